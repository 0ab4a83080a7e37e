/-
 RV, part 24: laws whose contract wants that lists are within the form's reach.
-/
import Derived.SizedLaws
import Derived.Test.YtinaaabmmjpijaaDoorZTopGrowsQ
namespace Go.RV
open Go.RowKit Go.ChangeShapes Go.WideShapes
section
variable (P : Program)
def ctsN : Nat → TypeId → Option (List CT)
 | 0, _ => none
 | n + 1, t => match P.underlying t with
  | some (.int k) => some [.int k]
  | some .bool => some [.bool]
  | some .string => some [.str]
  | some (.slice e) => match ctsN n e with
   | some cts => if P.cellsOf e == cts.length && !(cts.length == 0) then some [.sl e cts] else none
   | none => none
  | some (.struct fs) => match ctsFs P (ctsN n) 0 fs.toList with
   | some cts => if P.cellsOf t == cts.length then some cts else none
   | none => none
  | _ => none
def parOkN (t : TypeId) (p : Bool × List CT) : Bool := (match ctsN P 8 t with | some cts => CT.beqs cts p.2 | none => false) && match P.underlying t, p.1 with
 | some (.struct _), true | some (.int _), false | some .bool, false | some .string, false | some (.slice _), false => true
 | _, _ => false
def parsOkN : List TypeId → List (Bool × List CT) → Bool
 | [], [] => true
 | t :: ts, p :: ps => parOkN P t p && parsOkN ts ps
 | _, _ => false
def rch : Nat → CT → D → Prop
 | 0, _, _ => True
 | n + 1, ct, d => match ct, d with
  | .sl e cts, .l xs => xs.length * P.bytesOf e ≤ reachBytes ∧ ∀ i, i < xs.length → ∀ j c, cts[j]? = some c → rch n c ((xs.getD i []).getD j default)
  | _, _ => True
def rchL (n : Nat) (cts : List CT) (ds : List D) : Prop := ∀ j c, cts[j]? = some c → rch P n c (ds.getD j default)
end
section
variable {P : Program} {H : Type} {enc : TypeId × Value → H} {w : World}
def fits0W (P : Program) (t : TypeId) (d : DataW H) : Prop := ∀ n ∈ d.weights P t, n ≤ reachBytes
def TR2 (P : Program) (enc : TypeId × Value → H) (w : World) (t : TypeId) (cts : List CT) (fuel : Nat) : Prop :=
 ∀ cs x, DataW.trod enc P w 0 (fun _ => true) true fuel t cs = some x → ∃ ds, RepL w (fun b => b < w.heap.size) cts cs ds ∧ (fits0W P t x.1 → ∀ n, rchL P n cts ds)
theorem repL_len2 {F : Nat → Prop} {cts : List CT} {vs : List Value} {ds : List D} (h : RepL w F cts vs ds) : ds.length = cts.length := (repL_length h).1
theorem rchL_append {n : Nat} {c1 c2 : List CT} {d1 d2 : List D} (hl : d1.length = c1.length) (h1 : rchL P n c1 d1) (h2 : rchL P n c2 d2) : rchL P n (c1 ++ c2) (d1 ++ d2) := fun j c hc => by
 by_cases hj : j < c1.length
 ·rw [List.getElem?_append_left hj] at hc
  have e : (d1 ++ d2).getD j default = d1.getD j default := by simp [List.getD, List.getElem?_append_left (by omega : j < d1.length)]
  rw [e]
  exact h1 j c hc
 ·rw [List.getElem?_append_right (by omega)] at hc
  have e : (d1 ++ d2).getD j default = d2.getD (j - c1.length) default := by simp [List.getD, List.getElem?_append_right (by omega : d1.length ≤ j), hl]
  rw [e]
  exact h2 _ c hc
theorem mem_all {e : TypeId} : ∀ {ds : List (DataW H)} {j : Nat} {d : DataW H}, ds[j]? = some d → (∀ n ∈ DataW.weightsAll P e ds, n ≤ reachBytes) → fits0W P e d
 | d0 :: ds, 0, d, hd, h => by
  simp only [List.getElem?_cons_zero, si0] at hd
  subst hd
  exact fun n hn => h n (by simp only [DataW.weightsAll, List.mem_append]; exact .inl hn)
 | d0 :: ds, j + 1, d, hd, h => mem_all (ds := ds) (by simpa using hd) fun n hn => h n (by simp only [DataW.weightsAll, List.mem_append]; exact .inr hn)
 | [], _, _, hd, _ => by simp at hd
theorem fs_rep2 {get : TypeId → Option (List CT)} {fuel : Nat} (ih : ∀ t cts, get t = some cts → TR2 P enc w t cts fuel) : ∀ {fs : List Field} {off : Nat} {cts : List CT} {cs : List Value} {xs : List (DataW H × List MemPlace)}, ctsFs P get off fs = some cts →
  (fs.mapM fun f => DataW.trod enc P w 0 (fun _ => true) true fuel f.type ((cs.drop f.offset).take (P.cellsOf f.type))) = some xs → ∃ ds, RepL w (fun b => b < w.heap.size) cts ((cs.drop off).take cts.length) ds ∧ ((∀ m ∈ DataW.weightsEach P (fs.map (·.type)) (xs.map (·.1)), m ≤ reachBytes) → ∀ n, rchL P n cts ds)
 | [], off, cts, cs, xs, h, _ => by
  simp only [ctsFs, si0] at h
  subst h
  exact ⟨[], by simp [RepL], fun _ _ j c hc => by simp at hc⟩
 | f :: fs, off, cts, cs, xs, h, hx => by
  unfold ctsFs at h
  split at h
  ·rename_i a ha
   split at h
   ·rename_i hc
    simp only [Bool.and_eq_true, beq_iff_eq] at hc
    obtain ⟨h1, h2⟩ := hc
    cases hr : ctsFs P get (off + a.length) fs with
    | none => rw [hr] at h; cases h
    | some rest =>
     rw [hr] at h
     simp only [Option.map_some, si0] at h
     subst h
     rw [List.mapM_cons] at hx
     cases hy : DataW.trod enc P w 0 (fun _ => true) true fuel f.type ((cs.drop f.offset).take (P.cellsOf f.type)) with
     | none => simp [hy] at hx
     | some y =>
      cases hl : fs.mapM fun f => DataW.trod enc P w 0 (fun _ => true) true fuel f.type ((cs.drop f.offset).take (P.cellsOf f.type)) with
      | none => simp [hy, hl] at hx
      | some ys =>
       simp [hy, hl] at hx
       subst hx
       obtain ⟨d1, r1, q1⟩ := ih _ _ ha _ _ hy
       obtain ⟨d2, r2, q2⟩ := fs_rep2 ih (cs := cs) hr hl
       rw [h1, h2] at r1
       refine ⟨d1 ++ d2, ?_, fun hw n => ?_⟩
       ·have e : (cs.drop off).take (a ++ rest).length = (cs.drop off).take a.length ++ (cs.drop (off + a.length)).take rest.length := by
         rw [List.length_append, List.take_add, List.drop_drop]
        rw [e]
        exact repL_append r1 r2
       ·simp only [List.map_cons, DataW.weightsEach, List.mem_append] at hw
        exact rchL_append (repL_len2 r1) (q1 (fun m hm => hw m (.inl hm)) n) (q2 (fun m hm => hw m (.inr hm)) n)
   ·cases h
  ·cases h
theorem trod_rep2 : ∀ (n : Nat) (t : TypeId) (cts : List CT) (fuel : Nat), ctsN P n t = some cts → TR2 P enc w t cts fuel
 | 0, _, _, _, h => by simp [ctsN] at h
 | n + 1, t, cts, fuel, h => by
  intro cs x hx
  cases fuel with
  | zero => simp [DataW.trod] at hx
  | succ fuel =>
  unfold ctsN at h
  split at h
  ·rename_i k hu
   simp only [si0] at h
   subst h
   unfold DataW.trod at hx
   rw [hu] at hx
   simp only at hx
   split at hx <;> rename_i heq <;> (try cases heq) <;> (try cases hx)
   rename_i k' m
   split at hx
   ·rename_i hc
    obtain ⟨rfl, hw⟩ := hc
    simp only [Lit.wf, Bool.and_eq_true, decide_eq_true_eq] at hw
    exact ⟨[.i m], ⟨Rep.int hw, trivial⟩, fun _ n j c hc => by
     cases j with
     | succ j => simp at hc
     | zero =>
      simp only [List.getElem?_cons_zero, si0] at hc
      subst hc
      cases n <;> trivial⟩
   ·cases hx
  ·rename_i hu
   simp only [si0] at h
   subst h
   unfold DataW.trod at hx
   rw [hu] at hx
   simp only at hx
   split at hx <;> rename_i heq <;> (try cases heq) <;> (try cases hx)
   rename_i b
   exact ⟨[.b b], ⟨Rep.bool, trivial⟩, fun _ n j c hc => by
     cases j with
     | succ j => simp at hc
     | zero =>
      simp only [List.getElem?_cons_zero, si0] at hc
      subst hc
      cases n <;> trivial⟩
  ·rename_i hu
   simp only [si0] at h
   subst h
   unfold DataW.trod at hx
   rw [hu] at hx
   simp only at hx
   split at hx <;> rename_i heq <;> (try cases heq) <;> (try cases hx)
   rename_i s
   split at hx
   ·rename_i hs
    exact ⟨[.s s], ⟨Rep.str hs, trivial⟩, fun _ n j c hc => by
     cases j with
     | succ j => simp at hc
     | zero =>
      simp only [List.getElem?_cons_zero, si0] at hc
      subst hc
      cases n <;> trivial⟩
   ·cases hx
  ·rename_i e hu
   split at h
   ·rename_i ects he
    split at h
    ·rename_i hc
     simp only [Bool.and_eq_true, beq_iff_eq, Bool.not_eq_true', beq_eq_false_iff_ne] at hc
     obtain ⟨hsz, hpos⟩ := hc
     simp only [si0] at h
     subst h
     have ih := trod_rep2 n e ects fuel he
     unfold DataW.trod at hx
     rw [hu] at hx
     simp only at hx
     split at hx <;> rename_i heq <;> (try cases heq) <;> (try cases hx)
     ·exact ⟨[.l []], ⟨Rep.nil, trivial⟩, fun _ n j c hc => by
      cases j with
      | succ j => simp at hc
      | zero =>
       simp only [List.getElem?_cons_zero, si0] at hc
       subst hc
       cases n with
       | zero => trivial
       | succ n => exact ⟨by simp, fun i hi => by simp at hi⟩⟩
     ·rename_i q len cap
      simp only [hsz] at hx
      split at hx
      ·rename_i hb
       obtain ⟨_, hlc, hcm⟩ := hb
       cases he1 : (List.range len).mapM (fun i => (w.cells? 0 (q.add (i * ects.length)) ects.length).bind (DataW.trod enc P w 0 (fun _ => true) true fuel e)) with
       | none => rw [he1] at hx; simp at hx
       | some elems =>
        rw [he1] at hx
        simp only [Option.bind_some, if_true] at hx
        cases he2 : (List.range (cap - len)).mapM (fun j => (w.cells? 0 (q.add ((len + j) * ects.length)) ects.length).bind (DataW.trod enc P w 0 (fun _ => true) true fuel e)) with
        | none => rw [he2] at hx; simp at hx
        | some rest =>
         rw [he2] at hx
         simp only [Option.map_some, si0] at hx
         obtain ⟨l1, g1⟩ := mapM_get he1
         obtain ⟨l2, g2⟩ := mapM_get he2
         have hcellsE : ∀ i, i < cap → ∃ cs, w.cells? 0 (q.add (i * ects.length)) ects.length = some cs ∧ ∃ y, DataW.trod enc P w 0 (fun _ => true) true fuel e cs = some y := by
          intro i hi
          have key : ∃ y, ((w.cells? 0 (q.add (i * ects.length)) ects.length).bind (DataW.trod enc P w 0 (fun _ => true) true fuel e)) = some y := by
           by_cases hil : i < len
           ·obtain ⟨y, _, hy⟩ := g1 i i (by rw [List.getElem?_range hil])
            exact ⟨y, hy⟩
           ·obtain ⟨y, _, hy⟩ := g2 (i - len) (i - len) (by rw [List.getElem?_range (by omega)])
            have : len + (i - len) = i := by omega
            rw [this] at hy
            exact ⟨y, hy⟩
          obtain ⟨y, hy⟩ := key
          cases hcs : w.cells? 0 (q.add (i * ects.length)) ects.length with
          | none => rw [hcs] at hy; cases hy
          | some cs => rw [hcs] at hy; exact ⟨cs, rfl, y, hy⟩
         have hcell : ∀ i cs, w.cells? 0 (q.add (i * ects.length)) ects.length = some cs → cs.length = ects.length ∧ ∀ j, j < ects.length → ∃ v, cs[j]? = some v ∧ w.cell? ((q.add (i * ects.length)).add j) = some v := by
          intro i cs hcs
          unfold World.cells? at hcs
          rw [if_pos (Nat.zero_le _)] at hcs
          obtain ⟨l3, g3⟩ := mapM_get hcs
          refine ⟨by simpa using l3, fun j hj => ?_⟩
          obtain ⟨y, h1, h2⟩ := g3 j j (by simp [hj])
          exact ⟨y, h1, h2⟩
         by_cases hcap0 : cap = 0
         ·have hlen0 : len = 0 := by omega
          subst hcap0 hlen0
          exact ⟨[.l []], ⟨Rep.nil, trivial⟩, fun _ n j c hc => by
      cases j with
      | succ j => simp at hc
      | zero =>
       simp only [List.getElem?_cons_zero, si0] at hc
       subst hc
       cases n with
       | zero => trivial
       | succ n => exact ⟨by simp, fun i hi => by simp at hi⟩⟩
         ·obtain ⟨b, o, spot⟩ := q
          have hspot : spot = none := by
           obtain ⟨cs, h1, _⟩ := hcellsE 0 (by omega)
           obtain ⟨_, h2⟩ := hcell 0 cs h1
           obtain ⟨v, _, h3⟩ := h2 0 (by omega)
           simp only [Nat.zero_mul, Addr.add, if_true] at h3
           unfold World.cell? at h3
           split at h3
           ·split at h3
            ·cases h3
            ·rename_i hn
             simpa using hn
           ·cases h3
          subst hspot
          have hat : ∀ i j, i < cap → j < ects.length → ∃ cs v, w.cells? 0 ((⟨b, o, none⟩ : Addr).add (i * ects.length)) ects.length = some cs ∧ cs[j]? = some v ∧ w.cell? ⟨b, o + i * ects.length + j, none⟩ = some v := by
           intro i j hi hj
           obtain ⟨cs, h1, _⟩ := hcellsE i hi
           obtain ⟨_, h2⟩ := hcell i cs h1
           obtain ⟨v, h3, h4⟩ := h2 j hj
           rw [addr_add, addr_add] at h4
           exact ⟨cs, v, h1, h3, h4⟩
          obtain ⟨cur, ty, fz, hheap⟩ : ∃ cur ty fz, w.heap[b]? = some (.cells cur ty fz) := by
           obtain ⟨cs, v, _, _, h3⟩ := hat 0 0 (by omega) (by omega)
           unfold World.cell? at h3
           split at h3
           ·rename_i hh; exact ⟨_, _, _, hh⟩
           ·cases h3
          have hb : b < w.heap.size := (Array.getElem?_eq_some_iff.1 hheap).1
          have hcurat : ∀ i j, i < cap → j < ects.length → ∃ cs v, w.cells? 0 ((⟨b, o, none⟩ : Addr).add (i * ects.length)) ects.length = some cs ∧ cs[j]? = some v ∧ cur[o + i * ects.length + j]? = some v := by
           intro i j hi hj
           obtain ⟨cs, v, h1, h2, h3⟩ := hat i j hi hj
           rw [cell_at hheap] at h3
           exact ⟨cs, v, h1, h2, h3⟩
          have hdata : ∀ i, ∃ ds : List D, i < len → ∀ cs, w.cells? 0 ((⟨b, o, none⟩ : Addr).add (i * ects.length)) ects.length = some cs → RepL w (fun b => b < w.heap.size) ects cs ds ∧ (fits0W P t x.1 → ∀ n, rchL P n ects ds) := by
           intro i
           by_cases hi : i < len
           ·obtain ⟨cs, h1, y, h2⟩ := hcellsE i (by omega)
            obtain ⟨ds, h3, h3'⟩ := ih cs y h2
            refine ⟨ds, fun _ cs' h4 => ?_⟩
            rw [h1] at h4
            simp only [si0] at h4
            subst h4
            refine ⟨h3, fun hw => h3' ?_⟩
            obtain ⟨y', hy1, hy2⟩ := g1 i i (by rw [List.getElem?_range hi])
            rw [h1, Option.bind_some, h2] at hy2
            simp only [si0] at hy2
            subst hy2
            rw [← hx] at hw
            refine mem_all (ds := elems.map (·.1)) (j := i) (by rw [List.getElem?_map, hy1]; rfl) fun m hm => hw m ?_
            simp only [DataW.weights, hu, List.mem_cons, List.mem_append]
            exact .inr (.inl hm)
           ·exact ⟨[], fun h => absurd h hi⟩
          let dat : Nat → List D := fun i => Classical.choose (hdata i)
          have hdat0 := fun i => Classical.choose_spec (hdata i)
          have hdat : ∀ i, i < len → ∀ cs, w.cells? 0 ((⟨b, o, none⟩ : Addr).add (i * ects.length)) ects.length = some cs → RepL w (fun b => b < w.heap.size) ects cs (dat i) := fun i hi cs h => (hdat0 i hi cs h).1
          have hgetd : ∀ i, i < len → ((List.range len).map dat).getD i [] = dat i := by
           intro i hi
           simp [List.getD, hi]
          refine ⟨[.l ((List.range len).map dat)], ⟨Rep.sl hb hheap hlc hcm ?_ (by simp) (fun i hi => ?_) (fun i j ct hi hj => ?_), trivial⟩, fun hw n j c hc => ?_⟩
          ·obtain ⟨cs, v, _, _, h3⟩ := hcurat (cap - 1) (ects.length - 1) (by omega) (by omega)
           have h4 := (Array.getElem?_eq_some_iff.1 h3).1
           have h5 : (cap - 1) * ects.length + ects.length = cap * ects.length := by
            have : cap = (cap - 1) + 1 := by omega
            rw [this, Nat.add_mul, Nat.one_mul]
            simp
           omega
          ·rw [hgetd i hi]
           obtain ⟨cs, h1, _⟩ := hcellsE i (by omega)
           exact (repL_length (hdat i hi cs h1)).1
          ·rw [hgetd i hi]
           have hjl : j < ects.length := (List.getElem?_eq_some_iff.1 hj).1
           obtain ⟨cs, v, h1, h2, h3⟩ := hcurat i j (by omega) hjl
           have h4 := repL_get (hdat i hi cs h1) j ct hj
           have e1 : cs.getD j undef = v := by simp [List.getD, h2]
           have e2 : cur.getD (o + i * ects.length + j) undef = v := by rw [Array.getD_eq_getD_getElem?, h3]; rfl
           rw [e1] at h4
           rw [e2]
           exact h4
          ·cases j with
           | succ j => simp at hc
           | zero =>
            simp only [List.getElem?_cons_zero, si0] at hc
            subst hc
            cases n with
            | zero => trivial
            | succ n =>
            refine ⟨?_, fun i hi j c hc => ?_⟩
            ·have hm := hw ((elems.length + rest.length) * P.bytesOf e) (by rw [← hx]; simp [DataW.weights, hu])
             have : len * P.bytesOf e ≤ (elems.length + rest.length) * P.bytesOf e := Nat.mul_le_mul_right _ (by rw [l1]; simp)
             simp only [lm0, List.length_range]
             omega
            ·have hi' : i < len := by simpa using hi
             rw [hgetd i hi']
             obtain ⟨cs, h1, _⟩ := hcellsE i (by omega)
             exact (hdat0 i hi' cs h1).2 hw n j c hc
      ·cases hx
    ·cases h
   ·cases h
  ·rename_i fs hu
   split at h
   ·rename_i fcts hf
    split at h
    ·rename_i hc
     simp only [beq_iff_eq] at hc
     simp only [si0] at h
     subst h
     unfold DataW.trod at hx
     rw [hu] at hx
     simp only at hx
     split at hx
     ·rename_i hlen
      cases hm : fs.toList.mapM (fun f => DataW.trod enc P w 0 (fun _ => true) true fuel f.type ((cs.drop f.offset).take (P.cellsOf f.type))) with
      | none => rw [hm] at hx; cases hx
      | some xs =>
       rw [hm] at hx
       simp only [Option.map_some, si0] at hx
       obtain ⟨ds, hr, hq⟩ := fs_rep2 (fun t cts h => trod_rep2 n t cts fuel h) hf hm
       rw [hc] at hlen
       rw [List.drop_zero, List.take_of_length_le (by omega)] at hr
       exact ⟨ds, hr, fun hw => hq fun m hm' => hw m (by rw [← hx]; simp only [DataW.weights, hu]; exact hm')⟩
     ·cases hx
    ·cases h
   ·cases h
  ·cases h
theorem args_rep2 : ∀ {ts : List TypeId} {ps : List (Bool × List CT)} {vs : List Value} {ds : List (DataW H)} {q : List MemPlace} {base : Nat}, parsOkN P ts ps = true → DataW.TrodAll enc P w 0 (fun _ => true) true ts vs ds q →
  (∀ (j : Nat) t v, ts[j]? = some t → vs[j]? = some v → Value.okWide P w .any base t v) → ∃ xs, ArgsRep w (fun b => b < w.heap.size) ps vs xs ∧ ((∀ n ∈ DataW.weightsEach P ts ds, n ≤ reachBytes) → ∀ n, rchL P n (flatCts ps) xs)
 | [], [], vs, ds, q, base, _, h, _ => by
  obtain ⟨rfl, _, _⟩ := trodAll_nil h
  exact ⟨[], rfl, fun _ _ j c hc => by simp [flatCts] at hc⟩
 | t :: ts, p :: ps, vs, ds, q, base, hp, h, hv => by
  obtain ⟨v, vs1, d, ds1, a, b, rfl, rfl, rfl, h1, h2⟩ := trodAll_cons h
  simp only [parsOkN, Bool.and_eq_true] at hp
  obtain ⟨xs2, r2, q2⟩ := args_rep2 hp.2 h2 fun j t v ht hv' => hv (j + 1) t v (by simpa using ht) (by simpa using hv')
  have hp1 := hp.1
  simp only [parOkN, Bool.and_eq_true] at hp1
  obtain ⟨hc, ha⟩ := hp1
  split at hc
  ·rename_i cts hcts
   have := CT.beqs_eq _ _ hc
   subst this
   obtain ⟨fuel, hf⟩ := h1
   obtain ⟨xs1, r1, q1⟩ := trod_rep2 8 t p.2 fuel hcts _ _ hf
   refine ⟨xs1 ++ xs2, ⟨xs1, xs2, rfl, ?_, r2⟩, fun hw n => by
    simp only [DataW.weightsEach, List.mem_append] at hw
    exact rchL_append (c1 := p.2) (repL_len2 r1) (q1 (fun m hm => hw m (.inl hm)) n) (q2 (fun m hm => hw m (.inr hm)) n)⟩
   have hok := hv 0 t v rfl rfl
   obtain ⟨ag, cts⟩ := p
   simp only at ha r1 ⊢
   have one : (∃ x, v = x ∧ v.cells = #[x]) → ag = false → ShRep w (fun b => b < w.heap.size) (ag, cts) v xs1 := by
    intro ⟨x, hx, hx'⟩ hag
    subst hag
    subst hx
    refine ⟨[v], by simp, ?_⟩
    rw [hx'] at r1
    exact r1
   have many : (∃ cs, v = .agg cs) → ag = true → ShRep w (fun b => b < w.heap.size) (ag, cts) v xs1 := by
    intro ⟨cs, hx⟩ hag
    subst hag
    subst hx
    exact ⟨cs.toList, by simp, r1⟩
   split at ha
   ·rename_i fs hu
    obtain ⟨cs, h3, _⟩ := okWide_struct hu hok
    exact many ⟨cs, h3⟩ rfl
   ·rename_i k hu
    obtain ⟨m, rfl⟩ := okWide_int hu hok
    exact one ⟨_, rfl, rfl⟩ rfl
   ·rename_i hu
    obtain ⟨m, rfl⟩ := okWide_bool hu hok
    exact one ⟨_, rfl, rfl⟩ rfl
   ·rename_i hu
    obtain ⟨m, rfl⟩ := okWide_string hu hok
    exact one ⟨_, rfl, rfl⟩ rfl
   ·rename_i e hu
    obtain ⟨a, l, c, rfl⟩ := okWide_slice hu hok
    exact one ⟨_, rfl, rfl⟩ rfl
   ·cases ha
  ·cases hc
 | [], _ :: _, vs, ds, q, base, hp, _, _ => by simp [parsOkN] at hp
 | _ :: _, [], vs, ds, q, base, hp, _, _ => by simp [parsOkN] at hp
theorem mem_front {us : List TypeId} {gs : List (DataW H)} {n : Nat} : ∀ {ts : List TypeId} {ds : List (DataW H)}, n ∈ DataW.weightsEach P ts ds → n ∈ DataW.weightsEach P (ts ++ us) (ds ++ gs)
 | t :: ts, d :: ds, h => by
  simp only [DataW.weightsEach, List.cons_append, List.mem_append] at h ⊢
  rcases h with h | h
  ·exact .inl h
  ·exact .inr (mem_front h)
 | [], _, h => by simp [DataW.weightsEach] at h
 | _ :: _, [], h => by simp [DataW.weightsEach] at h
theorem law_post2 {f : FuncId} {fn : Func} {S : Sig} {s : ChangeSpec} {pre : List D → Prop} (hM : Meets P f S pre (fun _ => [.b true])) (hrs : S.rs = [(false, [.bool])]) (hps : parsOkN P fn.params.toList S.ps = true) (hpre : ∀ ds, Fits S.ps ds → rchL P 8 (flatCts S.ps) ds → pre ds) {t : TypeId} (hres : fn.resultTypes = #[t]) (ht : P.underlying t = some .bool)
  (hvars : s.vars = []) (hl : laidOutB P = true) (hr : fn.params.toList.all (fun t => P.readableRec t && decide (t < P.types.size)) = true)
  (hs : ∀ (ds : List (DataW H)), ds.length = fn.params.toList.length → s.fn H ds = { results := [.lit (.bool true)], args := ds }) {apart : Bool} {W : World} {base : Nat} {args : Array Value} {ds gs : List (DataW H)} {before : List MemPlace}
  (hval : ∀ (j : Nat) t v, fn.params[j]? = some t → args[j]? = some v → Value.okWide P W .any base t v) (hW : DataW.Whole enc P fn.params.toList s.vars apart W args.toList ds gs before) {us : List TypeId} (hsz : (DataW.weightsEach P (fn.params.toList ++ us) (ds ++ gs)).all (· ≤ reachBytes) = true) (hflt : f < 20000 := by decide) (hT : TabIn W fun b => b < W.heap.size := by intro e h; cases h) :
  Calls P f args W fun e W' => ∃ v, e = .returned v ∧ s.post enc P fn apart true false false W args v W' := by
 have hW' := hW
 have hsz' := hsz
 obtain ⟨p, q, hA, hV, rfl, _, _⟩ := hW
 rw [hvars] at hV
 obtain ⟨rfl, rfl⟩ := trodVars_none hV
 obtain ⟨xs, hx, hr8⟩ := args_rep2 (base := base) hps hA fun j t v h1 h2 => hval j t v (by simpa using h1) (by simpa using h2)
 have hcall := (hM.fn hflt).2 W (fun b => b < W.heap.size) args.toList xs (fun _ hb => hb) hT hx (hpre xs (args_fits hx) (hr8 (fun n hn => by simpa using List.all_eq_true.1 hsz' n (mem_front hn)) 8))
 have hargs : args.toList.toArray = args := by simp
 rw [hargs] at hcall
 refine hcall.mono fun e W' ⟨v, F', us0, he, hrep, _, _, _, hB⟩ => ⟨v, he, ?_⟩
 rw [hrs] at hrep
 obtain ⟨us, hus, hrl⟩ := hrep
 simp only [fe0, if_false] at hus
 subst hus
 obtain ⟨hv, _⟩ := rep_bool hrl.1
 simp only [D.bool_b] at hv
 subst hv
 have hdl : ds.length = fn.params.toList.length := by
  have : ∀ {ts : List TypeId} {vs : List Value} {ds : List (DataW H)} {q : List MemPlace}, DataW.TrodAll enc P W 0 (fun _ => true) true ts vs ds q → ds.length = ts.length := by
   intro ts
   induction ts with
   | nil => intro vs ds q h; obtain ⟨_, rfl, _⟩ := trodAll_nil h; rfl
   | cons t ts ih =>
    intro vs ds q h
    obtain ⟨v, vs1, d, ds1, a, b, _, rfl, _, _, h2⟩ := trodAll_cons h
    simp [ih h2]
  exact this hA
 have hlt : ∀ x ∈ p, x.block < W.heap.size := fun x hx => by simpa using hW'.lt x (by simpa using hx)
 have hst := trodAll_stays (sp := fun b => decide (b < W.heap.size)) hl hB hr hA hlt fun x hx => by simpa using hlt x hx
 refine ⟨ds, [], _, [], p, [], hW', ?_, ?_, ?_, hB.frame _, fun h => by cases h⟩
 ·rw [List.append_nil, hs ds hdl, hres]
  exact trodAll_mk1 (shut_bool ht _)
 ·rw [List.append_nil, hs ds hdl]
  exact hst
 ·rw [List.append_nil, hs ds hdl, hvars]
  rfl
end
end Go.RV
