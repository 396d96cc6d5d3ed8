/- What an abstract heap says of the machine's memory; cutting it down to what is met, and putting a callee's back. Conditions: none. -/
import Derived.Test.YtnbmconaglehbaaAb2
import Derived.Below
namespace Go.Ab
set_option linter.unusedVariables false
set_option linter.unusedSimpArgs false
set_option linter.constructorNameAsVariable false
open Go

def Blk.flat : Blk → List AV
  | .cells cs => cs
  | .row sh xs => flatRow sh xs
  | .mix pre sh _ xs post => pre ++ flatRow sh xs ++ post
  | _ => []

/-- Blocks that are rows of cells (the others are not told yet). -/
def Blk.isCells : Blk → Bool
  | .map _ | .siter _ _ => false
  | _ => true

def Blk.fits (b : Blk) (ent : Ent) : Prop := match b with
  | .row sh xs => ent.n = xs.length ∧ ent.sz = sh.length
  | .mix _ _ n xs _ => xs.length = n
  | _ => True

def Blk.void : Blk → Prop
  | .row _ [] => True
  | _ => False

structure Lies (E : Env) (ent : Ent) (ro : Bool) (b : Blk) (r : Nat) (w : World) : Prop where
  ex : ∃ (cs : Array Value) (t : TypeId) (fz : Nat × Nat), w.heap[r]? = some (.cells cs t fz) ∧ cs.size = ent.size ∧ ent.off + b.flat.length ≤ cs.size ∧
    (∀ (j : Nat) (v : AV), b.flat[j]? = some v → ∃ x, cs[ent.off + j]? = some x ∧ VRel E v x) ∧
    (ro = false → fz = (0, 0))

structure BRel (E : Env) (ent : Ent) (hb : HB) (w : World) : Prop where
  cells : hb.blk.isCells = true
  fits : hb.blk.fits ent
  void : ent.r = none → hb.blk.void
  lies : ∀ r, ent.r = some r → Lies E ent hb.ro hb.blk r w

structure HRel (E : Env) (H : Heap) (w : World) : Prop where
  dom : ∀ id, H.next ≤ id → E id = none
  live : ∀ id hb, H.get id = some hb → ∃ ent, E id = some ent ∧ BRel E ent hb w
  fam : ∀ i j hi hj ei ej r, H.get i = some hi → H.get j = some hj → E i = some ei → E j = some ej → ei.r = some r → ej.r = some r → hi.fam = hj.fam
  full : ∀ id, id < H.next → ∃ ent, E id = some ent

/-- A block of the machine's that the abstract heap speaks of. -/
def Tr (E : Env) (H : Heap) (b : Nat) : Prop := ∃ id hb ent, H.get id = some hb ∧ E id = some ent ∧ ent.r = some b

structure Fr (E : Env) (H : Heap) (w : World) (E' : Env) (H' : Heap) (w' : World) : Prop where
  os : w'.os = w.os
  tape : w'.tape = w.tape
  output : w'.output = w.output
  size : w.heap.size ≤ w'.heap.size
  keep : ∀ b, b < w.heap.size → ¬ Tr E H b → w'.heap[b]? = w.heap[b]?
  new : ∀ b, Tr E' H' b → b < w.heap.size → Tr E H b

theorem Fr.refl (E : Env) (H : Heap) (w : World) : Fr E H w E H w := ⟨rfl, rfl, rfl, Nat.le_refl _, fun _ _ _ => rfl, fun _ h _ => h⟩

theorem Fr.trans {E E1 E2 : Env} {H H1 H2 : Heap} {w w1 w2 : World} (h : Fr E H w E1 H1 w1) (k : Fr E1 H1 w1 E2 H2 w2) : Fr E H w E2 H2 w2 :=
  ⟨k.os.trans h.os, k.tape.trans h.tape, k.output.trans h.output, Nat.le_trans h.size k.size,
    fun b hb ht => (k.keep b (Nat.lt_of_lt_of_le hb h.size) fun ht' => ht (h.new b ht' hb)).trans (h.keep b hb ht),
    fun b hb hlt => h.new b (k.new b hb (Nat.lt_of_lt_of_le hlt h.size)) hlt⟩

theorem Lies.lt {E : Env} {ent : Ent} {ro : Bool} {b : Blk} {r : Nat} {w : World} (h : Lies E ent ro b r w) : r < w.heap.size := by
  obtain ⟨cs, t, fz, h, _⟩ := h.ex
  exact (Array.getElem?_eq_some_iff.1 h).1

theorem Tr.lt {E : Env} {H : Heap} {w : World} {b : Nat} (h : Tr E H b) (k : HRel E H w) : b < w.heap.size := by
  obtain ⟨id, hb, ent, hg, he, hr⟩ := h
  obtain ⟨ent', he', hB⟩ := k.live id hb hg
  rw [he] at he'; cases he'
  exact (hB.lies b hr).lt

/-- The same blocks at another world, other names of the same. -/
theorem Lies.same {E E' : Env} {ent : Ent} {ro : Bool} {b b' : Blk} {r : Nat} {w w' : World} (h : Lies E ent ro b r w) (hw : w'.heap[r]? = w.heap[r]?)
    (hl : b'.flat.length = b.flat.length) (hv : ∀ (j : Nat) (v' : AV) (x : Value), b'.flat[j]? = some v' → (∀ v, b.flat[j]? = some v → VRel E v x) → VRel E' v' x) : Lies E' ent ro b' r w' := by
  obtain ⟨cs, t, fz, h1, h2, h3, h4, h5⟩ := h.ex
  refine ⟨cs, t, fz, hw.trans h1, h2, by rw [hl]; exact h3, fun j v' hj => ?_, h5⟩
  have hlt : j < b.flat.length := by rw [← hl]; exact (List.getElem?_eq_some_iff.1 hj).1
  obtain ⟨x, hx, hr⟩ := h4 j _ (List.getElem?_eq_getElem hlt)
  exact ⟨x, hx, hv j v' x hj fun v hv => by rw [List.getElem?_eq_getElem hlt] at hv; cases hv; exact hr⟩

/-! ### The heap's table -/

theorem beq_ne {i j : Nat} (h : i ≠ j) : Nat.beq i j = false := by
  cases h' : Nat.beq i j
  · rfl
  · exact absurd (Nat.eq_of_beq_eq_true h') h

theorem beq_self (i : Nat) : Nat.beq i i = true := Nat.beq_refl i

theorem look_put (H : Heap) (id : Nat) (h : HB) (j : Nat) : (H.put id h).get j = if id = j then some h else H.get j := by
  simp only [Heap.put, Heap.get, look]
  by_cases hj : id = j
  · subst hj; simp
  · have : Nat.beq id j = false := beq_ne hj
    rw [this, if_neg hj]; rfl

theorem look_cons (i : Nat) (h : Option HB) (r : List (Nat × Option HB)) (j : Nat) : look ((i, h) :: r) j = if i = j then h else look r j := by
  simp only [look]
  by_cases hj : i = j
  · subst hj; simp
  · have : Nat.beq i j = false := beq_ne hj
    rw [this, if_neg hj]; rfl

theorem look_append (l r : List (Nat × Option HB)) (j : Nat) : look (l ++ r) j = if (l.any fun p => p.1 == j) then look l j else look r j := by
  induction l with
  | nil => simp
  | cons p l ih =>
    obtain ⟨i, h⟩ := p
    rw [List.cons_append, look_cons, look_cons, ih]
    by_cases hj : i = j
    · subst hj; simp
    · have : (i == j) = false := by simpa using hj
      simp only [hj, List.any_cons, this, Bool.false_or, if_false]

theorem look_none_of_any {l : List (Nat × Option HB)} {j : Nat} (h : (l.any fun p => p.1 == j) = false) : look l j = none := by
  induction l with
  | nil => rfl
  | cons p l ih =>
    obtain ⟨i, h'⟩ := p
    simp only [List.any_cons, Bool.or_eq_false_iff, beq_eq_false_iff_ne] at h
    rw [look_cons, if_neg h.1, ih h.2]

theorem mem_of_look {l : List (Nat × Option HB)} {j : Nat} {h : HB} (hl : look l j = some h) : (j, some h) ∈ l := by
  induction l with
  | nil => cases hl
  | cons p l ih =>
    obtain ⟨i, h'⟩ := p
    rw [look_cons] at hl
    by_cases hj : i = j
    · subst hj; rw [if_pos rfl] at hl; subst hl; exact List.mem_cons_self
    · rw [if_neg hj] at hl; exact List.mem_cons_of_mem _ (ih hl)

theorem has_iff {l : List Nat} {x : Nat} : has l x = true ↔ x ∈ l := by
  induction l with
  | nil => simp [has]
  | cons y l ih =>
    simp only [has]
    by_cases h : y = x
    · subst h; simp
    · have : Nat.beq y x = false := beq_ne h
      rw [this]; simp [ih, Ne.symm h]

theorem getN_idx {l : List Nat} {x : Nat} (h : x ∈ l) : getN l (idx l x) = x ∧ idx l x < l.length := by
  induction l with
  | nil => cases h
  | cons y l ih =>
    simp only [idx]
    by_cases hy : y = x
    · subst hy; simp [getN]
    · have hb : Nat.beq y x = false := beq_ne hy
      rw [hb]
      have := ih (by rcases List.mem_cons.1 h with h | h; exact absurd h.symm hy; exact h)
      simp [getN, this.1, this.2]

/-! ### Cut down to what is met -/

def envOf (E : Env) (seen : List Nat) : Env := fun j => if j < seen.length then E (getN seen j) else none

theorem look_restrict (H : Heap) (seen : List Nat) : ∀ (l : List Nat) (n j : Nat), look (restrict H seen l n) j =
    if n ≤ j ∧ j < n + l.length then (match H.get (getN l (j - n)) with | some h => some ⟨firstOf H h.fam seen 0, h.ro, h.blk.ren (idx seen)⟩ | none => none) else none
  | [], n, j => by rw [restrict, look, if_neg (by simp)]
  | x :: l, n, j => by
    rw [restrict, look_cons]
    by_cases h : n = j
    · subst h
      rw [if_pos rfl, if_pos ⟨Nat.le_refl _, by simp⟩]
      simp only [Nat.sub_self, getN]
      cases H.get x <;> rfl
    · rw [if_neg h, look_restrict H seen l (n + 1) j]
      by_cases hj : n + 1 ≤ j ∧ j < n + 1 + l.length
      · rw [if_pos hj, if_pos (by simp only [List.length_cons]; omega)]
        obtain ⟨m, rfl⟩ : ∃ m, j = n + 1 + m := ⟨j - (n + 1), by omega⟩
        rw [show n + 1 + m - (n + 1) = m by omega, show n + 1 + m - n = m + 1 by omega]
        rfl
      · rw [if_neg hj, if_neg (by simp only [List.length_cons]; omega)]

theorem flat_ren (f : Nat → Nat) (b : Blk) : (b.ren f).flat = AV.renL f b.flat := by
  cases b with
  | cells cs => rfl
  | row sh xs => exact (flatRow_ren f sh xs).symm
  | mix pre sh n xs post => simp only [Blk.ren, Blk.flat, renL_append, flatRow_ren]
  | map _ => rfl
  | siter _ _ => rfl

theorem renL_get (f : Nat → Nat) : ∀ (l : List AV) (j : Nat), (AV.renL f l)[j]? = (l[j]?).map (AV.ren f)
  | [], j => by simp [AV.renL]
  | v :: l, 0 => by simp [AV.renL]
  | v :: l, j + 1 => by simpa [AV.renL] using renL_get f l j

theorem ids_mem {l : List AV} {j : Nat} {v : AV} (h : l[j]? = some v) {id : Nat} (hid : id ∈ v.ids) : id ∈ AV.idsL l := by
  induction l generalizing j with
  | nil => simp at h
  | cons u l ih =>
    cases j with
    | zero => simp at h; subst h; simp [AV.idsL, hid]
    | succ j => simp at h; simp [AV.idsL, ih h]

theorem flatRow_ids (sh : List SK) (xs : List (Tup sh)) : AV.idsL (flatRow sh xs) = [] := by
  induction xs with
  | nil => rfl
  | cons y ys ih => unfold flatRow at *; rw [List.flatMap_cons, idsL_append, Tup.all_ids, ih]; rfl

theorem flat_ids {b : Blk} (hc : b.isCells = true) : AV.idsL b.flat = b.ids := by
  cases b with
  | cells cs => rfl
  | row sh xs => exact flatRow_ids sh xs
  | mix pre sh n xs post => simp [Blk.flat, Blk.ids, idsL_append, flatRow_ids]
  | map _ => cases hc
  | siter _ _ => cases hc

theorem BRel.ren {E E' : Env} {ent : Ent} {hb : HB} {w w' : World} {f : Nat → Nat} (h : BRel E ent hb w) (fam : Nat) (hf : ∀ id ∈ hb.blk.ids, E' (f id) = E id)
    (hw : ∀ r, ent.r = some r → w'.heap[r]? = w.heap[r]?) : BRel E' ent ⟨fam, hb.ro, hb.blk.ren f⟩ w' := by
  have hids := flat_ids h.cells
  refine ⟨?_, ?_, ?_, fun r hr => ?_⟩
  · have := h.cells; cases hbk : hb.blk <;> simp_all [Blk.ren, Blk.isCells]
  · have := h.fits; cases hbk : hb.blk <;> simp_all [Blk.ren, Blk.fits]
  · intro hr; have := h.void hr; cases hbk : hb.blk <;> simp_all [Blk.ren, Blk.void]
  · refine (h.lies r hr).same (hw r hr) (by rw [flat_ren, renL_length]) fun j v' x hj hv => ?_
    rw [flat_ren, renL_get] at hj
    cases hfl : hb.blk.flat[j]? with
    | none => rw [hfl] at hj; cases hj
    | some v =>
      rw [hfl] at hj; cases hj
      exact (hv v hfl).ren fun id hid => hf id (by rw [← hids]; exact ids_mem hfl hid)

theorem seenOk_spec {pin : Nat} {vals : List AV} {H : Heap} {seen : List Nat} (h : seenOk pin vals H seen = true) :
    (∀ id ∈ AV.idsL vals, id ∈ seen) ∧ (∀ x ∈ seen, ∀ hb, H.get x = some hb → ∀ id ∈ hb.blk.ids, id ∈ seen) ∧ (∀ i, i < pin → getN seen i = i ∧ i < seen.length) ∧ (∀ x ∈ seen, x < H.next) := by
  simp only [seenOk, Bool.and_eq_true, List.all_eq_true] at h
  obtain ⟨⟨⟨h1, h2⟩, h3⟩, h5⟩ := h
  refine ⟨fun id hid => has_iff.1 (h1 id hid), fun x hx hb hg id hid => ?_, fun i hi => ?_, fun x hx => by simpa using h5 x hx⟩
  · have := h2 x hx id (by unfold idsAt; rw [hg]; exact hid)
    exact has_iff.1 this
  · have h4 := h3 i (List.mem_range.2 hi)
    exact ⟨Nat.eq_of_beq_eq_true h4.1, by simpa using h4.2⟩

theorem envOf_idx {E : Env} {seen : List Nat} {id : Nat} (h : id ∈ seen) : envOf E seen (idx seen id) = E id := by
  obtain ⟨h1, h2⟩ := getN_idx h
  simp [envOf, h1, h2]

theorem HRel.heapOf {E : Env} {H : Heap} {w : World} (h : HRel E H w) {pin : Nat} {vals : List AV} {seen : List Nat} (hs : seenOk pin vals H seen = true) :
    HRel (envOf E seen) (heapOf H seen) w ∧ (∀ b, Tr (envOf E seen) (heapOf H seen) b → Tr E H b) := by
  obtain ⟨h1, h2, h3, h4s⟩ := seenOk_spec hs
  have hget : ∀ j, (Ab.heapOf H seen).get j = if j < seen.length then (match H.get (getN seen j) with | some h => some ⟨firstOf H h.fam seen 0, h.ro, h.blk.ren (idx seen)⟩ | none => none) else none := by
    intro j
    show look (restrict H seen seen 0) j = _
    rw [look_restrict]; simp
  have hmem : ∀ {j}, j < seen.length → getN seen j ∈ seen := by
    intro j hj
    have key : ∀ (l : List Nat) (j : Nat), j < l.length → getN l j ∈ l := by
      intro l
      induction l with
      | nil => intro j hj; simp at hj
      | cons y l ih =>
        intro j hj
        cases j with
        | zero => simp [getN]
        | succ j => simp only [getN]; exact List.mem_cons_of_mem _ (ih j (by simpa using hj))
    exact key seen j hj
  have inv : ∀ j hb, (Ab.heapOf H seen).get j = some hb → j < seen.length ∧ ∃ g, H.get (getN seen j) = some g ∧ hb = ⟨firstOf H g.fam seen 0, g.ro, g.blk.ren (idx seen)⟩ := by
    intro j hb hj
    rw [hget] at hj
    by_cases hlt : j < seen.length
    · rw [if_pos hlt] at hj
      cases hg : H.get (getN seen j) with
      | none => rw [hg] at hj; cases hj
      | some g => rw [hg] at hj; cases hj; exact ⟨hlt, g, rfl, rfl⟩
    · rw [if_neg hlt] at hj; cases hj
  refine ⟨⟨fun id hid => by simp only [envOf]; rw [if_neg (by simpa [Ab.heapOf] using hid)], fun j hb hj => ?_, ?_, fun id hid => (by
    have hid' : id < seen.length := hid
    simp only [envOf, hid', if_true]
    exact h.full _ (h4s _ (hmem hid')))⟩, ?_⟩
  · obtain ⟨hlt, g, hg, rfl⟩ := inv j hb hj
    obtain ⟨ent, he, hB⟩ := h.live _ _ hg
    refine ⟨ent, by simp [envOf, hlt, he], hB.ren _ (fun id hid => envOf_idx (h2 _ (hmem hlt) g hg id hid)) fun _ _ => rfl⟩
  · intro i j hi hj ei ej r hgi hgj hei hej hri hrj
    obtain ⟨hli, gi, hgi', rfl⟩ := inv i hi hgi
    obtain ⟨hlj, gj, hgj', rfl⟩ := inv j hj hgj
    simp only [envOf, hli, hlj, if_true] at hei hej
    have := h.fam _ _ _ _ _ _ r hgi' hgj' hei hej hri hrj
    simp [this]
  · rintro b ⟨j, hb, ent, hg, he, hr⟩
    obtain ⟨hlt, g, hg', rfl⟩ := inv j hb hg
    simp only [envOf, hlt, if_true] at he
    exact ⟨_, g, ent, hg', he, hr⟩

/-- What a slot holds. -/
def TRel (E : Env) (T : Tmps) (a : Act) : Prop := ∀ t, VRel E (tget T t) (a.tmps.getD t undef)

theorem tget_cons (i : Nat) (v : AV) (T : Tmps) (t : Nat) : tget ((i, v) :: T) t = if i = t then v else tget T t := by
  simp only [tget]
  by_cases h : i = t
  · subst h; simp
  · have : Nat.beq i t = false := beq_ne h
    rw [this, if_neg h]; rfl

theorem tget_zip {f : Nat → Nat} : ∀ (live : List Nat) (T : Tmps) (t : Nat), tget (zipT live (AV.renL f (liveVals T live))) t = if t ∈ live then (tget T t).ren f else .junk
  | [], _, _ => by simp [liveVals, AV.renL, zipT, tget]
  | s :: live, T, t => by
    simp only [liveVals, AV.renL, zipT]
    rw [tget_cons, tget_zip live T t]
    by_cases h : s = t
    · subst h; simp
    · simp [h, Ne.symm h]

theorem liveVals_ids {T : Tmps} : ∀ {live : List Nat} {t id : Nat}, t ∈ live → id ∈ (tget T t).ids → id ∈ AV.idsL (liveVals T live)
  | [], _, _, h, _ => by cases h
  | s :: live, t, id, h, hid => by
    simp only [liveVals, AV.idsL, List.mem_append]
    rcases List.mem_cons.1 h with h | h
    · subst h; exact .inl hid
    · exact .inr (liveVals_ids h hid)

/-- The state of a frame. -/
structure St (E : Env) (nt : Nat) (T : Tmps) (H : Heap) (a : Act) (w : World) : Prop where
  t : TRel E T a
  h : HRel E H w
  d : a.defers = []
  n : a.tmps.size = nt

theorem normK_sound {R : Type} {pin : Nat} {live : List Nat} {T : Tmps} {H : Heap} {K : Tmps → Heap → Option R} {r : R} (h : normK pin live T H K = some r) :
    ∃ T' H', K T' H' = some r ∧ ∀ E nt a w, St E nt T H a w → ∃ E', St E' nt T' H' a w ∧ Fr E H w E' H' w ∧ ∀ i, i < pin → E' i = E i := by
  unfold normK at h
  generalize hse : seenOf pin (liveVals T live) H = seen at h
  cases hs : seenOk pin (liveVals T live) H seen with
  | false => simp [hs] at h
  | true =>
    simp only [hs, cond_true] at h
    refine ⟨_, _, h, fun E nt a w hst => ⟨envOf E seen, ?_, ?_, ?_⟩⟩
    · obtain ⟨h1, h2, h3, h4s⟩ := seenOk_spec hs
      refine ⟨fun t => ?_, (hst.h.heapOf hs).1, hst.d, hst.n⟩
      rw [tget_zip]
      split
      · rename_i ht
        exact (hst.t t).ren fun id hid => envOf_idx (h1 id (liveVals_ids ht hid))
      · exact .junk _
    · exact ⟨rfl, rfl, rfl, Nat.le_refl _, fun _ _ _ => rfl, fun b hb _ => (hst.h.heapOf hs).2 b hb⟩
    · intro i hi
      obtain ⟨h1, h2, h3, h4s⟩ := seenOk_spec hs
      obtain ⟨h4, h5⟩ := h3 i hi
      simp [envOf, h4, h5]
end Go.Ab
