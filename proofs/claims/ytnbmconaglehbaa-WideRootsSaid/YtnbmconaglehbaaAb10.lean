/- Rows that are made, appended to, turned into texts and back. Conditions: none. -/
import Derived.Test.YtnbmconaglehbaaAb9
namespace Go.Ab
set_option linter.unusedVariables false
set_option linter.unusedSimpArgs false
open Go

section
variable {P : Program} {Ty : Types} {R : Type}

/-! ### What a slice shows -/

structure Shows (E : Env) (P : Program) (sh : List SK) (ys : List (Tup sh)) (xv : Value) (w : World) : Prop where
  len : (Builtin.lenOf xv).run P w = .ok ys.length w
  cells : ∃ arr : Array Value, (Builtin.firstCells sh.length ys.length xv).run P w = .ok arr w ∧ VRelL E (flatRow sh ys) arr.toList
  kind : xv = .slice none 0 0 ∨ (∃ r o n cap, xv = .slice (some ⟨r, o, none⟩) n cap) ∨ (∃ s, xv = .string s) ∨ ∃ b cap, xv = .slice b 0 cap

theorem strInts_rel (E : Env) (s : ByteArray) : VRelL E (flatRow [.i .u8] (strInts s)) (s.data.map fun b => Value.int .u8 b.toNat).toList := by
  unfold strInts
  rw [Array.toList_map]
  generalize s.data.toList = l
  induction l with
  | nil => exact .nil
  | cons b l ih => exact .cons (.i _ _) ih

theorem uns_flat (sh : List SK) : ∀ (n : Nat) (cs : List AV) (ys : List (Tup sh)), Tup.uns sh n cs = some ys → flatRow sh ys = cs
  | _, [], ys, h => by
    unfold Tup.uns at h
    cases h; rfl
  | 0, c :: cs, ys, h => by simp [Tup.uns] at h
  | n + 1, c :: cs, ys, h => by
    simp only [Tup.uns] at h
    cases h1 : Tup.un sh ((c :: cs).take sh.length) with
    | none => rw [h1] at h; cases h
    | some x =>
      rw [h1, Option.bind_some] at h
      cases h2 : Tup.uns sh n ((c :: cs).drop sh.length) with
      | none => rw [h2] at h; cases h
      | some r =>
        rw [h2, Option.bind_some] at h; cases h
        have := uns_flat sh n _ _ h2
        unfold flatRow at *
        rw [List.flatMap_cons, this, Tup.un_all h1, List.take_append_drop]

theorem seg_flatRow (sh : List SK) (xs : List (Tup sh)) (e n : Nat) : seg (flatRow sh xs) (e * sh.length) (n * sh.length) = flatRow sh ((xs.drop e).take n) := by
  have h1 : ∀ (e : Nat) (xs : List (Tup sh)), (flatRow sh xs).drop (e * sh.length) = flatRow sh (xs.drop e) := by
    intro e
    induction e with
    | zero => intro xs; simp
    | succ e ih =>
      intro xs
      cases xs with
      | nil => simp [flatRow]
      | cons x xs =>
        have : flatRow sh (x :: xs) = Tup.all sh x ++ flatRow sh xs := by simp [flatRow]
        rw [this, List.drop_succ_cons, Nat.succ_mul, Nat.add_comm, ← List.drop_drop, ← Tup.all_length sh x, List.drop_left, Tup.all_length, ih]
  have h2 : ∀ (n : Nat) (xs : List (Tup sh)), (flatRow sh xs).take (n * sh.length) = flatRow sh (xs.take n) := by
    intro n
    induction n with
    | zero => intro xs; simp [flatRow]
    | succ n ih =>
      intro xs
      cases xs with
      | nil => simp [flatRow]
      | cons x xs =>
        have h3 : ∀ ys : List (Tup sh), flatRow sh (x :: ys) = Tup.all sh x ++ flatRow sh ys := fun ys => by simp [flatRow]
        rw [h3, List.take_succ_cons, h3, Nat.succ_mul, Nat.add_comm, List.take_append, Tup.all_length, Nat.add_sub_cancel_left, ih, List.take_of_length_le (by rw [Tup.all_length]; omega)]
  unfold seg
  rw [h1, h2]

theorem run_first_some {r o n cap m size : Nat} {lst : List Value} {w : World} (hl : lst.length = m * size) (h : ∀ j v, lst[j]? = some v → w.cell? ⟨r, o + j, none⟩ = some v) :
    (Builtin.firstCells size m (.slice (some ⟨r, o, none⟩) n cap)).run P w = .ok lst.toArray w := by
  have := run_loadCells_list (P := P) w ⟨r, o, none⟩ lst (fun j v hj => by rw [addr_add]; exact h j v hj)
  rw [hl] at this
  simpa [Builtin.firstCells] using this

theorem run_first_none {b : Option Addr} {cap size : Nat} {w : World} : (Builtin.firstCells size 0 (.slice b 0 cap)).run P w = .ok #[] w := by
  cases b <;> simp [Builtin.firstCells, loadCells, loadCellsFrom]

theorem flatRow_nil (sh : List SK) : flatRow sh [] = [] := rfl

theorem shows_lies {E : Env} {ent : Ent} {ro : Bool} {b : Blk} {r : Nat} {w : World} (hL : Lies E ent ro b r w) {sh : List SK} {ys : List (Tup sh)} {f cap : Nat}
    (hseg : seg b.flat f (ys.length * sh.length) = flatRow sh ys) (hle : f + ys.length * sh.length ≤ b.flat.length) :
    Shows E P sh ys (.slice (some ⟨r, ent.off + f, none⟩) ys.length cap) w := by
  obtain ⟨lst, hll, hrel, hc⟩ := hL.at hle
  refine ⟨by simp [Builtin.lenOf], ⟨_, run_first_some (P := P) (size := sh.length) (m := ys.length) (n := ys.length) (cap := cap) hll hc, ?_⟩, .inr (.inl ⟨_, _, _, _, rfl⟩)⟩
  rw [← hseg]; exact hrel

theorem shownK_sound {H : Heap} {sh : List SK} {x : AV} {K : List (Tup sh) → Option R} {r : R} (h : shownK H sh x K = some r) :
    ∃ ys, K ys = some r ∧ ∀ E xv w, VRel E x xv → HRel E H w → Shows E P sh ys xv w := by
  unfold shownK at h
  split at h
  · refine ⟨[], h, fun E xv w hx hH => ?_⟩
    cases hx
    exact ⟨rfl, ⟨#[], run_first_none, .nil⟩, .inl rfl⟩
  · rename_i id
    split at h
    · rename_i fam ro sh' xs hg
      split at h
      · rename_i hsh; subst hsh
        refine ⟨xs, h, fun E xv w hx hH => ?_⟩
        obtain ⟨ent, he, hB⟩ := hH.live _ _ hg
        obtain ⟨hn, hsz⟩ := hB.fits
        cases hx with
        | sw h' hr hcap hc =>
          rw [he] at h'; cases h'
          rw [hn]
          have hfl : (Blk.row sh' xs).flat.length = xs.length * sh'.length := flatRow_length sh' xs
          rename_i cap
          have := shows_lies (P := P) (cap := cap) (hB.lies _ hr) (ys := xs) (f := 0) (by
            unfold seg; rw [List.drop_zero]; show (flatRow sh' xs).take _ = _; rw [← flatRow_length, List.take_length]) (by rw [hfl]; omega)
          simpa using this
        | sw0 h' hn0 =>
          rw [he] at h'; cases h'
          have : xs = [] := List.length_eq_zero_iff.1 (by omega)
          subst this
          exact ⟨rfl, ⟨#[], run_first_none, .nil⟩, .inl rfl⟩
      · cases h
    · cases h
  · rename_i id base e sz n
    split at h
    · rename_i fam ro sh' xs hg
      split at h
      · rename_i hsh; subst hsh
        obtain ⟨hc, h2⟩ := cond_some h
        obtain ⟨hle, h3⟩ := cond_some h2
        clear h h2
        rw [Bool.and_eq_true] at hc
        have hb := beq_eq hc.1; have hs := beq_eq hc.2; subst hb; subst hs
        have hle := of_decide_eq_true hle
        refine ⟨_, h3, fun E xv w hx hH => ?_⟩
        have hlen : ((xs.drop e).take n).length = n := by simp; omega
        obtain ⟨ent, he, hB⟩ := hH.live _ _ hg
        cases hx with
        | sl h' hr hn =>
          rw [he] at h'; cases h'
          have hfl : (Blk.row sh' xs).flat.length = xs.length * sh'.length := flatRow_length sh' xs
          rename_i cap
          have := shows_lies (P := P) (cap := cap) (hB.lies _ hr) (ys := (xs.drop e).take n) (f := e * sh'.length) (by rw [hlen]; exact seg_flatRow sh' xs e n) (by
            rw [hfl, hlen, ← Nat.add_mul]; exact Nat.mul_le_mul_right _ hle)
          rw [hlen] at this
          simpa using this
        | sl0 hn =>
          subst hn
          simp only [List.take_zero]
          exact ⟨rfl, ⟨#[], run_first_none, .nil⟩, .inr (.inr (.inr ⟨_, _, rfl⟩))⟩
      · cases h
    · rename_i fam ro cs hg
      obtain ⟨hc, h⟩ := cond_some h
      rw [Bool.and_eq_true] at hc
      have hs := beq_eq hc.1; subst hs
      have hle : base + e * sh.length + n * sh.length ≤ cs.length := by simpa using hc.2
      split at h
      · rename_i ys hys
        obtain ⟨hl, h3⟩ := cond_some h
        clear h
        have hl := beq_eq hl; subst hl
        refine ⟨ys, h3, fun E xv w hx hH => ?_⟩
        obtain ⟨ent, he, hB⟩ := hH.live _ _ hg
        have hfl := uns_flat sh _ _ _ hys
        cases hx with
        | sl h' hr hn =>
          rw [he] at h'; cases h'
          exact shows_lies (P := P) (hB.lies _ hr) (f := base + e * sh.length) hfl.symm hle
        | sl0 hn =>
          have : ys = [] := List.length_eq_zero_iff.1 hn
          subst this
          exact ⟨rfl, ⟨#[], run_first_none, .nil⟩, .inr (.inr (.inr ⟨_, _, rfl⟩))⟩
      · cases h
    · cases h
  · rename_i s
    split at h
    · rename_i hsh; subst hsh
      refine ⟨_, h, fun E xv w hx hH => ?_⟩
      cases hx
      have hlen : (strInts s).length = s.size := by unfold strInts; rw [List.length_map, Array.length_toList]; rfl
      refine ⟨?_, ⟨(s.data.map fun b => Value.int .u8 b.toNat), ?_, strInts_rel E s⟩, .inr (.inr (.inl ⟨s, rfl⟩))⟩
      · simp only [hlen]; rfl
      · have : s.extract 0 s.size = s := ByteArray.extract_zero_size
        simp only [hlen]
        simp [Builtin.firstCells, this]
    · cases h
  · cases h

/-! ### make -/

theorem wrap_id {x : Int} (h0 : 0 ≤ x) (h1 : x < 9223372036854775808) : IntKind.i64.wrap x = x := by
  unfold IntKind.wrap
  simp only [IntKind.bits, IntKind.signed]
  have e1 : (2 ^ 64 : Int) = 18446744073709551616 := by decide
  have e2 : (2 ^ (64 - 1) : Int) = 9223372036854775808 := by decide
  simp only [e1, e2]
  have : x % 18446744073709551616 = x := Int.emod_eq_of_lt h0 (by omega)
  rw [this]
  simp; omega

theorem replicate_get (sh : List SK) (z : Tup sh) : ∀ (n j : Nat), j < n * sh.length → (flatRow sh (List.replicate n z))[j]? = (Tup.all sh z)[j % sh.length]?
  | 0, j, h => by simp at h
  | n + 1, j, h => by
    have h1 : flatRow sh (List.replicate (n + 1) z) = Tup.all sh z ++ flatRow sh (List.replicate n z) := by simp [List.replicate_succ, flatRow]
    rw [h1]
    have hl := Tup.all_length sh z
    by_cases hj : j < sh.length
    · rw [List.getElem?_append_left (by omega), Nat.mod_eq_of_lt hj]
    · have h3 : j - sh.length < n * sh.length := by
        have := Nat.add_mul n 1 sh.length
        rw [this] at h; omega
      have h4 : j % sh.length = (j - sh.length) % sh.length := Nat.mod_eq_sub_mod (by omega)
      rw [List.getElem?_append_right (by omega), hl, replicate_get sh z n _ h3, h4]

/-- A new row of at least what is shown. -/
theorem row_new {E : Env} {H : Heap} {w : World} (hH : HRel E H w) {sh : List SK} {xs : List (Tup sh)} {cs : Array Value} {t : TypeId} {fz : Nat × Nat} {ro : Bool} {cap : Nat}
    (hcap : xs.length ≤ cap) (hsz : cs.size = cap * sh.length) (hro : ro = false → fz = (0, 0)) (hv : ∀ (j : Nat) (v : AV), (flatRow sh xs)[j]? = some v → ∃ x, cs[j]? = some x ∧ VRel E v x) :
    ∃ E', VRel E' (.sw H.next) (.slice (some ⟨w.heap.size, 0, none⟩) xs.length cap) ∧ HRel E' ⟨H.next + 1, (H.next, some ⟨H.next, ro, .row sh xs⟩) :: H.bs⟩ (w.alloc (.cells cs t fz)) ∧
      Ext E E' ∧ Fr E H w E' ⟨H.next + 1, (H.next, some ⟨H.next, ro, .row sh xs⟩) :: H.bs⟩ (w.alloc (.cells cs t fz)) := by
  obtain ⟨k1, k2, k3⟩ := HRel.add (t := t) (fz := fz) (ro := ro) (fam := H.next) hH (blk := .row sh xs) (ent := ⟨some w.heap.size, 0, cs.size, xs.length, sh.length⟩) (cs := cs) rfl ⟨rfl, rfl⟩ rfl rfl rfl (by
    show (flatRow sh xs).length ≤ _
    rw [flatRow_length, hsz]; exact Nat.mul_le_mul_right _ hcap) hro hv
  refine ⟨_, ?_, k1, k2, k3⟩
  exact VRel.sw (E := envAdd E H.next ⟨some w.heap.size, 0, cs.size, xs.length, sh.length⟩) (id := H.next) (ent := ⟨some w.heap.size, 0, cs.size, xs.length, sh.length⟩) (r := w.heap.size) (cap := cap)
    (by simp [envAdd]) rfl hcap (by simp [hsz])

theorem run_newRow (e : TypeId) (cs : Array Value) (w : World) : (newRow e cs).run P w = .ok ⟨w.heap.size, 0, none⟩ (w.alloc (.cells cs e (0, 0))) := rfl

theorem makeSliceK_sound (hTy : TyOk P Ty) {H : Heap} {t : Nat} {l c : AV} {K : AV → Heap → Option R} {r : R} (h : makeSliceK Ty H t l c K = some r) :
    ∃ v H', K v H' = some r ∧ ∀ E lv cv w, VRel E l lv → VRel E c cv → HRel E H w → ∃ x w' E', (Instr.makeSlice t lv cv).run P w = .ok x w' ∧ VRel E' v x ∧ HRel E' H' w' ∧ Ext E E' ∧ Fr E H w E' H' w' := by
  unfold makeSliceK at h
  split at h
  · rename_i el _ _ _ lk l ck c hT
    obtain ⟨info, d, hi', hu, hd, _⟩ := hTy.ok _ _ hT
    have := slice_of hd; subst this
    split at h
    · rename_i ei sh hTe hsh
      obtain ⟨einfo, ed, hei, heu, hed, hesz, hby, z0, hz0, hzr⟩ := hTy.ok _ _ hTe
      split at h
      · rename_i z hz
        obtain ⟨hk, h⟩ := cond_some h
        obtain ⟨h0, h⟩ := cond_some h
        obtain ⟨h1, h⟩ := cond_some h
        obtain ⟨h2, h⟩ := cond_some h
        simp only [Bool.and_eq_true] at hk
        have hb0 : 0 < ei.bytes := by simpa using hk.1.1
        have hes := beq_eq hk.1.2
        have hs0 : 0 < sh.length := by simpa using hk.2
        have h0 := of_decide_eq_true h0
        have h1 := of_decide_eq_true h1
        have h2 := of_decide_eq_true h2
        refine ⟨_, _, h, fun E lv cv w hl hc hH => ?_⟩
        have := int_of hl; subst this
        have := int_of hc; subst this
        have hcb : c ≤ 140737488355328 := by
          have : c * 1 ≤ c * (ei.bytes : Int) := Int.mul_le_mul_of_nonneg_left (by omega) (by omega)
          omega
        cases hzc : ei.zero.cells with
        | none => rw [hzc] at hz; cases hz
        | some zc =>
          rw [hzc, Option.bind_some] at hz
          have hzall := Tup.un_all hz
          have hzcells := (hzr E).cells hzc
          have hzl : z0.cells.size = sh.length := by
            have := hzcells.length
            rw [← hzall, Tup.all_length] at this
            simpa using this.symm
          have hw1 : IntKind.i64.wrap l = l := wrap_id h0 (by omega)
          have hw2 : IntKind.i64.wrap c = c := wrap_id (by omega) (by omega)
          have hnl : ¬ (c < 0) := by omega
          have hnb : ¬ ((einfo.bytes : Int) * c > 2 ^ 48) := by
            rw [hby, Int.mul_comm]
            have : (2 ^ 48 : Int) = 281474976710656 := by decide
            rw [this]; omega
          have hnb2 : ¬ (281474976710656 < (einfo.bytes : Int) * c) := by
            rw [hby, Int.mul_comm]; omega
          have hlc : ¬ (l < 0) := by omega
          have hlc2 : ¬ (l > c) := by omega
          have hrun : (Instr.makeSlice t (.int lk l) (.int ck c)).run P w = .ok (.slice (some ⟨w.heap.size, 0, none⟩) l.toNat c.toNat)
              (w.alloc (.cells ((Array.range (c.toNat * einfo.size)).map ((if c.toNat * einfo.size = 0 then #[] else z0.cells)[· % (if c.toNat * einfo.size = 0 then #[] else z0.cells).size]!)) el (0, 0))) := by
            unfold Instr.makeSlice
            by_cases hz : c.toNat * einfo.size = 0
            · simp [run_underlying hu, asInt, asIntOf, run_typeInfo hei, hw1, hw2, hnl, hnb2, hlc, hlc2, run_sizeOf hei, run_newRow, hz]
            · simp [run_underlying hu, asInt, asIntOf, run_typeInfo hei, hw1, hw2, hnl, hnb2, hlc, hlc2, run_sizeOf hei, run_newRow, hz, run_zeroValue hei hz0]
          obtain ⟨E', k1, k2, k3, k4⟩ := row_new (t := el) (fz := (0, 0)) (ro := false) hH (sh := sh) (xs := List.replicate l.toNat z) (cap := c.toNat)
            (cs := (Array.range (c.toNat * einfo.size)).map ((if c.toNat * einfo.size = 0 then #[] else z0.cells)[· % (if c.toNat * einfo.size = 0 then #[] else z0.cells).size]!))
            (by simp; omega) (by simp [hesz, hes]) (fun _ => rfl) (fun j v hj => by
              have hjl : j < l.toNat * sh.length := by
                have := (List.getElem?_eq_some_iff.1 hj).1
                rw [flatRow_length] at this; simpa using this
              rw [replicate_get sh z _ _ hjl, hzall] at hj
              obtain ⟨x, hx, hr⟩ := hzcells.arr hj
              have hjc : j < c.toNat * einfo.size := by
                rw [hesz, hes]
                exact Nat.lt_of_lt_of_le hjl (Nat.mul_le_mul_right _ (by omega))
              refine ⟨x, ?_, hr⟩
              rw [if_neg (by omega)]
              rw [← hzl] at hx
              simp only [Array.getElem?_map, Array.getElem?_range, hjc, if_true, Option.map_some]
              rw [getElem!_pos _ _ (by rw [hzl]; exact Nat.mod_lt _ hs0)]
              rw [← hx]
              rw [Array.getElem?_eq_getElem (by rw [hzl]; exact Nat.mod_lt _ hs0)])
          refine ⟨_, _, E', hrun, ?_, k2, k3, k4⟩
          simpa using k1
      · cases h
    · cases h
  · cases h

/-! ### append -/

theorem Fr.drew {E : Env} {H : Heap} {w : World} (h : HRel E H w) : HRel E H w.drew ∧ Fr E H w E H w.drew :=
  ⟨⟨h.dom, fun id hb hg => by
      obtain ⟨ent, he, hB⟩ := h.live id hb hg
      exact ⟨ent, he, ⟨hB.cells, hB.fits, hB.void, fun r hr => (hB.lies r hr).same rfl rfl fun _ _ _ hj hv => hv _ hj⟩⟩, h.fam, h.full⟩,
    ⟨rfl, rfl, rfl, Nat.le_refl _, fun _ _ _ => rfl, fun _ h _ => h⟩⟩

theorem HRel.weaken {E : Env} {H H' : Heap} {w : World} (h : HRel E H w) (hn : H'.next = H.next) (hg : ∀ id hb, H'.get id = some hb → H.get id = some hb) :
    HRel E H' w ∧ Fr E H w E H' w :=
  ⟨⟨fun id hid => h.dom id (by rw [← hn]; exact hid), fun id hb hj => h.live id hb (hg id hb hj), fun i j hi hj ei ej r h1 h2 => h.fam i j hi hj ei ej r (hg _ _ h1) (hg _ _ h2), fun id hid => h.full id (by rw [← hn]; exact hid)⟩,
    ⟨rfl, rfl, rfl, Nat.le_refl _, fun _ _ _ => rfl, fun b ⟨id, hb, ent, h1, h2, h3⟩ _ => ⟨id, hb, ent, hg _ _ h1, h2, h3⟩⟩⟩

/-- An empty row that lies nowhere. -/
theorem HRel.voidRow {E : Env} {H : Heap} {w : World} (hH : HRel E H w) (sh : List SK) (fam : Nat) :
    HRel (envAdd E H.next ⟨none, 0, 0, 0, sh.length⟩) ⟨H.next + 1, (H.next, some ⟨fam, false, .row sh []⟩) :: H.bs⟩ w ∧ Ext E (envAdd E H.next ⟨none, 0, 0, 0, sh.length⟩) ∧
      Fr E H w (envAdd E H.next ⟨none, 0, 0, 0, sh.length⟩) ⟨H.next + 1, (H.next, some ⟨fam, false, .row sh []⟩) :: H.bs⟩ w := by
  have hext : Ext E (envAdd E H.next ⟨none, 0, 0, 0, sh.length⟩) := by
    intro i e hi
    have : i ≠ H.next := fun hh => by rw [hh, hH.dom _ (Nat.le_refl _)] at hi; cases hi
    simp [envAdd, this, hi]
  have hget : ∀ j, (⟨H.next + 1, (H.next, some ⟨fam, false, .row sh []⟩) :: H.bs⟩ : Heap).get j = if H.next = j then some ⟨fam, false, .row sh []⟩ else H.get j := fun j => look_cons _ _ _ _
  refine ⟨⟨fun i hi => ?_, fun i g hi => ?_, ?_, fun i hi => (by
    by_cases hn : i = H.next
    · exact ⟨_, by simp [envAdd, hn]; rfl⟩
    · obtain ⟨e, he⟩ := hH.full i (by simp at hi; omega)
      exact ⟨e, hext _ _ he⟩)⟩, hext, ⟨rfl, rfl, rfl, Nat.le_refl _, fun _ _ _ => rfl, ?_⟩⟩
  · simp only [envAdd]
    rw [if_neg (by simp at hi; omega)]
    exact hH.dom i (by simp at hi; omega)
  · rw [hget] at hi
    by_cases hj : H.next = i
    · subst hj
      rw [if_pos rfl] at hi; cases hi
      exact ⟨⟨none, 0, 0, 0, sh.length⟩, by simp [envAdd], ⟨rfl, ⟨rfl, rfl⟩, fun _ => trivial, fun r' h' => by cases h'⟩⟩
    · rw [if_neg hj] at hi
      obtain ⟨e, he', hB⟩ := hH.live i g hi
      exact ⟨e, hext _ _ he', ⟨hB.cells, hB.fits, hB.void, fun r' hr'' => (hB.lies r' hr'').same rfl rfl fun j v' x hj hv => (hv v' hj).mono hext⟩⟩
  · intro i j hi hj ei' ej rr hgi hgj hei' hej hri hrj
    rw [hget] at hgi hgj
    simp only [envAdd] at hei' hej
    by_cases h1 : H.next = i
    · subst h1; rw [if_pos rfl] at hei'; cases hei'; cases hri
    · rw [if_neg h1] at hgi; rw [if_neg (Ne.symm h1)] at hei'
      by_cases h2 : H.next = j
      · subst h2; rw [if_pos rfl] at hej; cases hej; cases hrj
      · rw [if_neg h2] at hgj; rw [if_neg (Ne.symm h2)] at hej
        exact hH.fam i j hi hj ei' ej rr hgi hgj hei' hej hri hrj
  · rintro b ⟨i, g, e, hgi, hei', hri⟩ _
    rw [hget] at hgi
    by_cases hj : H.next = i
    · subst hj; simp only [envAdd, if_true] at hei'; cases hei'; cases hri
    · rw [if_neg hj] at hgi
      simp only [envAdd] at hei'
      rw [if_neg (Ne.symm hj)] at hei'
      exact ⟨i, g, e, hgi, hei', hri⟩

theorem Shows.mono {E E' : Env} {sh : List SK} {ys : List (Tup sh)} {xv : Value} {w : World} (h : Shows E P sh ys xv w) (hE : Ext E E') : Shows E' P sh ys xv w :=
  ⟨h.len, let ⟨arr, h1, h2⟩ := h.cells; ⟨arr, h1, h2.mono hE⟩, h.kind⟩

theorem flatRow_append (sh : List SK) (xs ys : List (Tup sh)) : flatRow sh (xs ++ ys) = flatRow sh xs ++ flatRow sh ys := by simp [flatRow]

/-- The operator where there is room. -/
theorem append_room {t xt el : Nat} {ei : TypeInfo} {xd : TypeDesc} (hu : P.underlying t = some (.slice el)) (hi : P.info? el = some ei) (hx : P.underlying xt = some xd) (hxd : (∃ e, xd = .slice e) ∨ xd = .string) {base : Option Addr} {n cap m : Nat} {xv : Value}
    {arr : Array Value} {w : World} (hl : (Builtin.lenOf xv).run P w = .ok m w) (hc : (Builtin.firstCells ei.size m xv).run P w = .ok arr w) (hroom : n + m ≤ cap) (ty : TypeId) :
    (Builtin.append_ #[t, xt] ty #[.slice base n cap, xv]).run P w =
      ((match base with | some a => storeCells (a.add (n * ei.size)) arr.toList | none => Pure.pure ()) >>= fun _ => (Pure.pure (.slice base (n + m) cap) : Sem Value)).run P w := by
  unfold Builtin.append_
  rcases hxd with ⟨e, rfl⟩ | rfl
  all_goals
    simp only [List.getElem?_toArray, List.getElem?_cons_zero, List.getElem?_cons_succ, Sem.run_bind, run_underlying hu, Result.andThen_ok, run_sizeOf hi, run_underlying hx, Sem.run_pure]
    cases base <;> simp [hl, hc, hroom]

theorem append_grow {t xt el : Nat} {ei : TypeInfo} {xd : TypeDesc} {z : Value} (hu : P.underlying t = some (.slice el)) (hi : P.info? el = some ei) (hzv : ei.zero = some z) (hx : P.underlying xt = some xd) (hxd : (∃ e, xd = .slice e) ∨ xd = .string)
    {base : Option Addr} {n cap m : Nat} {xv : Value} {old arr : Array Value} {w : World} (hl : (Builtin.lenOf xv).run P w = .ok m w)
    (hc : (Builtin.firstCells ei.size m xv).run P w.drew = .ok arr w.drew) (ho : (Builtin.firstCells ei.size n (.slice base n cap)).run P w.drew = .ok old w.drew)
    (hroom : ¬ n + m ≤ cap) (hb : 0 < ei.bytes) (hlim : (n + m) * ei.bytes ≤ 70368744177664) (ty : TypeId) :
    ∃ nc, n + m ≤ nc ∧ (Builtin.append_ #[t, xt] ty #[.slice base n cap, xv]).run P w =
      .ok (.slice (some ⟨w.heap.size, 0, none⟩) (n + m) nc) (w.drew.alloc (.cells (old ++ arr ++ Builtin.zeroCells z.cells (nc - (n + m))) el (0, 0))) := by
  refine ⟨(n + m) + w.tape w.drawn (.appendCap (n + m) cap el) % (2 ^ 63 - (n + m)), Nat.le_add_right _ _, ?_⟩
  have hcapsz : ¬ (Builtin.nextslicecap (n + m) cap * ei.bytes > 2 ^ 48) := by
    have h48 : (2 : Nat) ^ 48 = 281474976710656 := by decide
    rw [h48]
    have hn : Builtin.nextslicecap (n + m) cap ≤ 4 * (n + m) := by
      have hg : ∀ k c, Builtin.growBy (n + m) k c ≤ Nat.max (2 * c + 400) (2 * (n + m) + 400) ∨ True := fun _ _ => .inr trivial
      unfold Builtin.nextslicecap
      split
      · omega
      · split
        · omega
        · have key : ∀ k c, c ≤ 4 * (n + m) → 256 ≤ n + m → Builtin.growBy (n + m) k c ≤ 4 * (n + m) := by
            intro k
            induction k with
            | zero => intro c h _; exact h
            | succ k ih =>
              intro c h h2
              simp only [Builtin.growBy]
              split
              · exact h
              · exact ih _ (by omega) h2
          exact key 4 cap (by omega) (by omega)
    have := Nat.mul_le_mul_right ei.bytes hn
    have h3 : 4 * (n + m) * ei.bytes = 4 * ((n + m) * ei.bytes) := by rw [Nat.mul_assoc]
    omega
  have hnb : ei.bytes ≠ 0 := by omega
  have h48 : ¬ (281474976710656 < Builtin.nextslicecap (n + m) cap * ei.bytes) := by
    have h48 : (2 : Nat) ^ 48 = 281474976710656 := by decide
    rw [h48] at hcapsz; exact hcapsz
  unfold Builtin.append_
  rcases hxd with ⟨e, rfl⟩ | rfl
  all_goals
    simp only [List.getElem?_toArray, List.getElem?_cons_zero, List.getElem?_cons_succ, Sem.run_bind, run_underlying hu, Result.andThen_ok, run_sizeOf hi, run_underlying hx, Sem.run_pure]
    simp [hl, hroom, run_typeInfo hi, hnb, h48, run_choose, Question.forced, World.drew_eq, hc, ho, run_zeroValue hi hzv, run_newRow, Question.cut]

theorem look_killed2 {H : Heap} {id : Nat} {hb : HB} {fam but j : Nat} {g : HB} (h : (⟨H.next + 1, (id, some hb) :: (killFam fam but H.bs ++ H.bs)⟩ : Heap).get j = some g) :
    (j = id ∧ g = hb) ∨ (j ≠ id ∧ H.get j = some g ∧ (g.fam ≠ fam ∨ j = but)) := get_killed h

theorem kind_some {d : TypeDesc} {td : TD} (hd : tdOf d = some td) (h : td.rowLike = true) : (∃ e, d = .slice e) ∨ d = .string := by
  unfold TD.rowLike at h
  split at h
  · exact .inl ⟨_, slice_of hd⟩
  · exact .inr (str_of hd)
  · cases h

theorem appendK_sound (hTy : TyOk P Ty) {H : Heap} {t xt : Nat} {s x : AV} {K : AV → Heap → Option R} {r : R} (h : appendK Ty H t xt s x K = some r) :
    ∃ v H', K v H' = some r ∧ ∀ E sv xv w (ty : TypeId), VRel E s sv → VRel E x xv → HRel E H w →
      ∃ y w' E', (Builtin.append_ #[t, xt] ty #[sv, xv]).run P w = .ok y w' ∧ VRel E' v y ∧ HRel E' H' w' ∧ Ext E E' ∧ Fr E H w E' H' w' := by
  unfold appendK at h
  split at h
  · rename_i el _ _ _ xi hT hTx
    have hkind := (cond_some h).1
    replace h := (cond_some h).2
    obtain ⟨info, d, hi', hu, hd, _⟩ := hTy.ok _ _ hT
    have := slice_of hd; subst this
    obtain ⟨xinfo, xd, hxi, hxu, hxd, _⟩ := hTy.ok _ _ hTx
    have hnk := kind_some hxd hkind
    split at h
    · rename_i ei sh hTe hsh
      have hc := (cond_some h).1
      replace h := (cond_some h).2
      simp only [Bool.and_eq_true] at hc
      have hb0 : 0 < ei.bytes := by simpa using hc.1.1
      have hes := beq_eq hc.1.2
      have hzl := hc.2
      obtain ⟨einfo, ed, hei, heu, hed, hesz, hby, z0, hz0, hzr⟩ := hTy.ok _ _ hTe
      obtain ⟨ys, h', hshow⟩ := shownK_sound (P := P) h
      clear h
      have h := h'
      clear h'
      have hsl : einfo.size = sh.length := hesz.trans hes
      -- growing: a new block
      have grow : ∀ (E : Env) (xs : List (Tup sh)) (base : Option Addr) (cap : Nat) (old : Array Value) (xv : Value) (w : World) (ty : TypeId) (Hn : Heap) (fam : Nat), HRel E H w → VRel E x xv →
          (Builtin.firstCells sh.length xs.length (.slice base xs.length cap)).run P w.drew = .ok old w.drew → VRelL E (flatRow sh xs) old.toList → ¬ xs.length + ys.length ≤ cap →
          (xs.length + ys.length) * ei.bytes ≤ 70368744177664 →
          (Hn.next = H.next + 1) → (∀ j g, Hn.get j = some g → (⟨H.next + 1, (H.next, some ⟨fam, false, .row sh (xs ++ ys)⟩) :: H.bs⟩ : Heap).get j = some g) →
          ∃ y w' E', (Builtin.append_ #[t, xt] ty #[.slice base xs.length cap, xv]).run P w = .ok y w' ∧ VRel E' (.sw H.next) y ∧
            HRel E' Hn w' ∧ Ext E E' ∧ Fr E H w E' Hn w' := by
        intro E xs base cap old xv w ty Hn fam hH hx hold hoR hroom hlim hnext hHn
        obtain ⟨hHd, hFd⟩ := Fr.drew hH
        have hS := hshow E xv w.drew hx hHd
        have hSl := (hshow E xv w hx hH).len
        obtain ⟨arr, ha, hrel⟩ := hS.cells
        rw [← hsl] at ha hold
        obtain ⟨nc, hnc, hrun⟩ := append_grow hu hei hz0 hxu hnk hSl ha hold hroom (by omega) (by rw [hby]; exact hlim) ty
        have hflat : VRelL E (flatRow sh (xs ++ ys)) (old ++ arr).toList := by
          rw [flatRow_append, Array.toList_append]; exact hoR.append hrel
        have hfl := hflat.length
        rw [flatRow_length] at hfl
        have hzs : z0.cells.size = sh.length := by
          unfold zeroLen at hzl
          split at hzl
          · rename_i zc hzc
            have := ((hzr E).cells hzc).length
            rw [beq_eq hzl] at this
            simpa using this.symm
          · cases hzl
        have hcsz : (old ++ arr ++ Builtin.zeroCells z0.cells (nc - (xs.length + ys.length))).size = nc * sh.length := by
          have h1 : (old ++ arr).size = (xs ++ ys).length * sh.length := by rw [hfl, Array.length_toList]
          have h2 : (Builtin.zeroCells z0.cells (nc - (xs.length + ys.length))).size = (nc - (xs.length + ys.length)) * sh.length := by
            unfold Builtin.zeroCells; simp [hzs]
          rw [Array.size_append, h1, h2, ← Nat.add_mul]
          congr 1
          simp only [List.length_append]; omega
        have hsize : w.drew.heap.size = w.heap.size := rfl
        have hcap' : (xs ++ ys).length ≤ nc := by simpa using hnc
        obtain ⟨k1, k2, k3⟩ := HRel.add (t := el) (fz := (0, 0)) (ro := false) (fam := fam) hHd (blk := .row sh (xs ++ ys)) (ent := ⟨some w.heap.size, 0, nc * sh.length, (xs ++ ys).length, sh.length⟩)
          (cs := old ++ arr ++ Builtin.zeroCells z0.cells (nc - (xs.length + ys.length))) rfl ⟨rfl, rfl⟩ rfl rfl hcsz.symm (by
            rw [hcsz]; show (flatRow sh (xs ++ ys)).length ≤ _
            rw [flatRow_length]; exact Nat.mul_le_mul_right _ hcap') (fun _ => rfl) (fun j v hj => by
            obtain ⟨y, hy, hr⟩ := hflat.get j v hj
            have hlt : j < (old ++ arr).size := by
              have := (List.getElem?_eq_some_iff.1 hy).1
              simpa using this
            exact ⟨y, by rw [Array.getElem?_append_left hlt, ← Array.getElem?_toList]; exact hy, hr⟩)
        obtain ⟨k4, k5⟩ := k1.weaken (H' := Hn) hnext hHn
        refine ⟨_, _, _, hrun, ?_, k4, k2, hFd.trans (k3.trans k5)⟩
        have := VRel.sw (E := envAdd E H.next ⟨some w.heap.size, 0, nc * sh.length, (xs ++ ys).length, sh.length⟩) (id := H.next) (ent := ⟨some w.heap.size, 0, nc * sh.length, (xs ++ ys).length, sh.length⟩) (r := w.heap.size) (cap := nc)
          (by simp [envAdd]) rfl hcap' (by simp)
        simpa using this
      have keep : ∀ (fam id : Nat) (hb : HB), ∀ j g, (⟨H.next + 1, (H.next, some hb) :: (killFam fam id H.bs ++ H.bs)⟩ : Heap).get j = some g → (⟨H.next + 1, (H.next, some hb) :: H.bs⟩ : Heap).get j = some g := by
        intro fam id hb j g hj
        rcases get_killed hj with ⟨rfl, rfl⟩ | ⟨hne, hg, _⟩
        · simp [Heap.get, look_cons]
        · simp only [Heap.get, look_cons]; rw [if_neg (Ne.symm hne)]; exact hg
      have nothing : ∀ (E : Env) (xv : Value) (w : World) (ty : TypeId) (Hn : Heap) (fam : Nat), HRel E H w → VRel E x xv → ys = [] →
          (Hn.next = H.next + 1) → (∀ j g, Hn.get j = some g → (⟨H.next + 1, (H.next, some ⟨fam, false, .row sh []⟩) :: H.bs⟩ : Heap).get j = some g) →
          ∃ y w' E', (Builtin.append_ #[t, xt] ty #[.slice none 0 0, xv]).run P w = .ok y w' ∧ VRel E' (.sw H.next) y ∧ HRel E' Hn w' ∧ Ext E E' ∧ Fr E H w E' Hn w' := by
        intro E xv w ty Hn fam hH hx hy hnext hHn
        subst hy
        have hS := hshow E xv w hx hH
        obtain ⟨arr, ha, hrel⟩ := hS.cells
        have harr : arr = #[] := by
          have := hrel.length; simp [flatRow] at this; exact Array.eq_empty_of_size_eq_zero this.symm
        subst harr
        rw [← hsl] at ha
        have hrun := append_room (n := 0) (cap := 0) (base := none) hu hei hxu hnk (by simpa using hS.len) (by simpa using ha) (Nat.le_refl _) ty
        obtain ⟨k1, k2, k3⟩ := hH.voidRow sh fam
        obtain ⟨k4, k5⟩ := k1.weaken (H' := Hn) hnext hHn
        exact ⟨.slice none 0 0, w, _, by simpa using hrun, .sw0 (ent := ⟨none, 0, 0, 0, sh.length⟩) (by simp [envAdd]) rfl, k4, k2, k3.trans k5⟩
      split at h
      · -- onto nil
        obtain ⟨hlim, hK⟩ := cond_some h
        have hlim := of_decide_eq_true hlim
        refine ⟨_, _, hK, fun E sv xv w ty hs hx hH => ?_⟩
        cases hs
        have hS := hshow E xv w hx hH
        by_cases hy : ys = []
        · exact nothing E xv w ty (H.add (.row sh ys)) H.next hH hx hy rfl (fun j g hj => by rw [hy] at hj; exact hj)
        · have hpos : 0 < ys.length := List.length_pos_iff.2 hy
          exact grow E [] none 0 #[] xv w ty (H.add (.row sh ys)) H.next hH hx run_first_none .nil (by simp; omega) (by simp; omega) rfl (fun j g hj => hj)
      · rename_i id
        split at h
        · rename_i fam ro sh' xs hg
          split at h
          · rename_i hsh'; subst hsh'
            obtain ⟨hro, h2⟩ := cond_none_some h
            obtain ⟨hlim, hK⟩ := cond_some h2
            subst hro
            have hlim := of_decide_eq_true hlim
            refine ⟨_, _, hK, fun E sv xv w ty hs hx hH => ?_⟩
            have hS := hshow E xv w hx hH
            obtain ⟨ent, he, hB⟩ := hH.live _ _ hg
            obtain ⟨hn, hsz⟩ := hB.fits
            obtain ⟨hHd, hFd⟩ := Fr.drew hH
            have hlim' : (xs.length + ys.length) * ei.bytes ≤ 70368744177664 := by
              have : (((xs.length + ys.length : Nat) : Int) * (ei.bytes : Int)) = (((xs.length + ys.length) * ei.bytes : Nat) : Int) := by simp
              rw [this] at hlim; omega
            cases hs with
            | sw h' hr hcap hcb =>
              rename_i rr cap
              rw [he] at h'; cases h'
              have hL := hB.lies _ hr
              rw [hn] at hcap ⊢
              by_cases hroom : xs.length + ys.length ≤ cap
              · -- in place
                obtain ⟨arr, ha, hrel⟩ := hS.cells
                rw [← hsl] at ha
                have hrun := append_room (n := xs.length) (cap := cap) (base := some ⟨rr, ent.off, none⟩) hu hei hxu hnk hS.len ha hroom ty
                obtain ⟨cs, t', fz, c1, c2, c3, c4, c5⟩ := hL.ex
                have := c5 rfl; subst this
                have hal : arr.toList.length = ys.length * sh'.length := by rw [← hrel.length, flatRow_length]
                have hfl : (Blk.row sh' xs).flat.length = xs.length * sh'.length := flatRow_length sh' xs
                have hbound : ent.off + xs.length * sh'.length + arr.toList.length ≤ cs.size := by
                  rw [hal, c2]
                  have h1 := Nat.mul_le_mul_right sh'.length hroom
                  rw [Nat.add_mul] at h1
                  rw [hsz] at hcb
                  omega
                have hone : ∀ v ∈ arr.toList, v.oneCell' = true := hrel.oneCell (flatRow_one sh' ys)
                have hst := run_storeCells_at (P := P) rr (ent.off + xs.length * sh'.length) t' arr.toList 0 cs w c1 (by omega) hone
                simp only [Nat.add_zero] at hst
                generalize hcs' : (cs.toList.take (ent.off + xs.length * sh'.length) ++ arr.toList ++ cs.toList.drop (ent.off + xs.length * sh'.length + arr.toList.length)).toArray = cs' at hst
                have htl : (cs.toList.take (ent.off + xs.length * sh'.length)).length = ent.off + xs.length * sh'.length := by rw [List.length_take, Array.length_toList (xs := cs)]; omega
                have hsz' : cs'.size = cs.size := by
                  rw [← hcs', List.size_toArray, List.length_append, List.length_append, htl, List.length_drop, Array.length_toList (xs := cs)]; omega
                have hget' : ∀ j, cs'[j]? = if ent.off + xs.length * sh'.length ≤ j ∧ j < ent.off + xs.length * sh'.length + arr.toList.length then arr.toList[j - (ent.off + xs.length * sh'.length)]? else cs[j]? := by
                  intro j
                  rw [← hcs', List.getElem?_toArray]
                  by_cases h1 : j < ent.off + xs.length * sh'.length
                  · rw [if_neg (by omega), List.append_assoc, List.getElem?_append_left (by rw [htl]; exact h1), List.getElem?_take, if_pos h1, Array.getElem?_toList]
                  · by_cases h2 : j < ent.off + xs.length * sh'.length + arr.toList.length
                    · rw [if_pos ⟨by omega, h2⟩, List.append_assoc, List.getElem?_append_right (by rw [htl]; omega), List.getElem?_append_left (by rw [htl]; omega), htl]
                    · rw [if_neg (by omega), List.getElem?_append_right (by rw [List.length_append, htl]; omega), List.getElem?_drop, Array.getElem?_toList, List.length_append, htl]
                      congr 1; omega
                obtain ⟨s1, s2⟩ := hH.set (cs' := cs') (blk := .row sh' xs) hg he hr c1 hsz' c2 rfl hB.fits c3 (fun j v hj => by
                  obtain ⟨z, hz, hzr'⟩ := c4 j v hj
                  have hlt : j < xs.length * sh'.length := by rw [← hfl]; exact (List.getElem?_eq_some_iff.1 hj).1
                  exact ⟨z, by rw [hget', if_neg (by omega)]; exact hz, hzr'⟩)
                have hg2 : (⟨H.next, (id, some ⟨fam, false, .row sh' xs⟩) :: (killFam fam id H.bs ++ H.bs)⟩ : Heap).get id = some ⟨fam, false, .row sh' xs⟩ := by simp [Heap.get, look_cons]
                obtain ⟨a1, a2, a3⟩ := s1.alias (ent' := ⟨some rr, ent.off, ent.size, (xs ++ ys).length, sh'.length⟩) (blk := .row sh' (xs ++ ys)) (ro := false) hg2 he hr rfl rfl ⟨rfl, rfl⟩ ⟨cs', t', (0, 0), setRow_heap w rr cs cs' t' (0, 0) c1, hsz'.trans c2, by
                    show ent.off + (flatRow sh' (xs ++ ys)).length ≤ _
                    rw [hsz', flatRow_length, List.length_append, Nat.add_mul]; omega, fun j v hj => by
                    show ∃ x, cs'[ent.off + j]? = some x ∧ _
                    have hj' : (flatRow sh' xs ++ flatRow sh' ys)[j]? = some v := by rw [← flatRow_append]; exact hj
                    by_cases hjx : j < xs.length * sh'.length
                    · rw [List.getElem?_append_left (by rw [flatRow_length]; exact hjx)] at hj'
                      obtain ⟨z, hz, hzr'⟩ := c4 j v hj'
                      exact ⟨z, by rw [hget', if_neg (by omega)]; exact hz, hzr'⟩
                    · rw [List.getElem?_append_right (by rw [flatRow_length]; omega), flatRow_length] at hj'
                      obtain ⟨z, hz, hzr'⟩ := hrel.get _ v hj'
                      have hlt := (List.getElem?_eq_some_iff.1 hz).1
                      exact ⟨z, by rw [hget', if_pos (by omega), ← hz]; congr 1; omega, hzr'⟩, fun _ => rfl⟩
                obtain ⟨b1, b2⟩ := a1.weaken (H' := ⟨H.next + 1, (H.next, some ⟨fam, false, .row sh' (xs ++ ys)⟩) :: (killFam fam id H.bs ++ H.bs)⟩) rfl (fun j g hj => by
                  simp only [Heap.get, look_cons] at hj ⊢
                  by_cases h1 : H.next = j
                  · rw [if_pos h1] at hj ⊢; exact hj
                  · rw [if_neg h1] at hj ⊢
                    by_cases h2 : id = j
                    · rw [if_pos h2]; subst h2
                      have := get_killed (H := H) (next := 0) (id := H.next) (hb := ⟨0, false, .cells []⟩) (fam := fam) (but := id) (j := id) (g := g) (by simp only [Heap.get, look_cons]; rw [if_neg h1]; exact hj)
                      rcases this with ⟨h3, _⟩ | ⟨_, h3, _⟩
                      · exact absurd h3.symm h1
                      · rw [hg] at h3; exact h3
                    · rw [if_neg h2]; exact hj)
                refine ⟨.slice (some ⟨rr, ent.off, none⟩) (xs.length + ys.length) cap, _, _, ?_, ?_, b1, a2, s2.trans (a3.trans b2)⟩
                · rw [hrun]
                  simp only [Sem.run_bind, addr_add, hsl, hst, Result.andThen_ok, Sem.run_pure]
                · have := VRel.sw (E := envAdd E H.next ⟨some rr, ent.off, ent.size, (xs ++ ys).length, sh'.length⟩) (id := H.next) (ent := ⟨some rr, ent.off, ent.size, (xs ++ ys).length, sh'.length⟩) (r := rr) (cap := cap)
                    (by simp [envAdd]) rfl (by simpa using hroom) (by rw [← hsz]; exact hcb)
                  simpa using this
              · -- a new block
                obtain ⟨lst, l1, l2, l3⟩ := (hB.lies _ hr).at (f := 0) (n := xs.length * sh'.length) (by show 0 + xs.length * sh'.length ≤ (flatRow sh' xs).length; rw [flatRow_length]; omega)
                have hseg : seg (Blk.row sh' xs).flat 0 (xs.length * sh'.length) = flatRow sh' xs := by
                  unfold seg; rw [List.drop_zero]; show (flatRow sh' xs).take _ = _; rw [← flatRow_length, List.take_length]
                rw [hseg] at l2
                exact grow E xs (some ⟨rr, ent.off, none⟩) cap lst.toArray xv w ty _ fam hH hx (run_first_some l1 (fun j v hj => by have := l3 j v hj; simpa using this)) (by simpa using l2) hroom hlim' rfl (keep fam id _)
            | sw0 h' hn0 =>
              rw [he] at h'; cases h'
              have hx0 : xs = [] := List.length_eq_zero_iff.1 (by omega)
              subst hx0
              by_cases hy : ys = []
              · exact nothing E xv w ty _ fam hH hx hy rfl (fun j g hj => by have := keep fam id _ j g hj; rw [hy] at this; exact this)
              · have hpos : 0 < ys.length := List.length_pos_iff.2 hy
                exact grow E [] none 0 #[] xv w ty _ fam hH hx run_first_none .nil (by simp; omega) hlim' rfl (keep fam id _)
          · cases h
        · cases h
      · cases h
    · cases h
  · cases h

end
end Go.Ab
