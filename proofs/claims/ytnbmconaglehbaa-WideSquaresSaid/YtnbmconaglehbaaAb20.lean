/- Regions whose order is open: any order comes to the same. Conditions: none. -/
import Derived.Test.YtnbmconaglehbaaAb19
namespace Go.Ab
set_option linter.unusedVariables false
set_option linter.unusedSimpArgs false
open Go

/-! ### Names that play a part -/

def Useful (ent : Ent) : Prop := ent.r ≠ none ∨ ent.n = 0

mutual
theorem VRel.on {E E' : Env} : ∀ {v : AV} {x : Value}, VRel E v x → (∀ id ∈ v.ids, ∀ ent, E id = some ent → Useful ent → E' id = some ent) → VRel E' v x
  | _, _, .b x, _ => .b x
  | _, _, .i k x, _ => .i k x
  | _, _, .s x, _ => .s x
  | _, _, .np, _ => .np
  | _, _, .nsl, _ => .nsl
  | _, _, .nf, _ => .nf
  | _, _, .ni, _ => .ni
  | _, _, .nm, _ => .nm
  | _, _, .u, _ => .u
  | _, _, .junk v, _ => .junk v
  | _, _, .ptr h hr, hf => .ptr (hf _ (by simp [AV.ids]) _ h (.inl (by rw [hr]; simp))) hr
  | _, _, .sw h hr hn hc, hf => .sw (hf _ (by simp [AV.ids]) _ h (.inl (by rw [hr]; simp))) hr hn hc
  | _, _, .sw0 h hn, hf => .sw0 (hf _ (by simp [AV.ids]) _ h (.inr hn)) hn
  | _, _, .sl h hr hn, hf => .sl (hf _ (by simp [AV.ids]) _ h (.inl (by rw [hr]; simp))) hr hn
  | _, _, .sl0 hn, hf => .sl0 hn
  | _, _, .agg h, hf => .agg (VRelL.on h (by simpa [AV.ids] using hf))
  | _, _, .mix (pre := pre) (sh := sh) (xs := xs) (post := post) h hn, hf => by
    refine .mix ?_ hn
    refine VRelL.on h ?_
    intro id hid
    rw [idsL_append, idsL_append] at hid
    refine hf id ?_
    simp only [AV.ids]
    simp only [List.mem_append] at hid ⊢
    rcases hid with (hid | hid) | hid
    · exact .inl hid
    · exfalso
      have : ∀ ys : List (Tup sh), AV.idsL (flatRow sh ys) = [] := by
        intro ys
        induction ys with
        | nil => rfl
        | cons y ys ih => unfold flatRow at *; rw [List.flatMap_cons, idsL_append, Tup.all_ids, ih]; rfl
      rw [this] at hid; cases hid
    · exact .inr hid
  | _, _, .tup h, hf => .tup (VRelL.on h (by simpa [AV.ids] using hf))
  | _, _, .fn h, hf => .fn (VRelL.on h (by simpa [AV.ids] using hf))
theorem VRelL.on {E E' : Env} : ∀ {v : List AV} {x : List Value}, VRelL E v x → (∀ id ∈ AV.idsL v, ∀ ent, E id = some ent → Useful ent → E' id = some ent) → VRelL E' v x
  | _, _, .nil, _ => .nil
  | _, _, .cons h t, hf => .cons (VRel.on h (fun id hid => hf id (by simp [AV.idsL, hid]))) (VRelL.on t (fun id hid => hf id (by simp [AV.idsL, hid])))
end

theorem BRel.useful {E : Env} {ent : Ent} {hb : HB} {w : World} (h : BRel E ent hb w) : Useful ent := by
  cases hr : ent.r with
  | some r => exact .inl (by simp [hr])
  | none =>
    refine .inr ?_
    have hv := h.void hr
    have hf := h.fits
    generalize hb.blk = b at hv hf
    cases b with
    | row sh xs =>
      cases xs with
      | nil => exact hf.1
      | cons x xs => exact hv.elim
    | cells cs => exact hv.elim
    | mix pre sh n xs post => exact hv.elim
    | map kvs => exact hv.elim
    | siter s p => exact hv.elim

theorem BRel.on {E E' : Env} {ent : Ent} {hb : HB} {w w' : World} (h : BRel E ent hb w) (hw : ∀ r, ent.r = some r → w'.heap[r]? = w.heap[r]?)
    (hf : ∀ id ∈ hb.blk.ids, ∀ ent, E id = some ent → Useful ent → E' id = some ent) : BRel E' ent hb w' :=
  ⟨h.cells, h.fits, h.void, fun r hr => (h.lies r hr).same (hw r hr) rfl fun j v x hj hv => (hv v hj).on fun id hid => hf id (by rw [← flat_ids h.cells]; exact ids_mem hj hid)⟩

theorem asc_spec : ∀ (effs : List Eff) (n N : Nat), asc n effs N = true → (∀ (i : Nat) (e : Eff), effs[i]? = some e → n ≤ e.own ∧ e.own ≤ e.nxt ∧ e.nxt ≤ N) ∧ (∀ (i j : Nat) (e e' : Eff), i < j → effs[i]? = some e → effs[j]? = some e' → e.nxt ≤ e'.own) ∧ n ≤ N
  | [], n, N, h => ⟨by simp, by simp, by simpa [asc] using h⟩
  | e :: r, n, N, h => by
    simp only [asc, Bool.and_eq_true] at h
    obtain ⟨⟨h1, h2⟩, h3⟩ := h
    have h1 : n ≤ e.own := by simpa using h1
    have h2 : e.own ≤ e.nxt := by simpa using h2
    obtain ⟨k1, k2, k3⟩ := asc_spec r e.nxt N h3
    refine ⟨fun i e' he => ?_, fun i j e1 e2 hij h1' h2' => ?_, by omega⟩
    · cases i with
      | zero => simp at he; subst he; exact ⟨h1, h2, k3⟩
      | succ i => obtain ⟨a, b, c⟩ := k1 i e' (by simpa using he); exact ⟨by omega, b, c⟩
    · cases j with
      | zero => omega
      | succ j =>
        cases i with
        | zero => simp at h1'; subst h1'; exact (k1 j e2 (by simpa using h2')).1
        | succ i => exact k2 i j e1 e2 (by omega) (by simpa using h1') (by simpa using h2')

theorem noneOf_spec {l m : List Nat} (h : noneOf l m = true) {x : Nat} (hx : x ∈ l) : has m x = false := by
  have := List.all_eq_true.1 h x hx
  simpa using this

theorem dlFams_mem {id : Nat} {g : HB} : ∀ {dl : List (Nat × Option HB)}, (id, some g) ∈ dl → g.fam ∈ dlFams dl
  | (i, some g') :: r, h => by
    rw [dlFams]
    rcases List.mem_cons.1 h with h | h
    · cases h; exact List.mem_cons_self
    · exact List.mem_cons_of_mem _ (dlFams_mem h)
  | (i, none) :: r, h => by
    rw [dlFams]
    rcases List.mem_cons.1 h with h | h
    · cases h
    · exact dlFams_mem h

theorem famsOf_mem {bs : List (Nat × Option HB)} {id : Nat} {g : HB} (hg : look bs id = some g) : ∀ {l : List Nat}, id ∈ l → g.fam ∈ famsOf bs l
  | x :: r, h => by
    rw [famsOf]
    by_cases hx : x = id
    · subst hx; rw [hg]; exact List.mem_cons_self
    · have hr : id ∈ r := by
        rcases List.mem_cons.1 h with h | h
        · exact absurd h.symm hx
        · exact h
      cases look bs x with
      | none => exact famsOf_mem hg hr
      | some g' => exact List.mem_cons_of_mem _ (famsOf_mem hg hr)

theorem famClosed_spec {bs : List (Nat × Option HB)} {needs fams : List Nat} (h : famClosed bs needs fams = true) {id : Nat} {g : HB} (hg : look bs id = some g) (hf : g.fam ∈ fams) : id ∈ needs := by
  have := List.all_eq_true.1 h _ (mem_of_look hg)
  simp only [hg] at this
  rw [has_iff.2 hf] at this
  exact has_iff.1 (by simpa using this)

theorem pickT_mem {T : Tmps} : ∀ {l : List Nat} {t : Nat}, t ∈ l → (t, tget T t) ∈ pickT T l
  | x :: l, t, h => by
    rw [pickT]
    rcases List.mem_cons.1 h with h | h
    · subst h; exact List.mem_cons_self
    · exact List.mem_cons_of_mem _ (pickT_mem h)

theorem pickH_mem {bs : List (Nat × Option HB)} : ∀ {l : List Nat} {t : Nat}, t ∈ l → (t, look bs t) ∈ pickH bs l
  | x :: l, t, h => by
    rw [pickH]
    rcases List.mem_cons.1 h with h | h
    · subst h; exact List.mem_cons_self
    · exact List.mem_cons_of_mem _ (pickH_mem h)

theorem below_t {N : Nat} {T : Tmps} {bs : List (Nat × Option HB)} (h : below N T bs = true) {t : Nat} {v : AV} (hv : (t, v) ∈ T) : ∀ i ∈ v.ids, i < N := by
  unfold below at h
  rw [Bool.and_eq_true] at h
  intro i hi
  have := List.all_eq_true.1 (List.all_eq_true.1 h.1 _ hv) i hi
  simpa using this

theorem below_h {N : Nat} {T : Tmps} {bs : List (Nat × Option HB)} (h : below N T bs = true) {t : Nat} {v : Option HB} (hv : (t, v) ∈ bs) : t < N ∧ ∀ g, v = some g → ∀ i ∈ g.blk.ids, i < N := by
  unfold below at h
  rw [Bool.and_eq_true] at h
  have := List.all_eq_true.1 h.2 _ hv
  rw [Bool.and_eq_true] at this
  refine ⟨by simpa using this.1, fun g hg i hi => ?_⟩
  subst hg
  have := List.all_eq_true.1 this.2 i hi
  simpa using this

/-! ### What stands while some are listed -/

def dummy : Ent := ⟨none, 0, 0, 1, 0⟩

theorem dummy_not : ¬ Useful dummy := by
  rintro (h | h)
  · exact h rfl
  · cases h

def pad (E : Env) (N : Nat) : Env := fun id => if id < N then some ((E id).getD dummy) else none

theorem pad_some {E : Env} {N id : Nat} {ent : Ent} (h : E id = some ent) (hi : id < N) : pad E N id = some ent := by simp [pad, h, hi]

theorem pad_useful {E : Env} {N id : Nat} {ent : Ent} (h : pad E N id = some ent) (hu : Useful ent) : E id = some ent := by
  unfold pad at h
  split at h
  · cases he : E id with
    | none => rw [he] at h; simp at h; subst h; exact absurd hu dummy_not
    | some e => rw [he] at h; simp at h; subst h; rfl
  · cases h

structure Inv (H0 : Heap) (E0 : Env) (w0 : World) (T0 : Tmps) (nt : Nat) (effs : List Eff) (p : Nat → Bool) (E : Env) (a : Act) (w : World) : Prop where
  t : TRel E (effTP effs 0 p T0) a
  live : ∀ id hb, look (effHP effs 0 p H0.bs) id = some hb → ∃ ent, E id = some ent ∧ BRel E ent hb w
  fam : ∀ i j hi hj ei ej r, look (effHP effs 0 p H0.bs) i = some hi → look (effHP effs 0 p H0.bs) j = some hj → E i = some ei → E j = some ej → ei.r = some r → ej.r = some r → hi.fam = hj.fam
  dom : ∀ id ent, E id = some ent → id < H0.next ∨ ∃ i e, effs[i]? = some e ∧ p i = true ∧ e.own ≤ id ∧ id < e.nxt
  ext : Ext E0 E
  fr : Fr E0 H0 w0 E ⟨0, effHP effs 0 p H0.bs⟩ w
  d : a.defers = []
  n : a.tmps.size = nt

section
variable {P : Program} {R : Type} {C : Cx R} {prev : Prev R}

/-- What is checked of the row. -/
structure Row (P : Program) (ops : Array Oper) (tab : List (List Nat)) (nt : Nat) (T0 : Tmps) (H0 : Heap) (effs : List Eff) (N : Nat) : Prop where
  len : effs.length = ops.size
  ok : ∀ i, i < ops.size → EffOk P ops.toList tab nt T0 H0 effs i
  slots : slotsOk ops.toList tab = true
  clash : clashFree effs tab = true
  asc : asc H0.next effs N = true

section
variable {ops : Array Oper} {tab : List (List Nat)} {nt : Nat} {T0 : Tmps} {H0 : Heap} {effs : List Eff} {N : Nat}

theorem Row.chk (h : Row P ops tab nt T0 H0 effs N) {i : Nat} {o : Oper} (ho : ops[i]? = some o) : opChk ops.toList tab i o = true := by
  have hi : i < ops.size := (Array.getElem?_eq_some_iff.1 ho).1
  have := List.all_eq_true.1 h.slots i (List.mem_range.2 (by simpa using hi))
  rw [Array.getElem?_toList, ho] at this
  exact this

theorem Row.at (h : Row P ops tab nt T0 H0 effs N) {i : Nat} (hi : i < ops.size) : ∃ o e, ops[i]? = some o ∧ effs[i]? = some e ∧ e.dst = o.dst ∧ ((Wants effs o false ∧ e.v = .u ∧ e.dl = []) ∨ GoOk P ops.toList tab nt T0 H0 effs i o e) := by
  obtain ⟨o, e, ho, hr⟩ := h.ok i hi
  exact ⟨o, e, by rw [← Array.getElem?_toList]; exact ho, hr⟩

theorem Row.lt (h : Row P ops tab nt T0 H0 effs N) {i : Nat} {o : Oper} (ho : ops[i]? = some o) {x : Nat} (hx : has (getL tab i) x = true) : x < i ∧ ∃ e ∈ bindsOf o, e.on = x ∨ has (getL tab e.on) x = true := by
  have := h.chk ho
  unfold opChk at this
  simp only [Bool.and_eq_true] at this
  have := List.all_eq_true.1 this.1.1.1 x (has_iff.1 hx)
  rw [Bool.and_eq_true, List.any_eq_true] at this
  obtain ⟨h1, e, h2, h3⟩ := this
  refine ⟨by simpa using h1, e, h2, ?_⟩
  rw [Bool.or_eq_true] at h3
  rcases h3 with h3 | h3
  · exact .inl (beq_eq h3)
  · exact .inr h3

theorem Row.edge (h : Row P ops tab nt T0 H0 effs N) {i : Nat} {o : Oper} (ho : ops[i]? = some o) {e : Edge} (he : e ∈ bindsOf o) : has (getL tab i) e.on = true := by
  have := h.chk ho
  unfold opChk at this
  simp only [Bool.and_eq_true] at this
  exact List.all_eq_true.1 this.1.1.2 e he

theorem Row.guard (h : Row P ops tab nt T0 H0 effs N) {i : Nat} {o : Oper} (ho : ops[i]? = some o) {g : Nat} {want : Bool} (hg : o.guard = some (g, want)) : has (getL tab i) g = true := by
  have := h.chk ho
  unfold opChk at this
  simp only [Bool.and_eq_true] at this
  have := this.1.2
  rw [hg] at this
  exact this

theorem Row.dst (h : Row P ops tab nt T0 H0 effs N) {i j : Nat} {oi oj : Oper} (hij : i ≠ j) (hi : ops[i]? = some oi) (hj : ops[j]? = some oj) {d : Nat} (hd : oi.dst = some d) :
    oj.dst ≠ some d ∧ (free tab i j = true → d ∉ looksAt ops.toList oj) := by
  have := h.chk hi
  unfold opChk at this
  simp only [Bool.and_eq_true] at this
  have := this.2
  rw [hd] at this
  have hjs : j < ops.size := (Array.getElem?_eq_some_iff.1 hj).1
  have := List.all_eq_true.1 this j (List.mem_range.2 (by simpa using hjs))
  rw [beq_ne hij, Bool.false_or, Array.getElem?_toList, hj, Bool.and_eq_true] at this
  refine ⟨fun hh => ?_, fun hf hm => ?_⟩
  · have h1 := this.1
    rw [hh] at h1
    simp at h1
  · have h2 := this.2
    rw [hf, has_iff.2 hm] at h2
    cases h2

theorem Row.apart (h : Row P ops tab nt T0 H0 effs N) {i j : Nat} {a b : Eff} (hi : effs[i]? = some a) (hj : effs[j]? = some b) (hf : free tab i j = true) :
    (∀ x, (a.dl.any fun y => y.1 == x) = true → x ∉ b.needs ∧ (b.dl.any fun y => y.1 == x) = false) ∧ ∀ id g, (id, some g) ∈ a.dl → g.fam ∉ b.fams := by
  have := List.all_eq_true.1 (List.all_eq_true.1 h.clash i (List.mem_range.2 (List.getElem?_eq_some_iff.1 hi).1)) j (List.mem_range.2 (List.getElem?_eq_some_iff.1 hj).1)
  rw [hf, hi, hj] at this
  simp only [Bool.not_true, Bool.false_or, Bool.and_eq_true] at this
  obtain ⟨⟨h1, h2⟩, h3⟩ := this
  refine ⟨fun x hx => ?_, fun id g hm hh => ?_⟩
  · rw [any_has] at hx
    have hx := has_iff.1 hx
    refine ⟨fun hm => ?_, ?_⟩
    · have := noneOf_spec h1 hx
      rw [has_iff.2 hm] at this; cases this
    · rw [any_has]; exact noneOf_spec h2 hx
  · have := noneOf_spec h3 (dlFams_mem hm)
    rw [has_iff.2 hh] at this; cases this

theorem free_of {i j : Nat} (h1 : i ≠ j) (h2 : has (getL tab i) j = false) (h3 : has (getL tab j) i = false) : free tab i j = true := by
  unfold free
  rw [beq_ne h1, h2, h3]; rfl

/-- What is listed holds all that it waited for. -/
def Closed (tab : List (List Nat)) (p : Nat → Bool) : Prop := ∀ i, p i = true → ∀ x, has (getL tab i) x = true → p x = true

theorem wanted_of (h : Row P ops tab nt T0 H0 effs N) {E0 : Env} {w0 : World} {p : Nat → Bool} {E : Env} {a : Act} {w : World} (hI : Inv H0 E0 w0 T0 nt effs p E a w) {j : Nat} {o : Oper} (ho : ops[j]? = some o)
    (hsub : ∀ x, has (getL tab j) x = true → p x = true) {b : Bool} (hw : Wants effs o b) : Region.wanted o (yielded ops a.tmps) = b := by
  unfold Wants at hw
  unfold Region.wanted
  cases hg : o.guard with
  | none => rw [hg] at hw; exact hw.symm
  | some gw =>
    obtain ⟨g, want⟩ := gw
    rw [hg] at hw
    obtain ⟨e, he, hw⟩ := hw
    have hpg := hsub g (h.guard ho hg)
    have hgl : g < ops.size := by rw [← h.len]; exact (List.getElem?_eq_some_iff.1 he).1
    obtain ⟨og, e', hog, he', hdst, _⟩ := h.at hgl
    rw [he] at he'; cases he'
    have hy : ∀ d, e.dst = some d → yielded ops a.tmps g = match a.tmps[d]? with | some (.bool b) => some b | _ => none := by
      intro d hd
      unfold yielded
      rw [hog, Option.bind_some, ← hdst, hd, Option.bind_some]; rfl
    have hval : ∀ d, e.dst = some d → VRel E e.v (a.tmps.getD d undef) := by
      intro d hd
      have := hI.t d
      rw [effTP_at effs 0 T0 g e he (by simpa using hpg) hd (fun k e' hk he' => by
        have hkl : k < ops.size := by rw [← h.len]; exact (List.getElem?_eq_some_iff.1 he').1
        obtain ⟨ok, e2, hok, he2, hdk, _⟩ := h.at hkl
        rw [he'] at he2; cases he2
        rw [hdk]
        exact (h.dst (Ne.symm hk) hog hok (by rw [← hdst]; exact hd)).1)] at this
      exact this
    rcases hw with ⟨hd, rfl⟩ | ⟨d, hd, hw⟩
    · have : yielded ops a.tmps g = none := by
        unfold yielded
        rw [hog, Option.bind_some, ← hdst, hd]; rfl
      simp only [this]; rfl
    · have hv := hval d hd
      rw [Array.getD_eq_getD_getElem?] at hv
      simp only [hy d hd]
      rcases hw with ⟨x, hx, rfl⟩ | ⟨hx, rfl⟩
      · rw [hx] at hv
        cases hxa : a.tmps[d]? with
        | none => rw [hxa] at hv; simp only [Option.getD_none] at hv; cases hv
        | some xv => rw [hxa] at hv; simp only [Option.getD_some] at hv; cases hv; cases x <;> cases want <;> rfl
      · rw [hx] at hv
        cases hxa : a.tmps[d]? with
        | none => rfl
        | some xv => rw [hxa] at hv; simp only [Option.getD_some] at hv; cases hv; rfl

theorem look_with {T : Tmps} {p : Nat → Bool} {j : Nat} (hp : p j = false) {i : Nat} : (p i || Nat.beq i j) = true ↔ p i = true ∨ i = j := by
  rw [Bool.or_eq_true]
  exact ⟨fun h => h.imp (fun h => h) (fun h => beq_eq h), fun h => h.imp (fun h => h) (fun h => by subst h; exact beq_self _)⟩

/-- One that is passed by. -/
theorem step_skip (h : Row P ops tab nt T0 H0 effs N) {E0 : Env} {w0 : World} {p : Nat → Bool} {E : Env} {a : Act} {w : World} (hI : Inv H0 E0 w0 T0 nt effs p E a w) {j : Nat} {o : Oper} {e : Eff} (ho : ops[j]? = some o)
    (he : effs[j]? = some e) (hd : e.dst = o.dst) (hv : e.v = .u) (hdl : e.dl = []) : Inv H0 E0 w0 T0 nt effs (fun i => p i || Nat.beq i j) E (a.put o.dst undef) w := by
  have hlook : ∀ id, look (effHP effs 0 (fun i => p i || Nat.beq i j) H0.bs) id = look (effHP effs 0 p H0.bs) id := by
    intro id
    refine effHP_same effs 0 _ _ (fun i e' he' hany => ?_) rfl
    by_cases hij : i = j
    · subst hij; rw [he] at he'; cases he'; rw [hdl] at hany; cases hany
    · simp only [Nat.zero_add]; rw [beq_ne hij, Bool.or_false]
  refine ⟨fun t => ?_, fun id hb hg => hI.live id hb (by rw [← hlook]; exact hg), fun i k hi hk ei ek r h1 h2 => hI.fam i k hi hk ei ek r (by rw [← hlook]; exact h1) (by rw [← hlook]; exact h2), fun id ent hid => ?_, hI.ext,
    ⟨hI.fr.os, hI.fr.tape, hI.fr.output, hI.fr.size, hI.fr.keep, ?_⟩, by rw [put_defers]; exact hI.d, by rw [put_size]; exact hI.n⟩
  · by_cases ht : e.dst = some t
    · rw [effTP_at effs 0 T0 j e he (by simp) ht (fun k e' hk he' => by
        have hkl : k < ops.size := by rw [← h.len]; exact (List.getElem?_eq_some_iff.1 he').1
        obtain ⟨ok, e2, hok, he2, hdk, _⟩ := h.at hkl
        rw [he'] at he2; cases he2
        rw [hdk]
        exact (h.dst (Ne.symm hk) ho hok (by rw [← hd]; exact ht)).1), hv]
      rw [hd] at ht
      rw [ht]
      show VRel E .u ((a.tmps.setIfInBounds t undef).getD t undef)
      rw [Array.getD_eq_getD_getElem?, Array.getElem?_setIfInBounds, if_pos rfl]
      split <;> exact .u
    · rw [effTP_same (q := p) effs 0 T0 T0 (fun i e' he' hdt => by
        by_cases hij : i = j
        · subst hij; rw [he] at he'; cases he'; exact absurd hdt ht
        · simp only [Nat.zero_add]; rw [beq_ne hij, Bool.or_false]) rfl]
      have : (a.put o.dst undef).tmps.getD t undef = a.tmps.getD t undef := by
        cases hod : o.dst with
        | none => rfl
        | some d =>
          have hne : d ≠ t := fun hh => ht (by rw [hd, hod, hh])
          show (a.tmps.setIfInBounds d undef).getD t undef = _
          rw [Array.getD_eq_getD_getElem?, Array.getElem?_setIfInBounds, if_neg hne, ← Array.getD_eq_getD_getElem?]
      rw [this]; exact hI.t t
  · rcases hI.dom id ent hid with h1 | ⟨i, e', h1, h2, h3⟩
    · exact .inl h1
    · exact .inr ⟨i, e', h1, by simp [h2], h3⟩
  · rintro b ⟨id, hb, ent, hg, hent, hr⟩ hlt
    exact hI.fr.new b ⟨id, hb, ent, (hlook id).symm.trans hg, hent, hr⟩ hlt

/-- One that is carried out. -/
theorem step_go (h : Row P ops tab nt T0 H0 effs N) {E0 : Env} {w0 : World} {p : Nat → Bool} (hcl : Closed tab p) {E : Env} {a : Act} {w : World} (hI : Inv H0 E0 w0 T0 nt effs p E a w) {j : Nat} {o : Oper} {e : Eff} (ho : ops[j]? = some o)
    (hpj : p j = false) (hsub : ∀ x, has (getL tab j) x = true → p x = true) (he : effs[j]? = some e) (hd : e.dst = o.dst) (hgo : GoOk P ops.toList tab nt T0 H0 effs j o e) {next : Act → World → Prop} {Q : Exit → Act → World → Prop}
    (hn : ∀ E' a' w', Inv H0 E0 w0 T0 nt effs (fun i => p i || Nat.beq i j) E' a' w' → next a' w') : o.wp P a w next Q := by
  obtain ⟨_, hdst, hfc, hfams, hbel, H', hO, hbs', hnx⟩ := hgo
  obtain ⟨as1, as2, as3⟩ := asc_spec _ _ _ h.asc
  -- those listed that did not have to be
  have hfree : ∀ i, p i = true → has (getL tab j) i = false → free tab i j = true := fun i hi hti =>
    free_of (fun hh => by subst hh; rw [hi] at hpj; cases hpj) (by
      cases hh : has (getL tab i) j with
      | false => rfl
      | true => rw [hcl i hi j hh] at hpj; cases hpj) hti
  generalize hbsj : effHP effs 0 (has (getL tab j)) H0.bs = bsj at hfc hfams hbel hO hbs'
  have hlookN : ∀ id, id ∈ e.needs → look bsj id = look (effHP effs 0 p H0.bs) id := by
    intro id hid
    rw [← hbsj]
    refine effHP_same effs 0 _ _ (fun i e' he' hany => ?_) rfl
    rw [Nat.zero_add]
    cases hti : has (getL tab j) i with
    | true => rw [hsub i hti]
    | false =>
      cases hpi : p i with
      | false => rfl
      | true => exact absurd hid ((h.apart he' he (hfree i hpi hti)).1 id hany).1
  -- (1)
  have hE1 : TRel (pad E e.own) (pickT (effTP effs 0 (has (getL tab j)) T0) (looksAt ops.toList o)) a := by
    intro t
    rw [tget_pickT]
    by_cases ht : t ∈ looksAt ops.toList o
    · rw [if_pos ht]
      have hsame : tget (effTP effs 0 (has (getL tab j)) T0) t = tget (effTP effs 0 p T0) t := by
        refine effTP_same effs 0 _ _ (fun i e' he' hdt => ?_) rfl
        rw [Nat.zero_add]
        cases hti : has (getL tab j) i with
        | true => rw [hsub i hti]
        | false =>
          cases hpi : p i with
          | false => rfl
          | true =>
            have hil : i < ops.size := by rw [← h.len]; exact (List.getElem?_eq_some_iff.1 he').1
            obtain ⟨oi, e2, hoi, he2, hdi, _⟩ := h.at hil
            rw [he'] at he2; cases he2
            have hf := hfree i hpi hti
            exact absurd ht ((h.dst (fun hh => by subst hh; rw [hpi] at hpj; cases hpj) hoi ho (by rw [← hdi]; exact hdt)).2 hf)
      have hlow := below_t hbel (pickT_mem ht)
      rw [hsame] at hlow ⊢
      exact (hI.t t).on fun id hid ent hent _ => pad_some hent (hlow id hid)
    · rw [if_neg ht]; exact .junk _
  -- (2)
  have hpick : ∀ id hb, look (pickH bsj e.needs) id = some hb → id ∈ e.needs ∧ look (effHP effs 0 p H0.bs) id = some hb ∧ id < e.own ∧ ∀ i ∈ hb.blk.ids, i < e.own := by
    intro id hb hg
    rw [look_pickH] at hg
    by_cases hid : id ∈ e.needs
    · rw [if_pos hid] at hg
      obtain ⟨b1, b2⟩ := below_h hbel (pickH_mem hid)
      exact ⟨hid, by rw [← hlookN id hid]; exact hg, b1, b2 hb hg⟩
    · rw [if_neg hid] at hg; cases hg
  have hE2 : HRel (pad E e.own) ⟨e.own, pickH bsj e.needs⟩ w := by
    refine ⟨fun id hid => ?_, fun id hb hg => ?_, ?_, fun id hid => ?_⟩
    · have : ¬ id < e.own := Nat.not_lt.2 hid
      simp [pad, this]
    · obtain ⟨h1, h2, h3, h4⟩ := hpick id hb hg
      obtain ⟨ent, hent, hB⟩ := hI.live id hb h2
      exact ⟨ent, pad_some hent h3, hB.on (fun _ _ => rfl) fun i hi ent hent _ => pad_some hent (h4 i hi)⟩
    · intro i k hi hk ei ek r hgi hgk hei hek hri hrk
      obtain ⟨_, h2, _⟩ := hpick i hi hgi
      obtain ⟨_, k2, _⟩ := hpick k hk hgk
      exact hI.fam i k hi hk ei ek r h2 k2 (pad_useful hei (.inl (by rw [hri]; simp))) (pad_useful hek (.inl (by rw [hrk]; simp))) hri hrk
    · have hid : id < e.own := hid
      simp [pad, hid]
  refine hO (pad E e.own) a w hE1 hE2 next Q fun x E1 w1 hx hH1 hext1 hfr1 => ?_
  -- names
  have hEj : ∀ id, e.own ≤ id → id < e.nxt → E id = none := by
    intro id h1 h2
    cases hid : E id with
    | none => rfl
    | some ent =>
      exfalso
      rcases hI.dom id ent hid with h3 | ⟨i, e', h3, h4, h5, h6⟩
      · have := (as1 j e he).1; omega
      · by_cases hij : i = j
        · subst hij; rw [h4] at hpj; cases hpj
        · rcases Nat.lt_or_ge i j with hlt | hge
          · have := as2 i j e' e hlt h3 he; omega
          · have := as2 j i e e' (by omega) he h3; omega
  let E' : Env := fun id => match E id with
    | some ent => some ent
    | none => if e.own ≤ id ∧ id < e.nxt then E1 id else none
  have k1 : Ext E E' := fun id ent hid => by simp only [E']; rw [hid]
  have k2 : ∀ id ent, E1 id = some ent → Useful ent → E' id = some ent := by
    intro id ent hid hu
    by_cases hlt : id < e.own
    · have h1 := hext1 id ((E id).getD dummy) (by simp [pad, hlt])
      rw [hid] at h1
      cases hE : E id with
      | some ent' => rw [hE] at h1; simp only [E']; rw [hE]; exact h1.symm
      | none => rw [hE] at h1; cases h1; exact absurd hu dummy_not
    · have hlt2 : id < e.nxt := by
        rcases Nat.lt_or_ge id e.nxt with hh | hh
        · exact hh
        · have := hH1.dom id (by rw [hnx]; exact hh)
          rw [hid] at this; cases this
      simp only [E']
      rw [hEj id (by omega) hlt2]
      simp only
      rw [if_pos ⟨by omega, hlt2⟩]; exact hid
  have k3 : ∀ id ent, E' id = some ent → E id = some ent ∨ (e.own ≤ id ∧ id < e.nxt ∧ E1 id = some ent) := by
    intro id ent hid
    simp only [E'] at hid
    cases hE : E id with
    | some ent' => rw [hE] at hid; exact .inl hid
    | none =>
      rw [hE] at hid
      simp only at hid
      split at hid
      · rename_i hh; exact .inr ⟨hh.1, hh.2, hid⟩
      · cases hid
  -- the table
  have tIn : ∀ id, (e.dl.any fun y => y.1 == id) = true → look (effHP effs 0 (fun i => p i || Nat.beq i j) H0.bs) id = look H'.bs id := by
    intro id hany
    rw [effHP_at effs 0 H0.bs j e he (by simp) hany (fun i e' hji he' hp' => by
      rw [Nat.zero_add] at hp'
      have hij : i ≠ j := by omega
      rw [beq_ne hij, Bool.or_false] at hp'
      have hti : has (getL tab j) i = false := by
        cases hh : has (getL tab j) i with
        | false => rfl
        | true => have := (h.lt ho hh).1; omega
      have hf := hfree i hp' hti
      have hf' : free tab j i = true := free_of (Ne.symm hij) hti (by
        cases hh : has (getL tab i) j with
        | false => rfl
        | true => rw [hcl i hp' j hh] at hpj; cases hpj)
      exact ((h.apart he he' hf').1 id hany).2), hbs', look_append, if_pos hany]
  have tOut : ∀ id, (e.dl.any fun y => y.1 == id) = false → look (effHP effs 0 (fun i => p i || Nat.beq i j) H0.bs) id = look (effHP effs 0 p H0.bs) id := by
    intro id hany
    refine effHP_same effs 0 _ _ (fun i e' he' hany' => ?_) rfl
    by_cases hij : i = j
    · subst hij; rw [he] at he'; cases he'; rw [hany] at hany'; cases hany'
    · simp only [Nat.zero_add]; rw [beq_ne hij, Bool.or_false]
  have tA : ∀ id, ((e.dl.any fun y => y.1 == id) = true ∨ id ∈ e.needs) → look (effHP effs 0 (fun i => p i || Nat.beq i j) H0.bs) id = look H'.bs id := by
    intro id hA
    cases hany : (e.dl.any fun y => y.1 == id) with
    | true => exact tIn id hany
    | false =>
      have hid : id ∈ e.needs := hA.resolve_left (by rw [hany]; simp)
      rw [tOut id hany, hbs', look_append, hany]
      simp only [Bool.false_eq_true, if_false]
      rw [look_pickH, if_pos hid, hlookN id hid]
  -- blocks that it has nothing to do with
  have tB : ∀ id hb ent r, (e.dl.any fun y => y.1 == id) = false → id ∉ e.needs → look (effHP effs 0 p H0.bs) id = some hb → E id = some ent → ent.r = some r →
      r < w.heap.size ∧ ¬ Tr (pad E e.own) ⟨e.own, pickH bsj e.needs⟩ r := by
    intro id hb ent r hany hid hg hent hr
    obtain ⟨ent', hent', hB⟩ := hI.live id hb hg
    rw [hent] at hent'; cases hent'
    refine ⟨(hB.lies r hr).lt, ?_⟩
    rintro ⟨id', hb', ent', hg', hent', hr'⟩
    obtain ⟨h1, h2, h3, h4⟩ := hpick id' hb' hg'
    have hE' := pad_useful hent' (.inl (by rw [hr']; simp))
    have hfam := hI.fam id id' hb hb' ent ent' r hg h2 hent hE' hr hr'
    have hfm : hb.fam ∈ e.fams := by
      rw [hfam, hfams]
      exact famsOf_mem (by rw [hlookN id' h1]; exact h2) h1
    have := effHP_from (Z := False) (p := p) (q := has (getL tab j)) (id := id) (g := hb) (fun i hi => hsub i hi) effs 0 H0.bs H0.bs (fun i e' he' hpi hti hm => by
      rw [Nat.zero_add] at hpi hti
      exact (h.apart he' he (hfree i hpi hti)).2 id hb hm hfm) (fun hh => .inr hh) hg
    rcases this with hh | hh
    · exact hh
    · rw [hbsj] at hh
      exact hid (famClosed_spec hfc hh hfm)
  have liveA : ∀ id hb, ((e.dl.any fun y => y.1 == id) = true ∨ id ∈ e.needs) → look (effHP effs 0 (fun i => p i || Nat.beq i j) H0.bs) id = some hb → H'.get id = some hb ∧ ∃ ent, E1 id = some ent ∧ E' id = some ent ∧ BRel E1 ent hb w1 := by
    intro id hb hA hg
    rw [tA id hA] at hg
    obtain ⟨ent, hent, hB⟩ := hH1.live id hb hg
    exact ⟨hg, ent, hent, k2 id ent hent hB.useful, hB⟩
  have split2 : ∀ id, ((e.dl.any fun y => y.1 == id) = true ∨ id ∈ e.needs) ∨ ((e.dl.any fun y => y.1 == id) = false ∧ id ∉ e.needs) := by
    intro id
    cases hany : (e.dl.any fun y => y.1 == id) with
    | true => exact .inl (.inl rfl)
    | false =>
      by_cases hid : id ∈ e.needs
      · exact .inl (.inr hid)
      · exact .inr ⟨rfl, hid⟩
  have trUp : ∀ b, Tr (pad E e.own) ⟨e.own, pickH bsj e.needs⟩ b → Tr E ⟨0, effHP effs 0 p H0.bs⟩ b := by
    rintro b ⟨id', hb', ent', hg', hent', hr'⟩
    obtain ⟨h1, h2, h3, h4⟩ := hpick id' hb' hg'
    exact ⟨id', hb', ent', h2, pad_useful hent' (.inl (by rw [hr']; simp)), hr'⟩
  refine hn E' _ w1 ⟨fun t => ?_, fun id hb hg => ?_, ?_, fun id ent hid => ?_, fun id ent hid => k1 id ent (hI.ext id ent hid), ⟨hfr1.os.trans hI.fr.os, hfr1.tape.trans hI.fr.tape, hfr1.output.trans hI.fr.output,
    Nat.le_trans hI.fr.size hfr1.size, fun b hb ht => ?_, ?_⟩, by rw [put_defers]; exact hI.d, by rw [put_size]; exact hI.n⟩
  · by_cases ht : e.dst = some t
    · rw [effTP_at effs 0 T0 j e he (by simp) ht (fun k e' hk he' => by
        have hkl : k < ops.size := by rw [← h.len]; exact (List.getElem?_eq_some_iff.1 he').1
        obtain ⟨ok, e2, hok, he2, hdk, _⟩ := h.at hkl
        rw [he'] at he2; cases he2
        rw [hdk]
        exact (h.dst (Ne.symm hk) ho hok (by rw [← hd]; exact ht)).1)]
      rw [hd] at ht
      rw [ht]
      show VRel E' e.v ((a.tmps.setIfInBounds t x).getD t undef)
      have hlt : t < a.tmps.size := by rw [hI.n]; exact hdst t ht
      rw [Array.getD_eq_getD_getElem?, Array.getElem?_setIfInBounds, if_pos rfl, if_pos hlt]
      exact hx.on fun id _ ent hid hu => k2 id ent hid hu
    · rw [effTP_same (q := p) effs 0 T0 T0 (fun i e' he' hdt => by
        by_cases hij : i = j
        · subst hij; rw [he] at he'; cases he'; exact absurd hdt ht
        · simp only [Nat.zero_add]; rw [beq_ne hij, Bool.or_false]) rfl]
      have : (a.put o.dst x).tmps.getD t undef = a.tmps.getD t undef := by
        cases hod : o.dst with
        | none => rfl
        | some d =>
          have hne : d ≠ t := fun hh => ht (by rw [hd, hod, hh])
          show (a.tmps.setIfInBounds d x).getD t undef = _
          rw [Array.getD_eq_getD_getElem?, Array.getElem?_setIfInBounds, if_neg hne, ← Array.getD_eq_getD_getElem?]
      rw [this]; exact (hI.t t).mono k1
  · rcases split2 id with hA | ⟨hB1, hB2⟩
    · obtain ⟨_, ent, _, h2, h3⟩ := liveA id hb hA hg
      exact ⟨ent, h2, h3.on (fun _ _ => rfl) fun i _ ent hi hu => k2 i ent hi hu⟩
    · rw [tOut id hB1] at hg
      obtain ⟨ent, hent, hB⟩ := hI.live id hb hg
      refine ⟨ent, k1 id ent hent, hB.on (fun r hr => ?_) fun i _ ent hi _ => k1 i ent hi⟩
      obtain ⟨h1, h2⟩ := tB id hb ent r hB1 hB2 hg hent hr
      exact hfr1.keep r h1 h2
  · intro i k hi hk ei ek r hgi hgk hei hek hri hrk
    have mixed : ∀ i k hi hk ei ek r, ((e.dl.any fun y => y.1 == i) = true ∨ i ∈ e.needs) → (e.dl.any fun y => y.1 == k) = false → k ∉ e.needs → look (effHP effs 0 (fun i => p i || Nat.beq i j) H0.bs) i = some hi →
        look (effHP effs 0 (fun i => p i || Nat.beq i j) H0.bs) k = some hk → E' i = some ei → E' k = some ek → ei.r = some r → ek.r = some r → False := by
      intro i k hi hk ei ek r hA hB1 hB2 hgi hgk hei hek hri hrk
      obtain ⟨h0, ent, h1, h2, h3⟩ := liveA i hi hA hgi
      rw [hei] at h2; cases h2
      rw [tOut k hB1] at hgk
      obtain ⟨ent', hent', hB⟩ := hI.live k hk hgk
      rw [k1 k ent' hent'] at hek; cases hek
      obtain ⟨h4, h5⟩ := tB k hk ek r hB1 hB2 hgk hent' hrk
      exact h5 (hfr1.new r ⟨i, hi, ei, h0, h1, hri⟩ h4)
    rcases split2 i with hA | ⟨hB1, hB2⟩ <;> rcases split2 k with hA' | ⟨hB1', hB2'⟩
    · obtain ⟨h0, ent, h1, h2, h3⟩ := liveA i hi hA hgi
      rw [hei] at h2; cases h2
      obtain ⟨h0', ent', h1', h2', h3'⟩ := liveA k hk hA' hgk
      rw [hek] at h2'; cases h2'
      exact hH1.fam i k hi hk ei ek r h0 h0' h1 h1' hri hrk
    · exact (mixed i k hi hk ei ek r hA hB1' hB2' hgi hgk hei hek hri hrk).elim
    · exact (mixed k i hk hi ek ei r hA' hB1 hB2 hgk hgi hek hei hrk hri).elim
    · rw [tOut i hB1] at hgi
      rw [tOut k hB1'] at hgk
      obtain ⟨ent, hent, _⟩ := hI.live i hi hgi
      rw [k1 i ent hent] at hei; cases hei
      obtain ⟨ent', hent', _⟩ := hI.live k hk hgk
      rw [k1 k ent' hent'] at hek; cases hek
      exact hI.fam i k hi hk ei ek r hgi hgk hent hent' hri hrk
  · rcases k3 id ent hid with h1 | ⟨h1, h2, _⟩
    · rcases hI.dom id ent h1 with h1 | ⟨i, e', h1, h2, h3⟩
      · exact .inl h1
      · exact .inr ⟨i, e', h1, by simp [h2], h3⟩
    · exact .inr ⟨j, e, he, by simp, h1, h2⟩
  · have h1 := hI.fr.keep b hb ht
    rw [← h1]
    exact hfr1.keep b (Nat.lt_of_lt_of_le hb hI.fr.size) fun ht' => ht (hI.fr.new b (trUp b ht') hb)
  · rintro b ⟨id, hb, ent, hg, hent, hr⟩ hlt
    have hg : look (effHP effs 0 (fun i => p i || Nat.beq i j) H0.bs) id = some hb := hg
    have hltw := Nat.lt_of_lt_of_le hlt hI.fr.size
    refine hI.fr.new b ?_ hlt
    rcases split2 id with hA | ⟨hB1, hB2⟩
    · obtain ⟨h0, ent', h1, h2, h3⟩ := liveA id hb hA hg
      rw [hent] at h2; cases h2
      exact trUp b (hfr1.new b ⟨id, hb, ent, h0, h1, hr⟩ hltw)
    · rw [tOut id hB1] at hg
      obtain ⟨ent', hent', _⟩ := hI.live id hb hg
      rw [k1 id ent' hent'] at hent; cases hent
      exact ⟨id, hb, ent, hg, hent', hr⟩

end
end
end Go.Ab
