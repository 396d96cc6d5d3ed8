/- Regions whose order is open. Conditions: none. -/
import Derived.Test.YtnbmconaglehbaaAb17
namespace Go.Ab
set_option linter.unusedVariables false
set_option linter.unusedSimpArgs false
open Go

section
variable {P : Program} {R : Type} {C : Cx R} {prev : Prev R}

/-! ### Effects of those that are listed -/

def effTP : List Eff → Nat → (Nat → Bool) → Tmps → Tmps
  | [], _, _, T => T
  | e :: r, i, p, T => effTP r (i + 1) p (match p i, e.dst with | true, some d => (d, e.v) :: T | _, _ => T)

def effHP : List Eff → Nat → (Nat → Bool) → List (Nat × Option HB) → List (Nat × Option HB)
  | [], _, _, H => H
  | e :: r, i, p, H => effHP r (i + 1) p (match p i with | true => e.dl ++ H | false => H)

theorem effT_eq : ∀ (effs : List Eff) (i : Nat) (ps : List Nat) (T : Tmps), effT effs i ps T = effTP effs i (has ps) T
  | [], _, _, _ => rfl
  | e :: r, i, ps, T => by rw [effT, effTP, effT_eq]; rfl

theorem effH_eq : ∀ (effs : List Eff) (i : Nat) (ps : List Nat) (H : List (Nat × Option HB)), effH effs i ps H = effHP effs i (has ps) H
  | [], _, _, _ => rfl
  | e :: r, i, ps, T => by rw [effH, effHP, effH_eq]; rfl

theorem effTP_same {t : Nat} {p q : Nat → Bool} : ∀ (effs : List Eff) (k : Nat) (T T' : Tmps), (∀ i e, effs[i]? = some e → e.dst = some t → p (k + i) = q (k + i)) → tget T t = tget T' t →
    tget (effTP effs k p T) t = tget (effTP effs k q T') t
  | [], k, T, T', _, h => h
  | e :: r, k, T, T', hp, h => by
    rw [effTP, effTP]
    refine effTP_same r (k + 1) _ _ (fun i e' he hd => ?_) ?_
    · have := hp (i + 1) e' (by simpa using he) hd
      rw [show k + 1 + i = k + (i + 1) by omega]; exact this
    · have h0 := hp 0 e rfl
      rw [Nat.add_zero] at h0
      cases hd : e.dst with
      | none => cases p k <;> cases q k <;> exact h
      | some d =>
        by_cases hdt : d = t
        · subst hdt
          rw [h0 hd]
          cases q k
          · exact h
          · simp [tget_cons]
        · cases p k <;> cases q k <;> simp [tget_cons, hdt, h]

theorem effTP_none {t : Nat} {p : Nat → Bool} : ∀ (effs : List Eff) (k : Nat) (T : Tmps), (∀ (i : Nat) (e : Eff), effs[i]? = some e → e.dst ≠ some t) → tget (effTP effs k p T) t = tget T t
  | [], k, T, _ => rfl
  | e :: r, k, T, hp => by
    rw [effTP, effTP_none r (k + 1) _ (fun i e' he => hp (i + 1) e' (by simpa using he))]
    have h0 := hp 0 e rfl
    cases hd : e.dst with
    | none => cases p k <;> rfl
    | some d =>
      have : d ≠ t := fun hh => h0 (by rw [hd, hh])
      cases p k <;> simp [tget_cons, this]

theorem effTP_at {t : Nat} {p : Nat → Bool} : ∀ (effs : List Eff) (k : Nat) (T : Tmps) (i : Nat) (e : Eff), effs[i]? = some e → p (k + i) = true → e.dst = some t →
    (∀ (j : Nat) (e' : Eff), j ≠ i → effs[j]? = some e' → e'.dst ≠ some t) → tget (effTP effs k p T) t = e.v
  | [], k, T, i, e, he, _, _, _ => by simp at he
  | e0 :: r, k, T, 0, e, he, hp, hd, hu => by
    simp at he; subst he
    rw [effTP, effTP_none r (k + 1) _ (fun i e' he => hu (i + 1) e' (by omega) (by simpa using he))]
    rw [Nat.add_zero] at hp
    rw [hp, hd]; simp [tget_cons]
  | e0 :: r, k, T, i + 1, e, he, hp, hd, hu => by
    rw [effTP]
    exact effTP_at r (k + 1) _ i e (by simpa using he) (by rw [show k + 1 + i = k + (i + 1) by omega]; exact hp) hd fun j e' hj he' => hu (j + 1) e' (by omega) (by simpa using he')

theorem effTP_false {p : Nat → Bool} : ∀ (effs : List Eff) (k : Nat) (T : Tmps), (∀ i, i < effs.length → p (k + i) = false) → effTP effs k p T = T
  | [], _, _, _ => rfl
  | e :: r, k, T, h => by
    have h0 := h 0 (by simp)
    rw [Nat.add_zero] at h0
    rw [effTP, h0]
    exact effTP_false r (k + 1) T fun i hi => by have := h (i + 1) (by simpa using hi); rw [show k + 1 + i = k + (i + 1) by omega]; exact this

theorem effHP_false {p : Nat → Bool} : ∀ (effs : List Eff) (k : Nat) (T : List (Nat × Option HB)), (∀ i, i < effs.length → p (k + i) = false) → effHP effs k p T = T
  | [], _, _, _ => rfl
  | e :: r, k, T, h => by
    have h0 := h 0 (by simp)
    rw [Nat.add_zero] at h0
    rw [effHP, h0]
    exact effHP_false r (k + 1) T fun i hi => by have := h (i + 1) (by simpa using hi); rw [show k + 1 + i = k + (i + 1) by omega]; exact this

theorem effTP_append {p : Nat → Bool} : ∀ (a b : List Eff) (k : Nat) (T : Tmps), effTP (a ++ b) k p T = effTP b (k + a.length) p (effTP a k p T)
  | [], b, k, T => by simp [effTP]
  | e :: a, b, k, T => by
    rw [List.cons_append, effTP, effTP, effTP_append a b (k + 1)]
    rw [show k + 1 + a.length = k + (e :: a).length by simp; omega]

theorem effHP_append {p : Nat → Bool} : ∀ (a b : List Eff) (k : Nat) (T : List (Nat × Option HB)), effHP (a ++ b) k p T = effHP b (k + a.length) p (effHP a k p T)
  | [], b, k, T => by simp [effHP]
  | e :: a, b, k, T => by
    rw [List.cons_append, effHP, effHP, effHP_append a b (k + 1)]
    rw [show k + 1 + a.length = k + (e :: a).length by simp; omega]

theorem effTP_congr {p q : Nat → Bool} : ∀ (effs : List Eff) (k : Nat) (T : Tmps), (∀ i, i < effs.length → p (k + i) = q (k + i)) → effTP effs k p T = effTP effs k q T
  | [], _, _, _ => rfl
  | e :: r, k, T, h => by
    have h0 := h 0 (by simp)
    rw [Nat.add_zero] at h0
    rw [effTP, effTP, h0]
    exact effTP_congr r (k + 1) _ fun i hi => by have := h (i + 1) (by simpa using hi); rw [show k + 1 + i = k + (i + 1) by omega]; exact this

theorem effHP_congr {p q : Nat → Bool} : ∀ (effs : List Eff) (k : Nat) (T : List (Nat × Option HB)), (∀ i, i < effs.length → p (k + i) = q (k + i)) → effHP effs k p T = effHP effs k q T
  | [], _, _, _ => rfl
  | e :: r, k, T, h => by
    have h0 := h 0 (by simp)
    rw [Nat.add_zero] at h0
    rw [effHP, effHP, h0]
    exact effHP_congr r (k + 1) _ fun i hi => by have := h (i + 1) (by simpa using hi); rw [show k + 1 + i = k + (i + 1) by omega]; exact this

theorem effHP_same {id : Nat} {p q : Nat → Bool} : ∀ (effs : List Eff) (k : Nat) (T T' : List (Nat × Option HB)), (∀ i e, effs[i]? = some e → (e.dl.any fun x => x.1 == id) = true → p (k + i) = q (k + i)) → look T id = look T' id →
    look (effHP effs k p T) id = look (effHP effs k q T') id
  | [], k, T, T', _, h => h
  | e :: r, k, T, T', hp, h => by
    rw [effHP, effHP]
    refine effHP_same r (k + 1) _ _ (fun i e' he hd => ?_) ?_
    · have := hp (i + 1) e' (by simpa using he) hd
      rw [show k + 1 + i = k + (i + 1) by omega]; exact this
    · have h0 := hp 0 e rfl
      rw [Nat.add_zero] at h0
      by_cases hd : (e.dl.any fun x => x.1 == id) = true
      · rw [h0 hd]
        cases q k
        · exact h
        · simp only [look_append, hd, if_true]
      · cases p k <;> cases q k <;> simp only [look_append, if_neg hd] <;> exact h

theorem effHP_at {id : Nat} {p : Nat → Bool} : ∀ (effs : List Eff) (k : Nat) (T : List (Nat × Option HB)) (j : Nat) (e : Eff), effs[j]? = some e → p (k + j) = true → (e.dl.any fun x => x.1 == id) = true →
    (∀ i e', j < i → effs[i]? = some e' → p (k + i) = true → (e'.dl.any fun x => x.1 == id) = false) → look (effHP effs k p T) id = look e.dl id
  | [], k, T, j, e, he, _, _, _ => by simp at he
  | e0 :: r, k, T, 0, e, he, hp, hd, hu => by
    simp at he; subst he
    rw [Nat.add_zero] at hp
    rw [effHP, hp]
    have := effHP_same (id := id) (p := p) (q := fun _ => false) r (k + 1) (e0.dl ++ T) (e0.dl ++ T) (fun i e' he hd' => by
      cases hpi : p (k + 1 + i) with
      | false => rfl
      | true =>
        have := hu (i + 1) e' (by omega) (by simpa using he) (by rw [show k + (i + 1) = k + 1 + i by omega]; exact hpi)
        rw [this] at hd'; cases hd') rfl
    simp only
    rw [this, effHP_false _ _ _ (fun _ _ => rfl), look_append, if_pos hd]
  | e0 :: r, k, T, j + 1, e, he, hp, hd, hu => by
    rw [effHP]
    exact effHP_at r (k + 1) _ j e (by simpa using he) (by rw [show k + 1 + j = k + (j + 1) by omega]; exact hp) hd fun i e' hj he' hp' => hu (i + 1) e' (by omega) (by simpa using he') (by rw [show k + (i + 1) = k + 1 + i by omega]; exact hp')

theorem effHP_from {id : Nat} {g : HB} {p q : Nat → Bool} {Z : Prop} (hle : ∀ i, q i = true → p i = true) : ∀ (effs : List Eff) (k : Nat) (T T' : List (Nat × Option HB)),
    (∀ i e, effs[i]? = some e → p (k + i) = true → q (k + i) = false → (id, some g) ∈ e.dl → Z) → (look T id = some g → Z ∨ look T' id = some g) →
    look (effHP effs k p T) id = some g → Z ∨ look (effHP effs k q T') id = some g
  | [], k, T, T', _, h, hl => h hl
  | e :: r, k, T, T', hz, h, hl => by
    rw [effHP] at hl ⊢
    refine effHP_from hle r (k + 1) _ _ (fun i e' he hp hq hm => hz (i + 1) e' (by simpa using he) (by rw [show k + (i + 1) = k + 1 + i by omega]; exact hp) (by rw [show k + (i + 1) = k + 1 + i by omega]; exact hq) hm) ?_ hl
    intro hl
    cases hp : p k with
    | false =>
      have hq : q k = false := by
        cases hq : q k
        · rfl
        · rw [hle k hq] at hp; cases hp
      rw [hp] at hl; rw [hq]
      exact h hl
    | true =>
      rw [hp] at hl
      simp only at hl
      rw [look_append] at hl
      cases hq : q k with
      | true =>
        simp only
        rw [look_append]
        by_cases hd : (e.dl.any fun x => x.1 == id) = true
        · rw [if_pos hd] at hl ⊢; exact .inr hl
        · rw [if_neg hd] at hl ⊢; exact h hl
      | false =>
        by_cases hd : (e.dl.any fun x => x.1 == id) = true
        · rw [if_pos hd] at hl
          exact .inl (hz 0 e rfl (by simpa using hp) (by simpa using hq) (mem_of_look hl))
        · rw [if_neg hd] at hl; exact h hl

theorem look_pickH {bs : List (Nat × Option HB)} {id : Nat} : ∀ l : List Nat, look (pickH bs l) id = if id ∈ l then look bs id else none
  | [] => by simp [pickH, look]
  | x :: l => by
    rw [pickH, look_cons, look_pickH l]
    by_cases h : x = id
    · subst h; simp
    · simp [h, Ne.symm h]

theorem tget_pickT {T : Tmps} {t : Nat} : ∀ l : List Nat, tget (pickT T l) t = if t ∈ l then tget T t else .junk
  | [] => by simp [pickT, tget]
  | x :: l => by
    rw [pickT, tget_cons, tget_pickT l]
    by_cases h : x = t
    · subst h; simp
    · simp [h, Ne.symm h]

theorem any_has {dl : List (Nat × Option HB)} {id : Nat} : (dl.any fun x => x.1 == id) = has (dl.map (·.1)) id := by
  induction dl with
  | nil => rfl
  | cons x l ih =>
    simp only [List.any_cons, List.map_cons, has, ih]
    by_cases h : x.1 = id
    · simp [h]
    · have : Nat.beq x.1 id = false := beq_ne h
      rw [this]
      simp [h]

/-! ### What is known of each -/

def Wants (effs : List Eff) (o : Oper) (b : Bool) : Prop :=
  match o.guard with
  | none => b = true
  | some (g, want) => ∃ e, effs[g]? = some e ∧ ((e.dst = none ∧ b = false) ∨ (∃ d, e.dst = some d ∧ ((∃ x, e.v = .b x ∧ b = (x == want)) ∨ (e.v = .u ∧ b = false))))

def GoOk (P : Program) (ops : List Oper) (tab : List (List Nat)) (nt : Nat) (T0 : Tmps) (H0 : Heap) (effs : List Eff) (i : Nat) (o : Oper) (e : Eff) : Prop :=
  Wants effs o true ∧ (∀ d, o.dst = some d → d < nt) ∧
    famClosed (effHP effs 0 (has (getL tab i)) H0.bs) e.needs e.fams = true ∧ e.fams = famsOf (effHP effs 0 (has (getL tab i)) H0.bs) e.needs ∧
    below e.own (pickT (effTP effs 0 (has (getL tab i)) T0) (looksAt ops o)) (pickH (effHP effs 0 (has (getL tab i)) H0.bs) e.needs) = true ∧
    ∃ H', OpG P (pickT (effTP effs 0 (has (getL tab i)) T0) (looksAt ops o)) ⟨e.own, pickH (effHP effs 0 (has (getL tab i)) H0.bs) e.needs⟩ o e.v H' ∧
      H'.bs = e.dl ++ pickH (effHP effs 0 (has (getL tab i)) H0.bs) e.needs ∧ H'.next = e.nxt

def EffOk (P : Program) (ops : List Oper) (tab : List (List Nat)) (nt : Nat) (T0 : Tmps) (H0 : Heap) (effs : List Eff) (i : Nat) : Prop :=
  ∃ o e, ops[i]? = some o ∧ effs[i]? = some e ∧ e.dst = o.dst ∧ ((Wants effs o false ∧ e.v = .u ∧ e.dl = []) ∨ GoOk P ops tab nt T0 H0 effs i o e)

theorem Wants.more {effs more : List Eff} {o : Oper} {b : Bool} (h : Wants effs o b) : Wants (effs ++ more) o b := by
  unfold Wants at *
  split
  · rename_i hg; rw [hg] at h; exact h
  · rename_i g want hg
    rw [hg] at h
    obtain ⟨e, he, hr⟩ := h
    exact ⟨e, by rw [List.getElem?_append_left (List.getElem?_eq_some_iff.1 he).1]; exact he, hr⟩

theorem EffOk.more {ops : List Oper} {tab : List (List Nat)} {nt : Nat} {T0 : Tmps} {H0 : Heap} {effs more : List Eff} {i : Nat} (htab : ∀ x, has (getL tab i) x = true → x < i) (hi : i < effs.length)
    (h : EffOk P ops tab nt T0 H0 effs i) : EffOk P ops tab nt T0 H0 (effs ++ more) i := by
  obtain ⟨o, e, ho, he, hd, h⟩ := h
  have hz : ∀ j, j < more.length → has (getL tab i) (0 + effs.length + j) = false := by
    intro j _
    cases hh : has (getL tab i) (0 + effs.length + j) with
    | false => rfl
    | true => have := htab _ hh; omega
  refine ⟨o, e, ho, by rw [List.getElem?_append_left hi]; exact he, hd, ?_⟩
  rcases h with ⟨h1, h2⟩ | ⟨h1, h2⟩
  · exact .inl ⟨h1.more, h2⟩
  · refine .inr ⟨h1.more, ?_⟩
    rw [effTP_append, effHP_append, effTP_false more _ _ hz, effHP_false more _ _ hz]
    exact h2

theorem set_same {effs : List Eff} {g : Nat} {e : Eff} (h : effs[g]? = some e) : effs.set g e = effs := by
  apply List.ext_getElem?
  intro i
  rw [List.getElem?_set]
  by_cases hi : g = i
  · subst hi; rw [if_pos rfl, h]
    have := (List.getElem?_eq_some_iff.1 h).1
    simp [this]
  · rw [if_neg hi]

theorem drawL (hC : CxOk P C) (hp : PrevOk P C prev) {nt : Nat} {ops : List Oper} {tab : List (List Nat)} {T0 : Tmps} {H0 : Heap} {K : Tmps → Heap → Option R} {r : R} (htab : ∀ i x, i < ops.length → has (getL tab i) x = true → x < i) :
    ∀ (l : List Oper) (j N : Nat) (effs : List Eff), effs.length = j → ops.drop j = l → (∀ i, i < j → EffOk P ops tab nt T0 H0 effs i) → drawK C prev nt ops tab T0 H0 l j N effs K = some r →
      ∃ effs' N', effs'.length = ops.length ∧ (∀ i, i < ops.length → EffOk P ops tab nt T0 H0 effs' i) ∧ clashFree effs' tab = true ∧ asc H0.next effs' N' = true ∧
        K (effTP effs' 0 (has (List.range effs'.length)) T0) ⟨N', effHP effs' 0 (has (List.range effs'.length)) H0.bs⟩ = some r
  | [], j, N, effs, hl, hd, hok, h => by
    rw [drawK] at h
    obtain ⟨hc, h⟩ := cond_some h
    rw [Bool.and_eq_true] at hc
    rw [effT_eq, effH_eq] at h
    have hle : ops.length ≤ j := List.drop_eq_nil_iff.1 hd
    by_cases hlt : j = ops.length
    · exact ⟨effs, N, by omega, fun i hi => hok i (by omega), hc.1, hc.2, h⟩
    · obtain ⟨o, e, ho, _⟩ := hok ops.length (by omega)
      simp at ho
  | o :: l, j, N, effs, hl, hd, hok, h => by
    have hoj : ops[j]? = some o := by
      have := congrArg (fun l : List Oper => l[0]?) hd
      simpa [List.getElem?_drop] using this
    have hjl : j < ops.length := (List.getElem?_eq_some_iff.1 hoj).1
    have hd' : ops.drop (j + 1) = l := by
      have := congrArg List.tail hd
      simpa [List.tail_drop] using this
    have hold : ∀ e0 : Eff, EffOk P ops tab nt T0 H0 (effs ++ [e0]) j → ∀ i, i < j + 1 → EffOk P ops tab nt T0 H0 (effs ++ [e0]) i := by
      intro e0 hj i hi
      by_cases hij : i = j
      · subst hij; exact hj
      · exact (hok i (by omega)).more (fun x hx => htab i x (by omega) hx) (by omega)
    have hlast : ∀ e0 : Eff, (effs ++ [e0])[j]? = some e0 := fun e0 => by rw [← hl]; simp
    have skip : Wants effs o false → drawK C prev nt ops tab T0 H0 l (j + 1) N (effs ++ [⟨o.dst, .u, [], N, N, [], []⟩]) K = some r →
        ∃ effs' N', effs'.length = ops.length ∧ (∀ i, i < ops.length → EffOk P ops tab nt T0 H0 effs' i) ∧ clashFree effs' tab = true ∧ asc H0.next effs' N' = true ∧
          K (effTP effs' 0 (has (List.range effs'.length)) T0) ⟨N', effHP effs' 0 (has (List.range effs'.length)) H0.bs⟩ = some r := by
      intro hw h
      refine drawL hC hp htab l (j + 1) N _ (by simp [hl]) hd' (hold _ ?_) h
      exact ⟨o, _, hoj, hlast _, rfl, .inl ⟨hw.more, rfl, rfl⟩⟩
    have go : Wants effs o true → ((fun (T : Tmps) (bs : List (Nat × Option HB)) => (fun (needs : List Nat) => (fun (fams : List Nat) (Hr : Heap) =>
          cond (famClosed bs needs fams && below N T Hr.bs)
          (operK C prev T Hr o.op fun v H' => cond (match o.dst with | some d => Nat.blt d nt | none => true)
            (drawK C prev nt ops tab T0 H0 l (j + 1) H'.next (effs ++ [⟨o.dst, v, H'.bs.take (H'.bs.length - Hr.bs.length), N, H'.next, needs, fams⟩]) K) none) none)
          (famsOf bs needs) ⟨N, pickH bs needs⟩)
          ((fun base => base ++ withFam bs (famsOf bs base) bs) (needsOf T ⟨N, bs⟩ o.op)))
      (pickT (effT effs 0 (getL tab j) T0) (looksAt ops o)) (effH effs 0 (getL tab j) H0.bs)) = some r →
        ∃ effs' N', effs'.length = ops.length ∧ (∀ i, i < ops.length → EffOk P ops tab nt T0 H0 effs' i) ∧ clashFree effs' tab = true ∧ asc H0.next effs' N' = true ∧
          K (effTP effs' 0 (has (List.range effs'.length)) T0) ⟨N', effHP effs' 0 (has (List.range effs'.length)) H0.bs⟩ = some r := by
      intro hw h
      simp only at h
      rw [effT_eq, effH_eq] at h
      generalize hbs : effHP effs 0 (has (getL tab j)) H0.bs = bs at h
      generalize hT : pickT (effTP effs 0 (has (getL tab j)) T0) (looksAt ops o) = T at h
      generalize (needsOf T ⟨N, bs⟩ o.op ++ withFam bs (famsOf bs (needsOf T ⟨N, bs⟩ o.op)) bs) = needs at h
      obtain ⟨hc, h⟩ := cond_some h
      rw [Bool.and_eq_true] at hc
      obtain ⟨v, H', h, hO, d, hgr⟩ := operK_grows hC hp h
      obtain ⟨hdst, h⟩ := cond_some h
      have hdl : H'.bs.take (H'.bs.length - (pickH bs needs).length) = d := by
        rw [hgr]; simp
      rw [hdl] at h
      refine drawL hC hp htab l (j + 1) _ _ (by simp [hl]) hd' (hold _ ?_) h
      have hz : ∀ (e0 : Eff) k, k < [e0].length → has (getL tab j) (0 + effs.length + k) = false := by
        intro e0 k _
        cases hh : has (getL tab j) (0 + effs.length + k) with
        | false => rfl
        | true => have := htab _ _ hjl hh; omega
      refine ⟨o, _, hoj, hlast _, rfl, .inr ⟨hw.more, fun d' hd' => ?_, ?_⟩⟩
      · rw [hd'] at hdst; simpa using hdst
      · rw [effTP_append, effHP_append, effTP_false _ _ _ (hz _), effHP_false _ _ _ (hz _), hbs, hT]
        exact ⟨hc.1, rfl, hc.2, H', hO, hgr, rfl⟩
    rw [drawK] at h
    cases hg : o.guard with
    | none => rw [hg] at h; exact go (by unfold Wants; rw [hg]) h
    | some gw =>
      obtain ⟨g, want⟩ := gw
      rw [hg] at h
      dsimp only at h
      cases he : effs[g]? with
      | none => rw [he] at h; exact nomatch (show (none : Option R) = some r from h)
      | some e =>
        rw [he] at h
        dsimp only at h
        cases hde : e.dst with
        | none =>
          rw [hde] at h
          exact skip (by unfold Wants; rw [hg]; exact ⟨e, he, .inl ⟨hde, rfl⟩⟩) h
        | some d =>
          rw [hde] at h
          dsimp only at h
          have hw : ∀ x, e.v = .b x → Wants effs o (x == want) := fun x hx => by unfold Wants; rw [hg]; exact ⟨e, he, .inr ⟨d, hde, .inl ⟨x, hx, rfl⟩⟩⟩
          cases hx : e.v with
          | b x =>
            rw [hx] at h
            have hset : effs.set g ⟨some d, .b x, e.dl, e.own, e.nxt, e.needs, e.fams⟩ = effs := by
              apply set_same
              rw [he, ← hde, ← hx]
            cases x <;> cases want <;> (simp only [cond_true, cond_false] at h; rw [hset] at h)
            · exact go (hw _ hx) h
            · exact skip (hw _ hx) h
            · exact skip (hw _ hx) h
            · exact go (hw _ hx) h
          | u =>
            rw [hx] at h
            exact skip (by unfold Wants; rw [hg]; exact ⟨e, he, .inr ⟨d, hde, .inr ⟨hx, rfl⟩⟩⟩) h
          | _ => rw [hx] at h; exact nomatch (show (none : Option R) = some r from h)

end
end Go.Ab
