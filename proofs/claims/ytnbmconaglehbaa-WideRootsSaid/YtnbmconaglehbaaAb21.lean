/- Regions whose order is open: the whole. Conditions: none. -/
import Derived.Test.YtnbmconaglehbaaAb20
namespace Go.Ab
set_option linter.unusedVariables false
set_option linter.unusedSimpArgs false
open Go

section
variable {P : Program} {R : Type} {C : Cx R} {prev : Prev R}

def left (p : Nat → Bool) : List Nat → Nat
  | [] => 0
  | x :: r => (if p x = true then 0 else 1) + left p r

theorem left_zero {p : Nat → Bool} : ∀ {l : List Nat}, left p l = 0 → ∀ x ∈ l, p x = true
  | x :: r, h, y, hy => by
    rw [left] at h
    rcases List.mem_cons.1 hy with hy | hy
    · subst hy
      by_cases hp : p y = true
      · exact hp
      · rw [if_neg hp] at h; omega
    · exact left_zero (by omega) y hy

theorem left_le {p q : Nat → Bool} (h : ∀ x, p x = true → q x = true) : ∀ l : List Nat, left q l ≤ left p l
  | [] => Nat.le_refl _
  | x :: r => by
    rw [left, left]
    have := left_le h r
    by_cases hp : p x = true
    · rw [if_pos hp, if_pos (h x hp)]; omega
    · rw [if_neg hp]; split <;> omega

theorem left_lt {p q : Nat → Bool} (h : ∀ x, p x = true → q x = true) {j : Nat} (hj : p j = false) (hq : q j = true) : ∀ l : List Nat, j ∈ l → left q l < left p l
  | x :: r, hm => by
    rw [left, left]
    have hle := left_le h r
    by_cases hx : x = j
    · subst hx
      rw [if_pos hq, if_neg (by rw [hj]; simp)]; omega
    · have := left_lt h hj hq r (by
        rcases List.mem_cons.1 hm with hm | hm
        · exact absurd hm.symm hx
        · exact hm)
      by_cases hp : p x = true
      · rw [if_pos hp, if_pos (h x hp)]; omega
      · rw [if_neg hp]; split <;> omega

theorem bindsAny_eq (e : Edge) : Region.binds .any e = bindsAny e := by
  unfold Region.binds bindsAny
  cases e.ground <;> rfl

section
variable {ops : Array Oper} {tab : List (List Nat)} {nt : Nat} {T0 : Tmps} {H0 : Heap} {effs : List Eff} {N : Nat}

theorem Inv.congr {E0 : Env} {w0 : World} {p q : Nat → Bool} {E : Env} {a : Act} {w : World} (h : Inv H0 E0 w0 T0 nt effs p E a w) (hpq : ∀ i, p i = q i) : Inv H0 E0 w0 T0 nt effs q E a w := by
  have : p = q := funext hpq
  subst this; exact h

theorem any_order (h : Row P ops tab nt T0 H0 effs N) {E0 : Env} {w0 : World} {Q : Exit → Act → World → Prop}
    (hQ : ∀ E a w p, (∀ i, i < ops.size → p i = true) → Inv H0 E0 w0 T0 nt effs p E a w → Q .normal a w) :
    ∀ (fuel : Nat) (listed : Array Bool) (a : Act) (w : World), listed.size = ops.size → Closed tab (fun i => listed.getD i false) → left (fun i => listed.getD i false) (List.range ops.size) ≤ fuel →
      (∃ E, Inv H0 E0 w0 T0 nt effs (fun i => listed.getD i false) E a w) → wpAny P .any ops Q fuel listed a w := by
  have hlist : ∀ (listed : Array Bool) i, listed.size = ops.size → i < ops.size → (listed.getD i true) = listed.getD i false := by
    intro listed i hs hi
    rw [Array.getD_eq_getD_getElem?, Array.getD_eq_getD_getElem?, Array.getElem?_eq_getElem (by omega)]; rfl
  have hmem : ∀ (listed : Array Bool) i, listed.size = ops.size → (i ∈ Region.ready .any ops listed ↔ i < ops.size ∧ listed.getD i false = false ∧ ∃ o, ops[i]? = some o ∧ ∀ e ∈ bindsOf o, listed.getD e.on false = true) := by
    intro listed i hs
    unfold Region.ready
    rw [List.mem_filter, List.mem_range]
    constructor
    · rintro ⟨hi, hh⟩
      rw [hlist listed i hs hi, Bool.and_eq_true] at hh
      have ho : ops[i]? = some ops[i] := Array.getElem?_eq_getElem hi
      rw [ho] at hh
      refine ⟨hi, by simpa using hh.1, _, ho, fun e he => ?_⟩
      have h2 := hh.2
      simp only [Option.map_some, Option.getD_some] at h2
      rw [Array.all_eq_true_iff_forall_mem] at h2
      unfold bindsOf at he
      rw [List.mem_filter] at he
      have := h2 e (Array.mem_toList_iff.1 he.1)
      rw [bindsAny_eq, he.2] at this
      simpa using this
    · rintro ⟨hi, h1, o, ho, h2⟩
      refine ⟨hi, ?_⟩
      rw [hlist listed i hs hi, h1, ho]
      simp only [Option.map_some, Option.getD_some, Bool.not_false, Bool.true_and]
      rw [Array.all_eq_true_iff_forall_mem]
      intro e he
      rw [bindsAny_eq]
      cases hb : bindsAny e with
      | false => rfl
      | true =>
        have := h2 e (by unfold bindsOf; rw [List.mem_filter]; exact ⟨Array.mem_toList_iff.2 he, hb⟩)
        rw [this]; rfl
  -- if none is ready, all are listed
  have hall : ∀ (listed : Array Bool), listed.size = ops.size → Region.ready .any ops listed = [] → ∀ i, i < ops.size → listed.getD i false = true := by
    intro listed hs hnil i
    induction i using Nat.strongRecOn with
    | _ i ih =>
      intro hi
      cases hp : listed.getD i false with
      | true => rfl
      | false =>
        exfalso
        have ho : ops[i]? = some ops[i] := Array.getElem?_eq_getElem hi
        have : i ∈ Region.ready .any ops listed := (hmem listed i hs).2 ⟨hi, hp, _, ho, fun e he => by
          have h1 := h.edge ho he
          have h2 := (h.lt ho h1).1
          exact ih e.on h2 (by omega)⟩
        rw [hnil] at this; cases this
  intro fuel
  induction fuel with
  | zero =>
    intro listed a w hs hcl hle hI
    obtain ⟨E, hI⟩ := hI
    have hz := left_zero (p := fun i => listed.getD i false) (l := List.range ops.size) (by omega)
    have hz' : ∀ i, i < ops.size → listed.getD i false = true := fun i hi => hz i (List.mem_range.2 hi)
    refine ⟨?_, hQ E a w _ hz' hI⟩
    cases hr : Region.ready .any ops listed with
    | nil => rfl
    | cons i r =>
      have : i ∈ Region.ready .any ops listed := by rw [hr]; exact List.mem_cons_self
      obtain ⟨h1, h2, _⟩ := (hmem listed i hs).1 this
      rw [hz' i h1] at h2; cases h2
  | succ fuel ih =>
    intro listed a w hs hcl hle hI
    obtain ⟨E, hI⟩ := hI
    refine ⟨fun hnil => hQ E a w _ (hall listed hs hnil) hI, fun j hj => ?_⟩
    obtain ⟨hjl, hpj, o, ho, hedges⟩ := (hmem listed j hs).1 hj
    have hsub : ∀ x, has (getL tab j) x = true → listed.getD x false = true := by
      intro x hx
      obtain ⟨_, e, he, hor⟩ := h.lt ho hx
      have hon := hedges e he
      rcases hor with rfl | hx'
      · exact hon
      · exact hcl e.on hon x hx'
    have hset : ∀ i, (listed.setIfInBounds j true).getD i false = (listed.getD i false || Nat.beq i j) := by
      intro i
      rw [Array.getD_eq_getD_getElem?, Array.getElem?_setIfInBounds]
      by_cases hij : j = i
      · subst hij
        rw [if_pos rfl, if_pos (by omega), beq_self, Bool.or_true]; rfl
      · rw [if_neg hij, ← Array.getD_eq_getD_getElem?, beq_ne (Ne.symm hij), Bool.or_false]
    have hcl' : Closed tab (fun i => (listed.setIfInBounds j true).getD i false) := by
      intro i hi x hx
      simp only at hi ⊢
      rw [hset] at hi ⊢
      rw [Bool.or_eq_true] at hi ⊢
      rcases hi with hi | hi
      · exact .inl (hcl i hi x hx)
      · have := beq_eq hi; subst this; exact .inl (hsub x hx)
    have hle' : left (fun i => (listed.setIfInBounds j true).getD i false) (List.range ops.size) ≤ fuel := by
      have := left_lt (p := fun i => listed.getD i false) (q := fun i => (listed.setIfInBounds j true).getD i false) (fun x hx => (hset x).trans (by rw [show listed.getD x false = true from hx]; rfl)) (j := j) hpj ((hset j).trans (by rw [beq_self, Bool.or_true])) (List.range ops.size) (List.mem_range.2 hjl)
      omega
    have go : ∀ E' a' w', Inv H0 E0 w0 T0 nt effs (fun i => listed.getD i false || Nat.beq i j) E' a' w' → wpAny P .any ops Q fuel (listed.setIfInBounds j true) a' w' :=
      fun E' a' w' hI' => ih _ a' w' (by simp [hs]) hcl' hle' ⟨E', hI'.congr fun i => (hset i).symm⟩
    obtain ⟨o', e, ho', he, hd, hk⟩ := h.at hjl
    rw [ho] at ho'; cases ho'
    unfold wpOp
    rw [ho]
    simp only
    rcases hk with ⟨hw, hv, hdl⟩ | hgo
    · rw [if_neg (by rw [wanted_of h hI ho hsub hw]; simp)]
      exact go E _ w (step_skip h hI ho he hd hv hdl)
    · rw [if_pos (wanted_of h hI ho hsub hgo.1)]
      exact .inl (step_go h hcl hI ho hpj hsub he hd hgo go)

end

theorem drawK_sound (hC : CxOk P C) (hp : PrevOk P C prev) {nt : Nat} {ops : Array Oper} {T : Tmps} {H : Heap} {K : Tmps → Heap → Option R} {r : R} (hs : slotsOk ops.toList (predTab ops.toList []) = true)
    (h : drawK C prev nt ops.toList (predTab ops.toList []) T H ops.toList 0 H.next [] K = some r) :
    ∃ T' H', K T' H' = some r ∧ ∀ (E : Env) (a : Act) (w : World), St E nt T H a w → ∀ (Q : Exit → Act → World → Prop),
      (∀ E' a' w', St E' nt T' H' a' w' → Ext E E' → Fr E H w E' H' w' → Q .normal a' w') → wpAny P .any ops Q ops.size (Array.replicate ops.size false) a w := by
  generalize htb : predTab ops.toList [] = tab at hs h
  have htab : ∀ i x, i < ops.toList.length → has (getL tab i) x = true → x < i := by
    intro i x hi hx
    have h1 := List.all_eq_true.1 hs i (List.mem_range.2 hi)
    rw [List.getElem?_eq_getElem hi] at h1
    simp only at h1
    unfold opChk at h1
    simp only [Bool.and_eq_true] at h1
    have h2 := List.all_eq_true.1 h1.1.1.1 x (has_iff.1 hx)
    rw [Bool.and_eq_true] at h2
    simpa using h2.1
  obtain ⟨effs, N, hlen, hok, hcf, hasc, hK⟩ := drawL hC hp htab ops.toList 0 H.next [] rfl rfl (fun i hi => absurd hi (by omega)) h
  have hR : Row P ops tab nt T H effs N := ⟨by simpa using hlen, fun i hi => hok i (by simpa using hi), hs, hcf, hasc⟩
  obtain ⟨as1, as2, as3⟩ := asc_spec _ _ _ hasc
  refine ⟨_, _, hK, fun E a w hst Q hn => ?_⟩
  have hrep : ∀ i, (Array.replicate ops.size false).getD i false = false := by
    intro i
    rw [Array.getD_eq_getD_getElem?, Array.getElem?_replicate]
    split <;> rfl
  refine any_order hR (E0 := E) (w0 := w) (Q := Q) (fun E' a' w' p hall hI => ?_) ops.size _ a w (by simp) (fun i hi => by simp only at hi; rw [hrep] at hi; cases hi) ?_ ⟨E, ?_⟩
  · -- at the end
    have e1 : effTP effs 0 (has (List.range effs.length)) T = effTP effs 0 p T := effTP_congr effs 0 T fun i hi => by
      rw [Nat.zero_add, has_iff.2 (List.mem_range.2 hi), hall i (by rw [← hR.len]; exact hi)]
    have e2 : effHP effs 0 (has (List.range effs.length)) H.bs = effHP effs 0 p H.bs := effHP_congr effs 0 H.bs fun i hi => by
      rw [Nat.zero_add, has_iff.2 (List.mem_range.2 hi), hall i (by rw [← hR.len]; exact hi)]
    rw [e1, e2] at hn
    have hlt : ∀ id ent, E' id = some ent → id < N := by
      intro id ent hid
      rcases hI.dom id ent hid with h1 | ⟨i, e, h1, _, _, h2⟩
      · omega
      · have := (as1 i e h1).2.2; omega
    have hext : Ext E' (pad E' N) := fun id ent hid => pad_some hid (hlt id ent hid)
    refine hn (pad E' N) a' w' ⟨hI.t.mono hext, ⟨fun id hid => ?_, fun id hb hg => ?_, ?_, fun id hid => ?_⟩, hI.d, hI.n⟩ (hI.ext.trans hext) ⟨hI.fr.os, hI.fr.tape, hI.fr.output, hI.fr.size, hI.fr.keep, ?_⟩
    · have : ¬ id < N := Nat.not_lt.2 hid
      simp [pad, this]
    · obtain ⟨ent, hent, hB⟩ := hI.live id hb hg
      exact ⟨ent, hext id ent hent, hB.on (fun _ _ => rfl) fun i _ ent hi _ => hext i ent hi⟩
    · intro i k hi hk ei ek r hgi hgk hei hek hri hrk
      exact hI.fam i k hi hk ei ek r hgi hgk (pad_useful hei (.inl (by rw [hri]; simp))) (pad_useful hek (.inl (by rw [hrk]; simp))) hri hrk
    · have hid : id < N := hid
      simp [pad, hid]
    · rintro b ⟨id, hb, ent, hg, hent, hr⟩ hltb
      exact hI.fr.new b ⟨id, hb, ent, hg, pad_useful hent (.inl (by rw [hr]; simp)), hr⟩ hltb
  · have key : ∀ l : List Nat, left (fun i => (Array.replicate ops.size false).getD i false) l ≤ l.length := by
      intro l
      induction l with
      | nil => exact Nat.le_refl _
      | cons x l ih => rw [left, List.length_cons]; split <;> omega
    have := key (List.range ops.size)
    simpa using this
  · have e1 : effTP effs 0 (fun i => (Array.replicate ops.size false).getD i false) T = T := effTP_false effs 0 T fun i _ => hrep _
    have e2 : effHP effs 0 (fun i => (Array.replicate ops.size false).getD i false) H.bs = H.bs := effHP_false effs 0 H.bs fun i _ => hrep _
    refine ⟨by rw [e1]; exact hst.t, by rw [e2]; exact hst.h.live, by rw [e2]; exact hst.h.fam, fun id ent hid => .inl ?_, Ext.refl E, by rw [e2]; exact ⟨rfl, rfl, rfl, Nat.le_refl _, fun _ _ _ => rfl, fun b hb _ => hb⟩, hst.d, hst.n⟩
    rcases Nat.lt_or_ge id H.next with h1 | h1
    · exact h1
    · rw [hst.h.dom id h1] at hid; cases hid

end
end Go.Ab
