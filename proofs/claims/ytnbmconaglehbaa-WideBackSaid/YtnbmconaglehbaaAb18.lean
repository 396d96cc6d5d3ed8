/- Code: the evaluator is sound. Conditions: none. -/
import Derived.Test.YtnbmconaglehbaaAb21
import Derived.Scope
namespace Go.Ab
set_option linter.unusedVariables false
set_option linter.unusedSimpArgs false
open Go

section
variable {P : Program} {R : Type} {C : Cx R} {prev : Prev R}

theorem Past.of {E E1 : Env} {H H1 : Heap} {w w1 : World} {pin nt : Nat} {ex : Ex} {T' : Tmps} {H' : Heap} (hfr : Fr E H w E1 H1 w1) (hpin : ∀ i, i < pin → E1 i = E i) {e : Exit} {a' : Act} {w' : World}
    (h : Past E1 H1 w1 pin nt ex T' H' e a' w') : Past E H w pin nt ex T' H' e a' w' := by
  obtain ⟨he, E', hst, hf, hp⟩ := h
  exact ⟨he, E', hst, hfr.trans hf, fun i hi => (hp i hi).trans (hpin i hi)⟩

theorem Past.ex {E : Env} {H : Heap} {w : World} {pin nt : Nat} {ex ex' : Ex} {T' : Tmps} {H' : Heap} {e : Exit} {a' : Act} {w' : World}
    (h : Past E H w pin nt ex T' H' e a' w') : Past E H w pin nt ex' T' H' (exOf ex') a' w' := by
  obtain ⟨he, h⟩ := h
  exact ⟨rfl, h⟩

theorem Past.here {E : Env} {H : Heap} {w : World} {pin nt : Nat} {ex : Ex} {T : Tmps} {a : Act} (h : St E nt T H a w) : Past E H w pin nt ex T H (exOf ex) a w :=
  ⟨rfl, E, h, Fr.refl E H w, fun _ _ => rfl⟩

theorem Pins.to {E E' : Env} {pin : Nat} (h : Pins E pin) (hp : ∀ i, i < pin → E' i = E i) : Pins E' pin := fun i hi => by rw [hp i hi]; exact h i hi

theorem Pins.ext {E E' : Env} {pin : Nat} (h : Pins E pin) (he : Ext E E') : ∀ i, i < pin → E' i = E i := fun i hi => by
  obtain ⟨ent, hh⟩ := h i hi
  rw [hh, he i ent hh]

/-- Behind another state. -/
theorem CodeG.after {c : Code} {pin nt : Nat} {T1 T' : Tmps} {H1 H' : Heap} {ex : Ex} (h : CodeG P c pin nt T1 H1 ex T' H') {E E1 : Env} {H : Heap} {w w1 : World} {a : Act} (hst : St E1 nt T1 H1 a w1)
    (hfr : Fr E H w E1 H1 w1) (hpins : Pins E pin) (hpin : ∀ i, i < pin → E1 i = E i) : c.wp P (Past E H w pin nt ex T' H') a w1 :=
  wp_mono (h E1 a w1 hst (hpins.to hpin)) fun e a' w' hp => hp.of hfr hpin

theorem regionK_sound (hC : CxOk P C) (hp : PrevOk P C prev) {pin id : Nat} {fi : FnI} {ops : Array Oper} {draw : Bool} {T : Tmps} {H : Heap} {K : Tmps → Heap → Option R} {r : R}
    (h : regionK C prev pin fi.fn.ntmps fi.ann id ops.toList draw T H K = some r) : ∃ T' H', K T' H' = some r ∧ CodeG P (.region id ops draw) pin fi.fn.ntmps T H .normal T' H' := by
  unfold regionK at h
  obtain ⟨T1, H1, h, hn⟩ := normAt_sound h
  cases draw with
  | false =>
    obtain ⟨T', H', hK, hG⟩ := opsK_sound hC hp ops.toList 0 T1 H1 K r rfl h
    refine ⟨T', H', hK, fun E a w hst hpins => ?_⟩
    obtain ⟨E1, hst1, hfr, hpin⟩ := hn E _ a w hst
    refine wp_region ?_
    have : List.range ops.size = List.range' 0 ops.toList.length := by rw [Array.length_toList, List.range_eq_range']
    rw [this]
    exact hG E1 a w hst1 _ fun E' a' w' k1 k2 k3 => ⟨rfl, E', k1, hfr.trans k3, fun i hi => ((hpins.to hpin).ext k2 i hi).trans (hpin i hi)⟩
  | true =>
    obtain ⟨hs, h⟩ := cond_some h
    obtain ⟨T', H', hK, hG⟩ := drawK_sound hC hp hs h
    refine ⟨T', H', hK, fun E a w hst hpins => ?_⟩
    obtain ⟨E1, hst1, hfr, hpin⟩ := hn E _ a w hst
    refine wp_region_any hC.mixed ?_
    obtain ⟨d1, d2⟩ := Fr.drew hst1.h
    exact hG E1 a w.drew ⟨hst1.t, d1, hst1.d, hst1.n⟩ _ fun E' a' w' k1 k2 k3 => ⟨rfl, E', k1, hfr.trans (d2.trans k3), fun i hi => ((hpins.to hpin).ext k2 i hi).trans (hpin i hi)⟩

theorem InLoopG.code {c : Code} {pin nt : Nat} {T T' : Tmps} {H H' : Heap} {ex : Ex} (h : InLoopG P c pin nt T H ex T' H') : CodeG P (.loop c) pin nt T H ex T' H' := by
  intro E a w hst hpins b k cs
  obtain ⟨e, a', w', hq, har⟩ := h E a w hst hpins b k cs
  exact ⟨e, a', w', hq, .of_steps (.one step_loop) har⟩

/-- Another state ahead. -/
theorem InLoopG.after {c : Code} {pin nt : Nat} {T1 T' : Tmps} {H1 H' : Heap} {ex : Ex} (h : InLoopG P c pin nt T1 H1 ex T' H') {E E1 : Env} {H : Heap} {w w1 : World} {a : Act} (hst : St E1 nt T1 H1 a w1)
    (hfr : Fr E H w E1 H1 w1) (hpins : Pins E pin) (hpin : ∀ i, i < pin → E1 i = E i) (b : Frame) (k : List Item) (cs : List Frame) :
    ∃ e a' w', Past E H w pin nt ex T' H' e a' w' ∧ Arrives P (lone (b.at a (.code c :: .inLoop c :: k)) cs w1) b k cs e a' w' :=
  let ⟨e, a', w', hq, har⟩ := h E1 a w1 hst (hpins.to hpin) b k cs
  ⟨e, a', w', hq.of hfr hpin, har⟩

theorem InScopeG.after {c rest : Code} {pin nt : Nat} {T1 T' : Tmps} {H1 H' : Heap} {ex : Ex} (h : InScopeG P c rest pin nt T1 H1 ex T' H') {E E1 : Env} {H : Heap} {w w1 : World} {a : Act} (hst : St E1 nt T1 H1 a w1)
    (hfr : Fr E H w E1 H1 w1) (hpins : Pins E pin) (hpin : ∀ i, i < pin → E1 i = E i) (b : Frame) (k : List Item) (cs : List Frame) :
    ∃ e a' w', Past E H w pin nt ex T' H' e a' w' ∧ Arrives P (lone (b.at a (.code rest :: .inScope c :: k)) cs w1) b k cs e a' w' :=
  let ⟨e, a', w', hq, har⟩ := h E1 a w1 hst (hpins.to hpin) b k cs
  ⟨e, a', w', hq.of hfr hpin, har⟩

/-- What is told at a leaving is the same state, cut down. -/
theorem Past.norm {E : Env} {H : Heap} {w : World} {pin nt : Nat} {ex : Ex} {T1 T2 : Tmps} {H1 H2 : Heap} (hn : ∀ E nt a w, St E nt T1 H1 a w → ∃ E', St E' nt T2 H2 a w ∧ Fr E H1 w E' H2 w ∧ ∀ i, i < pin → E' i = E i)
    {e : Exit} {a' : Act} {w' : World} (h : Past E H w pin nt ex T1 H1 e a' w') : Past E H w pin nt ex T2 H2 e a' w' := by
  obtain ⟨he, E', hst, hfr, hp⟩ := h
  obtain ⟨E2, h1, h2, h3⟩ := hn E' nt a' w' hst
  exact ⟨he, E2, h1, hfr.trans h2, fun i hi => (h3 i hi).trans (hp i hi)⟩

/-- One round that goes on. -/
theorem InLoopG.round {c : Code} {pin nt : Nat} {T T1 T2 T' : Tmps} {H H1 H2 H' : Heap} {ex : Ex} (hb : CodeG P c pin nt T H .normal T1 H1)
    (hn : ∀ E nt a w, St E nt T1 H1 a w → ∃ E', St E' nt T2 H2 a w ∧ Fr E H1 w E' H2 w ∧ ∀ i, i < pin → E' i = E i) (h : InLoopG P c pin nt T2 H2 ex T' H') : InLoopG P c pin nt T H ex T' H' := by
  intro E a w hst hpins b k cs
  obtain ⟨e, a1, w1, hq, har⟩ := hb E a w hst hpins b (.inLoop c :: k) cs
  obtain ⟨he, E1, hst1, hfr1, hp1⟩ := hq.norm hn
  subst he
  obtain ⟨e2, a2, w2, hq2, har2⟩ := h.after hst1 hfr1 hpins hp1 b k cs
  exact ⟨e2, a2, w2, hq2, .of_steps (Steps.trans har (.one step_inLoop)) har2⟩

/-- A round that leaves. -/
theorem InLoopG.leave {c : Code} {pin nt : Nat} {T T1 T2 : Tmps} {H H1 H2 : Heap} {ex : Ex} (hb : CodeG P c pin nt T H ex T1 H1) (hx : ex ≠ .normal)
    (hn : ∀ E nt a w, St E nt T1 H1 a w → ∃ E', St E' nt T2 H2 a w ∧ Fr E H1 w E' H2 w ∧ ∀ i, i < pin → E' i = E i) : InLoopG P c pin nt T H ex T2 H2 := by
  intro E a w hst hpins b k cs
  obtain ⟨e, a1, w1, hq, har⟩ := hb E a w hst hpins b (.inLoop c :: k) cs
  have hq' := hq.norm hn
  obtain ⟨he, _⟩ := hq
  refine ⟨e, a1, w1, hq', ?_⟩
  subst he
  cases ex with
  | normal => exact absurd rfl hx
  | exit id => exact .pass (x := .inLoop c) rfl (fun _ _ => .inl (by simp [exOf])) har
  | goto l => exact .pass (x := .inLoop c) rfl (fun _ _ => .inl (by simp [exOf])) har
  | ret => exact .pass (x := .inLoop c) rfl (fun _ _ => .inl (by simp [exOf])) har

/-- One round of a loop, told by a summary or by the evaluator: what it comes to. -/
theorem loop_step {c : Code} {fi : FnI} {pin key : Nat} {live : Option (List Nat)} {K : Kont R} {S : Tmps → Heap → Option R} {r : R}
    (hS : ∀ T H, S T H = some r → ∃ ex T' H', K ex T' H' = some r ∧ InLoopG P c pin fi.fn.ntmps T H ex T' H') {T T1 : Tmps} {H H1 : Heap} {ex : Ex} (hb : CodeG P c pin fi.fn.ntmps T H ex T1 H1)
    (h : (match (generalizing := false) ex with
      | .normal => normAt live pin T1 H1 S
      | ex => exitNorm fi.ann key pin K ex T1 H1) = some r) : ∃ ex T' H', K ex T' H' = some r ∧ InLoopG P c pin fi.fn.ntmps T H ex T' H' := by
  have hleave : ex ≠ .normal → exitNorm fi.ann key pin K ex T1 H1 = some r → ∃ ex T' H', K ex T' H' = some r ∧ InLoopG P c pin fi.fn.ntmps T H ex T' H' := by
    intro hx h
    obtain ⟨T2, H2, hK, hn⟩ := normAt_sound h
    exact ⟨ex, T2, H2, hK, InLoopG.leave hb hx hn⟩
  cases ex with
  | normal =>
    obtain ⟨T2, H2, h, hn⟩ := normAt_sound h
    obtain ⟨ex, T', H', hK, hG⟩ := hS T2 H2 h
    exact ⟨ex, T', H', hK, InLoopG.round hb hn hG⟩
  | exit i => exact hleave (by simp) h
  | goto l => exact hleave (by simp) h
  | ret => exact hleave (by simp) h

theorem loopK_sound {c : Code} {fi : FnI} {pin key : Nat} {live : Option (List Nat)} {body : Tmps → Heap → Kont R → Option R} {K : Kont R} {r : R}
    (hbody : ∀ T H (K : Kont R) r, body T H K = some r → ∃ ex T' H', K ex T' H' = some r ∧ CodeG P c pin fi.fn.ntmps T H ex T' H') :
    ∀ (n : Nat) (T : Tmps) (H : Heap), loopK pin live body (exitNorm fi.ann key pin K) n T H = some r → ∃ ex T' H', K ex T' H' = some r ∧ InLoopG P c pin fi.fn.ntmps T H ex T' H'
  | 0, _, _, h => by cases h
  | n + 1, T, H, h => by
    rw [loopK] at h
    obtain ⟨ex, T1, H1, h, hb⟩ := hbody _ _ _ _ h
    exact loop_step (fun T H hh => loopK_sound hbody n T H hh) hb h

/-! ### Scopes -/

theorem InScopeG.round {c rest rest' : Code} {l : Nat} {pin nt : Nat} {T T1 T2 T' : Tmps} {H H1 H2 H' : Heap} {ex : Ex} (hb : CodeG P rest pin nt T H (.goto l) T1 H1) (hf : findLabel c l = some rest')
    (hn : ∀ E nt a w, St E nt T1 H1 a w → ∃ E', St E' nt T2 H2 a w ∧ Fr E H1 w E' H2 w ∧ ∀ i, i < pin → E' i = E i) (h : InScopeG P c rest' pin nt T2 H2 ex T' H') : InScopeG P c rest pin nt T H ex T' H' := by
  intro E a w hst hpins b k cs
  obtain ⟨e, a1, w1, hq, har⟩ := hb E a w hst hpins b (.inScope c :: k) cs
  obtain ⟨he, E1, hst1, hfr1, hp1⟩ := hq.norm hn
  subst he
  obtain ⟨e2, a2, w2, hq2, har2⟩ := h.after hst1 hfr1 hpins hp1 b k cs
  have hg : gotoIn l (.inScope c :: k) = some (.code rest' :: .inScope c :: k) := by simp [gotoIn, hf]
  exact ⟨e2, a2, w2, hq2, .of_steps (har _ hg) har2⟩

theorem InScopeG.leave {c rest : Code} {pin nt : Nat} {T T1 T2 : Tmps} {H H1 H2 : Heap} {ex : Ex} (hb : CodeG P rest pin nt T H ex T1 H1) (hx : ∀ l, ex = .goto l → findLabel c l = none)
    (hn : ∀ E nt a w, St E nt T1 H1 a w → ∃ E', St E' nt T2 H2 a w ∧ Fr E H1 w E' H2 w ∧ ∀ i, i < pin → E' i = E i) : InScopeG P c rest pin nt T H ex T2 H2 := by
  intro E a w hst hpins b k cs
  obtain ⟨e, a1, w1, hq, har⟩ := hb E a w hst hpins b (.inScope c :: k) cs
  have hq' := hq.norm hn
  obtain ⟨he, _⟩ := hq
  refine ⟨e, a1, w1, hq', ?_⟩
  subst he
  cases ex with
  | normal => exact Steps.trans har (.one step_inScope)
  | exit id => exact fun k' hk => har k' (by simp [exitTo, hk])
  | goto l => exact fun k' hk => har k' (by simp [gotoIn, hx l rfl, hk])
  | ret => exact har

theorem jump_step {c rest rest' : Code} {l : Nat} {fi : FnI} {pin key : Nat} {live : Option (List Nat)} {K : Kont R} {S : Tmps → Heap → Option R} {r : R} (hf : findLabel c l = some rest')
    (hS : ∀ T H, S T H = some r → ∃ ex T' H', K ex T' H' = some r ∧ InScopeG P c rest' pin fi.fn.ntmps T H ex T' H') {T T1 : Tmps} {H H1 : Heap} {ex : Ex} (hb : CodeG P rest pin fi.fn.ntmps T H ex T1 H1)
    (h : (match (generalizing := false) ex with
      | .goto l' => cond (Nat.beq l' l) (normAt live pin T1 H1 S) (match findLabel c l' with | some _ => none | none => exitNorm fi.ann key pin K (.goto l') T1 H1)
      | ex => exitNorm fi.ann key pin K ex T1 H1) = some r) : ∃ ex T' H', K ex T' H' = some r ∧ InScopeG P c rest pin fi.fn.ntmps T H ex T' H' := by
  have hleave : (∀ l, ex = .goto l → findLabel c l = none) → exitNorm fi.ann key pin K ex T1 H1 = some r → ∃ ex T' H', K ex T' H' = some r ∧ InScopeG P c rest pin fi.fn.ntmps T H ex T' H' := by
    intro hx h
    obtain ⟨T2, H2, hK, hn⟩ := normAt_sound h
    exact ⟨ex, T2, H2, hK, InScopeG.leave hb hx hn⟩
  cases ex with
  | normal => exact hleave (fun _ hh => by cases hh) h
  | exit i => exact hleave (fun _ hh => by cases hh) h
  | goto l' =>
    change cond (Nat.beq l' l) (normAt live pin T1 H1 S) (match findLabel c l' with | some _ => none | none => exitNorm fi.ann key pin K (.goto l') T1 H1) = some r at h
    rcases bool_cases h with ⟨hb', h2⟩ | ⟨hb', h2⟩
    · have := beq_eq hb'; clear h; subst this
      obtain ⟨T2, H2, h, hn⟩ := normAt_sound h2
      obtain ⟨ex, T', H', hK, hG⟩ := hS T2 H2 h
      exact ⟨ex, T', H', hK, InScopeG.round hb hf hn hG⟩
    · clear h
      split at h2
      · cases h2
      · rename_i hnone
        exact hleave (fun _ hh => by cases hh; exact hnone) h2
  | ret => exact hleave (fun _ hh => by cases hh) h

theorem jumpK_sound {c rest : Code} {l : Nat} {fi : FnI} {pin key : Nat} {live : Option (List Nat)} {body : Tmps → Heap → Kont R → Option R} {K : Kont R} {r : R} (hf : findLabel c l = some rest)
    (hbody : ∀ T H (K : Kont R) r, body T H K = some r → ∃ ex T' H', K ex T' H' = some r ∧ CodeG P rest pin fi.fn.ntmps T H ex T' H') :
    ∀ (n : Nat) (T : Tmps) (H : Heap), jumpK pin live c l body (exitNorm fi.ann key pin K) n T H = some r → ∃ ex T' H', K ex T' H' = some r ∧ InScopeG P c rest pin fi.fn.ntmps T H ex T' H'
  | 0, _, _, h => by cases h
  | n + 1, T, H, h => by
    rw [jumpK] at h
    obtain ⟨ex, T1, H1, h, hb⟩ := hbody _ _ _ _ h
    exact jump_step hf (fun T H hh => jumpK_sound hf hbody n T H hh) hb h

theorem InScopeG.code {c : Code} {pin nt : Nat} {T T' : Tmps} {H H' : Heap} {ex : Ex} (h : InScopeG P c c pin nt T H ex T' H') : CodeG P (.scope c) pin nt T H ex T' H' := by
  intro E a w hst hpins b k cs
  obtain ⟨e, a', w', hq, har⟩ := h E a w hst hpins b k cs
  exact ⟨e, a', w', hq, .of_steps (.one step_scope) har⟩

theorem codeOk_label {fi : FnI} : ∀ {c rest : Code} {l : Nat}, CodeOk P C fi c → findLabel c l = some rest → CodeOk P C fi rest
  | .seq a b, rest, l, h, hf => by
    rw [findLabel] at hf
    split at hf
    · rename_i rest' hr
      cases hf
      exact ⟨codeOk_label h.1 hr, h.2⟩
    · exact codeOk_label h.2 hf
  | .label l', rest, l, h, hf => by
    rw [findLabel] at hf
    split at hf
    · cases hf; trivial
    · cases hf
  | .skip, _, _, _, hf => by simp [findLabel] at hf
  | .region .., _, _, _, hf => by simp [findLabel] at hf
  | .cond .., _, _, _, hf => by simp [findLabel] at hf
  | .block .., _, _, _, hf => by simp [findLabel] at hf
  | .loop .., _, _, _, hf => by simp [findLabel] at hf
  | .rangeFunc .., _, _, _, hf => by simp [findLabel] at hf
  | .exit .., _, _, _, hf => by simp [findLabel] at hf
  | .scope .., _, _, _, hf => by simp [findLabel] at hf
  | .goto .., _, _, _, hf => by simp [findLabel] at hf
  | .ret, _, _, _, hf => by simp [findLabel] at hf
  | .refuse .., _, _, _, hf => by simp [findLabel] at hf

theorem codeK_sound (hC : CxOk P C) (hp : PrevOk P C prev) (pin : Nat) (fi : FnI) : ∀ (c : Code) (T : Tmps) (H : Heap) (K : Kont R) (r : R), CodeOk P C fi c → codeK C prev pin fi c T H K = some r →
    ∃ ex T' H', K ex T' H' = some r ∧ CodeG P c pin fi.fn.ntmps T H ex T' H' := by
  intro c
  induction c with
  | skip => exact fun T H K r _ h => ⟨.normal, T, H, h, fun E a w hst _ => wp_skip (Past.here hst)⟩
  | label l => exact fun T H K r _ h => ⟨.normal, T, H, h, fun E a w hst _ => wp_label (Past.here hst)⟩
  | exit id => exact fun T H K r _ h => ⟨.exit id, T, H, h, fun E a w hst _ => wp_exit (Past.here hst)⟩
  | goto l => exact fun T H K r _ h => ⟨.goto l, T, H, h, fun E a w hst _ => wp_goto (Past.here hst)⟩
  | ret => exact fun T H K r _ h => ⟨.ret, T, H, h, fun E a w hst _ => wp_ret (Past.here hst)⟩
  | rangeFunc f ps x y => exact fun T H K r _ h => by cases h
  | refuse s => exact fun T H K r _ h => by cases h
  | region id ops draw =>
    intro T H K r _ h
    obtain ⟨T', H', hK, hG⟩ := regionK_sound hC hp h
    exact ⟨.normal, T', H', hK, hG⟩
  | seq x y ihx ihy =>
    intro T H K r hok h
    obtain ⟨ex, T1, H1, h, hx⟩ := ihx _ _ _ _ hok.1 h
    have hleave : ex ≠ .normal → K ex T1 H1 = some r → ∃ ex T' H', K ex T' H' = some r ∧ CodeG P (.seq x y) pin fi.fn.ntmps T H ex T' H' := by
      intro hne h
      refine ⟨ex, T1, H1, h, fun E a w hst hpins => wp_seq (wp_mono (hx E a w hst hpins) fun e a' w' hq => ?_)⟩
      obtain ⟨he, _⟩ := id hq
      subst he
      cases ex <;> first | exact absurd rfl hne | exact hq
    cases ex with
    | normal =>
      obtain ⟨ex, T', H', hK, hy⟩ := ihy _ _ _ _ hok.2 h
      refine ⟨ex, T', H', hK, fun E a w hst hpins => wp_seq (wp_mono (hx E a w hst hpins) fun e a' w' hq => ?_)⟩
      obtain ⟨he, E1, hst1, hfr1, hp1⟩ := hq
      subst he
      exact hy.after hst1 hfr1 hpins hp1
    | exit i => exact hleave (by simp) h
    | goto l => exact hleave (by simp) h
    | ret => exact hleave (by simp) h
  | cond c x y ihx ihy =>
    intro T H K r hok h
    rw [codeK] at h
    split at h
    · rename_i b hb
      have hset : ∀ (E : Env) (nt : Nat) (a : Act) (w : World), St E nt T H a w → a.eval c = .bool b ∧ St E nt (match (generalizing := false) c with | .tmp t => (t, .b b) :: T | _ => T) H a w := by
        intro E nt a w hst
        have hv := opd_rel hst.t c
        rw [hb] at hv
        have hcv : a.eval c = .bool b := by
          generalize a.eval c = cv at hv
          cases hv; rfl
        refine ⟨hcv, ?_⟩
        cases c with
        | tmp t =>
          refine ⟨fun t' => ?_, hst.h, hst.d, hst.n⟩
          simp only
          rw [tget_cons]
          split
          · rename_i ht; subst ht
            have : a.tmps.getD t undef = .bool b := hcv
            rw [this]; exact .b _
          · exact hst.t t'
        | const v => exact hst
        | global g => exact hst
        | func f => exact hst
      cases b with
      | true =>
        simp only [cond_true] at h
        obtain ⟨ex, T', H', hK, hx⟩ := ihx _ _ _ _ hok.1 h
        refine ⟨ex, T', H', hK, fun E a w hst hpins => ?_⟩
        obtain ⟨hc, hst'⟩ := hset E _ a w hst
        exact wp_cond_true hc (hx E a w hst' hpins)
      | false =>
        simp only [cond_false] at h
        obtain ⟨ex, T', H', hK, hx⟩ := ihy _ _ _ _ hok.2 h
        refine ⟨ex, T', H', hK, fun E a w hst hpins => ?_⟩
        obtain ⟨hc, hst'⟩ := hset E _ a w hst
        exact wp_cond_false hc (hx E a w hst' hpins)
    · cases h
  | block id c ih =>
    intro T H K r hok h
    obtain ⟨ex, T1, H1, h, hx⟩ := ih _ _ _ _ hok h
    have hkeep : (∀ i, ex ≠ .exit i) → K ex T1 H1 = some r → ∃ ex T' H', K ex T' H' = some r ∧ CodeG P (.block id c) pin fi.fn.ntmps T H ex T' H' := by
      intro hne h
      refine ⟨ex, T1, H1, h, fun E a w hst hpins => wp_block (wp_mono (hx E a w hst hpins) fun e a' w' hq => ?_)⟩
      obtain ⟨he, _⟩ := _root_.id hq
      subst he
      cases ex <;> first | exact absurd rfl (hne _) | exact hq
    cases ex with
    | normal => exact hkeep (fun _ => by simp) h
    | exit i =>
      change cond (Nat.beq i id) (K .normal T1 H1) (K (.exit i) T1 H1) = some r at h
      rcases bool_cases h with ⟨hb, h2⟩ | ⟨hb, h2⟩
      · have := beq_eq hb; clear h; subst this
        refine ⟨.normal, T1, H1, h2, fun E a w hst hpins => wp_block (wp_mono (hx E a w hst hpins) fun e a' w' hq => ?_)⟩
        obtain ⟨he, hr⟩ := hq
        subst he
        show (if i = i then _ else _)
        rw [if_pos rfl]
        exact ⟨rfl, hr⟩
      · refine ⟨.exit i, T1, H1, h2, fun E a w hst hpins => wp_block (wp_mono (hx E a w hst hpins) fun e a' w' hq => ?_)⟩
        obtain ⟨he, hr⟩ := hq
        subst he
        show (if i = id then _ else _)
        rw [if_neg (fun hh => by subst hh; simp at hb)]
        exact ⟨rfl, hr⟩
    | goto l => exact hkeep (fun _ => by simp) h
    | ret => exact hkeep (fun _ => by simp) h
  | loop c ih =>
    intro T H K r hok h
    rw [codeK] at h
    split at h
    · cases h
    · rename_i key hkey
      obtain ⟨T1, H1, h, hn⟩ := normAt_sound h
      have key' : ∃ ex T' H', K ex T' H' = some r ∧ InLoopG P c pin fi.fn.ntmps T1 H1 ex T' H' := by
        split at h
        · rename_i S hS
          exact hok.2 key S hkey hS pin T1 H1 K r h
        · exact loopK_sound (fun T H K r hh => ih T H K r hok.1 hh) _ _ _ h
      obtain ⟨ex, T', H', hK, hG⟩ := key'
      refine ⟨ex, T', H', hK, fun E a w hst hpins => ?_⟩
      obtain ⟨E1, hst1, hfr, hpin⟩ := hn E _ a w hst
      exact hG.code.after hst1 hfr hpins hpin
  | scope c ih =>
    intro T H K r hok h
    rw [codeK] at h
    obtain ⟨ex, T1, H1, h, hx⟩ := ih _ _ _ _ hok.1 h
    have hid : ∀ (T : Tmps) (H : Heap) E nt a w, St E nt T H a w → ∃ E', St E' nt T H a w ∧ Fr E H w E' H w ∧ ∀ i, i < pin → E' i = E i := fun T H E nt a w hst => ⟨E, hst, Fr.refl E H w, fun _ _ => rfl⟩
    have hkeep : (∀ l, ex = .goto l → findLabel c l = none) → K ex T1 H1 = some r → ∃ ex T' H', K ex T' H' = some r ∧ CodeG P (.scope c) pin fi.fn.ntmps T H ex T' H' :=
      fun hne h => ⟨ex, T1, H1, h, (InScopeG.leave hx hne (hid T1 H1)).code⟩
    cases ex with
    | normal => exact hkeep (fun _ hh => by cases hh) h
    | exit i => exact hkeep (fun _ hh => by cases hh) h
    | ret => exact hkeep (fun _ hh => by cases hh) h
    | goto l =>
      simp only at h
      split at h
      · rename_i hl
        exact hkeep (fun _ hh => by cases hh; exact hl) h
      · rename_i rest hl
        obtain ⟨T2, H2, h, hn⟩ := normAt_sound h
        have key' : ∃ ex T' H', K ex T' H' = some r ∧ InScopeG P c rest pin fi.fn.ntmps T2 H2 ex T' H' := by
          split at h
          · rename_i S hS
            exact hok.2 l rest S hl hS pin T2 H2 K r h
          · exact jumpK_sound hl (fun T H K r hh => hp pin fi rest T H K r (codeOk_label hok.1 hl) hh) _ _ _ h
        obtain ⟨ex, T', H', hK, hG⟩ := key'
        exact ⟨ex, T', H', hK, (InScopeG.round hx hl hn hG).code⟩

theorem run_sound (hC : CxOk P C) : ∀ d, PrevOk P C (run C d)
  | 0 => fun pin fi c T H K r _ h => by cases h
  | d + 1 => fun pin fi c T H K r hok h => codeK_sound hC (run_sound hC d) pin fi c T H K r hok h

/-- A function's evaluator is a summary of it. -/
theorem fnK_sound (hC : CxOk P C) (d f : Nat) : SumOk P f false (fun args H (K : AV → Heap → Option R) => fnK C d f args H K) := by
  intro args H K r h
  unfold fnK at h
  split at h
  · rename_i fi hf
    exact bodyK_sound hC (run_sound hC d) hf args H K r h
  · cases h

end
end Go.Ab
