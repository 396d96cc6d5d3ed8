/- Bodies, calls, operations. Conditions: none. -/
import Derived.Test.YtnbmconaglehbaaAb14
namespace Go.Ab
set_option linter.unusedVariables false
set_option linter.unusedSimpArgs false
open Go

section
variable {P : Program} {R : Type} {C : Cx R} {prev : Prev R}

theorem bodyK_sound (hC : CxOk P C) (hp : PrevOk P C prev) {f : Nat} {fi : FnI} (hf : C.fns f = some fi) : SumOk P f false (fun args H (K : AV → Heap → Option R) => bodyK C prev fi args H K) := by
  intro args H K r h
  obtain ⟨hno, hfn, hen, hok⟩ := hC.fns f fi hf
  simp only [bodyK] at h
  split at h
  · rename_i c hc
    obtain ⟨hle, h⟩ := cond_some h
    have hle : args.length ≤ fi.fn.ntmps := by simpa using hle
    obtain ⟨ex, T', H', hK, hG⟩ := hp _ _ _ _ _ _ _ (hok c hc) h
    have hK' : (ex = .ret ∨ ex = .normal) ∧ resultsK C.Ty T' H' fi.fn.results.toList (fun vs =>
        (fun seen => cond (seenOk H.next [one vs] H' seen) (K ((one vs).ren (idx seen)) (heapOf H' seen)) none) (seenOf H.next [one vs] H')) = some r := by
      cases ex with
      | ret => exact ⟨.inl rfl, hK⟩
      | normal => exact ⟨.inr rfl, hK⟩
      | exit i => cases hK
      | goto l => cases hK
    obtain ⟨hex, hK⟩ := hK'
    obtain ⟨vs, hK, hres⟩ := resultsK_sound hC.ty _ _ _ hK
    generalize hse : seenOf H.next [one vs] H' = seen at hK
    obtain ⟨hs, hK⟩ := cond_some hK
    refine ⟨_, _, hK, fun E cargs w hargs hH => ?_, fun hh => by cases hh⟩
    have hl := hargs.length
    simp only [Array.length_toList] at hl
    refine calls_of_wp hfn hc ?_
    refine wp_mono (hG E _ w ⟨start_rel hargs _, hH, rfl, ?_⟩ hH.full) ?_
    · simp; omega
    · rintro e a' w' ⟨he, E', hst, hfr, hpin⟩
      obtain ⟨xs, hx1, hx2⟩ := hres E' a' w' hst.t hst.h
      obtain ⟨h1, h2, h3, _⟩ := seenOk_spec hs
      have hrun : (results fi.fn a'.tmps).run P w' = .ok (if h : xs.toArray.size = 1 then xs.toArray[0] else .tuple xs.toArray) w' := by
        have : results fi.fn a'.tmps = (do
            let vs ← fi.fn.results.mapM (resAt a')
            pure (if h : vs.size = 1 then vs[0] else .tuple vs) : Sem Value) := by
          unfold results
          congr 2
        rw [this, Sem.run_bind, Array.mapM_eq_mapM_toList, Sem.run_map, hx1]
        rfl
      have hpost : a'.defers = [] ∧ ∃ v, (results fi.fn a'.tmps).run P w' = .ok v w' ∧ ∃ x E'', Ending.returned v = .returned x ∧ VRel E'' ((one vs).ren (idx seen)) x ∧ HRel E'' (heapOf H' seen) w' ∧ Fr E H w E'' (heapOf H' seen) w' ∧ ∀ i, i < H.next → E'' i = E i := by
        refine ⟨hst.d, _, hrun, _, envOf E' seen, rfl, (one_rel hx2).ren fun id hid => envOf_idx (h1 id (by simpa [AV.idsL] using hid)), (hst.h.heapOf hs).1, ?_, fun i hi => ?_⟩
        · exact hfr.trans ⟨rfl, rfl, rfl, Nat.le_refl _, fun _ _ _ => rfl, fun b hb _ => (hst.h.heapOf hs).2 b hb⟩
        · obtain ⟨h4, h5⟩ := h3 i hi
          rw [← hpin i hi]
          simp [envOf, h4, h5]
      rcases hex with rfl | rfl
      · subst he; exact hpost
      · subst he; exact hpost
  · cases h

/-- What a call comes to, in a frame. -/
def CallX (P : Program) (f : Nat) (args : List AV) (H : Heap) (v : AV) (H' : Heap) : Prop :=
  ∀ (E : Env) (cargs : Array Value) (w : World), VRelL E args cargs.toList → HRel E H w →
    (∃ x, (callFunc f cargs).run P w = .ok (.value x) w ∧ VRel E v x ∧ H' = H) ∨
    ((callFunc f cargs).run P w = .ok (.enter f cargs) w ∧ Calls P f cargs w fun e w' => ∃ x E', e = .returned x ∧ VRel E' v x ∧ HRel E' H' w' ∧ Ext E E' ∧ Fr E H w E' H' w')

theorem callK_sound (hC : CxOk P C) (hp : PrevOk P C prev) {f : Nat} {args : List AV} {H : Heap} {K : AV → Heap → Option R} {r : R} (h : callK C prev f args H K = some r) :
    ∃ v H', K v H' = some r ∧ CallX P f args H v H' := by
  unfold callK at h
  split at h
  · rename_i g hg
    split at h
    · rename_i p hv
      obtain ⟨hb, h⟩ := cond_some h
      obtain ⟨b, v⟩ := p
      simp only at hb h
      subst hb
      exact ⟨v, H, h, fun E cargs w ha hH => .inl (let ⟨x, h1, h2⟩ := hC.ext f g hg args v hv E cargs w ha; ⟨x, h1, h2, rfl⟩)⟩
    · cases h
  · have key : ∀ (keep : Bool) (S : Sum R), SumOk P f keep S → Enters P f → frameK keep args H S K = some r → ∃ v H', K v H' = some r ∧ CallX P f args H v H' := by
      intro keep S hS hE hf
      obtain ⟨v, H', hK, hG⟩ := frameK_sound hS hf
      exact ⟨v, H', hK, fun E cargs w ha hH => .inr ⟨hE cargs w, hG E cargs w ha hH⟩⟩
    cases hs : C.sum f with
    | some p =>
      rw [hs] at h
      exact key p.1 p.2 (hC.sum f p hs).1 (hC.sum f p hs).2 h
    | none =>
      rw [hs] at h
      cases hfn : C.fns f with
      | none =>
        rw [hfn] at h
        refine (frameK_sound (P := P) (f := f) (keep := false) (S := fun _ _ _ => none) (fun _ _ _ _ hh => by cases hh) h).elim fun v hv => ?_
        obtain ⟨H', hK, hG⟩ := hv
        unfold frameK at h
        cases hb : seenOk 0 args H (seenOf 0 args H) with
        | true => simp only [hb, cond_true] at h; cases h
        | false => simp only [hb, cond_false] at h; cases h
      | some fi =>
        rw [hfn] at h
        exact key false _ (bodyK_sound hC hp hfn) (hC.fns f fi hfn).2.2.1 h

/-- What an operation comes to. -/
def OpG (P : Program) (T : Tmps) (H : Heap) (o : Oper) (v : AV) (H' : Heap) : Prop :=
  ∀ (E : Env) (a : Act) (w : World), TRel E T a → HRel E H w → ∀ (next : Act → World → Prop) (Q : Exit → Act → World → Prop),
    (∀ x E' w', VRel E' v x → HRel E' H' w' → Ext E E' → Fr E H w E' H' w' → next (a.put o.dst x) w') → o.wp P a w next Q

theorem OpV.toG {T : Tmps} {H H' : Heap} {o : Oper} {v : AV} (h : OpV P T H o v H') : OpG P T H o v H' := by
  intro E a w hT hH next Q hn
  obtain ⟨x, w', E', nx, hr, hx, hv, h1, h2, h3⟩ := h E a w hT hH
  unfold Oper.wp
  rw [hr]
  have := hn x E' w' hv h1 h2 h3
  rcases hx with rfl | ⟨rfl, rfl⟩
  · exact this
  · exact this

theorem operK_sound (hC : CxOk P C) (hp : PrevOk P C prev) {T : Tmps} {H : Heap} {o : Oper} {K : AV → Heap → Option R} {r : R} (h : operK C prev T H o.op K = some r) :
    ∃ v H', K v H' = some r ∧ OpG P T H o v H' := by
  unfold operK at h
  split at h
  · rename_i b args argTypes ho
    obtain ⟨v, H', hK, hB⟩ := builtinK_sound (P := P) hC.ty h
    refine ⟨v, H', hK, fun E a w hT hH next Q hn => ?_⟩
    have hargs : VRelL E (opdsL T args.toList) (args.map a.eval).toList := by rw [Array.toList_map]; exact opdsL_rel hT _
    obtain ⟨x, w', E', k1, k2, k3, k4, k5⟩ := hB E w o.type (args.map fun | .const _ => true | _ => false) _ hargs hH
    have hr : (execOp a.eval o).run P w = .ok (.value x) w' := by
      unfold execOp
      rw [ho]
      simp only [resolve, Sem.run_bind, Sem.run_pure, Result.andThen_ok, invoke]
      exact k1
    unfold Oper.wp
    rw [hr]
    exact hn x E' w' k2 k3 k4 k5
  · rename_i f args argTypes ho
    split at h
    · rename_i f' cap hfv
      obtain ⟨v, H', hK, hX⟩ := callK_sound hC hp h
      refine ⟨v, H', hK, fun E a w hT hH next Q hn => ?_⟩
      have hv := opd_rel hT f
      rw [hfv] at hv
      have hargs : VRelL E (opdsL T args.toList) (args.map a.eval).toList := by rw [Array.toList_map]; exact opdsL_rel hT _
      have hcall : ∀ caps, a.eval f = .func (.func f') #[] caps → (execOp a.eval o) = callFunc f' (args.map a.eval ++ caps) := by
        intro caps hc
        unfold execOp
        rw [ho]
        show (do let d ← Deferred.ofValue (a.eval f) (args.map a.eval); invoke d.target d.args) = _
        rw [hc]
        show invoke (.fn (.func f') caps) (#[] ++ args.map a.eval) = _
        rw [Array.empty_append]
        rfl
      generalize a.eval f = fv at hv hcall
      cases hv with
      | fn hcap =>
        rename_i caps
        have hc := hcall caps rfl
        rcases hX E (args.map a.eval ++ caps) w (by rw [Array.toList_append]; exact hargs.append hcap) hH with ⟨x, h1, h2, rfl⟩ | ⟨h1, h2⟩
        · unfold Oper.wp
          rw [hc, h1]
          exact hn x E w h2 hH (Ext.refl E) (Fr.refl E _ w)
        · unfold Oper.wp
          rw [hc, h1, Oper.upon_enter]
          refine h2.mono ?_
          rintro e w' ⟨x, E', rfl, k1, k2, k3, k4⟩
          exact hn x E' w' k1 k2 k3 k4
    · cases h
  · cases h
  · obtain ⟨v, H', hK, hV⟩ := opK_sound (P := P) hC.ty hC.eq h
    exact ⟨v, H', hK, hV.toG⟩

end
end Go.Ab
