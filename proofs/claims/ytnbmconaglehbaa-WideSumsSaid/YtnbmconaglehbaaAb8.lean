/- Operations but calls, one by one. Conditions: none. -/
import Derived.Test.YtnbmconaglehbaaAb7
namespace Go.Ab
set_option linter.unusedVariables false
set_option linter.unusedSimpArgs false
open Go

def OpV (P : Program) (T : Tmps) (H : Heap) (o : Oper) (v : AV) (H' : Heap) : Prop :=
  ∀ (E : Env) (a : Act) (w : World), TRel E T a → HRel E H w → ∃ (x : Value) (w' : World) (E' : Env) (nx : Next), (execOp a.eval o).run P w = .ok nx w' ∧ (nx = .value x ∨ (nx = .skip ∧ x = undef)) ∧
    VRel E' v x ∧ HRel E' H' w' ∧ Ext E E' ∧ Fr E H w E' H' w'

theorem Ext.refl (E : Env) : Ext E E := fun _ _ h => h

section
variable {P : Program} {Ty : Types} {R : Type}

theorem OpV.pure {T : Tmps} {H : Heap} {o : Oper} {v : AV} (sem : Act → Sem Value) (hex : ∀ a : Act, execOp a.eval o = (do Pure.pure (.value (← sem a)) : Sem Next))
    (h : ∀ (E : Env) (a : Act) (w : World), TRel E T a → HRel E H w → ∃ x, (sem a).run P w = .ok x w ∧ VRel E v x) : OpV P T H o v H := by
  intro E a w hT hH
  obtain ⟨x, hx, hv⟩ := h E a w hT hH
  exact ⟨x, w, E, .value x, by rw [hex]; simp [hx], .inl rfl, hv, hH, Ext.refl E, Fr.refl E H w⟩

theorem OpV.made {T : Tmps} {H H' : Heap} {o : Oper} {v : AV} (sem : Act → Sem Value) (hex : ∀ a : Act, execOp a.eval o = (do Pure.pure (.value (← sem a)) : Sem Next))
    (h : ∀ (E : Env) (a : Act) (w : World), TRel E T a → HRel E H w → ∃ x w' E', (sem a).run P w = .ok x w' ∧ VRel E' v x ∧ HRel E' H' w' ∧ Ext E E' ∧ Fr E H w E' H' w') : OpV P T H o v H' := by
  intro E a w hT hH
  obtain ⟨x, w', E', hx, hv, h1, h2, h3⟩ := h E a w hT hH
  exact ⟨x, w', E', .value x, by rw [hex]; simp [hx], .inl rfl, hv, h1, h2, h3⟩

theorem int_of {E : Env} {k : IntKind} {n : Int} {x : Value} (h : VRel E (.i k n) x) : x = .int k n := by cases h; rfl

/-! ### Parts -/

theorem VRelL.arr {E : Env} {cs : List AV} {vs : Array Value} (h : VRelL E cs vs.toList) {j : Nat} {v : AV} (hj : cs[j]? = some v) : ∃ x, vs[j]? = some x ∧ VRel E v x := by
  obtain ⟨x, hx, hr⟩ := h.get j v hj
  exact ⟨x, by simpa using hx, hr⟩

theorem partAt_sound (hTy : TyOk P Ty) {cs : List AV} {off t : Nat} {i : TI} {K : AV → Option R} {r : R} (hT : Ty t = some i) (h : partAt cs off i K = some r) :
    ∃ v, K v = some r ∧ ∀ (E : Env) (vs : Array Value) (w : World), VRelL E cs vs.toList → ∃ x, (part t vs off).run P w = .ok x w ∧ VRel E v x := by
  obtain ⟨info, d, hi, hu, hd, hsz, _, _⟩ := hTy.ok _ _ hT
  unfold partAt at h
  obtain ⟨h1, h⟩ := cond_some h
  have h1 : off + i.size ≤ cs.length := by simpa using h1
  cases ha : i.d.isAgg with
  | true =>
    rw [ha] at h
    refine ⟨_, h, fun E vs w hv => ⟨_, part_agg hi hu hd ha vs off, .agg ?_⟩⟩
    rw [hsz]
    have := hv.sub off i.size
    simpa [seg, Array.toList_extract, List.extract_eq_take_drop] using this
  | false =>
    rw [ha] at h
    simp only at h
    split at h
    · rename_i v hs
      refine ⟨_, h, fun E vs w hv => ?_⟩
      have hj : cs[off]? = some v := by
        have := congrArg (fun l : List AV => l[0]?) hs
        simpa [seg, List.getElem?_take, List.getElem?_drop] using this
      obtain ⟨x, hx, hr⟩ := hv.arr hj
      refine ⟨x, ?_, hr⟩
      unfold part
      simp [run_isAgg hu hd, ha, hx]
    · cases h

theorem fieldOff_sound (hTy : TyOk P Ty) {t f off : Nat} {fs : List (Nat × Nat)} {i : TI} (h : fieldOff Ty fs f = some (off, i)) :
    ∃ ft, fs[f]? = some (off, ft) ∧ Ty ft = some i := by
  unfold fieldOff at h
  cases hf : fs[f]? with
  | none => rw [hf] at h; cases h
  | some p =>
    rw [hf, Option.bind_some] at h
    cases hp : Ty p.2 with
    | none => rw [hp] at h; cases h
    | some i' => rw [hp, Option.bind_some] at h; cases h; exact ⟨p.2, rfl, hp⟩

theorem struct_of {d : TypeDesc} {fs : List (Nat × Nat)} (hd : tdOf d = some (.struct fs)) : ∃ fields : Array Field, d = .struct fields ∧ fields.toList.map (fun f => (f.offset, f.type)) = fs := by
  cases d <;> simp [tdOf] at hd
  exact ⟨_, rfl, hd⟩

theorem field_get {fields : Array Field} {fs : List (Nat × Nat)} (h : fields.toList.map (fun f => (f.offset, f.type)) = fs) {f off ft : Nat} (hf : fs[f]? = some (off, ft)) :
    ∃ fd, fields[f]? = some fd ∧ fd.offset = off ∧ fd.type = ft := by
  rw [← h, List.getElem?_map] at hf
  cases hx : fields.toList[f]? with
  | none => rw [hx] at hf; cases hf
  | some fd => rw [hx] at hf; cases hf; exact ⟨fd, by simpa using hx, rfl, rfl⟩

/-! ### Filling -/

theorem fold_put (off : Nat) : ∀ (l : List Value) (k : Nat) (vs : Array Value), off + k + l.length ≤ vs.size →
    ((l.zipIdx k).foldl (fun cs (p : Value × Nat) => cs.setIfInBounds (off + p.2) p.1) vs).size = vs.size ∧
    ∀ j : Nat, ((l.zipIdx k).foldl (fun cs (p : Value × Nat) => cs.setIfInBounds (off + p.2) p.1) vs)[j]? = if off + k ≤ j ∧ j < off + k + l.length then l[j - (off + k)]? else vs[j]?
  | [], k, vs, h => ⟨rfl, fun j => by simp; omega⟩
  | x :: l, k, vs, h => by
    rw [List.zipIdx_cons, List.foldl_cons]
    simp only [List.length_cons] at h
    obtain ⟨h1, h2⟩ := fold_put off l (k + 1) (vs.setIfInBounds (off + k) x) (by simp; omega)
    refine ⟨by rw [h1]; simp, fun j => ?_⟩
    rw [h2, Array.getElem?_setIfInBounds]
    simp only [List.length_cons]
    by_cases hj : off + k = j
    · subst hj
      rw [if_neg (by omega), if_pos rfl, if_pos (by omega), if_pos (by omega)]
      simp
    · rw [if_neg hj]
      by_cases hj2 : off + (k + 1) ≤ j ∧ j < off + (k + 1) + l.length
      · rw [if_pos hj2, if_pos (by omega)]
        rw [show j - (off + k) = (j - (off + (k + 1))) + 1 by omega, List.getElem?_cons_succ]
      · rw [if_neg hj2, if_neg (by omega)]

theorem fill_sound {E : Env} {place : Nat → Option (Nat × Nat)} {place' : Nat → Option (Nat × Nat)} (hp : ∀ i off size, place i = some (off, size) → place' i = some (off, size)) :
    ∀ (parts : List (Nat × AV)) (parts' : List (Nat × Value)) (cs cs' : List AV) (vs : Array Value), fillL place cs parts = some cs' → VRelL E cs vs.toList →
      parts.map (·.1) = parts'.map (·.1) → VRelL E (parts.map (·.2)) (parts'.map (·.2)) → ∃ vs', Instr.fill place' vs parts' = some vs' ∧ VRelL E cs' vs'.toList
  | [], [], cs, cs', vs, h, hv, _, _ => by cases h; exact ⟨vs, rfl, hv⟩
  | (i, v) :: parts, (i', x) :: parts', cs, cs', vs, h, hv, hn, hr => by
    simp only [List.map_cons, List.cons.injEq] at hn
    obtain ⟨rfl, hn⟩ := hn
    cases hr with
    | cons hr hrs =>
      simp only [fillL] at h
      split at h
      · rename_i off size us hpl hus
        obtain ⟨h1, h2⟩ := cond_some h
        simp only [Bool.and_eq_true] at h1
        have h3 := beq_eq h1.1
        have h4 : off + size ≤ cs.length := by simpa using h1.2
        have hcells := hr.cells hus
        have hlen := hcells.length
        have hvl := hv.length
        have hput : VRelL E (putSeg cs off us) (x.cells.zipIdx.foldl (fun cs (c, j) => cs.setIfInBounds (off + j) c) vs).toList := by
          rw [← Array.foldl_toList, Array.toList_zipIdx]
          have hle : off + 0 + x.cells.toList.length ≤ vs.size := by rw [← hlen, h3]; rw [← Array.length_toList, ← hvl]; omega
          obtain ⟨k1, k2⟩ := fold_put off x.cells.toList 0 vs hle
          simp only [Nat.add_zero] at k2
          have hle' : off + us.length ≤ cs.length := by omega
          refine VRelL.of_get ?_ fun j v z hv' hz => ?_
          · rw [putSeg_length hle', hvl]; simp only [Array.length_toList]; exact k1.symm
          · rw [putSeg_get hle'] at hv'
            rw [Array.getElem?_toList] at hz
            have hz' := (k2 j).symm.trans hz
            rw [← hlen] at hz'
            by_cases hj : off ≤ j ∧ j < off + us.length
            · rw [if_pos hj] at hv' hz'
              obtain ⟨y, hy, hry⟩ := hcells.get _ v hv'
              rw [hy] at hz'; cases hz'; exact hry
            · rw [if_neg hj] at hv' hz'
              obtain ⟨y, hy, hry⟩ := hv.arr hv'
              rw [hy] at hz'; cases hz'; exact hry
        obtain ⟨vs', k1, k2⟩ := fill_sound hp parts parts' _ _ _ h2 hput hn hrs
        refine ⟨vs', ?_, k2⟩
        simp only [Instr.fill, hp _ _ _ hpl]
        rw [if_neg]
        · exact k1
        · simp at hlen hvl ⊢; omega
      · cases h
  | [], _ :: _, _, _, _, _, _, hn, _ => by simp at hn
  | _ :: _, [], _, _, _, _, _, hn, _ => by simp at hn

/-! ### Addresses -/

theorem arr_of {d : TypeDesc} {n e : Nat} (hd : tdOf d = some (.arr n e)) : d = .array n e := by cases d <;> simp [tdOf] at hd; obtain ⟨rfl, rfl⟩ := hd; rfl
theorem slice_of {d : TypeDesc} {e : Nat} (hd : tdOf d = some (.slice e)) : d = .slice e := by cases d <;> simp [tdOf] at hd; subst hd; rfl
theorem str_of {d : TypeDesc} (hd : tdOf d = some (.sc .s)) : d = .string := by cases d <;> simp [tdOf] at hd; rfl
theorem int_ty {d : TypeDesc} {k : IntKind} (hd : tdOf d = some (.sc (.i k))) : d = .int k := by cases d <;> simp [tdOf] at hd; subst hd; rfl

theorem run_indexAt_slice {t el : Nat} {ei : TypeInfo} (hu : P.underlying t = some (.slice el)) (hi : P.info? el = some ei) {r o n cap : Nat} {k : IntKind} {j : Int} (h0 : 0 ≤ j) (h1 : j < n) (w : World) :
    (Instr.indexAt t (.slice (some ⟨r, o, none⟩) n cap) (.int k j)).run P w = .ok (.pointer (some ⟨r, o + j.toNat * ei.size, none⟩)) w := by
  unfold Instr.indexAt
  simp [asIntOf, run_underlying hu, h0, h1, run_sizeOf hi, addr_add]

theorem run_indexAt_arr {t el n : Nat} {ei : TypeInfo} (hu : P.underlying t = some (.array n el)) (hi : P.info? el = some ei) {r o : Nat} {k : IntKind} {j : Int} (h0 : 0 ≤ j) (h1 : j < n) (w : World) :
    (Instr.indexAt t (.pointer (some ⟨r, o, none⟩)) (.int k j)).run P w = .ok (.pointer (some ⟨r, o + j.toNat * ei.size, none⟩)) w := by
  unfold Instr.indexAt
  simp [asIntOf, run_underlying hu, h0, h1, run_sizeOf hi, addr_add, Instr.sureAddr]

theorem div_mul_self {a b : Nat} (h : Nat.beq (a % b) 0 = true) : a / b * b = a := by
  have := beq_eq h
  exact Nat.div_mul_cancel (Nat.dvd_of_mod_eq_zero this)

theorem indexAddrK_sound (hTy : TyOk P Ty) {H : Heap} {t : Nat} {x i : AV} {K : AV → Heap → Option R} {r : R} (h : indexAddrK Ty H t x i K = some r) :
    ∃ v, K v H = some r ∧ ∀ E xv iv w, VRel E x xv → VRel E i iv → HRel E H w → ∃ y, (Instr.indexAt t xv iv).run P w = .ok y w ∧ VRel E v y := by
  unfold indexAddrK at h
  split at h
  · rename_i el _ _ _ id _ j hT
    obtain ⟨info, d, hi, hu, hd, _⟩ := hTy.ok _ _ hT
    have := slice_of hd; subst this
    split at h
    · rename_i fam ro sh xs ei hg hTe
      obtain ⟨h0, h⟩ := cond_some h
      obtain ⟨h1, h⟩ := cond_some h
      have h0 := of_decide_eq_true h0
      have h1 := of_decide_eq_true h1
      obtain ⟨einfo, ed, hei, heu, hed, hesz, _⟩ := hTy.ok _ _ hTe
      refine ⟨_, h, fun E xv iv w hx hiv hH => ?_⟩
      have := int_of hiv; subst this
      obtain ⟨ent, he, hB⟩ := hH.live _ _ hg
      obtain ⟨hn, hsz⟩ := hB.fits
      cases hx with
      | sw h' hr hcap hc =>
        rw [he] at h'; cases h'
        refine ⟨_, run_indexAt_slice hu hei h0 (by rw [hn]; exact h1) w, ?_⟩
        have := VRel.ptr (E := E) (id := id) (base := 0) (e := j.toNat) (sz := ei.size) (o := 0) he hr
        rw [hesz]
        simpa using this
      | sw0 h' hn0 =>
        rw [he] at h'; cases h'
        rw [hn0] at hn; omega
    · cases h
  · rename_i el _ _ _ id base e sz n _ j hT
    obtain ⟨info, d, hi, hu, hd, _⟩ := hTy.ok _ _ hT
    have := slice_of hd; subst this
    split at h
    · rename_i ei hTe
      obtain ⟨hs, h⟩ := cond_some h
      obtain ⟨h0, h⟩ := cond_some h
      obtain ⟨h1, h⟩ := cond_some h
      have hs := beq_eq hs
      have h0 := of_decide_eq_true h0
      have h1 := of_decide_eq_true h1
      obtain ⟨einfo, ed, hei, heu, hed, hesz, _⟩ := hTy.ok _ _ hTe
      refine ⟨_, h, fun E xv iv w hx hiv hH => ?_⟩
      have := int_of hiv; subst this
      cases hx with
      | sl h' hr hn =>
        refine ⟨_, run_indexAt_slice hu hei h0 h1 w, ?_⟩
        have := VRel.ptr (E := E) (id := id) (base := base) (e := e + j.toNat) (sz := sz) (o := 0) h' hr
        rw [hesz, hs]
        rw [Nat.add_mul] at this
        simpa [Nat.add_assoc] using this
      | sl0 hn => omega
    · cases h
  · rename_i n el _ _ _ id base e sz o _ j hT
    obtain ⟨info, d, hi, hu, hd, _⟩ := hTy.ok _ _ hT
    have := arr_of hd; subst this
    split at h
    · rename_i ei hTe
      obtain ⟨h0, h⟩ := cond_some h
      obtain ⟨h1, h⟩ := cond_some h
      have h0 := of_decide_eq_true h0
      have h1 := of_decide_eq_true h1
      obtain ⟨einfo, ed, hei, heu, hed, hesz, _⟩ := hTy.ok _ _ hTe
      rcases bool_cases h with ⟨hs, h⟩ | ⟨hs, h⟩
      · have := beq_eq hs; subst this
        refine ⟨_, h, fun E xv iv w hx hiv hH => ?_⟩
        have := int_of hiv; subst this
        cases hx with
        | ptr h' hr =>
          refine ⟨_, run_indexAt_arr hu hei h0 h1 w, ?_⟩
          have := VRel.ptr (E := E) (id := id) (base := base + o) (e := j.toNat) (sz := ei.size) (o := 0) h' hr
          rw [hesz]
          simpa [Nat.add_assoc] using this
      · obtain ⟨hm, h⟩ := cond_some h
        rw [Bool.and_eq_true] at hm
        have m1 := div_mul_self hm.1
        have m2 := div_mul_self hm.2
        refine ⟨_, h, fun E xv iv w hx hiv hH => ?_⟩
        have := int_of hiv; subst this
        cases hx with
        | ptr h' hr =>
          refine ⟨_, run_indexAt_arr hu hei h0 h1 w, ?_⟩
          have := VRel.ptr (E := E) (id := id) (base := base) (e := e * (sz / ei.size) + o / ei.size + j.toNat) (sz := ei.size) (o := 0) h' hr
          rw [Nat.add_mul, Nat.add_mul, Nat.mul_assoc, m1, m2] at this
          rw [hesz]
          simpa [Nat.add_assoc] using this
    · cases h
  · cases h

end
end Go.Ab
