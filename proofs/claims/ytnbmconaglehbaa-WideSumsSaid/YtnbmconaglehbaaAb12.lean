/- All operations but calls are sound: the remaining ones. Conditions: none. -/
import Derived.Test.YtnbmconaglehbaaAb11
namespace Go.Ab
set_option linter.unusedVariables false
set_option linter.unusedSimpArgs false
open Go

section
variable {P : Program} {Ty : Types} {R : Type}

theorem fillL_length (place : Nat → Option (Nat × Nat)) : ∀ (parts : List (Nat × AV)) (cs cs' : List AV), fillL place cs parts = some cs' → cs'.length = cs.length
  | [], cs, cs', h => by cases h; rfl
  | (i, v) :: parts, cs, cs', h => by
    simp only [fillL] at h
    split at h
    · rename_i off size us hp hu
      obtain ⟨h1, h2⟩ := cond_some h
      rw [Bool.and_eq_true] at h1
      have h3 := beq_eq h1.1
      have h4 : off + size ≤ cs.length := by simpa using h1.2
      rw [fillL_length place parts _ _ h2, putSeg_length (by omega)]
    · cases h

theorem repl_length (n : Nat) (zs : List AV) : (repl n zs).length = n * zs.length := by
  induction n with
  | zero => simp [repl]
  | succ n ih => simp [repl, ih, Nat.succ_mul]; omega

theorem repl_get (zs : List AV) : ∀ (n j : Nat), j < n * zs.length → (repl n zs)[j]? = zs[j % zs.length]?
  | 0, j, h => by simp at h
  | n + 1, j, h => by
    simp only [repl]
    by_cases hj : j < zs.length
    · rw [List.getElem?_append_left hj, Nat.mod_eq_of_lt hj]
    · rw [List.getElem?_append_right (by omega), repl_get zs n (j - zs.length) (by rw [Nat.succ_mul] at h; omega)]
      rw [Nat.mod_eq_sub_mod (a := j) (by omega)]

theorem zero_rows {E : Env} {zs : List AV} {z : Array Value} (h : VRelL E zs z.toList) (n : Nat) : VRelL E (repl n zs) ((Array.range (n * zs.length)).map (z[· % z.size]!)).toList := by
  have hl := h.length
  simp only [Array.length_toList] at hl
  refine VRelL.of_get (by rw [repl_length]; simp) fun j v x hv hx => ?_
  have hj : j < n * zs.length := by
    have := (List.getElem?_eq_some_iff.1 hv).1
    rwa [repl_length] at this
  rw [repl_get zs n j hj] at hv
  obtain ⟨y, hy, hr⟩ := h.arr hv
  rw [hl] at hy
  rw [Array.getElem?_toList, Array.getElem?_map, Array.getElem?_range, if_pos hj] at hx
  simp only [Option.map_some, Option.some.injEq] at hx
  have : z[j % z.size]! = y := by rw [getElem!_def, hy]
  rw [this] at hx; subst hx; exact hr

theorem buildSliceK_sound (hTy : TyOk P Ty) {H : Heap} {t len : Nat} {parts : List (Nat × AV)} {K : AV → Heap → Option R} {r : R} (h : buildSliceK Ty H t len parts K = some r) :
    ∃ v H', K v H' = some r ∧ ∀ (E : Env) (parts' : Array (Nat × Value)) (w : World), parts.map (·.1) = parts'.toList.map (·.1) → VRelL E (parts.map (·.2)) (parts'.toList.map (·.2)) → HRel E H w →
      ∃ x w' E', (Instr.buildSlice t len parts').run P w = .ok x w' ∧ VRel E' v x ∧ HRel E' H' w' ∧ Ext E E' ∧ Fr E H w E' H' w' := by
  unfold buildSliceK at h
  split at h
  · rename_i el _ _ _ hT
    obtain ⟨info, d, hi, hu, hd, _⟩ := hTy.ok _ _ hT
    have := slice_of hd; subst this
    split at h
    · rename_i ei hTe
      obtain ⟨einfo, ed, hei, heu, hed, hesz, _, z, hz, hzr⟩ := hTy.ok _ _ hTe
      split at h
      · rename_i zs hzs
        obtain ⟨hc, h⟩ := cond_some h
        rw [Bool.and_eq_true] at hc
        have hzl := beq_eq hc.1
        have hlim : len * ei.size ≤ 16777216 := by simpa using hc.2
        split at h
        · rename_i cs hcs
          -- the run
          have hrun : ∀ (E : Env) (parts' : Array (Nat × Value)) (w : World), parts.map (·.1) = parts'.toList.map (·.1) → VRelL E (parts.map (·.2)) (parts'.toList.map (·.2)) →
              ∃ vs : Array Value, VRelL E cs vs.toList ∧ vs.size = len * ei.size ∧ (Instr.buildSlice t len parts').run P w = .ok (.slice (some ⟨w.heap.size, 0, none⟩) len len) (w.alloc (.cells vs el (0, 0))) := by
            intro E parts' w hn hr
            have hzc := (hzr E).cells hzs
            have hzero := zero_rows hzc len
            obtain ⟨vs, k1, k2⟩ := fill_sound (place' := fun i => some (i * einfo.size, einfo.size)) (fun i off size hp => by rw [hesz]; exact hp) parts parts'.toList _ cs _ hcs hzero hn hr
            refine ⟨vs, k2, ?_, ?_⟩
            · have hl1 := k2.length
              have hl2 := fillL_length _ _ _ _ hcs
              rw [repl_length, hzl] at hl2
              simp only [Array.length_toList] at hl1; omega
            · unfold Instr.buildSlice
              have hlim' : ¬ (len * einfo.size > 2 ^ 24) := by rw [hesz]; omega
              simp only [Sem.run_bind, run_underlying hu, run_sizeOf hei, Result.andThen_ok, hlim', if_false, Sem.run_pure]
              by_cases h0 : len * einfo.size = 0
              · rw [if_pos h0]
                simp only [Sem.run_bind, Sem.run_pure, Result.andThen_ok]
                have : (Array.map (fun x => (#[] : Array Value)[x % (#[] : Array Value).size]!) (Array.range (len * einfo.size))) = ((Array.range (len * zs.length)).map (z.cells[· % z.cells.size]!)) := by rw [hzl, ← hesz, h0]; simp
                rw [this, k1]
                simp only [Sem.run_bind, run_newRow, Result.andThen_ok, Sem.run_pure]
              · simp only [h0, if_false, Sem.run_bind, run_zeroValue hei hz, Result.andThen_ok, Sem.run_pure]
                have : len * einfo.size = len * zs.length := by rw [hzl, hesz]
                rw [this, k1]
                simp only [Sem.run_bind, run_newRow, Result.andThen_ok, Sem.run_pure]
          split at h
          · rename_i blk hblk
            unfold rowBlk at hblk
            cases hsh : shapeOf Ty 10 el with
            | none => rw [hsh] at hblk; cases hblk
            | some sh =>
              rw [hsh, Option.bind_some] at hblk
              cases hxs : Tup.uns sh len cs with
              | none => rw [hxs] at hblk; cases hblk
              | some xs =>
                rw [hxs, Option.bind_some] at hblk
                obtain ⟨hb, hblk⟩ := cond_some hblk
                cases hblk
                rw [Bool.and_eq_true] at hb
                have hb1 := beq_eq hb.1
                have hb2 := beq_eq hb.2
                refine ⟨_, _, h, fun E parts' w hn hr hH => ?_⟩
                obtain ⟨vs, k1, k2, k3⟩ := hrun E parts' w hn hr
                obtain ⟨E', e1, e2, e3, e4⟩ := row_new (t := el) (fz := (0, 0)) (ro := false) hH (sh := sh) (xs := xs) (cap := len) (cs := vs) (by omega) (by rw [k2, hb2]) (fun _ => rfl) (fun j v hj => by
                  rw [uns_flat sh len cs xs hxs] at hj
                  exact k1.arr hj)
                exact ⟨_, _, E', k3, by rw [← hb1] at e1 ⊢; exact e1, e2, e3, e4⟩
          · refine ⟨_, _, h, fun E parts' w hn hr hH => ?_⟩
            obtain ⟨vs, k1, k2, k3⟩ := hrun E parts' w hn hr
            have hl1 := k1.length
            obtain ⟨e1, e2, e3⟩ := HRel.add (t := el) (fz := (0, 0)) (ro := false) (fam := H.next) hH (blk := .cells cs) (ent := ⟨some w.heap.size, 0, vs.size, 0, 0⟩) (cs := vs) rfl trivial rfl rfl rfl (by
              show cs.length ≤ _; simp only [Array.length_toList] at hl1; omega) (fun _ => rfl) (fun j v hj => k1.arr hj)
            refine ⟨_, _, _, k3, ?_, e1, e2, e3⟩
            have := VRel.sl (E := envAdd E H.next ⟨some w.heap.size, 0, vs.size, 0, 0⟩) (id := H.next) (base := 0) (e := 0) (sz := ei.size) (n := len) (cap := len) (r := w.heap.size) (ent := ⟨some w.heap.size, 0, vs.size, 0, 0⟩) (by simp [envAdd]) rfl (Nat.le_refl _)
            simpa using this
        · cases h
      · cases h
    · cases h
  · cases h

end
end Go.Ab
