/- All operations but calls are sound: joined. Conditions: none. -/
import Derived.Test.YtnbmconaglehbaaAb12
namespace Go.Ab
set_option linter.unusedVariables false
set_option linter.unusedSimpArgs false
open Go

section
variable {P : Program} {Ty : Types} {R : Type}

theorem fillL_append (place : Nat → Option (Nat × Nat)) (rest : List AV) : ∀ (parts : List (Nat × AV)) (cs cs' : List AV), fillL place cs parts = some cs' → fillL place (cs ++ rest) parts = some (cs' ++ rest)
  | [], cs, cs', h => by cases h; rfl
  | (i, v) :: parts, cs, cs', h => by
    simp only [fillL] at h ⊢
    split at h
    · rename_i off size us hp hu
      obtain ⟨h1, h2⟩ := cond_some h
      have h1' := h1
      rw [Bool.and_eq_true] at h1
      have h3 := beq_eq h1.1
      have h4 : off + size ≤ cs.length := by simpa using h1.2
      have h5 : Nat.ble (off + size) (cs ++ rest).length = true := by simp; omega
      rw [h1.1, h5]
      simp only [Bool.and_self, cond_true]
      rw [putSeg_append_left (by omega)]
      exact fillL_append place rest parts _ _ h2
    · cases h

theorem build_struct {t : Nat} (hTy : TyOk P Ty) {fs : List (Nat × Nat)} {i : TI} (hT : Ty t = some i) (hd : i.d = .struct fs) (hall : (fs.all fun p => (Ty p.2).isSome) = true) {zs cs : List AV} {parts : List (Nat × AV)}
    {E : Env} {parts' : Array (Nat × Value)} (h : fillL (fun f => (fieldOff Ty fs f).bind fun p => some (p.1, p.2.size)) zs parts = some cs)
    (hn : parts.map (·.1) = parts'.toList.map (·.1)) (hr : VRelL E (parts.map (·.2)) (parts'.toList.map (·.2))) (w : World) :
    ∃ z, VRel E i.zero z ∧ ∀ vs0 : Array Value, VRelL E zs vs0.toList → vs0 = z.cells → ∃ vs : Array Value, (Instr.build t parts').run P w = .ok (.agg vs) w ∧ VRelL E cs vs.toList := by
  obtain ⟨info, d, hi, hu, hdd, hsz, _, z, hzi, hzr⟩ := hTy.ok _ _ hT
  refine ⟨z, hzr E, fun vs0 hz hvs => ?_⟩
  subst hvs
  rw [hd] at hdd
  obtain ⟨fields, rfl, hf⟩ := struct_of hdd
  obtain ⟨ps, p1, p2⟩ := places_mapM (w := w) hTy fields.toList fs hf (fun p hp => by
    have := List.all_eq_true.1 hall p hp
    exact Option.isSome_iff_exists.1 this)
  obtain ⟨vs, k1, k2⟩ := fill_sound (place' := fun i => ps.toArray[i]?) (fun j off size hp => by
    cases hfo : fieldOff Ty fs j with
    | none => rw [hfo] at hp; cases hp
    | some q => rw [hfo] at hp; cases hp; simpa using p2 j _ _ hfo) parts parts'.toList zs cs z.cells h hz hn hr
  refine ⟨vs, ?_, k2⟩
  unfold Instr.build
  simp only [Sem.run_bind, run_zeroValue hi hzi, run_underlying hu, Result.andThen_ok]
  rw [Array.mapM_eq_mapM_toList]
  simp only [Sem.run_map]
  rw [p1]
  simp only [Result.andThen_ok]
  rw [k1]
  rfl

theorem build_arr {t n el : Nat} (hTy : TyOk P Ty) {i ei : TI} (hT : Ty t = some i) (hd : i.d = .arr n el) (hTe : Ty el = some ei) {zs cs : List AV} {parts : List (Nat × AV)} (hz : i.zero = .agg zs)
    {E : Env} {parts' : Array (Nat × Value)} (h : fillL (fun f => some (f * ei.size, ei.size)) zs parts = some cs)
    (hn : parts.map (·.1) = parts'.toList.map (·.1)) (hr : VRelL E (parts.map (·.2)) (parts'.toList.map (·.2))) (w : World) :
    ∃ vs : Array Value, (Instr.build t parts').run P w = .ok (.agg vs) w ∧ VRelL E cs vs.toList := by
  obtain ⟨info, d, hi, hu, hdd, hsz, _, z, hzi, hzr⟩ := hTy.ok _ _ hT
  obtain ⟨einfo, ed, hei, heu, hed, hesz, _⟩ := hTy.ok _ _ hTe
  rw [hd] at hdd
  have := arr_of hdd; subst this
  have hzz := hzr E
  rw [hz] at hzz
  have hzc := hzz.cells (cs := zs) rfl
  obtain ⟨vs, k1, k2⟩ := fill_sound (place' := fun i => some (i * einfo.size, einfo.size)) (fun j off size hp => by rw [hesz]; exact hp) parts parts'.toList zs cs z.cells h hzc hn hr
  refine ⟨vs, ?_, k2⟩
  unfold Instr.build
  simp only [Sem.run_bind, run_zeroValue hi hzi, run_underlying hu, Result.andThen_ok, run_sizeOf hei]
  rw [k1]
  rfl

theorem strAt_run {t : Nat} (hu : P.underlying t = some .string) {s : ByteArray} {j c : Int} {k : IntKind} (h : strAt s j = some c) (w : World) :
    (Instr.index t (.string s) (.int k j)).run P w = .ok (.int .u8 c) w := by
  unfold strAt at h
  split at h
  · rename_i h0
    cases hg : s[j.toNat]? with
    | none => rw [hg] at h; cases h
    | some b =>
      rw [hg] at h
      simp only [Option.map_some, Option.some.injEq] at h
      subst h
      unfold Instr.index
      simp [asIntOf, run_underlying hu, h0, hg]
  · cases h

theorem idx_run {t n el : Nat} (hTy : TyOk P Ty) (hu : P.underlying t = some (.array n el)) {ei : TI} (hTe : Ty el = some ei) {cs : List AV} {j : Int} {K : AV → Option R} {r : R}
    (h : cond (decide (0 ≤ j)) (pickE j.toNat (fun m => partAt cs (m * ei.size) ei K) n 0) none = some r) :
    ∃ v, K v = some r ∧ ∀ (E : Env) (k : IntKind) (vs : Array Value) (w : World), VRelL E cs vs.toList → ∃ x, (Instr.index t (.agg vs) (.int k j)).run P w = .ok x w ∧ VRel E v x := by
  obtain ⟨h0, h⟩ := cond_some h
  have h0 := of_decide_eq_true h0
  obtain ⟨_, h2, h⟩ := pickE_sound h
  obtain ⟨v, hK, hv⟩ := partAt_sound hTy hTe h
  obtain ⟨einfo, ed, hei, heu, hed, hesz, _⟩ := hTy.ok _ _ hTe
  refine ⟨v, hK, fun E k vs w hr => ?_⟩
  obtain ⟨x, hx, hrel⟩ := hv E vs w hr
  refine ⟨x, ?_, hrel⟩
  have hb : 0 ≤ j ∧ j < (n : Int) := ⟨h0, by omega⟩
  unfold Instr.index
  simp only [Sem.run_bind, asIntOf, Sem.run_pure, Result.andThen_ok, run_underlying hu]
  rw [if_pos hb]
  simp only [Sem.run_bind, run_sizeOf hei, Result.andThen_ok, hesz]
  exact hx

theorem field_run {t : Nat} (hTy : TyOk P Ty) {i : TI} {fs : List (Nat × Nat)} (hT : Ty t = some i) (hd : i.d = .struct fs) {f off : Nat} {fi : TI} (hf : fieldOff Ty fs f = some (off, fi)) {cs : List AV} {K : AV → Option R} {r : R}
    (h : partAt cs off fi K = some r) :
    ∃ v, K v = some r ∧ ∀ (E : Env) (vs : Array Value) (w : World), VRelL E cs vs.toList → ∃ x, (Instr.field t (.agg vs) f).run P w = .ok x w ∧ VRel E v x := by
  obtain ⟨ft, hft, hTf⟩ := fieldOff_sound hTy (t := t) hf
  obtain ⟨v, hK, hv⟩ := partAt_sound hTy hTf h
  obtain ⟨info, d, hi, hu, hdd, hsz, _⟩ := hTy.ok _ _ hT
  rw [hd] at hdd
  obtain ⟨fields, rfl, hfl⟩ := struct_of hdd
  obtain ⟨fd, hfd, ho, hty⟩ := field_get hfl hft
  refine ⟨v, hK, fun E vs w hr => ?_⟩
  obtain ⟨x, hx, hrel⟩ := hv E vs w hr
  refine ⟨x, ?_, hrel⟩
  unfold Instr.field
  simp only [Sem.run_bind, run_underlying hu, Result.andThen_ok, hfd, asAgg, Sem.run_pure, ho, hty]
  exact hx

theorem run_asBool (x : Bool) (w : World) : (asBool (.bool x)).run P w = .ok x w := rfl

theorem opK_sound (hTy : TyOk P Ty) (hEq : EqOk P Ty) {T : Tmps} {H : Heap} {o : Oper} {K : AV → Heap → Option R} {r : R} (h : opK Ty T H o.op K = some r) :
    ∃ v H', K v H' = some r ∧ OpV P T H o v H' := by
  unfold opK at h
  split at h
  · -- move
    rename_i x ho
    exact ⟨_, _, h, OpV.pure (fun a => pure (a.eval x)) (fun a => by unfold execOp; rw [ho]; rfl) fun E a w hT hH => ⟨_, rfl, opd_rel hT x⟩⟩
  · rename_i x ho
    exact ⟨_, _, h, OpV.pure (fun a => pure (a.eval x)) (fun a => by unfold execOp; rw [ho]; rfl) fun E a w hT hH => ⟨_, rfl, opd_rel hT x⟩⟩
  · -- pick
    rename_i c x y ho
    split at h
    · rename_i b hb
      have key : ∀ (E : Env) (a : Act) (w : World), TRel E T a → (execOp a.eval o).run P w = .ok (.value (if b = true then a.eval x else a.eval y)) w := by
        intro E a w hT
        have hv := opd_rel hT c
        rw [hb] at hv
        unfold execOp; rw [ho]
        dsimp only
        generalize a.eval c = cv at hv
        cases hv
        simp [run_asBool]
      cases b with
      | true => exact ⟨_, _, h, fun E a w hT hH => ⟨_, w, E, _, key E a w hT, .inl rfl, opd_rel hT x, hH, Ext.refl E, Fr.refl E H w⟩⟩
      | false => exact ⟨_, _, h, fun E a w hT hH => ⟨_, w, E, _, key E a w hT, .inl rfl, opd_rel hT y, hH, Ext.refl E, Fr.refl E H w⟩⟩
    · cases h
  · -- alloc
    rename_i t ho
    split at h
    · rename_i i hT
      obtain ⟨info, d, hi, hu, hd, hsz, _, z, hz, hzr⟩ := hTy.ok _ _ hT
      unfold allocK at h
      split at h
      · rename_i b hb
        refine ⟨_, _, h, OpV.made (fun a => Instr.alloc t true (.tuple #[])) (fun a => by unfold execOp; rw [ho]) fun E a w hTr hH => ?_⟩
        obtain ⟨E', k1, k2, k3, k4⟩ := alloc_sound (t := t) hH (hzr E) hb
        refine ⟨_, _, E', ?_, k4, k1, k2, k3⟩
        unfold Instr.alloc
        simp only [Sem.run_bind, run_zeroValue hi hz, Result.andThen_ok, newVar, run_newRow, Sem.run_pure]
      · cases h
    · cases h
  · -- box
    rename_i t x ho
    split at h
    · unfold allocK at h
      split at h
      · rename_i b hb
        refine ⟨_, _, h, OpV.made (fun a => Instr.box t (a.eval x)) (fun a => by unfold execOp; rw [ho]) fun E a w hTr hH => ?_⟩
        obtain ⟨E', k1, k2, k3, k4⟩ := alloc_sound (t := t) hH (opd_rel hTr x) hb
        refine ⟨_, _, E', ?_, k4, k1, k2, k3⟩
        unfold Instr.box
        simp only [Sem.run_bind, Result.andThen_ok, newVar, run_newRow, Sem.run_pure]
      · cases h
    · cases h
  · -- build
    rename_i t parts ho
    have hparts : ∀ (a : Act), (parts.map fun p : Nat × Operand => (p.1, a.eval p.2)).toList = parts.toList.map fun p => (p.1, a.eval p.2) := fun a => Array.toList_map
    split at h
    · rename_i fs size bytes z hT
      obtain ⟨hall, h⟩ := cond_some h
      split at h
      · rename_i zs h'
        clear h'
        split at h
        · rename_i cs hcs
          refine ⟨_, _, h, OpV.pure (fun a => Instr.build t (parts.map fun p => (p.1, a.eval p.2))) (fun a => by unfold execOp; rw [ho]) fun E a w hTr hH => ?_⟩
          obtain ⟨p1, p2⟩ := parts_rel hTr parts.toList
          rw [← hparts] at p1 p2
          obtain ⟨zv, hzv, hk⟩ := build_struct hTy hT rfl hall hcs p1 p2 w
          obtain ⟨vs, k1, k2⟩ := hk zv.cells (hzv.cells rfl) rfl
          exact ⟨_, k1, .agg k2⟩
        · cases h
      · rename_i pre sh n xs post h'
        clear h'
        split at h
        · rename_i cs hcs
          obtain ⟨hcl, h⟩ := cond_some h
          have hcl := beq_eq hcl
          refine ⟨_, _, h, OpV.pure (fun a => Instr.build t (parts.map fun p => (p.1, a.eval p.2))) (fun a => by unfold execOp; rw [ho]) fun E a w hTr hH => ?_⟩
          obtain ⟨p1, p2⟩ := parts_rel hTr parts.toList
          rw [← hparts] at p1 p2
          obtain ⟨zv, hzv, hk⟩ := build_struct hTy hT rfl hall (fillL_append _ (flatRow sh xs ++ post) _ _ _ hcs) p1 p2 w
          cases hzv with
          | mix hzv hn =>
            rename_i zvs
            obtain ⟨vs, k1, k2⟩ := hk zvs (by rw [List.append_assoc] at hzv; exact hzv) rfl
            exact ⟨_, k1, .mix (by rw [List.append_assoc]; exact k2) hn⟩
        · cases h
      · cases h
    · rename_i n el size bytes zs hT
      split at h
      · rename_i ei hTe
        split at h
        · rename_i cs hcs
          refine ⟨_, _, h, OpV.pure (fun a => Instr.build t (parts.map fun p => (p.1, a.eval p.2))) (fun a => by unfold execOp; rw [ho]) fun E a w hTr hH => ?_⟩
          obtain ⟨p1, p2⟩ := parts_rel hTr parts.toList
          rw [← hparts] at p1 p2
          obtain ⟨vs, k1, k2⟩ := build_arr hTy hT rfl hTe rfl hcs p1 p2 w
          exact ⟨_, k1, .agg k2⟩
        · cases h
      · cases h
    · cases h
  · -- buildSlice
    rename_i t len parts ho
    obtain ⟨v, H', hK, hs⟩ := buildSliceK_sound hTy h
    refine ⟨v, H', hK, OpV.made (fun a => Instr.buildSlice t len (parts.map fun p => (p.1, a.eval p.2))) (fun a => by unfold execOp; rw [ho]) fun E a w hTr hH => ?_⟩
    obtain ⟨p1, p2⟩ := parts_rel hTr parts.toList
    have hparts : (parts.map fun p : Nat × Operand => (p.1, a.eval p.2)).toList = parts.toList.map fun p => (p.1, a.eval p.2) := Array.toList_map
    rw [← hparts] at p1 p2
    exact hs E _ w p1 p2 hH
  · -- load
    rename_i t a' ho
    obtain ⟨v, hK, hs⟩ := loadK_sound (P := P) hTy h
    exact ⟨v, H, hK, OpV.pure (fun a => Instr.loadAt t (a.eval a')) (fun a => by unfold execOp; rw [ho]) fun E a w hTr hH => hs E w _ (opd_rel hTr a') hH⟩
  · -- store
    rename_i t a' x ho
    obtain ⟨H', hK, hs⟩ := storeK_sound (P := P) hTy h
    refine ⟨.u, H', hK, fun E a w hTr hH => ?_⟩
    obtain ⟨w', k1, k2, k3⟩ := hs E w _ _ (opd_rel hTr a') (opd_rel hTr x) hH
    refine ⟨undef, w', E, .skip, ?_, .inr ⟨rfl, rfl⟩, .u, k2, Ext.refl E, k3⟩
    unfold execOp; rw [ho]
    simp only [Sem.run_bind, k1, Result.andThen_ok, Sem.run_pure]
  · -- nilCheck
    rename_i x ho
    split at h
    · rename_i id b e sz o' hx
      refine ⟨_, _, h, fun E a w hTr hH => ?_⟩
      have hv := opd_rel hTr x
      rw [hx] at hv
      refine ⟨a.eval x, w, E, .value (a.eval x), ?_, .inl rfl, hv, hH, Ext.refl E, Fr.refl E H w⟩
      unfold execOp; rw [ho]
      dsimp only
      generalize a.eval x = xv at hv
      cases hv; rfl
    · rename_i f cap hx
      refine ⟨_, _, h, fun E a w hTr hH => ?_⟩
      have hv := opd_rel hTr x
      rw [hx] at hv
      refine ⟨a.eval x, w, E, .value (a.eval x), ?_, .inl rfl, hv, hH, Ext.refl E, Fr.refl E H w⟩
      unfold execOp; rw [ho]
      dsimp only
      generalize a.eval x = xv at hv
      cases hv; rfl
    · cases h
  · -- binOp
    rename_i op t x y b ho
    obtain ⟨v, hK, hs⟩ := binK_sound hTy hEq h
    exact ⟨v, H, hK, OpV.pure (fun a => (do eqGuard op t x y (a.eval x) (a.eval y); binOp op t (a.eval x) (a.eval y) : Sem Value)) (fun a => by unfold execOp; rw [ho]) fun E a w hTr hH => hs E _ _ x y w (opd_rel hTr x) (opd_rel hTr y)⟩
  · -- unOp
    rename_i op t x ho
    obtain ⟨v, hK, hs⟩ := unK_sound (P := P) h
    exact ⟨v, H, hK, OpV.pure (fun a => Op.unary op (a.eval x)) (fun a => by unfold execOp; rw [ho]) fun E a w hTr hH => hs E _ w (opd_rel hTr x)⟩
  · -- convert
    rename_i src dst x ho
    split at h
    · rename_i ks _ _ _ k _ _ _ k' n hTs hTd hx
      obtain ⟨_, ds, _, hus, hds, _⟩ := hTy.ok _ _ hTs
      obtain ⟨_, dd, _, hud, hdd, _⟩ := hTy.ok _ _ hTd
      have := int_ty hds; subst this
      have := int_ty hdd; subst this
      refine ⟨_, _, h, OpV.pure (fun a => convert src dst (a.eval x)) (fun a => by unfold execOp; rw [ho]) fun E a w hTr hH => ?_⟩
      have hv := opd_rel hTr x
      rw [hx] at hv
      rw [int_of hv]
      refine ⟨_, ?_, .i _ _⟩
      unfold convert
      simp only [Sem.run_bind, run_underlying hus, run_underlying hud, Result.andThen_ok]
      rfl
    · rename_i s hTs hTd hx
      obtain ⟨_, ds, _, hus, hds, _⟩ := hTy.ok _ _ hTs
      obtain ⟨_, dd, _, hud, hdd, _⟩ := hTy.ok _ _ hTd
      have := str_of hds; subst this
      have := str_of hdd; subst this
      refine ⟨_, _, h, OpV.pure (fun a => convert src dst (a.eval x)) (fun a => by unfold execOp; rw [ho]) fun E a w hTr hH => ?_⟩
      have hv := opd_rel hTr x
      rw [hx] at hv
      refine ⟨_, ?_, .s _⟩
      generalize a.eval x = xv at hv
      cases hv
      unfold convert
      simp only [Sem.run_bind, run_underlying hus, run_underlying hud, Result.andThen_ok]
      rfl
    · rename_i el _ _ _ s hTs hTd hx
      split at h
      · rename_i hTe
        obtain ⟨_, ds, _, hus, hds, _⟩ := hTy.ok _ _ hTs
        obtain ⟨_, dd, _, hud, hdd, _⟩ := hTy.ok _ _ hTd
        obtain ⟨_, ed, _, hue, hde, _⟩ := hTy.ok _ _ hTe
        have := slice_of hdd; subst this
        refine ⟨_, _, h, OpV.made (fun a => convert src dst (a.eval x)) (fun a => by unfold execOp; rw [ho]) fun E a w hTr hH => ?_⟩
        have hv := opd_rel hTr x
        rw [hx] at hv
        generalize a.eval x = xv at hv
        cases hv
        exact str_bytes hTy hus hds hud hue hde hH s
      · cases h
    · rename_i el _ _ _ _ _ _ hTs hTd
      split at h
      · cases h
      · rename_i hTe hns
        obtain ⟨_, ds, _, hus, hds, _⟩ := hTy.ok _ _ hTs
        obtain ⟨_, dd, _, hud, hdd, _⟩ := hTy.ok _ _ hTd
        obtain ⟨_, ed, _, hue, hde, _⟩ := hTy.ok _ _ hTe
        have := slice_of hds; subst this
        have := str_of hdd; subst this
        have := int_ty hde; subst this
        obtain ⟨ys, hK, hsh⟩ := shownK_sound (P := P) h
        refine ⟨_, _, hK, OpV.pure (fun a => convert src dst (a.eval x)) (fun a => by unfold execOp; rw [ho]) fun E a w hTr hH => ?_⟩
        have hv := opd_rel hTr x
        have hS := hsh E _ w hv hH
        have hnos : ∀ s, a.eval x ≠ .string s := by
          intro s hs
          rw [hs] at hv
          generalize hy : opd T x = y at hv h hns
          cases hv with
          | s => exact hns _ rfl
          | junk => simp [shownK] at h
        refine ⟨_, ?_, .s _⟩
        have hb := bytes_str hS hnos
        unfold convert
        simp only [Sem.run_bind, run_underlying hus, run_underlying hud, Result.andThen_ok]
        generalize a.eval x = xv at *
        rcases hS.kind with hk | ⟨_, _, _, _, hk⟩ | ⟨_, hk⟩ | ⟨_, _, hk⟩
        · subst hk; simp only [Sem.run_bind, run_underlying hue, Result.andThen_ok]; exact hb
        · subst hk; simp only [Sem.run_bind, run_underlying hue, Result.andThen_ok]; exact hb
        · exact absurd hk (hnos _)
        · subst hk; simp only [Sem.run_bind, run_underlying hue, Result.andThen_ok]; exact hb
      · cases h
    · cases h
  · -- makeFunc
    rename_i f first captured ho
    split at h
    · rename_i hf
      refine ⟨_, _, h, OpV.pure (fun a => Instr.makeFunc (.func f) (first.map a.eval) (captured.map a.eval)) (fun a => by unfold execOp; rw [ho]) fun E a w hTr hH => ?_⟩
      refine ⟨_, rfl, ?_⟩
      have : first.map a.eval = #[] := by
        have : first = #[] := by simpa using hf
        subst this; simp
      rw [this]
      exact .fn (by rw [Array.toList_map]; exact opdsL_rel hTr _)
    · cases h
  · -- makeSlice
    rename_i t l c ho
    obtain ⟨v, H', hK, hs⟩ := makeSliceK_sound hTy h
    exact ⟨v, H', hK, OpV.made (fun a => Instr.makeSlice t (a.eval l) (a.eval c)) (fun a => by unfold execOp; rw [ho]) fun E a w hTr hH => hs E _ _ w (opd_rel hTr l) (opd_rel hTr c) hH⟩
  · -- slice
    rename_i t x lo hi mx ho
    obtain ⟨v, hK, hs⟩ := sliceK_sound hTy h
    have ho' : ∀ {E : Env} {a : Act} (y : Option Operand), TRel E T a → ORel E (y.map (opd T)) (y.map a.eval) := by
      intro E a y hTr
      cases y with
      | none => trivial
      | some y => exact opd_rel hTr y
    exact ⟨v, H, hK, OpV.pure (fun a => Instr.sliceAt t (a.eval x) (lo.map a.eval) (hi.map a.eval) (mx.map a.eval)) (fun a => by unfold execOp; rw [ho]) fun E a w hTr hH => hs E _ _ _ _ w (opd_rel hTr x) (ho' lo hTr) (ho' hi hTr) (ho' mx hTr) hH⟩
  · -- fieldAddr
    rename_i t x f ho
    split at h
    · rename_i fs _ _ _ id base e sz o' hT hx
      split at h
      · rename_i off fti hp
        obtain ⟨h0, h⟩ := cond_none_some h
        obtain ⟨ft, hft, hTf⟩ := fieldOff_sound hTy (t := t) hp
        obtain ⟨finfo, fdd, hfi, _, _, hfsz, _⟩ := hTy.ok _ _ hTf
        obtain ⟨info, d, hi, hu, hdd, hsz, _⟩ := hTy.ok _ _ hT
        obtain ⟨fields, rfl, hfl⟩ := struct_of hdd
        obtain ⟨fd, hfd, hof, hty⟩ := field_get hfl hft
        have hne : finfo.size ≠ 0 := by
          intro hz
          rw [← hfsz, hz] at h0
          cases h0
        refine ⟨_, _, h, OpV.pure (fun a => Instr.fieldAt t (a.eval x) f) (fun a => by unfold execOp; rw [ho]) fun E a w hTr hH => ?_⟩
        have hv := opd_rel hTr x
        rw [hx] at hv
        generalize a.eval x = xv at hv
        cases hv with
        | ptr h' hr =>
          rename_i ent r'
          refine ⟨.pointer (some ⟨r', ent.off + (base + e * sz + (o' + off)), none⟩), ?_, .ptr h' hr⟩
          unfold Instr.fieldAt
          simp [run_underlying hu, hfd, hof, addr_add, Nat.add_assoc, Instr.sureAddr, fieldPlace, hty, run_sizeOf hfi, hne]
      · cases h
    · cases h
  · -- field
    rename_i t x f ho
    split at h
    · rename_i fs _ _ _ cs hT hx
      split at h
      · rename_i off fi hf
        obtain ⟨v, hK, hs⟩ := field_run hTy hT rfl hf h
        refine ⟨v, H, hK, OpV.pure (fun a => Instr.field t (a.eval x) f) (fun a => by unfold execOp; rw [ho]) fun E a w hTr hH => ?_⟩
        have hv := opd_rel hTr x
        rw [hx] at hv
        generalize a.eval x = xv at hv
        cases hv with
        | agg hv => exact hs E _ w hv
      · cases h
    · cases h
  · -- indexAddr
    rename_i t x i ho
    obtain ⟨v, hK, hs⟩ := indexAddrK_sound hTy h
    exact ⟨v, H, hK, OpV.pure (fun a => Instr.indexAt t (a.eval x) (a.eval i)) (fun a => by unfold execOp; rw [ho]) fun E a w hTr hH => hs E _ _ w (opd_rel hTr x) (opd_rel hTr i) hH⟩
  · -- index
    rename_i t x i ho
    split at h
    · rename_i s k j hT hx hi
      obtain ⟨_, d, _, hu, hd, _⟩ := hTy.ok _ _ hT
      have := str_of hd; subst this
      cases hsa : strAt s j with
      | none => rw [hsa] at h; cases h
      | some c =>
        rw [hsa, Option.bind_some] at h
        refine ⟨_, _, h, OpV.pure (fun a => Instr.index t (a.eval x) (a.eval i)) (fun a => by unfold execOp; rw [ho]) fun E a w hTr hH => ?_⟩
        have hv := opd_rel hTr x
        have hw := opd_rel hTr i
        rw [hx] at hv
        rw [hi] at hw
        rw [int_of hw]
        generalize a.eval x = xv at hv
        cases hv
        exact ⟨_, strAt_run hu hsa w, .i _ _⟩
    · rename_i n el _ _ _ cs k j hT hx hi
      obtain ⟨_, d, _, hu, hd, _⟩ := hTy.ok _ _ hT
      have := arr_of hd; subst this
      split at h
      · rename_i ei hTe
        obtain ⟨v, hK, hs⟩ := idx_run hTy hu hTe h
        refine ⟨v, H, hK, OpV.pure (fun a => Instr.index t (a.eval x) (a.eval i)) (fun a => by unfold execOp; rw [ho]) fun E a w hTr hH => ?_⟩
        have hv := opd_rel hTr x
        have hw := opd_rel hTr i
        rw [hx] at hv
        rw [hi] at hw
        rw [int_of hw]
        generalize a.eval x = xv at hv
        cases hv with
        | agg hv => exact hs E _ _ w hv
      · cases h
    · cases h
  · -- extract
    rename_i t ix ho
    split at h
    · rename_i vs hx
      split at h
      · rename_i v hv
        refine ⟨_, _, h, OpV.pure (fun a => Instr.extract (a.eval t) ix) (fun a => by unfold execOp; rw [ho]) fun E a w hTr hH => ?_⟩
        have hr := opd_rel hTr t
        rw [hx] at hr
        generalize a.eval t = xv at hr
        cases hr with
        | tup hr =>
          obtain ⟨x, hx, hrel⟩ := hr.arr hv
          refine ⟨x, ?_, hrel⟩
          unfold Instr.extract
          simp [hx]
      · cases h
    · cases h
  · cases h

end
end Go.Ab
