/- Slices, strings and their operations. Conditions: none. -/
import Derived.Test.YtnbmconaglehbaaAb8
namespace Go.Ab
set_option linter.unusedVariables false
set_option linter.unusedSimpArgs false
open Go

def ORel (E : Env) : Option AV → Option Value → Prop
  | none, none => True
  | some a, some v => VRel E a v
  | _, _ => False

section
variable {P : Program} {Ty : Types} {R : Type}

theorem run_sliceBound {k : IntKind} {i : Int} {y : Nat} {code : BoundsCode} (h0 : 0 ≤ i) (h1 : i ≤ y) (w : World) : (Instr.sliceBound (.int k i) y code).run P w = .ok i.toNat w := by
  simp [Instr.sliceBound, asIntOf, h0, h1]

theorem sliceBnd_sound {lo hi : Option AV} {len : Nat} {K : Nat → Nat → Option R} {r : R} (h : sliceBnd lo hi len K = some r) :
    ∃ l u, K l u = some r ∧ l ≤ u ∧ u ≤ len ∧
      (∀ (E : Env) (lo' hi' : Option Value) (isSlice : Bool) (cap : Nat) (w : World), ORel E lo lo' → ORel E hi hi' → len ≤ cap → (Instr.sliceBounds isSlice len cap lo' hi' none).run P w = .ok (l, u, cap) w) ∧
      (∀ (E : Env) (lo' hi' : Option Value) (isSlice : Bool) (rlen cap : Nat) (k : IntKind) (m : Int) (w : World), ORel E lo lo' → ORel E hi hi' → hi ≠ none → len = m.toNat → 0 ≤ m → m ≤ cap →
        (Instr.sliceBounds isSlice rlen cap lo' hi' (some (.int k m))).run P w = .ok (l, u, len) w) := by
  unfold sliceBnd at h
  split at h
  · refine ⟨0, len, h, Nat.zero_le _, Nat.le_refl _, fun E lo' hi' b cap w hl hh hc => ?_, fun E lo' hi' b rlen cap k m w hl hh hn => absurd rfl hn⟩
    cases lo' <;> cases hi' <;> first | exact hl.elim | exact hh.elim | skip
    simp [Instr.sliceBounds]
  · rename_i k a
    obtain ⟨h0, h⟩ := cond_some h
    obtain ⟨h1, h⟩ := cond_some h
    have h0 := of_decide_eq_true h0
    have h1 := of_decide_eq_true h1
    refine ⟨a.toNat, len, h, by omega, Nat.le_refl _, fun E lo' hi' b cap w hl hh hc => ?_, fun E lo' hi' b rlen cap k m w hl hh hn => absurd rfl hn⟩
    cases lo' <;> cases hi' <;> first | exact hl.elim | exact hh.elim | skip
    have := int_of hl; subst this
    simp [Instr.sliceBounds, run_sliceBound h0 h1]
  · rename_i k b
    obtain ⟨h0, h⟩ := cond_some h
    obtain ⟨h1, h⟩ := cond_some h
    have h0 := of_decide_eq_true h0
    have h1 := of_decide_eq_true h1
    refine ⟨0, b.toNat, h, Nat.zero_le _, by omega, fun E lo' hi' b' cap w hl hh hc => ?_, fun E lo' hi' b' rlen cap k m w hl hh hn hlm hm0 hmc => ?_⟩
    · cases lo' <;> cases hi' <;> first | exact hl.elim | exact hh.elim | skip
      have := int_of hh; subst this
      have h2 : b ≤ (cap : Int) := by omega
      simp [Instr.sliceBounds, run_sliceBound h0 h2]
    · cases lo' <;> cases hi' <;> first | exact hl.elim | exact hh.elim | skip
      have := int_of hh; subst this
      subst hlm
      simp [Instr.sliceBounds, run_sliceBound hm0 hmc, run_sliceBound h0 h1]
  · rename_i k a k' b
    obtain ⟨h0, h⟩ := cond_some h
    obtain ⟨h1, h⟩ := cond_some h
    obtain ⟨h2, h⟩ := cond_some h
    obtain ⟨h3, h⟩ := cond_some h
    have h0 := of_decide_eq_true h0
    have h1 := of_decide_eq_true h1
    have h2 := of_decide_eq_true h2
    have h3 := of_decide_eq_true h3
    have h4 : a ≤ ((b.toNat : Nat) : Int) := by omega
    refine ⟨a.toNat, b.toNat, h, by omega, by omega, fun E lo' hi' b' cap w hl hh hc => ?_, fun E lo' hi' b' rlen cap k m w hl hh hn hlm hm0 hmc => ?_⟩
    · cases lo' <;> cases hi' <;> first | exact hl.elim | exact hh.elim | skip
      have := int_of hh; subst this
      have := int_of hl; subst this
      have h5 : b ≤ (cap : Int) := by omega
      simp [Instr.sliceBounds, run_sliceBound h0 h5, run_sliceBound h2 h4]
    · cases lo' <;> cases hi' <;> first | exact hl.elim | exact hh.elim | skip
      have := int_of hh; subst this
      have := int_of hl; subst this
      subst hlm
      simp [Instr.sliceBounds, run_sliceBound hm0 hmc, run_sliceBound h0 h1, run_sliceBound h2 h4]
  · cases h

theorem some_add (r o l : Nat) : (some (⟨r, o, none⟩ : Addr)).map (·.add l) = some ⟨r, o + l, none⟩ := by simp [addr_add]

/-- A part of a slice, told by its elements. -/
theorem sl_rel {E : Env} {id : Nat} {ent : Ent} {r : Nat} (he : E id = some ent) (hr : ent.r = some r) {base e sz l u m : Nat} (hlu : l ≤ u) (hum : u ≤ m) :
    VRel E (.sl id base (e + l) sz (u - l)) (.slice (if m = l then some ⟨r, ent.off + (base + e * sz), none⟩ else some ⟨r, ent.off + (base + e * sz) + l * sz, none⟩) (u - l) (m - l)) := by
  by_cases hz : u - l = 0
  · rw [hz]; exact .sl0 rfl
  · rw [if_neg (by omega)]
    have := VRel.sl (E := E) (id := id) (base := base) (e := e + l) (sz := sz) (n := u - l) (cap := m - l) he hr (by omega)
    rw [Nat.add_mul] at this
    simpa [Nat.add_assoc] using this

theorem run_slice_some {t el : Nat} {ei : TypeInfo} (hu : P.underlying t = some (.slice el)) (hi : P.info? el = some ei) {r o n cap l u m : Nat} {lo hi' mx : Option Value} {w : World}
    (h : (Instr.sliceBounds true n cap lo hi' mx).run P w = .ok (l, u, m) w) :
    (Instr.sliceAt t (.slice (some ⟨r, o, none⟩) n cap) lo hi' mx).run P w = .ok (.slice (if m = l then some ⟨r, o, none⟩ else some ⟨r, o + l * ei.size, none⟩) (u - l) (m - l)) w := by
  unfold Instr.sliceAt Instr.slice
  simp only [Sem.run_bind, run_underlying hu, Result.andThen_ok, h, run_sizeOf hi, Sem.run_pure, some_add]

theorem run_slice_any {t el : Nat} {ei : TypeInfo} (hu : P.underlying t = some (.slice el)) (hi : P.info? el = some ei) {b : Option Addr} {n cap l u m : Nat} {lo hi' mx : Option Value} {w : World}
    (h : (Instr.sliceBounds true n cap lo hi' mx).run P w = .ok (l, u, m) w) :
    ∃ b' cap', (Instr.sliceAt t (.slice b n cap) lo hi' mx).run P w = .ok (.slice b' (u - l) cap') w := by
  unfold Instr.sliceAt Instr.slice
  simp only [Sem.run_bind, run_underlying hu, Result.andThen_ok, h, run_sizeOf hi, Sem.run_pure]
  exact ⟨_, _, rfl⟩

theorem sl_empty {E : Env} {id base e sz n : Nat} {b : Option Addr} {cap : Nat} (hn : n = 0) : VRel E (.sl id base e sz n) (.slice b n cap) := by subst hn; exact .sl0 rfl

theorem sliceK_sound (hTy : TyOk P Ty) {H : Heap} {t : Nat} {x : AV} {lo hi mx : Option AV} {K : AV → Heap → Option R} {r : R} (h : sliceK Ty H t x lo hi mx K = some r) :
    ∃ v, K v H = some r ∧ ∀ E xv lov hiv mxv w, VRel E x xv → ORel E lo lov → ORel E hi hiv → ORel E mx mxv → HRel E H w → ∃ y, (Instr.sliceAt t xv lov hiv mxv).run P w = .ok y w ∧ VRel E v y := by
  unfold sliceK at h
  split at h
  · -- a string
    rename_i _ _ _ s hT
    obtain ⟨info, d, hi', hu, hd, _⟩ := hTy.ok _ _ hT
    have := str_of hd; subst this
    split at h
    · obtain ⟨l, u, hK, hlu, hul, hrun, _⟩ := sliceBnd_sound (P := P) h
      refine ⟨_, hK, fun E xv lov hiv mxv w hx hl hh hm hH => ?_⟩
      cases hx
      cases mxv <;> first | exact hm.elim | skip
      refine ⟨.string (s.extract l u), ?_, .s _⟩
      unfold Instr.sliceAt Instr.slice
      simp [run_underlying hu, hrun E lov hiv false s.size w hl hh (Nat.le_refl _)]
    · cases h
  · -- a whole row
    rename_i el _ _ _ id hT
    obtain ⟨info, d, hi', hu, hd, _⟩ := hTy.ok _ _ hT
    have := slice_of hd; subst this
    split at h
    · rename_i fam ro sh xs ei hg hTe
      obtain ⟨einfo, ed, hei, heu, hed, hesz, _⟩ := hTy.ok _ _ hTe
      obtain ⟨hsz, h⟩ := cond_some h
      have hsz := beq_eq hsz
      obtain ⟨l, u, hK, hlu, hul, hrun, _⟩ := sliceBnd_sound (P := P) h
      refine ⟨_, hK, fun E xv lov hiv mxv w hx hl hh hm hH => ?_⟩
      cases mxv <;> first | exact hm.elim | skip
      obtain ⟨ent, he, hB⟩ := hH.live _ _ hg
      obtain ⟨hn, hesz'⟩ := hB.fits
      cases hx with
      | sw h' hr hcap hc =>
        rename_i cap
        rw [he] at h'; cases h'
        have hr' := hrun E lov hiv true cap w hl hh (by rw [← hn]; exact hcap)
        rw [← hn] at hr'
        refine ⟨_, run_slice_some hu hei hr', ?_⟩
        · have := sl_rel (base := 0) (e := 0) (sz := sh.length) he hr hlu (m := cap) (by omega)
          rw [hesz, hsz]
          simpa using this
      | sw0 h' hn0 =>
        rw [he] at h'; cases h'
        have hx0 : xs.length = 0 := by omega
        have hr' := hrun E lov hiv true 0 w hl hh (by omega)
        rw [hx0] at hr'
        obtain ⟨b', cap', hrr⟩ := run_slice_any (b := none) hu hei hr'
        exact ⟨_, hrr, sl_empty (by omega)⟩
    · rename_i fam ro sh xs ei hi0 km m hg hTe
      obtain ⟨einfo, ed, hei, heu, hed, hesz, _⟩ := hTy.ok _ _ hTe
      obtain ⟨hsz, h⟩ := cond_some h
      obtain ⟨hm0, h⟩ := cond_some h
      obtain ⟨hm1, h⟩ := cond_some h
      have hsz := beq_eq hsz
      have hm0 := of_decide_eq_true hm0
      have hm1 := of_decide_eq_true hm1
      obtain ⟨l, u, hK, hlu, hul, _, hrun⟩ := sliceBnd_sound (P := P) h
      refine ⟨_, hK, fun E xv lov hiv mxv w hx hl hh hm hH => ?_⟩
      cases mxv with
      | none => exact hm.elim
      | some mv =>
        have := int_of hm; subst this
        obtain ⟨ent, he, hB⟩ := hH.live _ _ hg
        obtain ⟨hn, hesz'⟩ := hB.fits
        cases hx with
        | sw h' hr hcap hc =>
          rename_i cap
          rw [he] at h'; cases h'
          have hr' := hrun E lov hiv true ent.n cap km m w hl hh (by simp) rfl hm0 (by omega)
          refine ⟨_, run_slice_some hu hei hr', ?_⟩
          · have := sl_rel (base := 0) (e := 0) (sz := sh.length) he hr hlu (m := m.toNat) (by omega)
            rw [hesz, hsz]
            simpa using this
        | sw0 h' hn0 =>
          rw [he] at h'; cases h'
          have hr' := hrun E lov hiv true 0 0 km m w hl hh (by simp) rfl hm0 (by omega)
          obtain ⟨b', cap', hrr⟩ := run_slice_any (b := none) hu hei hr'
          exact ⟨_, hrr, sl_empty (by omega)⟩
    · cases h
  · -- a part of one
    rename_i el _ _ _ id base e sz n hT
    obtain ⟨info, d, hi', hu, hd, _⟩ := hTy.ok _ _ hT
    have := slice_of hd; subst this
    split at h
    · rename_i ei hTe
      obtain ⟨einfo, ed, hei, heu, hed, hesz, _⟩ := hTy.ok _ _ hTe
      obtain ⟨hsz, h⟩ := cond_some h
      have hsz := beq_eq hsz
      obtain ⟨l, u, hK, hlu, hul, hrun, _⟩ := sliceBnd_sound (P := P) h
      refine ⟨_, hK, fun E xv lov hiv mxv w hx hl hh hm hH => ?_⟩
      cases mxv <;> first | exact hm.elim | skip
      cases hx with
      | sl h' hr hcap =>
        rename_i cap
        have hr' := hrun E lov hiv true cap w hl hh hcap
        refine ⟨_, run_slice_some hu hei hr', ?_⟩
        · have := sl_rel (base := base) (e := e) (sz := sz) h' hr hlu (m := cap) (by omega)
          rw [hesz, hsz]
          simpa using this
      | sl0 hn =>
        rename_i cap b
        subst hn
        have hr' := hrun E lov hiv true cap w hl hh (Nat.zero_le _)
        obtain ⟨b', cap', hrr⟩ := run_slice_any (b := b) hu hei hr'
        exact ⟨_, hrr, sl_empty (by omega)⟩
    · cases h
  · -- an array's address
    rename_i n el _ _ _ id base e sz o hT
    obtain ⟨info, d, hi', hu, hd, _⟩ := hTy.ok _ _ hT
    have := arr_of hd; subst this
    split at h
    · rename_i ei hTe
      obtain ⟨einfo, ed, hei, heu, hed, hesz, _⟩ := hTy.ok _ _ hTe
      have fin : ∀ (l u m : Nat), l ≤ u → u ≤ m → (cond (Nat.beq sz 0) (K (.sl id (base + o) l ei.size (u - l)) H)
          (cond (Nat.beq (sz % ei.size) 0 && Nat.beq (o % ei.size) 0) (K (.sl id base (e * (sz / ei.size) + o / ei.size + l) ei.size (u - l)) H) none)) = some r →
          ∃ v, K v H = some r ∧ ∀ E ent rr, E id = some ent → ent.r = some rr →
            VRel E v (.slice (some (if m = l then (⟨rr, ent.off + (base + e * sz + o), none⟩ : Addr) else (⟨rr, ent.off + (base + e * sz + o), none⟩ : Addr).add (l * einfo.size))) (u - l) (m - l)) := by
        intro l u m hlu hum h
        rcases bool_cases h with ⟨hs, h⟩ | ⟨_, h⟩
        · have := beq_eq hs; subst this
          refine ⟨_, h, fun E ent rr he hr => ?_⟩
          have := sl_rel (base := base + o) (e := 0) (sz := ei.size) he hr hlu hum
          rw [hesz, addr_add]
          simp only [Nat.mul_zero, Nat.add_zero, Nat.zero_mul, Nat.zero_add] at this ⊢
          split at this <;> rename_i hc
          · rw [if_pos hc]; exact this
          · rw [if_neg hc]; exact this
        · obtain ⟨hm, h⟩ := cond_some h
          rw [Bool.and_eq_true] at hm
          have m1 := div_mul_self hm.1
          have m2 := div_mul_self hm.2
          refine ⟨_, h, fun E ent rr he hr => ?_⟩
          have := sl_rel (base := base) (e := e * (sz / ei.size) + o / ei.size) (sz := ei.size) he hr hlu hum
          rw [Nat.add_mul, Nat.mul_assoc, m1, m2, ← Nat.add_assoc base] at this
          rw [hesz, addr_add]
          split at this <;> rename_i hc
          · rw [if_pos hc]; exact this
          · rw [if_neg hc]; exact this
      split at h
      · obtain ⟨l, u, hK, hlu, hul, hrun, _⟩ := sliceBnd_sound (P := P) h
        obtain ⟨v, hv, hrel⟩ := fin l u n hlu hul hK
        refine ⟨v, hv, fun E xv lov hiv mxv w hx hl hh hm hH => ?_⟩
        cases mxv <;> first | exact hm.elim | skip
        cases hx with
        | ptr h' hr =>
          refine ⟨_, ?_, hrel E _ _ h' hr⟩
          unfold Instr.sliceAt
          simp [run_underlying hu, Instr.sureAddr, hrun E lov hiv false n w hl hh (Nat.le_refl _), run_sizeOf hei]
      · rename_i km m hi0
        obtain ⟨hm0, h⟩ := cond_some h
        obtain ⟨hm1, h⟩ := cond_some h
        have hm0 := of_decide_eq_true hm0
        have hm1 := of_decide_eq_true hm1
        obtain ⟨l, u, hK, hlu, hul, _, hrun⟩ := sliceBnd_sound (P := P) h
        obtain ⟨v, hv, hrel⟩ := fin l u m.toNat hlu hul hK
        refine ⟨v, hv, fun E xv lov hiv mxv w hx hl hh hm hH => ?_⟩
        cases mxv with
        | none => exact hm.elim
        | some mv =>
          have := int_of hm; subst this
          cases hx with
          | ptr h' hr =>
            refine ⟨_, ?_, hrel E _ _ h' hr⟩
            unfold Instr.sliceAt
            simp [run_underlying hu, Instr.sureAddr, hrun E lov hiv false n n km m w hl hh (by simp) rfl hm0 hm1, run_sizeOf hei]
      · cases h
    · cases h
  · cases h

end
end Go.Ab
