/- Regions in order, cutting down, and what stands between them. Conditions: none. -/
import Derived.Test.YtnbmconaglehbaaAb15
namespace Go.Ab
set_option linter.unusedVariables false
set_option linter.unusedSimpArgs false
open Go

section
variable {P : Program} {R : Type} {C : Cx R} {prev : Prev R}

theorem put_size (a : Act) (dst : Option Tmp) (v : Value) : (a.put dst v).tmps.size = a.tmps.size := by
  cases dst <;> simp [Act.put]

theorem put_defers (a : Act) (dst : Option Tmp) (v : Value) : (a.put dst v).defers = a.defers := by
  cases dst <;> rfl

theorem TRel.put {E : Env} {T : Tmps} {a : Act} (h : TRel E T a) {d : Nat} (hd : d < a.tmps.size) {v : AV} {x : Value} (hv : VRel E v x) : TRel E ((d, v) :: T) (a.put (some d) x) := by
  intro t
  rw [tget_cons]
  show VRel E _ ((a.tmps.setIfInBounds d x).getD t undef)
  rw [Array.getD_eq_getD_getElem?, Array.getElem?_setIfInBounds]
  by_cases ht : d = t
  · subst ht
    simp [hd, hv]
  · rw [if_neg ht, if_neg ht, ← Array.getD_eq_getD_getElem?]
    exact h t

theorem TRel.mono {E E' : Env} {T : Tmps} {a : Act} (h : TRel E T a) (hE : Ext E E') : TRel E' T a := fun t => (h t).mono hE

theorem putT_sound {nt : Nat} {dst : Option Nat} {v : AV} {T : Tmps} {K : Tmps → Option R} {r : R} (h : putT nt dst v T K = some r) :
    ∃ T', K T' = some r ∧ ∀ (E : Env) (a : Act) (x : Value), a.tmps.size = nt → TRel E T a → VRel E v x → TRel E T' (a.put dst x) := by
  unfold putT at h
  split at h
  · exact ⟨T, h, fun E a x hn hT hv => hT⟩
  · rename_i d
    obtain ⟨h1, h⟩ := cond_some h
    have h1 : d < nt := by simpa using h1
    exact ⟨_, h, fun E a x hn hT hv => hT.put (by omega) hv⟩

theorem guardK_sound {ops : Array Oper} {o : Oper} {T : Tmps} {yes no : Tmps → Option R} {r : R} (h : guardK ops.toList o T yes no = some r) :
    ∃ T', ((yes T' = some r ∧ ∀ E a, TRel E T a → TRel E T' a ∧ Region.wanted o (yielded ops a.tmps) = true) ∨ (no T' = some r ∧ ∀ E a, TRel E T a → TRel E T' a ∧ Region.wanted o (yielded ops a.tmps) = false)) := by
  have hy : ∀ (a : Act) j d, dstOf ops.toList j = some d → yielded ops a.tmps j = match a.tmps[d]? with | some (.bool b) => some b | _ => none := by
    intro a j d hd
    unfold dstOf at hd
    unfold yielded
    rw [Array.getElem?_toList] at hd
    cases ho : ops[j]? with
    | none => rw [ho] at hd; cases hd
    | some o => rw [ho] at hd; simp only [Option.bind_some]; simp only at hd; rw [hd]; simp only [Option.bind_some]; rfl
  have hnone : ∀ (a : Act) j, dstOf ops.toList j = none → yielded ops a.tmps j = none := by
    intro a j hd
    unfold dstOf at hd
    unfold yielded
    rw [Array.getElem?_toList] at hd
    cases ho : ops[j]? with
    | none => rfl
    | some o => rw [ho] at hd; simp only [Option.bind_some]; simp only at hd; rw [hd]; simp only [Option.bind_none]
  unfold guardK at h
  split at h
  · rename_i hg
    exact ⟨T, .inl ⟨h, fun E a hT => ⟨hT, by unfold Region.wanted; rw [hg]⟩⟩⟩
  · rename_i j want hg
    split at h
    · rename_i hd
      exact ⟨T, .inr ⟨h, fun E a hT => ⟨hT, by unfold Region.wanted; rw [hg]; simp only; rw [hnone a j hd]; rfl⟩⟩⟩
    · rename_i d hd
      have keep : ∀ (E : Env) (a : Act) (b : Bool), TRel E T a → tget T d = .b b → TRel E ((d, .b b) :: T) a := by
        intro E a b hT hb t
        rw [tget_cons]
        split
        · rename_i ht; subst ht; rw [← hb]; exact hT _
        · exact hT t
      have hval : ∀ (E : Env) (a : Act) (b : Bool), TRel E T a → tget T d = .b b → yielded ops a.tmps j = some b := by
        intro E a b hT hb
        rw [hy a j d hd]
        have := hT d
        rw [hb, Array.getD_eq_getD_getElem?] at this
        cases hx : a.tmps[d]? with
        | none => rw [hx] at this; simp only [Option.getD_none] at this; cases this
        | some x => rw [hx] at this; simp only [Option.getD_some] at this; cases this; rfl
      have hw : ∀ (E : Env) (a : Act) (b : Bool), TRel E T a → tget T d = .b b → Region.wanted o (yielded ops a.tmps) = (b == want) := by
        intro E a b hT hb
        unfold Region.wanted; rw [hg]; simp only; rw [hval E a b hT hb]; cases b <;> cases want <;> rfl
      split at h
      · rename_i x hx
        cases x <;> cases want <;> simp only [cond_true, cond_false] at h
        · exact ⟨_, .inl ⟨h, fun E a hT => ⟨keep E a _ hT hx, hw E a _ hT hx⟩⟩⟩
        · exact ⟨_, .inr ⟨h, fun E a hT => ⟨keep E a _ hT hx, hw E a _ hT hx⟩⟩⟩
        · exact ⟨_, .inr ⟨h, fun E a hT => ⟨keep E a _ hT hx, hw E a _ hT hx⟩⟩⟩
        · exact ⟨_, .inl ⟨h, fun E a hT => ⟨keep E a _ hT hx, hw E a _ hT hx⟩⟩⟩
      · rename_i hx
        refine ⟨T, .inr ⟨h, fun E a hT => ⟨hT, ?_⟩⟩⟩
        unfold Region.wanted; rw [hg]; simp only
        rw [hy a j d hd]
        have := hT d
        rw [hx, Array.getD_eq_getD_getElem?] at this
        cases hxa : a.tmps[d]? with
        | none => rfl
        | some x => rw [hxa] at this; simp only [Option.getD_some] at this; cases this; rfl
      · cases h

/-- What a row of operations comes to. -/
def OpsG (P : Program) (ops : Array Oper) (idx : List Nat) (nt : Nat) (T : Tmps) (H : Heap) (T' : Tmps) (H' : Heap) : Prop :=
  ∀ (E : Env) (a : Act) (w : World), St E nt T H a w → ∀ (Q : Exit → Act → World → Prop),
    (∀ E' a' w', St E' nt T' H' a' w' → Ext E E' → Fr E H w E' H' w' → Q .normal a' w') → wpOps P ops Q idx a w

theorem Ext.trans {E E1 E2 : Env} (h : Ext E E1) (k : Ext E1 E2) : Ext E E2 := fun id ent he => k _ _ (h _ _ he)

theorem opsK_sound (hC : CxOk P C) (hp : PrevOk P C prev) {nt : Nat} {ops : Array Oper} : ∀ (l : List Oper) (i : Nat) (T : Tmps) (H : Heap) (K : Tmps → Heap → Option R) (r : R), ops.toList.drop i = l →
    opsK C prev nt ops.toList l T H K = some r → ∃ T' H', K T' H' = some r ∧ OpsG P ops (List.range' i l.length) nt T H T' H'
  | [], i, T, H, K, r, hl, h => ⟨T, H, h, fun E a w hst Q hn => by
      simp only [List.length_nil, List.range'_zero, wpOps]
      exact hn E a w hst (Ext.refl E) (Fr.refl E H w)⟩
  | o :: l, i, T, H, K, r, hl, h => by
    have hio : ops[i]? = some o := by
      have := congrArg (fun l : List Oper => l[0]?) hl
      simpa [List.getElem?_drop] using this
    have hl' : ops.toList.drop (i + 1) = l := by
      have := congrArg List.tail hl
      simpa [List.tail_drop] using this
    rw [opsK] at h
    obtain ⟨T1, h⟩ := guardK_sound h
    rcases h with ⟨h, hg⟩ | ⟨h, hg⟩
    · obtain ⟨v, H1, h, hO⟩ := operK_sound hC hp h
      obtain ⟨T2, h, hT2⟩ := putT_sound h
      obtain ⟨T', H', hK, hG⟩ := opsK_sound hC hp l (i + 1) _ _ _ _ hl' h
      refine ⟨T', H', hK, fun E a w hst Q hn => ?_⟩
      rw [List.length_cons, List.range'_succ]
      unfold wpOps
      simp only [hio]
      obtain ⟨hT1, hw⟩ := hg E a hst.t
      rw [if_pos hw]
      refine .inl (hO E a w hT1 hst.h _ Q fun x E1 w1 k1 k2 k3 k4 => ?_)
      refine hG E1 _ w1 ⟨hT2 E1 a x hst.n (hT1.mono k3) k1, k2, by rw [put_defers]; exact hst.d, by rw [put_size]; exact hst.n⟩ Q fun E2 a2 w2 j1 j2 j3 => ?_
      exact hn E2 a2 w2 j1 (k3.trans j2) (k4.trans j3)
    · obtain ⟨T2, h, hT2⟩ := putT_sound h
      obtain ⟨T', H', hK, hG⟩ := opsK_sound hC hp l (i + 1) _ _ _ _ hl' h
      refine ⟨T', H', hK, fun E a w hst Q hn => ?_⟩
      rw [List.length_cons, List.range'_succ]
      unfold wpOps
      simp only [hio]
      obtain ⟨hT1, hw⟩ := hg E a hst.t
      rw [if_neg (by rw [hw]; simp)]
      exact hG E _ w ⟨hT2 E a undef hst.n hT1 .u, hst.h, by rw [put_defers]; exact hst.d, by rw [put_size]; exact hst.n⟩ Q hn

theorem normAt_sound {live : Option (List Nat)} {pin : Nat} {T : Tmps} {H : Heap} {K : Tmps → Heap → Option R} {r : R} (h : normAt live pin T H K = some r) :
    ∃ T' H', K T' H' = some r ∧ ∀ E nt a w, St E nt T H a w → ∃ E', St E' nt T' H' a w ∧ Fr E H w E' H' w ∧ ∀ i, i < pin → E' i = E i := by
  unfold normAt at h
  split at h
  · exact normK_sound h
  · exact ⟨T, H, h, fun E nt a w hst => ⟨E, hst, Fr.refl E H w, fun _ _ => rfl⟩⟩

end
end Go.Ab
