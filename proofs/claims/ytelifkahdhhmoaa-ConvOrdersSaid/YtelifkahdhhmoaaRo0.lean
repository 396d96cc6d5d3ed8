/- The reference of floats: kinds, signs, the order. Conditions: none. -/
import Derived.Test.YtelifkahdhhmoaaMs
import Derived.Test.YtelifkahdhhmoaaNr02
namespace Go.Proofs.Ytelifkahdhhmoaa.N
set_option linter.unusedVariables false
set_option linter.unusedSimpArgs false
open Go Go.Ab

theorem rSize_k {R : Type} (k : Nat) (f : Int) (K : Int → Int → Int → Option R) : plumblineref02_Size k f K = K ((fP f : Nat) : Int) ((fE f : Nat) : Int) (fL f) := by
  unfold plumblineref02_Size plumblineref02_SizeT fP fE fL
  by_cases h : f = 1
  · subst h; rfl
  · have : (f == 1) = false := by rw [beq_eq_false_iff_ne]; exact h
    rw [this]; simp [h]

theorem pP (f : Int) : ¬ (((fP f : Nat) : Int) < 0) := by omega
theorem pE (f : Int) : ¬ (((fE f : Nat) : Int) < 0) := by omega
theorem full_e (f : Int) : Wu64 ((shl .u64 1 ((fE f : Nat) : Int)) - 1) = ((2 ^ fE f - 1 : Nat) : Int) := by
  have := fmt_le f
  have hp : 2 ^ fE f < 2 ^ 64 := Nat.pow_lt_pow_right (by decide) (by omega)
  rw [shl_1 (by omega), Wu64_pred (Nat.two_pow_pos _) (by omega)]

theorem rparts_k {R : Type} (k : Nat) (f : Int) {a : Nat} (ha : a < 2 ^ 64) (K : Int → Int → Option R) : plumblineref02_parts k f (a : Int) K = K ((a / 2 ^ fP f % 2 ^ fE f : Nat) : Int) ((a % 2 ^ fP f : Nat) : Int) := by
  unfold plumblineref02_parts plumblineref02_partsT
  have hf := fmt_le f
  rw [rSize_k]
  have hq : a / 2 ^ fP f < 2 ^ 64 := Nat.lt_of_le_of_lt (Nat.div_le_self _ _) ha
  rw [decide_eq_false (pP f), decide_eq_false (pE f)]
  repeat rw [cond_false]
  rw [shr_pow (by omega), low_bits (by omega) hq, low_bits (by omega) ha]

/-- The class by exponent and fraction. -/
theorem cls_tail {R : Type} (f : Int) {a : Nat} (hb : bad f a = false) (K : Int → Option R) :
    (cond (decide (((fE f : Nat) : Int) < 0)) (
            none) (
            cond (((a / 2 ^ fP f % 2 ^ fE f : Nat) : Int) == (Wu64 ((shl .u64 1 ((fE f : Nat) : Int)) - 1))) (
              cond (((a % 2 ^ fP f : Nat) : Int) != 0) (
                K 5) (
                cond (decide (((fE f : Nat) : Int) < 0)) (
                  none) (
                  cond (((a / 2 ^ fP f % 2 ^ fE f : Nat) : Int) == (Wu64 ((shl .u64 1 ((fE f : Nat) : Int)) - 1))) (
                    K 4) (
                    cond (((a / 2 ^ fP f % 2 ^ fE f : Nat) : Int) == 0) (
                      cond (((a % 2 ^ fP f : Nat) : Int) == 0) (
                        K 1) (
                        cond (((a / 2 ^ fP f % 2 ^ fE f : Nat) : Int) == 0) (
                          K 2) (
                          K 3))) (
                      cond (((a / 2 ^ fP f % 2 ^ fE f : Nat) : Int) == 0) (
                        K 2) (
                        K 3)))))) (
              cond (decide (((fE f : Nat) : Int) < 0)) (
                none) (
                cond (((a / 2 ^ fP f % 2 ^ fE f : Nat) : Int) == (Wu64 ((shl .u64 1 ((fE f : Nat) : Int)) - 1))) (
                  K 4) (
                  cond (((a / 2 ^ fP f % 2 ^ fE f : Nat) : Int) == 0) (
                    cond (((a % 2 ^ fP f : Nat) : Int) == 0) (
                      K 1) (
                      cond (((a / 2 ^ fP f % 2 ^ fE f : Nat) : Int) == 0) (
                        K 2) (
                        K 3))) (
                    cond (((a / 2 ^ fP f % 2 ^ fE f : Nat) : Int) == 0) (
                      K 2) (
                      K 3))))))) = K (ClassS f a) := by
  obtain ⟨k1, k2, k3, k4, k5⟩ := cls f a
  have hexp : 255 ≤ 2 ^ fE f - 1 := by
    have hf := fmt_le f
    have : 2 ^ 8 ≤ 2 ^ fE f := Nat.pow_le_pow_right (by decide) (by omega)
    omega
  have hpI := fI_pos f
  rw [decide_eq_false (pE f), full_e, nat_beq, nat_beq0, nat_beq0, nat_bne0]
  repeat rw [cond_false]
  unfold ClassS kd
  rw [hb]
  by_cases cX : a / 2 ^ fP f % 2 ^ fE f = 2 ^ fE f - 1
  · have cX' : (a / 2 ^ fP f % 2 ^ fE f == 2 ^ fE f - 1) = true := by rw [beq_iff_eq]; exact cX
    rw [cX']
    repeat rw [cond_true]
    have hge := k1.1 cX
    by_cases cM : a % 2 ^ fP f = 0
    · have cM' : (a % 2 ^ fP f != 0) = false := by rw [cM]; rfl
      have hg := (k2 cX).1 cM
      rw [cM', cond_false]
      simp [hg]
    · have cM' : (a % 2 ^ fP f != 0) = true := by rw [bne_iff_ne]; exact cM
      have hg : fI f < gg f a := Nat.lt_of_le_of_ne hge (fun h => cM ((k2 cX).2 h.symm))
      rw [cM', cond_true]
      simp [hg]
  · have cX' : (a / 2 ^ fP f % 2 ^ fE f == 2 ^ fE f - 1) = false := by rw [beq_eq_false_iff_ne]; exact cX
    have hlt : gg f a < fI f := Nat.lt_of_not_le fun h => cX (k1.2 h)
    have n1 : ¬ fI f < gg f a := by omega
    have n2 : ¬ gg f a = fI f := by omega
    rw [cX']
    repeat rw [cond_false]
    by_cases c0' : a / 2 ^ fP f % 2 ^ fE f = 0
    · have d0 : (a / 2 ^ fP f % 2 ^ fE f == 0) = true := by rw [beq_iff_eq]; exact c0'
      rw [d0]
      repeat rw [cond_true]
      have hg := k4 c0'
      have hg2 := k3.1 c0'
      rw [hg]
      by_cases cz : gg f a = 0
      · have : (gg f a == 0) = true := by rw [beq_iff_eq]; exact cz
        rw [this, cond_true]
        have n3 : ¬ (0 : Nat) = fI f := by omega
        simp [n1, n2, cz, n3]
      · have : (gg f a == 0) = false := by rw [beq_eq_false_iff_ne]; exact cz
        rw [this, cond_false]
        simp [n1, n2, cz, hg2]
    · have d0 : (a / 2 ^ fP f % 2 ^ fE f == 0) = false := by rw [beq_eq_false_iff_ne]; exact c0'
      have hg2 : ¬ gg f a < 2 ^ fP f := fun h => c0' (k3.2 h)
      have hg3 : ¬ gg f a = 0 := by have := fP_pos f; omega
      rw [d0]
      repeat rw [cond_false]
      simp [n1, n2, hg3, hg2]

theorem rClass_k {R : Type} (k : Nat) (f : Int) {a : Nat} (ha : a < 2 ^ 64) (K : Int → Option R) : plumblineref02_Class k f (a : Int) K = K (ClassS f a) := by
  unfold plumblineref02_Class plumblineref02_ClassT
  rw [rSize_k]
  by_cases hf1 : f = 1
  · have e : (f == 1) = true := by rw [beq_iff_eq]; exact hf1
    rw [e, cond_true, show shr .u64 (a : Int) 32 = ((a / 2 ^ 32 : Nat) : Int) from shr_nat a 32 (by decide), nat_bne0]
    by_cases hb : 2 ^ 32 ≤ a
    · have : (a / 2 ^ 32 != 0) = true := by rw [bne_iff_ne]; omega
      have hbd : bad f a = true := by unfold bad; rw [decide_eq_true_iff]; exact ⟨hf1, hb⟩
      rw [this, cond_true]
      unfold ClassS
      rw [hbd]; rfl
    · have : (a / 2 ^ 32 != 0) = false := by
        have : a / 2 ^ 32 = 0 := Nat.div_eq_of_lt (by omega)
        rw [this]; rfl
      rw [this, cond_false, rparts_k k f ha]
      refine cls_tail f ?_ K
      unfold bad; rw [decide_eq_false_iff_not]; exact fun h => hb h.2
  · have e : (f == 1) = false := by rw [beq_eq_false_iff_ne]; exact hf1
    rw [e, cond_false, rparts_k k f ha]
    refine cls_tail f ?_ K
    unfold bad; rw [decide_eq_false_iff_not]; exact fun h => hf1 h.1

theorem Class_kd (f : Int) (a : Nat) : (ClassS f a = 5 ∨ ClassS f a = 0 ↔ kd f a = 0) ∧ (ClassS f a = 4 ↔ kd f a = 1) ∧ (ClassS f a = 1 ↔ kd f a = 2) ∧ (ClassS f a = 2 ∨ ClassS f a = 3 ↔ kd f a = 3) := by
  unfold ClassS
  cases hb : bad f a with
  | true =>
    have hk : kd f a = 0 := by unfold kd; rw [hb]; rfl
    rw [hk]; simp
  | false =>
    rcases kd_vals f a with h | h | h | h <;> rw [h] <;> simp <;> omega

theorem risNan_k {R : Type} (k : Nat) (f : Int) {a : Nat} (ha : a < 2 ^ 64) (K : Bool → Option R) : plumblineref02_isNan k f (a : Int) K = K (decide (kd f a = 0)) := by
  unfold plumblineref02_isNan plumblineref02_isNanT
  rw [rClass_k k f ha]
  have h := (Class_kd f a).1
  by_cases c : kd f a = 0
  · rw [decide_eq_true c]
    rcases h.2 c with h5 | h0
    · rw [h5]; rfl
    · rw [h0]; rfl
  · rw [decide_eq_false c]
    have h5 : (ClassS f a == 5) = false := by rw [beq_eq_false_iff_ne]; exact fun hh => c (h.1 (.inl hh))
    have h0 : (ClassS f a == 0) = false := by rw [beq_eq_false_iff_ne]; exact fun hh => c (h.1 (.inr hh))
    rw [h5, h0, cond_false]

theorem rFinite_k {R : Type} (k : Nat) (f : Int) {a : Nat} (ha : a < 2 ^ 64) (K : Bool → Option R) : plumblineref02_Finite k f (a : Int) K = K (FinS f a) := by
  unfold plumblineref02_Finite plumblineref02_FiniteT FinS
  rw [rClass_k k f ha]
  obtain ⟨h0, h1, h2, h3⟩ := Class_kd f a
  rcases kd_vals f a with h | h | h | h
  · rw [h] at h0 ⊢
    rcases h0.2 rfl with e | e <;> rw [e] <;> rfl
  · rw [h] at h1 ⊢
    rw [h1.2 rfl]; rfl
  · rw [h] at h2 ⊢
    rw [h2.2 rfl]; rfl
  · rw [h] at h3 ⊢
    rcases h3.2 rfl with e | e <;> rw [e] <;> rfl

theorem rsign_k {R : Type} (k : Nat) (f : Int) (b : Bool) (K : Int → Option R) : plumblineref02_sign k f b K = K ((sg f b : Nat) : Int) := by
  unfold plumblineref02_sign plumblineref02_signT
  rw [rSize_k]
  exact sign_k k f (fL f) b K

theorem rNan_k {R : Type} (k : Nat) (f : Int) (K : Int → Option R) : plumblineref02_Nan k f K = K ((NAN f : Nat) : Int) := by
  unfold plumblineref02_Nan plumblineref02_NanT NAN
  have := fmt_le f
  have e : Wi64 (((fP f : Nat) : Int) - 1) = ((fP f - 1 : Nat) : Int) := by rw [wrap_i64 (by omega) (by omega)]; omega
  have c2 : ¬ (((fP f - 1 : Nat) : Int) < 0) := by omega
  have h1 := fI_lt f; have h2 := fB_le f; have h4 := fP_pos f
  have h5 : 2 ^ (fP f - 1) < 2 ^ fP f := Nat.pow_lt_pow_right (by decide) (by omega)
  rw [rSize_k, e, decide_eq_false c2, decide_eq_false (pP f), decide_eq_false (pE f)]
  repeat rw [cond_false]
  have hfI : (2 ^ fE f - 1) * 2 ^ fP f = fI f := rfl
  rw [full_e, shl_pow (by omega) (by rw [hfI]; omega), hfI, shl_1 (by omega)]
  have hc : bOr .u64 ((2 ^ (fP f - 1) : Nat) : Int) ((fI f : Nat) : Int) = bOr .u64 ((fI f : Nat) : Int) ((2 ^ (fP f - 1) : Nat) : Int) := by
    rw [bOr_nat (by omega) (by omega), bOr_nat (by omega) (by omega), Nat.or_comm]
  rw [hc, or_add2 (s := fP f) (by rw [← hfI]; exact Nat.mul_mod_left _ _) h5 (by omega)]

theorem rInf_k {R : Type} (k : Nat) (f : Int) (b : Bool) (K : Int → Option R) : plumblineref02_Inf k f b K = K ((sg f b + fI f : Nat) : Int) := by
  unfold plumblineref02_Inf plumblineref02_InfT
  have := fmt_le f
  have h1 := fI_lt f; have h2 := fB_le f; have h3 := sg_le f b; have h4 := fP_pos f; have h5 := fI_lt2 f
  rw [rSize_k, rsign_k, decide_eq_false (pP f), decide_eq_false (pE f)]
  repeat rw [cond_false]
  have hfI : (2 ^ fE f - 1) * 2 ^ fP f = fI f := rfl
  have h6 : fI f < 2 ^ 63 := by omega
  have h7 : sg f b ≤ 2 ^ 63 := by omega
  rw [full_e, shl_pow (by omega) (by rw [hfI]; omega), hfI, or_add2 (sg_mod f b) h5 (by omega)]

theorem rMost_k {R : Type} (k : Nat) (f : Int) (K : Int → Option R) : plumblineref02_Most k f K = K ((fI f - 1 : Nat) : Int) := by
  unfold plumblineref02_Most plumblineref02_MostT
  have := fmt_le f
  have h1 := fI_lt f; have h2 := fB_le f; have h4 := fP_pos f; have h5 := fI_pos f
  rw [rSize_k, decide_eq_false (pP f), decide_eq_false (pE f)]
  repeat rw [cond_false]
  have hfI : (2 ^ fE f - 1) * 2 ^ fP f = fI f := rfl
  rw [full_e, shl_pow (by omega) (by rw [hfI]; omega), hfI, Wu64_pred (by omega) (by omega)]

theorem rBelow_k {R : Type} (k : Nat) (f : Int) {a : Nat} (ha : a < 2 ^ 64) (hk : kd f a ≠ 0) (K : Bool → Option R) : plumblineref02_Below k f (a : Int) K = K (bw f a) := by
  unfold plumblineref02_Below plumblineref02_BelowT
  have hb := bad_of_kd hk
  rw [rsign_k, sg_true, sign_test (lt_2B ha hb)]
  unfold bw; rw [hb]; rfl

/-- Whatever the bits are: some sign. -/
theorem rBelow_any {R : Type} (k : Nat) (f : Int) (a : Nat) : ∃ b : Bool, ∀ K : Bool → Option R, plumblineref02_Below k f (a : Int) K = K b := by
  refine ⟨bAnd .u64 (a : Int) ((sg f true : Nat) : Int) != 0, fun K => ?_⟩
  unfold plumblineref02_Below plumblineref02_BelowT
  rw [rsign_k]

theorem rNeg_k {R : Type} (k : Nat) (f : Int) {a : Nat} (ha : a < 2 ^ 64) (K : Int → Option R) : plumblineref02_Neg k f (a : Int) K = K ((NegS f a : Nat) : Int) := by
  unfold plumblineref02_Neg plumblineref02_NegT NegS
  rw [risNan_k k f ha]
  by_cases h : kd f a = 0
  · rw [decide_eq_true h, cond_true, rNan_k, if_pos h]
  · rw [decide_eq_false h, cond_false, rsign_k, sg_true, sign_turn (lt_2B ha (bad_of_kd h)), if_neg h]

/-- A finite float's number and power; of 0 the least power. -/
def e2 (f : Int) (a : Nat) : Int := if kd f a = 3 then ee f a else fL f

end Go.Proofs.Ytelifkahdhhmoaa.N
