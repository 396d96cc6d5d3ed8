/- Roots by the reference. Conditions: none. -/
import Derived.Test.YtbnmnkofekcodaaRo10
import Derived.Test.YtbnmnkofekcodaaMth1
import Derived.Test.YtbnmnkofekcodaaMr
import Derived.Test.YtbnmnkofekcodaaNr02x2
namespace Go.Proofs.Ytbnmnkofekcodaa.N
set_option linter.unusedVariables false
set_option linter.unusedSimpArgs false
open Go Go.Ab

theorem up_lt {X j : Nat} (h : bl X + j ≤ 127) : X * 2 ^ j < 2 ^ 127 := by
  have := (Nat.mul_lt_mul_right (Nat.two_pow_pos j)).2 (bl_up X)
  rw [← Nat.pow_add] at this
  exact Nat.lt_of_lt_of_le this (Nat.pow_le_pow_right (by decide) h)

theorem shl1 {R : Type} {k : Nat} (hk : 5000 ≤ k) {X j : Nat} (h : bl X + (j + 1) ≤ 127) (K : Int → Int → Option R) :
    plumblineref01_Shl k (hi (X * 2 ^ j)) (lo (X * 2 ^ j)) 1 K = K (hi (X * 2 ^ (j + 1))) (lo (X * 2 ^ (j + 1))) := by
  have h1 := up_lt (X := X) (j := j) (by omega)
  have h2 := up_lt h
  rw [refShl_hl hk (by omega) (by decide)]
  have e : X * 2 ^ j * 2 ^ (1 : Int).toNat = X * 2 ^ (j + 1) := by
    rw [show (1 : Int).toNat = 1 from rfl, Nat.mul_assoc, ← Nat.pow_succ]
  rw [e, Nat.mod_eq_of_lt (by omega)]

theorem sq_loop {R : Type} {k : Nat} (hk : 5000 ≤ k) (f m : Int) {X d0 : Nat} {e : Int} (h0 : 0 < X) (hX : X < 2 ^ 53) (he : -1074 ≤ e) (he2 : e ≤ 1897) (hd : d0 = 126 - bl X) (K : Int → Int → Int → Option R) : ∀ (d n j : Nat), d + j = d0 → d < n →
    plumblineref02_Sqrt_l0 k n f m (e - (j : Int)) (hi (X * 2 ^ j)) (lo (X * 2 ^ j)) K = K (e - (d0 : Int)) (hi (X * 2 ^ d0)) (lo (X * 2 ^ d0))
  | d, 0, j, h1, h2 => by omega
  | 0, n + 1, j, h1, h2 => by
    have b2 : bl X ≤ 53 := bl_le_iff.2 hX
    have : j = d0 := by omega
    subst this
    have hA := up_lt (X := X) (j := j) (by omega)
    rw [plumblineref02_Sqrt_l0, plumblineref02_Sqrt_l0B, refLen_hl hk (by omega), bl_mul h0]
    have c : ¬ (((bl X + j : Nat) : Int) < 126) := by omega
    rw [decide_eq_false c, cond_false]
  | d + 1, n + 1, j, h1, h2 => by
    have b2 : bl X ≤ 53 := bl_le_iff.2 hX
    have hA := up_lt (X := X) (j := j) (by omega)
    rw [plumblineref02_Sqrt_l0, plumblineref02_Sqrt_l0B, refLen_hl hk (by omega), bl_mul h0]
    have c : ((bl X + j : Nat) : Int) < 126 := by omega
    have w : Wi64 (e - (j : Int) - 1) = e - ((j + 1 : Nat) : Int) := (wrap_i64 (by omega) (by omega)).trans (by omega)
    rw [decide_eq_true c, cond_true, shl1 hk (by omega), w]
    exact sq_loop hk f m h0 hX he he2 hd K d n (j + 1) (by omega) (by omega)

theorem root_rel (f m : Int) {r : Nat} (E : Int) (h : 2 ^ 62 ≤ r) (b : Bool) : Rd f m false (2 * r + b.toNat) (E - 1) false = Rd f m false r E b := by
  have hf : fP f ≤ 52 := by unfold fP; split <;> omega
  have hbl : fP f + 2 ≤ bl r := by
    refine Nat.le_of_not_lt fun hh => ?_
    have : r < 2 ^ 62 := bl_le_iff.1 (by omega)
    omega
  cases b with
  | false =>
    have := Rd_scale f m false r E 1
    rw [show r * 2 ^ 1 = 2 * r + false.toNat by simp; omega] at this
    exact this
  | true =>
    have := Rd_stick f m false E (j := 1) (t := 1) hbl (by decide) (by decide)
    rw [show r * 2 ^ 1 + 1 = 2 * r + true.toNat by simp; omega] at this
    exact this

theorem rsq_core {R : Type} {k : Nat} (hk : 5000 ≤ k) (f m : Int) {A : Nat} {e' : Int} (h1 : 2 ^ 125 ≤ A) (h2 : A < 2 ^ 128) (hq : ∃ q : Int, e' = 2 * q) (hb : -3000 ≤ e') (hb2 : e' ≤ 3000) (K : Int → Option R) :
    plumblineref01_Sqrt k (hi A) (lo A) (fun r20 r21 r22 => plumblineref02_bits k r20
      (fun r23 => cond (Nat.ble ((1 + (List.length r23)) * 1) 70368744177664) (plumblineref02_Rounded k f m false (Wi64 ((Wi64 (Int.tdiv e' 2)) - 1)) ([(!((r21 == 0) && (r22 == 0)))] ++ r23) (fun r24 => K r24)) none)
      (plumblineref02_Rounded k f m false (Wi64 ((Wi64 (Int.tdiv e' 2)) - 1)) [(!((r21 == 0) && (r22 == 0)))] (fun r25 => K r25))) =
    K ((Rd f m false (rt A) (e' / 2) (decide (A - rt A * rt A ≠ 0)) : Nat) : Int) := by
  obtain ⟨q, hq⟩ := hq
  have hr := rt_lt h2
  have hr62 : 2 ^ 62 ≤ rt A := by
    refine Nat.le_of_not_lt fun h => ?_
    have hs := (rt_spec A).2
    have : (rt A + 1) * (rt A + 1) ≤ 2 ^ 62 * 2 ^ 62 := Nat.mul_le_mul h h
    rw [← Nat.pow_add] at this
    have : (2 : Nat) ^ (62 + 62) < 2 ^ 125 := by decide
    omega
  have hr0 : ¬ rt A = 0 := by omega
  have bx : bl (rt A) ≤ 64 := bl_le_iff.2 hr
  have w : Wi64 (Wi64 (Int.tdiv e' 2) - 1) = e' / 2 - 1 := by
    rw [half_even hq, wrap_i64 (x := e' / 2) (by omega) (by omega), wrap_i64 (by omega) (by omega)]
  rw [refSqrt_hl hk h2 (rt_spec A), bits_k (by omega) hr, if_neg hr0, bitsOf_length, ble_lim (by omega), cond_true, flag_hl, bitsOf_cons, w]
  have hlt : 2 * rt A + (decide (A - rt A * rt A ≠ 0)).toNat < 2 ^ (1 + bl (rt A)) := by
    have h7 := Bool.toNat_le (decide (A - rt A * rt A ≠ 0))
    have h8 : (2 : Nat) ^ (1 + bl (rt A)) = 2 * 2 ^ bl (rt A) := Nat.pow_add 2 1 _
    have := bl_up (rt A)
    omega
  rw [Rounded_k f m false (by omega) (by omega) hlt (by omega) (by omega), root_rel f m (e' / 2) hr62]

/-- What the reference does behind its loop. -/
theorem rsq_tail {R : Type} {k : Nat} (hk : 5000 ≤ k) (f m : Int) {X : Nat} {e : Int} (h0 : 0 < X) (hX : X < 2 ^ 53) (he : -1074 ≤ e) (he2 : e ≤ 1897) (K : Int → Option R) :
    plumblineref02_Sqrt_l0 k k f m e 0 (X : Int) (fun r9 r10 r11 =>
      cond ((Int.tmod r9 2) != 0)
        (plumblineref01_Shl k r10 r11 1 (fun r12 r13 => plumblineref01_Sqrt k r12 r13 (fun r14 r15 r16 => plumblineref02_bits k r14
          (fun r17 => cond (Nat.ble ((1 + (List.length r17)) * 1) 70368744177664) (plumblineref02_Rounded k f m false (Wi64 ((Wi64 (Int.tdiv (Wi64 (r9 - 1)) 2)) - 1)) ([(!((r15 == 0) && (r16 == 0)))] ++ r17) (fun r18 => K r18)) none)
          (plumblineref02_Rounded k f m false (Wi64 ((Wi64 (Int.tdiv (Wi64 (r9 - 1)) 2)) - 1)) [(!((r15 == 0) && (r16 == 0)))] (fun r19 => K r19)))))
        (plumblineref01_Sqrt k r10 r11 (fun r20 r21 r22 => plumblineref02_bits k r20
          (fun r23 => cond (Nat.ble ((1 + (List.length r23)) * 1) 70368744177664) (plumblineref02_Rounded k f m false (Wi64 ((Wi64 (Int.tdiv r9 2)) - 1)) ([(!((r21 == 0) && (r22 == 0)))] ++ r23) (fun r24 => K r24)) none)
          (plumblineref02_Rounded k f m false (Wi64 ((Wi64 (Int.tdiv r9 2)) - 1)) [(!((r21 == 0) && (r22 == 0)))] (fun r25 => K r25))))) =
    K ((SqX f m X e : Nat) : Int) := by
  obtain ⟨b1, b2, b3, b4⟩ := sh_bounds e h0 hX
  obtain ⟨q, hq⟩ := sh_even X e
  have hX64 : X < 2 ^ 64 := Nat.lt_trans hX (by decide)
  have bx : bl X ≤ 53 := bl_le_iff.2 hX
  have bx0 := bl_pos h0
  have hl := sq_loop (R := R) hk f m (X := X) (d0 := 126 - bl X) (e := e) h0 hX he he2 rfl (fun r9 r10 r11 =>
      cond ((Int.tmod r9 2) != 0)
        (plumblineref01_Shl k r10 r11 1 (fun r12 r13 => plumblineref01_Sqrt k r12 r13 (fun r14 r15 r16 => plumblineref02_bits k r14
          (fun r17 => cond (Nat.ble ((1 + (List.length r17)) * 1) 70368744177664) (plumblineref02_Rounded k f m false (Wi64 ((Wi64 (Int.tdiv (Wi64 (r9 - 1)) 2)) - 1)) ([(!((r15 == 0) && (r16 == 0)))] ++ r17) (fun r18 => K r18)) none)
          (plumblineref02_Rounded k f m false (Wi64 ((Wi64 (Int.tdiv (Wi64 (r9 - 1)) 2)) - 1)) [(!((r15 == 0) && (r16 == 0)))] (fun r19 => K r19)))))
        (plumblineref01_Sqrt k r10 r11 (fun r20 r21 r22 => plumblineref02_bits k r20
          (fun r23 => cond (Nat.ble ((1 + (List.length r23)) * 1) 70368744177664) (plumblineref02_Rounded k f m false (Wi64 ((Wi64 (Int.tdiv r9 2)) - 1)) ([(!((r21 == 0) && (r22 == 0)))] ++ r23) (fun r24 => K r24)) none)
          (plumblineref02_Rounded k f m false (Wi64 ((Wi64 (Int.tdiv r9 2)) - 1)) [(!((r21 == 0) && (r22 == 0)))] (fun r25 => K r25)))))
    (126 - bl X) k 0 (by omega) (by omega)
  rw [Nat.pow_zero, Nat.mul_one, hi_small hX64, lo_small hX64, show e - ((0 : Nat) : Int) = e by omega] at hl
  rw [hl]
  clear hl
  unfold SqX
  by_cases c : (e - ((126 - bl X : Nat) : Int)) % 2 = 0
  · have t : (Int.tmod (e - ((126 - bl X : Nat) : Int)) 2 != 0) = false := by
      have : Int.tmod (e - ((126 - bl X : Nat) : Int)) 2 = 0 := Int.tmod_eq_zero_of_dvd (Int.dvd_of_emod_eq_zero c)
      rw [this]; rfl
    have hs : shOf X e = 126 - bl X := by unfold shOf; rw [if_pos c]
    rw [t, cond_false]
    rw [hs] at b3 b4 hq ⊢
    exact rsq_core hk f m b4 b3 ⟨q, hq⟩ (by omega) (by omega) K
  · have t : (Int.tmod (e - ((126 - bl X : Nat) : Int)) 2 != 0) = true := by
      have : Int.tmod (e - ((126 - bl X : Nat) : Int)) 2 ≠ 0 := fun h => c (Int.emod_eq_zero_of_dvd (Int.dvd_of_tmod_eq_zero h))
      exact bne_iff_ne.2 this
    have hs : shOf X e = 126 - bl X + 1 := by unfold shOf; rw [if_neg c]
    have w : Wi64 (e - ((126 - bl X : Nat) : Int) - 1) = e - ((126 - bl X + 1 : Nat) : Int) := (wrap_i64 (by omega) (by omega)).trans (by omega)
    rw [t, cond_true, shl1 hk (by omega), w]
    rw [hs] at b3 b4 hq ⊢
    exact rsq_core hk f m b4 b3 ⟨q, hq⟩ (by omega) (by omega) K

theorem rSqrt_k {R : Type} {k : Nat} (hk : 5000 ≤ k) (f m : Int) {a : Nat} (ha : a < 2 ^ 64) (K : Int → Option R) : plumblineref02_Sqrt k f m (a : Int) K = K ((SqS f m a : Nat) : Int) := by
  unfold plumblineref02_Sqrt plumblineref02_SqrtT
  have hnan := fun J => rNan_k (R := R) k f J
  have n1 := nn_lt64 f a
  have b1 := ee_bounds f a
  have hv : ∀ J, 2 ≤ kd f a → plumblineref02_value k f (a : Int) J = J ((nn f a : Nat) : Int) (e2 f a) := fun J h => rvalue_k (R := R) k f ha h J
  have ht := fun (h : kd f a = 3) => rsq_tail (R := R) hk f m (nn_posS h) n1 b1.1 b1.2 K
  rw [rClass_k k f ha, risNan_k k f ha]
  unfold SqS
  have C := cls1 f a
  by_cases z : kd f a = 0
  · rw [decide_eq_true z, cond_true, hnan, if_neg (show ¬ kd f a = 2 by omega), if_pos z]
  rw [decide_eq_false z, cond_false, rBelow_k k f ha z, risInf_k k f ha, if_neg z, C]
  by_cases z2 : kd f a = 2
  · rw [decide_eq_true z2, if_pos z2, Bool.not_true, cond_false, decide_eq_false (show ¬ kd f a = 1 by omega), cond_false, cond_true]
    cases bw f a <;> rfl
  rw [decide_eq_false z2, if_neg z2, Bool.not_false, cond_true]
  cases hb : bw f a with
  | true => rw [cond_true, hnan, if_pos rfl]
  | false =>
    rw [cond_false, if_neg (by decide)]
    by_cases z1 : kd f a = 1
    · rw [decide_eq_true z1, cond_true, if_pos z1]
    · have h3 : kd f a = 3 := by rcases kd_vals f a with h | h | h | h <;> omega
      rw [decide_eq_false z1, cond_false, cond_false, if_neg z1, hv _ (by omega), e2_of h3]
      exact ht h3

end Go.Proofs.Ytbnmnkofekcodaa.N
