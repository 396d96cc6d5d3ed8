/- Quotients by the reference: rounded. Conditions: none. -/
import Derived.Test.YtbnmnkofekcodaaRo9
namespace Go.Proofs.Ytbnmnkofekcodaa.N
set_option linter.unusedVariables false
set_option linter.unusedSimpArgs false
open Go Go.Ab

theorem bitsOf_cons (n Q : Nat) (b : Bool) : [b] ++ bitsOf n Q = bitsOf (1 + n) (2 * Q + b.toNat) := by
  unfold bitsOf
  apply List.ext_getElem?
  intro i
  rw [rowN_get]
  cases i with
  | zero =>
    rw [if_pos (by omega), Nat.testBit_zero]
    cases b <;> simp <;> omega
  | succ i =>
    have e : (2 * Q + b.toNat).testBit (i + 1) = Q.testBit i := by
      rw [Nat.testBit_succ]
      congr 1
      have := Bool.toNat_le b
      omega
    rw [List.singleton_append, List.getElem?_cons_succ, rowN_get, e]
    by_cases c : i < n
    · rw [if_pos c, if_pos (by omega)]
    · rw [if_neg c, if_neg (by omega)]

theorem div_rel (f m : Int) (s : Bool) {X Y : Nat} (e : Int) (hX0 : 0 < X) (hX : X < 2 ^ 53) (hY0 : 0 < Y) (hY : Y < 2 ^ 53) :
    Rd f m s (2 * (X * 2 ^ 130 / Y) + (decide (X * 2 ^ 130 % Y ≠ 0)).toNat) (e - 131) false = DivX f m s X Y e (127 - bl X) := by
  have hb1 := bl_pos hX0
  have hb2 : bl X ≤ 53 := bl_le_iff.2 hX
  have hlow := bl_low hX0
  obtain ⟨up, hup⟩ : ∃ up, up = 127 - bl X := ⟨_, rfl⟩
  obtain ⟨j, hj⟩ : ∃ j, j = 131 - up := ⟨_, rfl⟩
  obtain ⟨A, hA⟩ : ∃ A, A = X * 2 ^ up := ⟨_, rfl⟩
  have hA130 : X * 2 ^ 130 = A * 2 ^ (j - 1) := by
    rw [hA, Nat.mul_assoc, ← Nat.pow_add, show up + (j - 1) = 130 by omega]
  have hdm := Nat.div_add_mod A Y
  have hml := Nat.mod_lt A hY0
  obtain ⟨N, hN⟩ : ∃ N, N = A / Y := ⟨_, rfl⟩
  obtain ⟨r0, hr0⟩ : ∃ r0, r0 = A % Y := ⟨_, rfl⟩
  obtain ⟨p, hp⟩ : ∃ p, p = 2 ^ (j - 1) := ⟨_, rfl⟩
  have hp0 : 0 < p := by rw [hp]; exact Nat.two_pow_pos _
  have hpj : 2 ^ j = p * 2 := by rw [hp, ← Nat.pow_succ]; exact congrArg (2 ^ ·) (show j = j - 1 + 1 by omega)
  rw [← hN, ← hr0] at hdm
  rw [← hr0] at hml
  have hW : A * p = Y * (N * p) + r0 * p := by rw [← hdm, Nat.add_mul, Nat.mul_assoc]
  have hq : A * p / Y = N * p + r0 * p / Y := by rw [hW, Nat.mul_add_div hY0]
  have hr : A * p % Y = r0 * p % Y := by rw [hW, Nat.mul_add_mod]
  have ht1 : r0 * p / Y < p := by
    rw [Nat.div_lt_iff_lt_mul hY0, Nat.mul_comm p Y]
    exact (Nat.mul_lt_mul_right hp0).2 hml
  rw [← hup]
  unfold DivX
  rw [← hA, ← hN, ← hr0, hA130, ← hp, hq, hr]
  have ee1 : e - 131 = (e - (up : Int)) - (j : Int) := by omega
  rw [ee1]
  by_cases c : r0 = 0
  · subst c
    have d1 : decide (0 * p % Y ≠ 0) = false := by simp
    have d2 : decide ((0 : Nat) ≠ 0) = false := rfl
    have d3 : 2 * (N * p + 0 * p / Y) + false.toNat = N * 2 ^ j := by
      rw [hpj, Nat.zero_mul, Nat.zero_div, ← Nat.mul_assoc N p 2, Nat.mul_comm (N * p) 2]; rfl
    rw [d1, d2, d3, Rd_scale]
  · have d2 : decide (r0 ≠ 0) = true := decide_eq_true c
    obtain ⟨t, ht⟩ : ∃ t, t = 2 * (r0 * p / Y) + (decide (r0 * p % Y ≠ 0)).toNat := ⟨_, rfl⟩
    have hb := Bool.toNat_le (decide (r0 * p % Y ≠ 0))
    have d3 : 2 * (N * p + r0 * p / Y) + (decide (r0 * p % Y ≠ 0)).toNat = N * 2 ^ j + t := by
      rw [hpj, ht, Nat.mul_add, ← Nat.mul_assoc N p 2, Nat.mul_comm (N * p) 2]; omega
    have htj : t < 2 ^ j := by rw [hpj]; omega
    have ht0 : 0 < t := by
      refine Nat.pos_of_ne_zero fun h => ?_
      have z1 : r0 * p / Y = 0 := by omega
      have z2 : (decide (r0 * p % Y ≠ 0)).toNat = 0 := by omega
      have z3 : r0 * p % Y = 0 := by
        by_cases cc : r0 * p % Y = 0
        · exact cc
        · rw [decide_eq_true cc] at z2; exact absurd z2 (by decide)
      have := Nat.div_add_mod (r0 * p) Y
      rw [z1, z3] at this
      have h9 := Nat.mul_pos (Nat.pos_of_ne_zero c) hp0
      omega
    have hbl : fP f + 2 ≤ bl N := by
      have hf : fP f ≤ 52 := by unfold fP; split <;> omega
      refine Nat.le_of_not_lt fun h => ?_
      have h54 : N < 2 ^ 53 := bl_le_iff.1 (by omega)
      have hAlow : 2 ^ 126 ≤ A := by
        rw [hA]
        have := Nat.mul_le_mul_right (2 ^ up) hlow
        rw [← Nat.pow_add, show bl X - 1 + up = 126 by omega] at this
        exact this
      have hm2 : Y * N ≤ 2 ^ 53 * 2 ^ 53 := Nat.mul_le_mul (by omega) (by omega)
      rw [← Nat.pow_add] at hm2
      have : (2 : Nat) ^ (53 + 53) + 2 ^ 53 < 2 ^ 126 := by decide
      omega
    rw [d2, d3]
    exact Rd_stick f m s _ hbl ht0 htj

theorem shl_lt' {X b d : Nat} (h : X < 2 ^ b) : X * 2 ^ d < 2 ^ (b + d) := by
  rw [Nat.pow_add]
  exact (Nat.mul_lt_mul_right (Nat.two_pow_pos d)).2 h

theorem nn_pos' {f : Int} {a : Nat} (h : kd f a = 3) : 0 < nn f a := by
  have hg : gg f a ≠ 0 := by
    intro h0
    unfold kd at h
    split at h
    · omega
    · split at h
      · omega
      · split at h
        · omega
        · omega
  have hp := Nat.two_pow_pos (fP f)
  unfold nn
  rw [if_pos h]
  unfold nG
  split <;> omega

theorem Div_c0_k {R : Type} {k : Nat} (hk : 5000 ≤ k) (f m : Int) {a b : Nat} (ha : a < 2 ^ 64) (hb : b < 2 ^ 64) (h1 : kd f a = 3) (h2 : kd f b = 3) (s : Bool) (K : Int → Option R) :
    plumblineref02_Div_c0 k f m (a : Int) (b : Int) s K = K ((DivX f m s (nn f a) (nn f b) (ee f a - ee f b) (127 - bl (nn f a)) : Nat) : Int) := by
  unfold plumblineref02_Div_c0 plumblineref02_Div_c0T
  have n1 := nn_lt64 f a; have n2 := nn_lt64 f b
  have p1 := nn_pos' h1; have p2 := nn_pos' h2
  have b1 := e2_bounds f a; have b2 := e2_bounds f b
  have bx : bl (nn f a) ≤ 53 := bl_le_iff.2 n1
  rw [rvalue_k k f ha (by omega), rvalue_k k f hb (by omega), bits_k (by omega) (Nat.lt_trans n1 (by decide)), if_neg (by omega),
    quotient_k hk (by omega) (bl_up _) (Nat.lt_trans n2 (by decide)) p2, bitsOf_length, ble_lim (by omega), cond_true, bitsOf_cons]
  have b1' := b1; have b2' := b2
  rw [e2_of h1] at b1'; rw [e2_of h2] at b2'
  have w : Wi64 (Wi64 (e2 f a - e2 f b) - 131) = ee f a - ee f b - 131 := by
    rw [wrap_i64 (x := e2 f a - e2 f b) (by omega) (by omega), wrap_i64 (by omega) (by omega), e2_of h1, e2_of h2]
  have hq : 2 * (nn f a * 2 ^ 130 / nn f b) + (decide (nn f a * 2 ^ 130 % nn f b ≠ 0)).toNat < 2 ^ (1 + (bl (nn f a) + 130)) := by
    have h5 := Nat.div_le_self (nn f a * 2 ^ 130) (nn f b)
    have h6 := shl_lt' (d := 130) (bl_up (nn f a))
    have h7 := Bool.toNat_le (decide (nn f a * 2 ^ 130 % nn f b ≠ 0))
    have h8 : (2 : Nat) ^ (1 + (bl (nn f a) + 130)) = 2 * 2 ^ (bl (nn f a) + 130) := Nat.pow_add 2 1 _
    rw [h8]
    omega
  rw [w, Rounded_k f m s (by omega) (by omega) hq (by omega) (by omega), div_rel f m s _ p1 n1 p2 n2]

end Go.Proofs.Ytbnmnkofekcodaa.N
