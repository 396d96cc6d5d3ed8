/- Rows of bits by the reference: compared and subtracted. Conditions: none. -/
import Derived.Test.YtbnmnkofekcodaaRo6
namespace Go.Proofs.Ytbnmnkofekcodaa.N
set_option linter.unusedVariables false
set_option linter.unusedSimpArgs false
open Go Go.Ab

theorem cmp_loop {R : Type} (k : Nat) {n m : Nat} (hn : n < 2 ^ 30) (A B : Nat) (K : Int → Option R) : ∀ (i f : Nat), i ≤ n → i ≤ m → i < f → A / 2 ^ i = B / 2 ^ i →
    plumblineref02_cmp_l0 k f ((i : Int) - 1) (bitsOf n A) (bitsOf m B) K (K 0) = K (sgn A B)
  | i, 0, _, _, h2, _ => by omega
  | 0, f + 1, _, _, _, h3 => by
    rw [plumblineref02_cmp_l0, plumblineref02_cmp_l0B]
    have e0 : ¬ ((((0 : Nat) : Int) - 1) ≥ 0) := by decide
    simp only [e0, decide_false, cond_false]
    simp only [Nat.pow_zero, Nat.div_one] at h3
    subst h3
    simp [sgn]
  | i + 1, f + 1, h0, h1, h2, h3 => by
    rw [plumblineref02_cmp_l0, plumblineref02_cmp_l0B]
    have e : (((i + 1 : Nat) : Int) - 1) = (i : Int) := by omega
    have e0 : ((i : Int) ≥ 0) := by omega
    have e1 : ((0 : Int) ≤ (i : Int)) := by omega
    have e2 : ((i : Int) < (n : Int)) := by omega
    have e2' : ((i : Int) < (m : Int)) := by omega
    have e3 : i < n := by omega
    have e3' : i < m := by omega
    have e8 : Wi64 ((i : Int) - 1) = ((i : Int) - 1) := wrap_i64 (by omega) (by omega)
    rw [e, e8, bitsOf_length, bitsOf_length, decide_eq_true e0, decide_eq_true e2, decide_eq_true e2']
    simp only [cond_true, Int.toNat_natCast, bitsOf_get e3, bitsOf_get e3', Option.bind_some]
    by_cases hb : A.testBit i = B.testBit i
    · have : (!(A.testBit i == B.testBit i)) = false := by simp [hb]
      rw [this, cond_false]
      exact cmp_loop k hn A B K i f (by omega) (by omega) (by omega) (div_eq_of_bits h3 hb)
    · have : (!(A.testBit i == B.testBit i)) = true := by simp [hb]
      rw [this, cond_true]
      cases hx : A.testBit i with
      | true =>
        have hy : B.testBit i = false := by rw [hx] at hb; cases hq : B.testBit i with | true => exact absurd hq.symm hb | false => rfl
        have h9 := div_lt_of_bits h3 hx hy
        have : ¬ A < B := by omega
        simp [sgn, this, h9]
      | false =>
        have hy : B.testBit i = true := by rw [hx] at hb; cases hq : B.testBit i with | true => rfl | false => exact absurd hq.symm hb
        have := div_lt_of_bits h3.symm hy hx
        simp [sgn, this]

theorem lt_of_bl {A B : Nat} (h : bl A < bl B) : A < B := by
  refine Nat.lt_of_not_le fun hle => ?_
  have h1 := bl_up A
  have : bl B ≤ bl A := bl_le_iff.2 (Nat.lt_of_le_of_lt hle h1)
  omega

theorem cmp_k {R : Type} {k n m A B : Nat} (hk : n < k) (hk2 : m < k) (hn : n < 2 ^ 30) (hm : m < 2 ^ 30) (hA : A < 2 ^ n) (hB : B < 2 ^ m) (K : Int → Option R) :
    plumblineref02_cmp k (bitsOf n A) (bitsOf m B) K = K (sgn A B) := by
  unfold plumblineref02_cmp plumblineref02_cmpT
  rw [length_k hk (by omega) hA, length_k hk2 (by omega) hB]
  have b1 : bl A ≤ n := bl_le_iff.2 hA
  have b2 : bl B ≤ m := bl_le_iff.2 hB
  by_cases c : bl A = bl B
  · have e : (((bl A : Nat) : Int) != ((bl B : Nat) : Int)) = false := by rw [c]; simp
    have w : Wi64 (((bl A : Nat) : Int) - 1) = ((bl A : Nat) : Int) - 1 := wrap_i64 (by omega) (by omega)
    rw [e, cond_false, w]
    refine cmp_loop k hn A B K (bl A) k b1 (by omega) (by omega) ?_
    rw [Nat.div_eq_of_lt (bl_up A), c, Nat.div_eq_of_lt (bl_up B)]
  · have e : (((bl A : Nat) : Int) != ((bl B : Nat) : Int)) = true := by
      simp only [bne_iff_ne, ne_eq]; omega
    rw [e, cond_true]
    by_cases c2 : bl A < bl B
    · have e2 : ((bl A : Nat) : Int) < ((bl B : Nat) : Int) := by omega
      rw [decide_eq_true e2, cond_true, sgn, if_pos (lt_of_bl c2)]
    · have e2 : ¬ ((bl A : Nat) : Int) < ((bl B : Nat) : Int) := by omega
      have h3 := lt_of_bl (show bl B < bl A by omega)
      rw [decide_eq_false e2, cond_false, sgn, if_neg (show ¬ A < B by omega), if_pos h3]

theorem minus_loop {R : Type} (k : Nat) {n m D B : Nat} (hn : n < 2 ^ 30) (hB : B < 2 ^ m) (K : List Bool → Option R) : ∀ (j f i : Nat), j + i = n → j < f →
    plumblineref02_minus_l0 k f (carryAt D B false i) (i : Int) (bitsOf n (D + B)) (bitsOf m B) (rowN n fun t => if t < i then D.testBit t else false) K = K (bitsOf n D)
  | j, 0, i, h1, h2 => by omega
  | 0, f + 1, i, h1, h2 => by
    have : i = n := by omega
    subst this
    rw [plumblineref02_minus_l0, plumblineref02_minus_l0B, bitsOf_length]
    have e0 : ¬ ((i : Int) < (i : Int)) := by omega
    rw [decide_eq_false e0, cond_false]
    congr 1
    exact rowN_congr fun t ht => if_pos ht
  | j + 1, f + 1, i, h1, h2 => by
    rw [plumblineref02_minus_l0, plumblineref02_minus_l0B]
    have e1 : ((0 : Int) ≤ (i : Int)) := by omega
    have e2 : ((i : Int) < (n : Int)) := by omega
    have e3 : i < n := by omega
    have ih := minus_loop (D := D) k hn hB K j f (i + 1) (by omega) (by omega)
    obtain ⟨hb, hc⟩ := add_bit D B false i
    rw [show D + B + false.toNat = D + B from rfl] at hb
    have hrow : ∀ b : Bool, b = D.testBit i → (rowN n fun t => if t = i then b else if t < i then D.testBit t else false) = rowN n fun t => if t < i + 1 then D.testBit t else false := by
      intro b hb
      refine rowN_congr fun t ht => ?_
      by_cases cc : t = i
      · subst cc; simp [hb]
      · have a1 : (t < i + 1) ↔ (t < i) := by omega
        simp only [cc, a1, if_false]
    rw [hc] at ih
    rw [Wi_succ (by omega), bitsOf_length, bitsOf_length, rowN_length, decide_eq_true e2, decide_eq_true e1]
    by_cases h : i < m
    · have e4 : (i : Int) < (m : Int) := by omega
      rw [decide_eq_true e4]
      simp only [cond_true, Int.toNat_natCast, bitsOf_get e3, bitsOf_get h, rowN_get, if_pos e3, Option.bind_some, rowN_set]
      rw [hb]
      cases hx : D.testBit i <;> cases hy : B.testBit i <;> cases hz : carryAt D B false i <;> rw [hx, hy, hz] at ih <;> rw [hx] at hrow <;> simp only [Bool.xor_self, Bool.xor_false, Bool.xor_true, Bool.false_xor, Bool.true_xor, Bool.not_true, Bool.not_false, cond_true, cond_false] <;> first | (rw [hrow true rfl]; exact ih) | (rw [hrow false rfl]; exact ih)
    · have e4 : ¬ (i : Int) < (m : Int) := by omega
      have hy := bit_past hB h
      rw [decide_eq_false e4]
      simp only [cond_true, cond_false, Int.toNat_natCast, bitsOf_get e3, rowN_get, if_pos e3, Option.bind_some, rowN_set]
      rw [hb, hy]
      rw [hy] at ih
      cases hx : D.testBit i <;> cases hz : carryAt D B false i <;> rw [hx, hz] at ih <;> rw [hx] at hrow <;> simp only [Bool.xor_self, Bool.xor_false, Bool.xor_true, Bool.false_xor, Bool.true_xor, Bool.not_true, Bool.not_false, cond_true, cond_false] <;> first | (rw [hrow true rfl]; exact ih) | (rw [hrow false rfl]; exact ih)

theorem minus_k {R : Type} {k n m A B : Nat} (hk : n < k) (hn : n < 2 ^ 30) (hB : B < 2 ^ m) (h : B ≤ A) (K : List Bool → Option R) :
    plumblineref02_minus k (bitsOf n A) (bitsOf m B) K = K (bitsOf n (A - B)) := by
  obtain ⟨D, rfl⟩ : ∃ D, A = D + B := ⟨A - B, by omega⟩
  rw [Nat.add_sub_cancel]
  unfold plumblineref02_minus plumblineref02_minusT
  have e1 : (0 : Int) ≤ (n : Int) := by omega
  have e2 : (n : Int) ≤ (n : Int) := by omega
  have e3 : (n : Int) * 1 ≤ 140737488355328 := by omega
  rw [bitsOf_length, decide_eq_true e1, cond_true, decide_eq_true e2, cond_true, decide_eq_true e3, cond_true, Int.toNat_natCast, rowN_false]
  have := minus_loop (R := R) k (D := D) hn hB K n k 0 (by omega) hk
  rw [carry_zero] at this
  exact this

end Go.Proofs.Ytbnmnkofekcodaa.N
