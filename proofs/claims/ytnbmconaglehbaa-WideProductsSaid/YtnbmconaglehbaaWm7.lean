/- Products, lengths, quotients of numbers of 128 bits: what they come to. Conditions: none. -/
import Derived.Test.YtnbmconaglehbaaWm6
namespace Go.Proofs.Ytnbmconaglehbaa.N
set_option linter.unusedVariables false
set_option linter.unusedSimpArgs false
open Go Go.Ab

theorem zero_hi {l : Nat} (hl : l < 2 ^ 64) : (0 : Int) = hi l := (hi_small hl).symm

/-! ### Mul -/

theorem refMul_loop {R : Type} {k : Nat} (hk : 5000 ≤ k) (A B : Nat) (hA : A < 2 ^ 64) (hB : B < 2 ^ 64) (c d : Int) (K : Int → Int → Option R) : ∀ (m n i : Nat), m + i = 64 → m < n →
    plumblineref01_Mul_l0 k n (A : Int) (B : Int) (i : Int) c d (hi (A * (B % 2 ^ i))) (lo (A * (B % 2 ^ i))) K = K (hi (A * B)) (lo (A * B))
  | m, 0, i, h1, h2 => by omega
  | 0, n + 1, i, h1, h2 => by
    have : i = 64 := by omega
    subst this
    rw [plumblineref01_Mul_l0, plumblineref01_Mul_l0B]
    have e0 : ¬ (((64 : Nat) : Int) < 64) := by decide
    simp only [e0, decide_false, cond_false, Nat.mod_eq_of_lt hB]
  | m + 1, n + 1, i, h1, h2 => by
    rw [plumblineref01_Mul_l0, plumblineref01_Mul_l0B]
    have e0 : ((i : Int) < 64) := by omega
    have e1 : ¬ ((i : Int) < 0) := by omega
    rw [Wi64_succ (by omega)]
    simp only [e0, e1, decide_true, decide_false, cond_true, cond_false, bit_eq hB (by omega : i ≤ 64)]
    have ih := refMul_loop hk A B hA hB c d K m n (i + 1) (by omega) (by omega)
    have hp : 2 ^ (i + 1) ≤ 2 ^ 64 := Nat.pow_le_pow_right (by decide) (by omega)
    have hpp : 0 < 2 ^ i := Nat.two_pow_pos i
    rw [Nat.pow_succ, Nat.mod_mul, ← Nat.toNat_testBit] at ih
    rw [Nat.pow_succ] at hp
    have hm := Nat.mod_lt B hpp
    cases hb : B.testBit i with
    | false =>
      rw [hb] at ih
      simp only [cond_false]
      simpa using ih
    | true =>
      rw [hb] at ih
      simp only [Bool.toNat_true, Nat.mul_one] at ih
      simp only [cond_true]
      rw [zero_hi hA, ← lo_small hA]
      have hA' : A < 2 ^ 128 := Nat.lt_trans hA (by decide)
      have hwf : (Lit.int .i64 (i : Int)).wf = true := by
        simp only [Lit.wf, Bool.and_eq_true, decide_eq_true_eq]
        have e1 : IntKind.i64.min = -9223372036854775808 := by decide
        have e2 : IntKind.i64.max = 9223372036854775807 := by decide
        rw [e1, e2]; omega
      rw [refShl_hl hk hA' hwf, Int.toNat_natCast]
      have b1 : A * 2 ^ i < 2 ^ 64 * 2 ^ 63 := by
        have : 2 ^ i ≤ 2 ^ 63 := Nat.pow_le_pow_right (by decide) (by omega)
        exact Nat.mul_lt_mul_of_lt_of_le hA this (by decide)
      have b2 : A * (B % 2 ^ i) ≤ 2 ^ 64 * 2 ^ 63 := by
        have : B % 2 ^ i ≤ 2 ^ 63 := by
          have : 2 ^ i ≤ 2 ^ 63 := Nat.pow_le_pow_right (by decide) (by omega)
          omega
        exact Nat.mul_le_mul (by omega) this
      have b3 : A * 2 ^ i % 2 ^ 128 = A * 2 ^ i := Nat.mod_eq_of_lt (by omega)
      rw [b3, refAdd_hl hk (by omega) (by omega)]
      have b4 : (A * (B % 2 ^ i) + A * 2 ^ i) % 2 ^ 128 = A * (B % 2 ^ i + 2 ^ i) := by
        rw [Nat.mul_add]; exact Nat.mod_eq_of_lt (by omega)
      rw [b4, lo_small hA]
      exact ih

theorem refMul_hl {R : Type} {k A B : Nat} (hk : 5000 ≤ k) (hA : A < 2 ^ 64) (hB : B < 2 ^ 64) (K : Int → Int → Option R) :
    plumblineref01_Mul k (A : Int) (B : Int) K = K (hi (A * B)) (lo (A * B)) := by
  unfold plumblineref01_Mul
  have h := refMul_loop hk A B hA hB 0 0 K 64 k 0 (by omega) (by omega)
  have e : A * (B % 2 ^ 0) = 0 := by rw [Nat.pow_zero, Nat.mod_one, Nat.mul_zero]
  rw [e, hi_small (by decide), lo_small (by decide)] at h
  exact h

theorem Wu64_nat (x : Nat) : Wu64 (x : Int) = ((x % 2 ^ 64 : Nat) : Int) := by
  unfold Wu64; rw [wrap_u64, e64]; omega

theorem and32 {x : Nat} (hx : x < 2 ^ 64) : bAnd .u64 (x : Int) 4294967295 = ((x % 2 ^ 32 : Nat) : Int) := by
  rw [show (4294967295 : Int) = ((2 ^ 32 - 1 : Nat) : Int) from by decide, bAnd_nat hx (by decide), Nat.and_two_pow_sub_one_eq_mod]
theorem and32m (x : Nat) : bAnd .u64 ((x % 2 ^ 64 : Nat) : Int) 4294967295 = ((x % 2 ^ 64 % 2 ^ 32 : Nat) : Int) := and32 (lo_lt x)
theorem shr32 (x : Nat) : shr .u64 (x : Int) 32 = ((x / 2 ^ 32 : Nat) : Int) := shr_nat x 32 (by decide)

theorem Mul_hl {R : Type} (k : Nat) {A B : Nat} (hA : A < 2 ^ 64) (hB : B < 2 ^ 64) (K : Int → Int → Option R) :
    wide_Mul k (A : Int) (B : Int) K = K (hi (A * B)) (lo (A * B)) := by
  unfold wide_Mul bits_Mul64
  simp only [shr32, and32 hA, and32 hB, and32m, ← Int.natCast_mul, ← Int.natCast_add, Wu64_nat]
  have a1 : A / 2 ^ 32 ≤ 4294967295 := by omega
  have a0 : A % 2 ^ 32 ≤ 4294967295 := by omega
  have b1 : B / 2 ^ 32 ≤ 4294967295 := by omega
  have b0 : B % 2 ^ 32 ≤ 4294967295 := by omega
  have dA : A = A / 2 ^ 32 * 2 ^ 32 + A % 2 ^ 32 := by rw [Nat.mul_comm]; exact (Nat.div_add_mod _ _).symm
  have dB : B = B / 2 ^ 32 * 2 ^ 32 + B % 2 ^ 32 := by rw [Nat.mul_comm]; exact (Nat.div_add_mod _ _).symm
  have hAB : A * B = (A / 2 ^ 32 * (B / 2 ^ 32)) * 2 ^ 64 + (A / 2 ^ 32 * (B % 2 ^ 32) + A % 2 ^ 32 * (B / 2 ^ 32)) * 2 ^ 32 + A % 2 ^ 32 * (B % 2 ^ 32) := by
    conv => lhs; rw [dA, dB]
    generalize A / 2 ^ 32 = p
    generalize A % 2 ^ 32 = q
    generalize B / 2 ^ 32 = r
    generalize B % 2 ^ 32 = s
    rw [show (2 ^ 64 : Nat) = 2 ^ 32 * 2 ^ 32 from by decide]
    simp only [Nat.mul_add, Nat.add_mul]
    have e1 : p * 2 ^ 32 * (r * 2 ^ 32) = p * r * (2 ^ 32 * 2 ^ 32) := by rw [Nat.mul_mul_mul_comm]
    have e2 : p * 2 ^ 32 * s = p * s * 2 ^ 32 := by rw [Nat.mul_right_comm]
    have e3 : q * (r * 2 ^ 32) = q * r * 2 ^ 32 := by rw [Nat.mul_assoc]
    rw [e1, e2, e3]; omega
  have m11 : A / 2 ^ 32 * (B / 2 ^ 32) ≤ 4294967295 * 4294967295 := Nat.mul_le_mul a1 b1
  have m10 : A / 2 ^ 32 * (B % 2 ^ 32) ≤ 4294967295 * 4294967295 := Nat.mul_le_mul a1 b0
  have m01 : A % 2 ^ 32 * (B / 2 ^ 32) ≤ 4294967295 * 4294967295 := Nat.mul_le_mul a0 b1
  have m00 : A % 2 ^ 32 * (B % 2 ^ 32) ≤ 4294967295 * 4294967295 := Nat.mul_le_mul a0 b0
  rw [hAB]
  generalize A / 2 ^ 32 * (B / 2 ^ 32) = p at *
  generalize A / 2 ^ 32 * (B % 2 ^ 32) = q at *
  generalize A % 2 ^ 32 * (B / 2 ^ 32) = r at *
  generalize A % 2 ^ 32 * (B % 2 ^ 32) = s at *
  clear hAB dA dB a1 a0 b1 b0 hA hB
  unfold hi lo
  congr 2 <;> omega

/-! ### Len -/

/-- How many bits a number has. -/
def bl (n : Nat) : Nat := if n = 0 then 0 else n.log2 + 1

theorem bl_le_iff {n i : Nat} : bl n ≤ i ↔ n < 2 ^ i := by
  unfold bl
  by_cases h : n = 0
  · subst h; simp [Nat.two_pow_pos]
  · rw [if_neg h, Nat.succ_le_iff, Nat.log2_lt h]

theorem bl_eq {n i : Nat} (h1 : 2 ^ i ≤ n) (h2 : n < 2 ^ (i + 1)) : bl n = i + 1 := by
  have a : bl n ≤ i + 1 := bl_le_iff.2 h2
  have b : ¬ bl n ≤ i := fun h => by have := bl_le_iff.1 h; omega
  omega

theorem bl_div {n s : Nat} (h : 2 ^ s ≤ n) : bl n = s + bl (n / 2 ^ s) := by
  have hq : 0 < n / 2 ^ s := Nat.div_pos h (Nat.two_pow_pos s)
  have ha : bl n ≤ s + bl (n / 2 ^ s) := by
    rw [bl_le_iff, Nat.pow_add]
    have := (bl_le_iff (n := n / 2 ^ s)).1 (Nat.le_refl _)
    rw [Nat.div_lt_iff_lt_mul (Nat.two_pow_pos s)] at this
    rw [Nat.mul_comm]; exact this
  have hb : bl (n / 2 ^ s) ≤ bl n - s := by
    rw [bl_le_iff, Nat.div_lt_iff_lt_mul (Nat.two_pow_pos s), ← Nat.pow_add]
    have h1 := (bl_le_iff (n := n)).1 (Nat.le_refl _)
    exact Nat.lt_of_lt_of_le h1 (Nat.pow_le_pow_right (by decide) (by omega))
  have hc : s ≤ bl n := by
    have : ¬ bl n < s := fun hh => by
      have := bl_le_iff.1 (Nat.le_refl (bl n))
      have h3 : 2 ^ bl n ≤ 2 ^ s := Nat.pow_le_pow_right (by decide) (by omega)
      omega
    omega
  omega

theorem len8 : ∀ n : Fin 256, strAt str_bits_Len64_0 ((n.val : Nat) : Int) = some ((bl n.val : Nat) : Int) := by decide +kernel

theorem len8_nat {n : Nat} (h : n < 256) : strAt str_bits_Len64_0 (n : Int) = some ((bl n : Nat) : Int) := len8 ⟨n, h⟩

theorem Wu8_nat {n : Nat} (h : n < 256) : Wu8 (n : Int) = (n : Int) := by
  unfold Wu8 IntKind.wrap
  simp only [IntKind.bits, IntKind.signed]
  have e1 : (2 ^ 8 : Int) = 256 := by decide
  simp only [e1]
  show (n : Int) % 256 = n
  omega

theorem Len64_nat {R : Type} (k : Nat) {n : Nat} (hn : n < 2 ^ 64) (K : Int → Option R) : bits_Len64 k (n : Int) K = K ((bl n : Nat) : Int) := by
  have key : ∀ s : Nat, (s = 0 ∨ 2 ^ s ≤ n) → n / 2 ^ s < 256 → s < 64 → (Option.bind (strAt str_bits_Len64_0 (Wu8 ((n / 2 ^ s : Nat) : Int))) fun c => K (Wi64 ((s : Int) + Wi64 c))) = K ((bl n : Nat) : Int) := by
    intro s h1 h2 h3
    rw [Wu8_nat h2, len8_nat h2, Option.bind_some]
    have hb : bl (n / 2 ^ s) ≤ 8 := bl_le_iff.2 h2
    rw [Wi64_nat (by omega), show (s : Int) + ((bl (n / 2 ^ s) : Nat) : Int) = ((s + bl (n / 2 ^ s) : Nat) : Int) from by omega, Wi64_nat (by omega)]
    congr 2
    rcases h1 with h1 | h1
    · subst h1; simp
    · exact (bl_div h1).symm
  unfold bits_Len64
  have s8 : ∀ x : Nat, shr .u64 (x : Int) 8 = ((x / 2 ^ 8 : Nat) : Int) := fun x => shr_nat x 8 (by decide)
  have s16 : ∀ x : Nat, shr .u64 (x : Int) 16 = ((x / 2 ^ 16 : Nat) : Int) := fun x => shr_nat x 16 (by decide)
  simp only [shr32, s8, s16, Nat.div_div_eq_div_mul, ← Nat.pow_add]
  have k56 := key 56; have k48 := key 48; have k40 := key 40; have k32 := key 32; have k24 := key 24; have k16 := key 16; have k8 := key 8; have k0 := key 0
  simp only [Nat.pow_zero, Nat.div_one] at k0
  rw [e64] at hn
  by_cases c1 : ((n : Int) ≥ 4294967296)
  · simp only [c1, decide_true, cond_true]
    by_cases c2 : (((n / 2 ^ 32 : Nat) : Int) ≥ 65536)
    · simp only [c2, decide_true, cond_true]
      by_cases c3 : (((n / 2 ^ (32 + 16) : Nat) : Int) ≥ 256)
      · simp only [c3, decide_true, cond_true]; exact k56 (.inr (by omega)) (by omega) (by decide)
      · simp only [c3, decide_false, cond_false]; exact k48 (.inr (by omega)) (by omega) (by decide)
    · simp only [c2, decide_false, cond_false]
      by_cases c3 : (((n / 2 ^ 32 : Nat) : Int) ≥ 256)
      · simp only [c3, decide_true, cond_true]; exact k40 (.inr (by omega)) (by omega) (by decide)
      · simp only [c3, decide_false, cond_false]; exact k32 (.inr (by omega)) (by omega) (by decide)
  · simp only [c1, decide_false, cond_false]
    by_cases c2 : ((n : Int) ≥ 65536)
    · simp only [c2, decide_true, cond_true]
      by_cases c3 : (((n / 2 ^ 16 : Nat) : Int) ≥ 256)
      · simp only [c3, decide_true, cond_true]; exact k24 (.inr (by omega)) (by omega) (by decide)
      · simp only [c3, decide_false, cond_false]; exact k16 (.inr (by omega)) (by omega) (by decide)
    · simp only [c2, decide_false, cond_false]
      by_cases c3 : ((n : Int) ≥ 256)
      · simp only [c3, decide_true, cond_true]; exact k8 (.inr (by omega)) (by omega) (by decide)
      · simp only [c3, decide_false, cond_false]; exact k0 (.inl trivial) (by omega) (by decide)

theorem Len_hl {R : Type} (k : Nat) {A : Nat} (hA : A < 2 ^ 128) (K : Int → Option R) : wide_Len k (hi A) (lo A) K = K ((bl A : Nat) : Int) := by
  unfold wide_Len
  by_cases h : A / 2 ^ 64 = 0
  · have e1 : hi A = 0 := by unfold hi; rw [h]; rfl
    have e2 : A < 2 ^ 64 := by omega
    have : (hi A != 0) = false := by rw [e1]; rfl
    rw [this, cond_false, lo_small e2, Len64_nat k e2]
  · have : (hi A != 0) = true := by
      unfold hi
      rw [bne_iff_ne]
      omega
    rw [this, cond_true]
    unfold hi
    rw [Len64_nat k (hi_lt hA)]
    have hb : bl (A / 2 ^ 64) ≤ 64 := bl_le_iff.2 (hi_lt hA)
    rw [show (64 : Int) + ((bl (A / 2 ^ 64) : Nat) : Int) = ((64 + bl (A / 2 ^ 64) : Nat) : Int) from by omega, Wi64_nat (by omega)]
    rw [bl_div (n := A) (s := 64) (by omega)]

theorem bl_mod_succ (A i : Nat) : bl (A % 2 ^ (i + 1)) = if A.testBit i then i + 1 else bl (A % 2 ^ i) := by
  rw [Nat.pow_succ, Nat.mod_mul, ← Nat.toNat_testBit]
  have hp : 0 < 2 ^ i := Nat.two_pow_pos i
  have hm := Nat.mod_lt A hp
  cases A.testBit i with
  | false => simp
  | true =>
    simp only [Bool.toNat_true, Nat.mul_one, if_true]
    exact bl_eq (by omega) (by rw [Nat.pow_succ]; omega)

theorem refLen_loop {R : Type} (k : Nat) (A : Nat) (hA : A < 2 ^ 128) (K : Int → Option R) : ∀ (m n i : Nat), m + i = 128 → m < n →
    plumblineref01_Len_l0 k n ((bl (A % 2 ^ i) : Nat) : Int) (i : Int) (rowN 128 A.testBit) K = K ((bl A : Nat) : Int)
  | m, 0, i, h1, h2 => by omega
  | 0, n + 1, i, h1, h2 => by
    have : i = 128 := by omega
    subst this
    rw [plumblineref01_Len_l0, plumblineref01_Len_l0B]
    have e0 : ¬ (((128 : Nat) : Int) < 128) := by decide
    simp only [e0, decide_false, cond_false, Nat.mod_eq_of_lt hA]
  | m + 1, n + 1, i, h1, h2 => by
    rw [plumblineref01_Len_l0, plumblineref01_Len_l0B]
    have e0 : ((i : Int) < 128) := by omega
    have e1 : ((0 : Int) ≤ (i : Int)) := by omega
    have e2 : ((i : Int) < ((128 : Nat) : Int)) := by omega
    have e3 : i < 128 := by omega
    have ih := refLen_loop k A hA K m n (i + 1) (by omega) (by omega)
    rw [bl_mod_succ] at ih
    rw [Wi64_succ (by omega)]
    simp only [e0, e1, e2, decide_true, cond_true, rowN_length, Int.toNat_natCast, rowN_get, if_pos e3, Option.bind_some]
    cases hb : A.testBit i with
    | true => rw [hb] at ih; exact ih
    | false => rw [hb] at ih; exact ih

theorem refLen_hl {R : Type} {k A : Nat} (hk : 5000 ≤ k) (hA : A < 2 ^ 128) (K : Int → Option R) : plumblineref01_Len k (hi A) (lo A) K = K ((bl A : Nat) : Int) := by
  unfold plumblineref01_Len
  rw [Bits_hl hk hA]
  have h := refLen_loop k A hA K 128 k 0 (by omega) (by omega)
  have e : bl (A % 2 ^ 0) = 0 := by rw [Nat.pow_zero, Nat.mod_one]; rfl
  rw [e] at h
  exact h

end Go.Proofs.Ytnbmconaglehbaa.N
