/- Products. Conditions: none. -/
import Derived.Test.YtejfnbjhcohkiaaMa
import Derived.Test.YtejfnbjhcohkiaaMd
namespace Go.Proofs.Ytejfnbjhcohkiaa.N
set_option linter.unusedVariables false
set_option linter.unusedSimpArgs false
open Go Go.Ab

theorem Mul_hl {R : Type} (k : Nat) {A B : Nat} (hA : A < 2 ^ 64) (hB : B < 2 ^ 64) (K : Int → Int → Option R) :
    wide_Mul k (A : Int) (B : Int) K = K (hi (A * B)) (lo (A * B)) := by
  unfold wide_Mul wide_MulT bits_Mul64 bits_Mul64T
  simp only [shr32, and32 hA, and32 hB, and32m, ← Int.natCast_mul, ← Int.natCast_add, Wu64_nat]
  have a1 : A / 2 ^ 32 ≤ 4294967295 := by omega
  have a0 : A % 2 ^ 32 ≤ 4294967295 := by omega
  have b1 : B / 2 ^ 32 ≤ 4294967295 := by omega
  have b0 : B % 2 ^ 32 ≤ 4294967295 := by omega
  have dA : A = A / 2 ^ 32 * 2 ^ 32 + A % 2 ^ 32 := by rw [Nat.mul_comm]; exact (Nat.div_add_mod _ _).symm
  have dB : B = B / 2 ^ 32 * 2 ^ 32 + B % 2 ^ 32 := by rw [Nat.mul_comm]; exact (Nat.div_add_mod _ _).symm
  have hAB : A * B = (A / 2 ^ 32 * (B / 2 ^ 32)) * 2 ^ 64 + (A / 2 ^ 32 * (B % 2 ^ 32) + A % 2 ^ 32 * (B / 2 ^ 32)) * 2 ^ 32 + A % 2 ^ 32 * (B % 2 ^ 32) := by
    conv => lhs; rw [dA, dB]
    generalize A / 2 ^ 32 = p
    generalize A % 2 ^ 32 = q
    generalize B / 2 ^ 32 = r
    generalize B % 2 ^ 32 = s
    rw [show (2 ^ 64 : Nat) = 2 ^ 32 * 2 ^ 32 from by decide]
    simp only [Nat.mul_add, Nat.add_mul]
    have e1 : p * 2 ^ 32 * (r * 2 ^ 32) = p * r * (2 ^ 32 * 2 ^ 32) := by rw [Nat.mul_mul_mul_comm]
    have e2 : p * 2 ^ 32 * s = p * s * 2 ^ 32 := by rw [Nat.mul_right_comm]
    have e3 : q * (r * 2 ^ 32) = q * r * 2 ^ 32 := by rw [Nat.mul_assoc]
    rw [e1, e2, e3]; omega
  have m11 : A / 2 ^ 32 * (B / 2 ^ 32) ≤ 4294967295 * 4294967295 := Nat.mul_le_mul a1 b1
  have m10 : A / 2 ^ 32 * (B % 2 ^ 32) ≤ 4294967295 * 4294967295 := Nat.mul_le_mul a1 b0
  have m01 : A % 2 ^ 32 * (B / 2 ^ 32) ≤ 4294967295 * 4294967295 := Nat.mul_le_mul a0 b1
  have m00 : A % 2 ^ 32 * (B % 2 ^ 32) ≤ 4294967295 * 4294967295 := Nat.mul_le_mul a0 b0
  rw [hAB]
  generalize A / 2 ^ 32 * (B / 2 ^ 32) = p at *
  generalize A / 2 ^ 32 * (B % 2 ^ 32) = q at *
  generalize A % 2 ^ 32 * (B / 2 ^ 32) = r at *
  generalize A % 2 ^ 32 * (B % 2 ^ 32) = s at *
  clear hAB dA dB a1 a0 b1 b0 hA hB
  unfold hi lo
  congr 2 <;> omega

end Go.Proofs.Ytejfnbjhcohkiaa.N

/- Sums, differences, the order. Conditions: none. -/
namespace Go.Proofs.Ytejfnbjhcohkiaa.N
set_option linter.unusedVariables false
set_option linter.unusedSimpArgs false
open Go Go.Ab

theorem Add_hl {R : Type} (k : Nat) {A B : Nat} (hA : A < 2 ^ 128) (hB : B < 2 ^ 128) (K : Int → Int → Bool → Option R) :
    wide_Add k (hi A) (lo A) (hi B) (lo B) K = K (hi ((A + B) % 2 ^ 128)) (lo ((A + B) % 2 ^ 128)) (decide (2 ^ 128 ≤ A + B)) := by
  unfold wide_Add wide_AddT add64 carry64 hi lo
  have h1 := lo_lt A
  have h2 := lo_lt B
  have h3 := hi_lt hA
  have h4 := hi_lt hB
  have eA := V_hl A
  have eB := V_hl B
  unfold V at eA eB
  simp only [Int.toNat_natCast, Int.toNat_zero, Nat.add_zero, Int.ofNat_eq_natCast]
  generalize A / 2 ^ 64 = a at *
  generalize A % 2 ^ 64 = b at *
  generalize B / 2 ^ 64 = c at *
  generalize B % 2 ^ 64 = d at *
  subst eA eB
  rw [e128, e64] at *
  have c1 : (((b + d) / 18446744073709551616 : Nat) : Int) ≤ 1 := by omega
  simp only [c1, decide_true, cond_true]
  have k1 : (a + c + (b + d) / 18446744073709551616) % 18446744073709551616 = (a * 18446744073709551616 + b + (c * 18446744073709551616 + d)) % 340282366920938463463374607431768211456 / 18446744073709551616 := by omega
  have k2 : (b + d) % 18446744073709551616 = (a * 18446744073709551616 + b + (c * 18446744073709551616 + d)) % 340282366920938463463374607431768211456 % 18446744073709551616 := by omega
  rw [← k1, ← k2]
  congr 1
  rw [Bool.eq_iff_iff]
  simp only [beq_iff_eq, decide_eq_true_eq]
  omega

theorem Sub_hl {R : Type} (k : Nat) {A B : Nat} (hA : A < 2 ^ 128) (hB : B < 2 ^ 128) (K : Int → Int → Bool → Option R) :
    wide_Sub k (hi A) (lo A) (hi B) (lo B) K = K (hi ((A + 2 ^ 128 - B) % 2 ^ 128)) (lo ((A + 2 ^ 128 - B) % 2 ^ 128)) (decide (A < B)) := by
  unfold wide_Sub wide_SubT sub64 borrow64 hi lo
  have h1 := lo_lt A
  have h2 := lo_lt B
  have h3 := hi_lt hA
  have h4 := hi_lt hB
  have eA := V_hl A
  have eB := V_hl B
  unfold V at eA eB
  simp only [Int.toNat_natCast, Int.toNat_zero, Nat.add_zero, Nat.sub_zero, Int.ofNat_eq_natCast]
  generalize A / 2 ^ 64 = a at *
  generalize A % 2 ^ 64 = b at *
  generalize B / 2 ^ 64 = c at *
  generalize B % 2 ^ 64 = d at *
  subst eA eB
  rw [e128, e64] at *
  have c1 : (((if b < d then 1 else 0) : Nat) : Int) ≤ 1 := by split <;> omega
  simp only [c1, decide_true, cond_true]
  have k1 : (a + 18446744073709551616 - c - if b < d then 1 else 0) % 18446744073709551616 = (a * 18446744073709551616 + b + 340282366920938463463374607431768211456 - (c * 18446744073709551616 + d)) % 340282366920938463463374607431768211456 / 18446744073709551616 := by split <;> omega
  have k2 : (b + 18446744073709551616 - d) % 18446744073709551616 = (a * 18446744073709551616 + b + 340282366920938463463374607431768211456 - (c * 18446744073709551616 + d)) % 340282366920938463463374607431768211456 % 18446744073709551616 := by omega
  rw [← k1, ← k2]
  congr 1
  rw [Bool.eq_iff_iff]
  simp only [beq_iff_eq, decide_eq_true_eq]
  split <;> split <;> omega

def sgn (A B : Nat) : Int := if A < B then -1 else if B < A then 1 else 0

theorem Compare_hl {R : Type} {k A B : Nat} (hk : 5000 ≤ k) (K : Int → Option R) : wide_Compare k (hi A) (lo A) (hi B) (lo B) K = K (sgn A B) := by
  obtain ⟨k, rfl⟩ : ∃ j, k = j + 3 := ⟨k - 3, by omega⟩
  have hs : ∀ x y : Nat, ∀ L : Int → Option R, cmp_Compare_uint64 (k + 3) (x : Int) (y : Int) L = L (sgn x y) := by
    intro x y L
    unfold cmp_Compare_uint64 cmp_Compare_uint64T cmp_isNaN_uint64 cmp_isNaN_uint64T sgn
    simp only [bne_self_eq_false, cond_false]
    by_cases h1 : x < y
    · have : (x : Int) < (y : Int) := by omega
      simp only [this, h1, decide_true, cond_true, if_true]
    · by_cases h2 : y < x
      · have a1 : ¬ (x : Int) < (y : Int) := by omega
        have a2 : (x : Int) > (y : Int) := by omega
        simp only [a1, a2, h1, h2, decide_true, decide_false, cond_true, cond_false, if_true, if_false]
      · have a1 : ¬ (x : Int) < (y : Int) := by omega
        have a2 : ¬ (x : Int) > (y : Int) := by omega
        simp only [a1, a2, h1, h2, decide_true, decide_false, cond_true, cond_false, if_true, if_false]
  unfold wide_Compare wide_CompareT wide_words wide_wordsT hi lo
  rw [hs, hs]
  unfold cmp_Or_int cmp_Or_intT
  rw [cmp_Or_int_l0, cmp_Or_int_l0B]
  have d1 : A = 2 ^ 64 * (A / 2 ^ 64) + A % 2 ^ 64 := (Nat.div_add_mod _ _).symm
  have d2 : B = 2 ^ 64 * (B / 2 ^ 64) + B % 2 ^ 64 := (Nat.div_add_mod _ _).symm
  have l1 := lo_lt A
  have l2 := lo_lt B
  have e1 : Wi64 (0 + 1) = 1 := by decide
  have e2 : Wi64 (1 + 1) = 2 := by decide
  have c1 : ((0 : Int) < ((List.length [sgn (A / 2 ^ 64) (B / 2 ^ 64), sgn (A % 2 ^ 64) (B % 2 ^ 64)] : Nat) : Int)) := by simp
  have c2 : ((1 : Int) < ((List.length [sgn (A / 2 ^ 64) (B / 2 ^ 64), sgn (A % 2 ^ 64) (B % 2 ^ 64)] : Nat) : Int)) := by simp
  have c3 : ¬ ((2 : Int) < ((List.length [sgn (A / 2 ^ 64) (B / 2 ^ 64), sgn (A % 2 ^ 64) (B % 2 ^ 64)] : Nat) : Int)) := by simp
  have z0 : (0 : Int) ≤ 0 := by decide
  have z1 : (0 : Int) ≤ 1 := by decide
  rw [e1, cmp_Or_int_l0, cmp_Or_int_l0B, e2, cmp_Or_int_l0, cmp_Or_int_l0B]
  simp only [c1, c2, c3, z0, z1, decide_true, decide_false, cond_true, cond_false, Int.toNat_zero, Int.toNat_one, List.getElem?_cons_zero, List.getElem?_cons_succ, Option.bind_some]
  rw [e64] at *
  generalize A / 18446744073709551616 = a at *
  generalize A % 18446744073709551616 = b at *
  generalize B / 18446744073709551616 = c at *
  generalize B % 18446744073709551616 = d at *
  subst d1 d2
  unfold sgn
  by_cases h1 : a < c
  · have : 18446744073709551616 * a + b < 18446744073709551616 * c + d := by omega
    simp only [h1, this, if_true]; rfl
  · by_cases h2 : c < a
    · have x1 : ¬ 18446744073709551616 * a + b < 18446744073709551616 * c + d := by omega
      have x2 : 18446744073709551616 * c + d < 18446744073709551616 * a + b := by omega
      simp only [h1, h2, x1, x2, if_true, if_false]; rfl
    · have : a = c := by omega
      subst this
      have x1 : (18446744073709551616 * a + b < 18446744073709551616 * a + d) ↔ b < d := by omega
      have x2 : (18446744073709551616 * a + d < 18446744073709551616 * a + b) ↔ d < b := by omega
      simp only [h1, x1, x2, if_false]
      by_cases h3 : b < d
      · simp only [h3, if_true]; rfl
      · by_cases h4 : d < b
        · simp only [h3, h4, if_true, if_false]; rfl
        · simp only [h3, h4, if_false]; rfl

end Go.Proofs.Ytejfnbjhcohkiaa.N

/- Roots. Conditions: none. -/
namespace Go.Proofs.Ytejfnbjhcohkiaa.N
set_option linter.unusedVariables false
set_option linter.unusedSimpArgs false
open Go Go.Ab

def IsRoot (A r : Nat) : Prop := r * r ≤ A ∧ A < (r + 1) * (r + 1)

theorem sq_succ (r : Nat) : (r + 1) * (r + 1) = r * r + 2 * r + 1 := by
  rw [Nat.add_mul, Nat.mul_add]; omega

theorem IsRoot.unique {A r s : Nat} (h : IsRoot A r) (h' : IsRoot A s) : r = s := by
  refine Nat.le_antisymm ?_ ?_
  · refine Nat.le_of_not_lt fun hlt => ?_
    have := Nat.mul_le_mul (Nat.succ_le_of_lt hlt) (Nat.succ_le_of_lt hlt)
    have h1 := h.1; have h2 := h'.2
    exact absurd (Nat.lt_of_lt_of_le h2 this) (Nat.not_lt.2 h1)
  · refine Nat.le_of_not_lt fun hlt => ?_
    have := Nat.mul_le_mul (Nat.succ_le_of_lt hlt) (Nat.succ_le_of_lt hlt)
    have h1 := h'.1; have h2 := h.2
    exact absurd (Nat.lt_of_lt_of_le h2 this) (Nat.not_lt.2 h1)

theorem IsRoot.lt {A r n : Nat} (h : IsRoot A r) (hA : A < n * n) : r < n := by
  refine Nat.lt_of_not_le fun hle => ?_
  have := Nat.mul_le_mul hle hle
  have := h.1
  omega






theorem root_step {P r t : Nat} (h : IsRoot P r) (ht : t < 4) :
    (4 * r + 1 ≤ 4 * (P - r * r) + t → IsRoot (4 * P + t) (2 * r + 1) ∧ 4 * P + t - (2 * r + 1) * (2 * r + 1) = 4 * (P - r * r) + t - (4 * r + 1)) ∧
    (4 * (P - r * r) + t < 4 * r + 1 → IsRoot (4 * P + t) (2 * r) ∧ 4 * P + t - (2 * r) * (2 * r) = 4 * (P - r * r) + t) := by
  obtain ⟨h1, h2⟩ := h
  rw [sq_succ] at h2
  have e1 : (2 * r) * (2 * r) = 4 * (r * r) := by rw [Nat.mul_mul_mul_comm]
  have e2 : (2 * r + 1) * (2 * r + 1) = 4 * (r * r) + 4 * r + 1 := by rw [sq_succ, e1]; omega
  have e3 : (2 * r + 1 + 1) * (2 * r + 1 + 1) = 4 * (r * r) + 8 * r + 4 := by rw [sq_succ, e2]; omega
  unfold IsRoot
  rw [e1, e2, e3]
  generalize r * r = q at *
  refine ⟨fun h => ⟨⟨by omega, by omega⟩, by omega⟩, fun h => ⟨⟨by omega, by omega⟩, by omega⟩⟩

theorem quarter_step (A i : Nat) : A / 2 ^ i = 4 * (A / 2 ^ (i + 2)) + A / 2 ^ i % 4 := by
  have hd : A / 2 ^ (i + 2) = A / 2 ^ i / 4 := by rw [Nat.pow_add, Nat.div_div_eq_div_mul]
  rw [hd]; omega

theorem or_three {X t : Nat} (ht : t < 4) : bOr .u64 (lo (4 * X)) (t : Int) = lo (4 * X + t) := by
  unfold lo
  rw [bOr_nat (lo_lt _) (by omega)]
  have : (4 * X % 2 ^ 64) ||| t = 4 * X % 2 ^ 64 + t := or_add (s := 2) (by omega) ht
  rw [this]; congr 1; omega

theorem hi_three {X t : Nat} (ht : t < 4) : hi (4 * X + t) = hi (4 * X) := by
  unfold hi; congr 1; omega

theorem and_three (X : Nat) : bAnd .u64 (lo X) 3 = ((X % 4 : Nat) : Int) := by
  unfold lo
  rw [show (3 : Int) = ((2 ^ 2 - 1 : Nat) : Int) from by decide, bAnd_nat (lo_lt _) (by decide), Nat.and_two_pow_sub_one_eq_mod]
  congr 1; omega

theorem hi_try {r : Nat} (hr : r < 2 ^ 63) : shr .u64 (r : Int) 62 = hi (4 * r + 1) := by
  rw [show (62 : Int) = ((62 : Nat) : Int) from rfl, shr_nat r 62 (by decide)]
  unfold hi; congr 1; omega

theorem lo_try {r : Nat} (hr : r < 2 ^ 63) : bOr .u64 (shl .u64 (r : Int) 2) 1 = lo (4 * r + 1) := by
  rw [show (2 : Int) = ((2 : Nat) : Int) from rfl, shl_nat r 2 (by decide), show (1 : Int) = ((1 : Nat) : Int) from rfl, bOr_nat (lo_lt _) (by decide)]
  have : (r * 2 ^ 2 % 2 ^ 64) ||| 1 = r * 2 ^ 2 % 2 ^ 64 + 1 := or_add (s := 1) (by omega) (by decide)
  rw [this]; unfold lo; congr 1; omega

theorem shl_one {r : Nat} (hr : r < 2 ^ 63) : shl .u64 (r : Int) 1 = ((2 * r : Nat) : Int) := by
  rw [show (1 : Int) = ((1 : Nat) : Int) from rfl, shl_nat r 1 (by decide)]
  congr 1; omega

theorem shl_one_or {r : Nat} (hr : r < 2 ^ 63) : bOr .u64 (shl .u64 (r : Int) 1) 1 = ((2 * r + 1 : Nat) : Int) := by
  rw [shl_one hr, show (1 : Int) = ((1 : Nat) : Int) from rfl, bOr_nat (by omega) (by decide)]
  have : (2 * r) ||| 1 = 2 * r + 1 := or_add (s := 1) (by omega) (by decide)
  rw [this]

theorem sqrt_body {R : Type} {k : Nat} (hk : 5000 ≤ k) {A r i : Nat} (hA : A < 2 ^ 128) (hi126 : i ≤ 126) (hr : IsRoot (A / 2 ^ (i + 2)) r) (hr63 : r < 2 ^ 63) {s : Nat} (hs : IsRoot (A / 2 ^ i) s) (J : Int → Int → Int → Option R) :
    (wide_Shr k (hi A) (lo A) (i : Int) (fun yr1 yr2 yr3 =>
    wide_Shl k (hi (A / 2 ^ (i + 2) - r * r)) (lo (A / 2 ^ (i + 2) - r * r)) 2 (fun yr4 yr5 =>
      wide_Compare k yr4 (bOr .u64 yr5 (bAnd .u64 yr2 3)) (shr .u64 (r : Int) 62) (bOr .u64 (shl .u64 (r : Int) 2) 1) (fun yr6 =>
        cond (decide (yr6 ≥ 0)) (
          wide_Sub k yr4 (bOr .u64 yr5 (bAnd .u64 yr2 3)) (shr .u64 (r : Int) 62) (bOr .u64 (shl .u64 (r : Int) 2) 1) (fun yr7 yr8 yr9 =>
            J (bOr .u64 (shl .u64 (r : Int) 1) 1) yr7 yr8)) (
          J (shl .u64 (r : Int) 1) yr4 (bOr .u64 yr5 (bAnd .u64 yr2 3))))))) =
    J (s : Int) (hi (A / 2 ^ i - s * s)) (lo (A / 2 ^ i - s * s)) := by
  have hL : A / 2 ^ (i + 2) - r * r ≤ 2 * r := by
    have := hr.2; rw [sq_succ] at this; omega
  have ht : A / 2 ^ i % 4 < 4 := Nat.mod_lt _ (by decide)
  obtain ⟨st1, st2⟩ := root_step hr ht
  rw [← quarter_step] at st1 st2
  obtain ⟨L, hLe⟩ : ∃ L, L = A / 2 ^ (i + 2) - r * r := ⟨_, rfl⟩
  obtain ⟨X, hX⟩ : ∃ X, X = A / 2 ^ i := ⟨_, rfl⟩
  rw [← hLe] at hL st1 st2 ⊢
  rw [← hX] at st1 st2 ht hs ⊢
  rw [Shr_hl k hA (wf_nat (by omega)), Int.toNat_natCast, ← hX, and_three, Shl_hl k (A := L) (by omega) (by decide)]
  have e4 : L * 2 ^ (2 : Int).toNat % 2 ^ 128 = 4 * L := by
    have : (2 : Int).toNat = 2 := rfl
    rw [this]; omega
  simp only [e4]
  rw [or_three ht, ← hi_three ht, hi_try hr63, lo_try hr63, Compare_hl hk]
  have b1 : 4 * L + X % 4 < 2 ^ 128 := by omega
  have b2 : 4 * r + 1 < 2 ^ 128 := by omega
  by_cases hc : 4 * r + 1 ≤ 4 * L + X % 4
  · have : sgn (4 * L + X % 4) (4 * r + 1) ≥ 0 := by unfold sgn; rw [if_neg (by omega)]; split <;> decide
    simp only [this, decide_true, cond_true]
    obtain ⟨a1, a2⟩ := st1 hc
    have := hs.unique a1
    subst this
    rw [Sub_hl k b1 b2, shl_one_or hr63, a2]
    have : (4 * L + X % 4 + 2 ^ 128 - (4 * r + 1)) % 2 ^ 128 = 4 * L + X % 4 - (4 * r + 1) := by omega
    rw [this]
  · have : ¬ (sgn (4 * L + X % 4) (4 * r + 1) ≥ 0) := by unfold sgn; rw [if_pos (by omega)]; decide
    simp only [this, decide_false, cond_false]
    obtain ⟨a1, a2⟩ := st2 (by omega)
    have := hs.unique a1
    subst this
    rw [shl_one hr63, a2]

theorem root_exists : ∀ A : Nat, ∃ r, IsRoot A r
  | 0 => ⟨0, by decide, by decide⟩
  | A + 1 => by
    obtain ⟨r, h1, h2⟩ := root_exists A
    by_cases h : (r + 1) * (r + 1) ≤ A + 1
    · refine ⟨r + 1, h, ?_⟩
      rw [sq_succ (r + 1)]
      omega
    · exact ⟨r, by omega, by omega⟩

theorem root_up {A i r : Nat} (hA : A < 2 ^ 128) (hi126 : i ≤ 126) (hi : i % 2 = 0) (hr : IsRoot (A / 2 ^ (i + 2)) r) : r < 2 ^ 63 := by
  refine hr.lt ?_
  rw [Nat.div_lt_iff_lt_mul (Nat.two_pow_pos _)]
  refine Nat.lt_of_lt_of_le hA ?_
  have : (2 ^ 63 * 2 ^ 63 : Nat) = 2 ^ 126 := by decide
  rw [this, ← Nat.pow_add]
  exact Nat.pow_le_pow_right (by decide) (by omega)

theorem Sqrt_loop {R : Type} {k : Nat} (hk : 5000 ≤ k) {A s : Nat} (hA : A < 2 ^ 128) (hs : IsRoot A s) (a b : Int) (K : Int → Int → Int → Option R) : ∀ (m n r : Nat), m ≤ 62 → m < n → IsRoot (A / 2 ^ (2 * m + 2)) r →
    wide_Sqrt_l0 k n (r : Int) ((2 * m : Nat) : Int) (hi A) (lo A) a b (hi (A / 2 ^ (2 * m + 2) - r * r)) (lo (A / 2 ^ (2 * m + 2) - r * r)) K = K (s : Int) (hi (A - s * s)) (lo (A - s * s))
  | m, 0, r, h1, h2, _ => by omega
  | m, n + 1, r, h1, h2, hr => by
    rw [wide_Sqrt_l0, wide_Sqrt_l0B]
    obtain ⟨r', hr'⟩ := root_exists (A / 2 ^ (2 * m))
    refine (sqrt_body hk hA (by omega) hr (root_up hA (by omega) (by omega) hr) hr' (fun a1 b1 c1 => cond (decide ((Wi64 (((2 * m : Nat) : Int) - 2)) ≥ 0))
      (wide_Sqrt_l0 k n a1 (Wi64 (((2 * m : Nat) : Int) - 2)) (hi A) (lo A) a b b1 c1 K) (K a1 b1 c1))).trans ?_
    match m, h1, h2, hr, hr' with
    | 0, h1, h2, hr, hr' =>
      have : ¬ (Wi64 (((2 * 0 : Nat) : Int) - 2) ≥ 0) := by decide
      simp only [this, decide_false, cond_false]
      rw [show A / 2 ^ (2 * 0) = A by simp] at hr' ⊢
      rw [hr'.unique hs]
    | m + 1, h1, h2, hr, hr' =>
      have e : Wi64 (((2 * (m + 1) : Nat) : Int) - 2) = ((2 * m : Nat) : Int) := by rw [wrap_i64 (by omega) (by omega)]; omega
      have : (((2 * m : Nat) : Int) ≥ 0) := by omega
      simp only [e, this, decide_true, cond_true]
      exact Sqrt_loop hk hA hs a b K m n r' (by omega) (by omega) hr'

theorem Sqrt_hl {R : Type} {k : Nat} (hk : 5000 ≤ k) {A s : Nat} (hA : A < 2 ^ 128) (hs : IsRoot A s) (K : Int → Int → Int → Option R) :
    wide_Sqrt k (hi A) (lo A) K = K (s : Int) (hi (A - s * s)) (lo (A - s * s)) := by
  unfold wide_Sqrt wide_SqrtT
  have h0 : A / 2 ^ (126 + 2) = 0 := Nat.div_eq_of_lt hA
  have hr0 : IsRoot (A / 2 ^ (126 + 2)) 0 := by rw [h0]; exact ⟨by decide, by decide⟩
  obtain ⟨r', hr'⟩ := root_exists (A / 2 ^ 126)
  have h := sqrt_body (R := R) (i := 126) hk hA (by decide) hr0 (by decide) hr' (fun a1 b1 c1 => wide_Sqrt_l0 k k a1 124 (hi A) (lo A) 0 0 b1 c1 K)
  rw [h0] at h
  have z1 : hi (0 - 0 * 0) = 0 := by decide
  have z2 : lo (0 - 0 * 0) = 0 := by decide
  have z3 : shr .u64 ((0 : Nat) : Int) 62 = 0 := by decide
  have z4 : bOr .u64 (shl .u64 ((0 : Nat) : Int) 2) 1 = 1 := by decide
  have z5 : bOr .u64 (shl .u64 ((0 : Nat) : Int) 1) 1 = 1 := by decide
  have z6 : shl .u64 ((0 : Nat) : Int) 1 = 0 := by decide
  rw [z1, z2, z3, z4, z5, z6] at h
  refine h.trans ?_
  exact Sqrt_loop hk hA hs 0 0 K 62 k r' (by decide) (by omega) hr'

end Go.Proofs.Ytejfnbjhcohkiaa.N
