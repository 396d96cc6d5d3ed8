/- Roots of numbers of 128 bits: what they come to. Conditions: none. -/
import Derived.Test.YtnbmconaglehbaaWm9
namespace Go.Proofs.Ytnbmconaglehbaa.N
set_option linter.unusedVariables false
set_option linter.unusedSimpArgs false
open Go Go.Ab

theorem wf_nat {i : Nat} (h : i < 2 ^ 63) : (Lit.int .i64 (i : Int)).wf = true := by
  simp only [Lit.wf, Bool.and_eq_true, decide_eq_true_eq]
  have e1 : IntKind.i64.min = -9223372036854775808 := by decide
  have e2 : IntKind.i64.max = 9223372036854775807 := by decide
  rw [e1, e2]; omega

theorem and_three (X : Nat) : bAnd .u64 (lo X) 3 = ((X % 4 : Nat) : Int) := by
  unfold lo
  rw [show (3 : Int) = ((2 ^ 2 - 1 : Nat) : Int) from by decide, bAnd_nat (lo_lt _) (by decide), Nat.and_two_pow_sub_one_eq_mod]
  congr 1; omega

theorem hi_try {r : Nat} (hr : r < 2 ^ 63) : shr .u64 (r : Int) 62 = hi (4 * r + 1) := by
  rw [show (62 : Int) = ((62 : Nat) : Int) from rfl, shr_nat r 62 (by decide)]
  unfold hi; congr 1; omega

theorem lo_try {r : Nat} (hr : r < 2 ^ 63) : bOr .u64 (shl .u64 (r : Int) 2) 1 = lo (4 * r + 1) := by
  rw [show (2 : Int) = ((2 : Nat) : Int) from rfl, shl_nat r 2 (by decide), show (1 : Int) = ((1 : Nat) : Int) from rfl, bOr_nat (lo_lt _) (by decide)]
  have : (r * 2 ^ 2 % 2 ^ 64) ||| 1 = r * 2 ^ 2 % 2 ^ 64 + 1 := or_add (s := 1) (by omega) (by decide)
  rw [this]; unfold lo; congr 1; omega

theorem shl_one {r : Nat} (hr : r < 2 ^ 63) : shl .u64 (r : Int) 1 = ((2 * r : Nat) : Int) := by
  rw [show (1 : Int) = ((1 : Nat) : Int) from rfl, shl_nat r 1 (by decide)]
  congr 1; omega

theorem shl_one_or {r : Nat} (hr : r < 2 ^ 63) : bOr .u64 (shl .u64 (r : Int) 1) 1 = ((2 * r + 1 : Nat) : Int) := by
  rw [shl_one hr, show (1 : Int) = ((1 : Nat) : Int) from rfl, bOr_nat (by omega) (by decide)]
  have : (2 * r) ||| 1 = 2 * r + 1 := or_add (s := 1) (by omega) (by decide)
  rw [this]

theorem sqrt_body {R : Type} {k : Nat} (hk : 5000 ≤ k) {A r i : Nat} (hA : A < 2 ^ 128) (hi126 : i ≤ 126) (hr : IsRoot (A / 2 ^ (i + 2)) r) (hr63 : r < 2 ^ 63) {s : Nat} (hs : IsRoot (A / 2 ^ i) s) (J : Int → Int → Int → Option R) :
    (wide_Shr k (hi A) (lo A) (i : Int) (fun yr1 yr2 yr3 =>
    wide_Shl k (hi (A / 2 ^ (i + 2) - r * r)) (lo (A / 2 ^ (i + 2) - r * r)) 2 (fun yr4 yr5 =>
      wide_Compare k yr4 (bOr .u64 yr5 (bAnd .u64 yr2 3)) (shr .u64 (r : Int) 62) (bOr .u64 (shl .u64 (r : Int) 2) 1) (fun yr6 =>
        cond (decide (yr6 ≥ 0)) (
          wide_Sub k yr4 (bOr .u64 yr5 (bAnd .u64 yr2 3)) (shr .u64 (r : Int) 62) (bOr .u64 (shl .u64 (r : Int) 2) 1) (fun yr7 yr8 yr9 =>
            J (bOr .u64 (shl .u64 (r : Int) 1) 1) yr7 yr8)) (
          J (shl .u64 (r : Int) 1) yr4 (bOr .u64 yr5 (bAnd .u64 yr2 3))))))) =
    J (s : Int) (hi (A / 2 ^ i - s * s)) (lo (A / 2 ^ i - s * s)) := by
  have hL : A / 2 ^ (i + 2) - r * r ≤ 2 * r := by
    have := hr.2; rw [sq_succ] at this; omega
  have ht : A / 2 ^ i % 4 < 4 := Nat.mod_lt _ (by decide)
  obtain ⟨st1, st2⟩ := root_step hr ht
  rw [← quarter_step] at st1 st2
  obtain ⟨L, hLe⟩ : ∃ L, L = A / 2 ^ (i + 2) - r * r := ⟨_, rfl⟩
  obtain ⟨X, hX⟩ : ∃ X, X = A / 2 ^ i := ⟨_, rfl⟩
  rw [← hLe] at hL st1 st2 ⊢
  rw [← hX] at st1 st2 ht hs ⊢
  rw [Shr_hl k hA (wf_nat (by omega)), Int.toNat_natCast, ← hX, and_three, Shl_hl k (A := L) (by omega) (by decide)]
  have e4 : L * 2 ^ (2 : Int).toNat % 2 ^ 128 = 4 * L := by
    have : (2 : Int).toNat = 2 := rfl
    rw [this]; omega
  simp only [e4]
  rw [or_three ht, ← hi_three ht, hi_try hr63, lo_try hr63, Compare_hl hk]
  have b1 : 4 * L + X % 4 < 2 ^ 128 := by omega
  have b2 : 4 * r + 1 < 2 ^ 128 := by omega
  by_cases hc : 4 * r + 1 ≤ 4 * L + X % 4
  · have : sgn (4 * L + X % 4) (4 * r + 1) ≥ 0 := by unfold sgn; rw [if_neg (by omega)]; split <;> decide
    simp only [this, decide_true, cond_true]
    obtain ⟨a1, a2⟩ := st1 hc
    have := hs.unique a1
    subst this
    rw [Sub_hl k b1 b2, shl_one_or hr63, a2]
    have : (4 * L + X % 4 + 2 ^ 128 - (4 * r + 1)) % 2 ^ 128 = 4 * L + X % 4 - (4 * r + 1) := by omega
    rw [this]
  · have : ¬ (sgn (4 * L + X % 4) (4 * r + 1) ≥ 0) := by unfold sgn; rw [if_pos (by omega)]; decide
    simp only [this, decide_false, cond_false]
    obtain ⟨a1, a2⟩ := st2 (by omega)
    have := hs.unique a1
    subst this
    rw [shl_one hr63, a2]

theorem root_exists : ∀ A : Nat, ∃ r, IsRoot A r
  | 0 => ⟨0, by decide, by decide⟩
  | A + 1 => by
    obtain ⟨r, h1, h2⟩ := root_exists A
    by_cases h : (r + 1) * (r + 1) ≤ A + 1
    · refine ⟨r + 1, h, ?_⟩
      rw [sq_succ (r + 1)]
      omega
    · exact ⟨r, by omega, by omega⟩

theorem root_up {A i r : Nat} (hA : A < 2 ^ 128) (hi126 : i ≤ 126) (hi : i % 2 = 0) (hr : IsRoot (A / 2 ^ (i + 2)) r) : r < 2 ^ 63 := by
  refine hr.lt ?_
  rw [Nat.div_lt_iff_lt_mul (Nat.two_pow_pos _)]
  refine Nat.lt_of_lt_of_le hA ?_
  have : (2 ^ 63 * 2 ^ 63 : Nat) = 2 ^ 126 := by decide
  rw [this, ← Nat.pow_add]
  exact Nat.pow_le_pow_right (by decide) (by omega)

theorem Sqrt_loop {R : Type} {k : Nat} (hk : 5000 ≤ k) {A s : Nat} (hA : A < 2 ^ 128) (hs : IsRoot A s) (a b : Int) (K : Int → Int → Int → Option R) : ∀ (m n r : Nat), m ≤ 62 → m < n → IsRoot (A / 2 ^ (2 * m + 2)) r →
    wide_Sqrt_l0 k n (r : Int) ((2 * m : Nat) : Int) (hi A) (lo A) a b (hi (A / 2 ^ (2 * m + 2) - r * r)) (lo (A / 2 ^ (2 * m + 2) - r * r)) K = K (s : Int) (hi (A - s * s)) (lo (A - s * s))
  | m, 0, r, h1, h2, _ => by omega
  | m, n + 1, r, h1, h2, hr => by
    rw [wide_Sqrt_l0, wide_Sqrt_l0B]
    obtain ⟨r', hr'⟩ := root_exists (A / 2 ^ (2 * m))
    refine (sqrt_body hk hA (by omega) hr (root_up hA (by omega) (by omega) hr) hr' (fun a1 b1 c1 => cond (decide ((Wi64 (((2 * m : Nat) : Int) - 2)) ≥ 0))
      (wide_Sqrt_l0 k n a1 (Wi64 (((2 * m : Nat) : Int) - 2)) (hi A) (lo A) a b b1 c1 K) (K a1 b1 c1))).trans ?_
    match m, h1, h2, hr, hr' with
    | 0, h1, h2, hr, hr' =>
      have : ¬ (Wi64 (((2 * 0 : Nat) : Int) - 2) ≥ 0) := by decide
      simp only [this, decide_false, cond_false]
      rw [show A / 2 ^ (2 * 0) = A by simp] at hr' ⊢
      rw [hr'.unique hs]
    | m + 1, h1, h2, hr, hr' =>
      have e : Wi64 (((2 * (m + 1) : Nat) : Int) - 2) = ((2 * m : Nat) : Int) := by rw [wrap_i64 (by omega) (by omega)]; omega
      have : (((2 * m : Nat) : Int) ≥ 0) := by omega
      simp only [e, this, decide_true, cond_true]
      exact Sqrt_loop hk hA hs a b K m n r' (by omega) (by omega) hr'

theorem Sqrt_hl {R : Type} {k : Nat} (hk : 5000 ≤ k) {A s : Nat} (hA : A < 2 ^ 128) (hs : IsRoot A s) (K : Int → Int → Int → Option R) :
    wide_Sqrt k (hi A) (lo A) K = K (s : Int) (hi (A - s * s)) (lo (A - s * s)) := by
  unfold wide_Sqrt
  have h0 : A / 2 ^ (126 + 2) = 0 := Nat.div_eq_of_lt hA
  have hr0 : IsRoot (A / 2 ^ (126 + 2)) 0 := by rw [h0]; exact ⟨by decide, by decide⟩
  obtain ⟨r', hr'⟩ := root_exists (A / 2 ^ 126)
  have h := sqrt_body (R := R) (i := 126) hk hA (by decide) hr0 (by decide) hr' (fun a1 b1 c1 => wide_Sqrt_l0 k k a1 124 (hi A) (lo A) 0 0 b1 c1 K)
  rw [h0] at h
  have z1 : hi (0 - 0 * 0) = 0 := by decide
  have z2 : lo (0 - 0 * 0) = 0 := by decide
  have z3 : shr .u64 ((0 : Nat) : Int) 62 = 0 := by decide
  have z4 : bOr .u64 (shl .u64 ((0 : Nat) : Int) 2) 1 = 1 := by decide
  have z5 : bOr .u64 (shl .u64 ((0 : Nat) : Int) 1) 1 = 1 := by decide
  have z6 : shl .u64 ((0 : Nat) : Int) 1 = 0 := by decide
  rw [z1, z2, z3, z4, z5, z6] at h
  refine h.trans ?_
  exact Sqrt_loop hk hA hs 0 0 K 62 k r' (by decide) (by omega) hr'

/-! ### By the reference -/

theorem or_bit {r i : Nat} (hr : r % 2 ^ (i + 1) = 0) (hrl : r < 2 ^ 64) (hi64 : i < 64) : bOr .u64 (r : Int) (shl .u64 1 (i : Int)) = ((r + 2 ^ i : Nat) : Int) := by
  have hp : 2 ^ i < 2 ^ 64 := Nat.pow_lt_pow_right (by decide) hi64
  rw [show (1 : Int) = ((1 : Nat) : Int) from rfl, shl_nat 1 i (by omega), Nat.one_mul, Nat.mod_eq_of_lt hp, bOr_nat hrl hp]
  rw [or_add (s := i + 1) hr (by rw [Nat.pow_succ]; have := Nat.two_pow_pos i; omega)]

theorem lt_of_mul {r i n : Nat} (hr : r % 2 ^ i = 0) (hlt : r < 2 ^ n) (hi : i ≤ n) : r + 2 ^ i ≤ 2 ^ n := by
  have h1 : r = 2 ^ i * (r / 2 ^ i) := by have := Nat.div_add_mod r (2 ^ i); omega
  have h2 : 2 ^ n = 2 ^ i * 2 ^ (n - i) := by rw [← Nat.pow_add]; congr 1; omega
  have h3 : r / 2 ^ i < 2 ^ (n - i) := by rw [Nat.div_lt_iff_lt_mul (Nat.two_pow_pos i), Nat.mul_comm, ← h2]; exact hlt
  have := Nat.mul_le_mul_left (2 ^ i) h3
  rw [← h2, Nat.succ_eq_add_one, Nat.mul_add, Nat.mul_one, ← h1] at this
  exact this

theorem refSqrt_loop {R : Type} {k : Nat} (hk : 5000 ≤ k) {A s : Nat} (hA : A < 2 ^ 128) (hs : IsRoot A s) (a b : Int) (K : Int → Option R) : ∀ (i n r : Nat), i ≤ 64 → i < n → r % 2 ^ i = 0 → r < 2 ^ 64 → r * r ≤ A → A < (r + 2 ^ i) * (r + 2 ^ i) →
    plumblineref01_Sqrt_l0 k n (r : Int) ((i : Int) - 1) (hi A) (lo A) a b K = K (s : Int)
  | i, 0, r, h1, h2, _, _, _, _ => by omega
  | 0, n + 1, r, h1, h2, h3, h4, h5, h6 => by
    rw [plumblineref01_Sqrt_l0, plumblineref01_Sqrt_l0B]
    have e0 : ¬ ((((0 : Nat) : Int) - 1) ≥ 0) := by decide
    simp only [e0, decide_false, cond_false]
    have : IsRoot A r := ⟨h5, h6⟩
    rw [this.unique hs]
  | i + 1, n + 1, r, h1, h2, h3, h4, h5, h6 => by
    rw [plumblineref01_Sqrt_l0, plumblineref01_Sqrt_l0B]
    have e : (((i + 1 : Nat) : Int) - 1) = (i : Int) := by omega
    have e0 : ((i : Int) ≥ 0) := by omega
    have e1 : ¬ ((i : Int) < 0) := by omega
    have e8 : Wi64 ((i : Int) - 1) = ((i : Int) - 1) := wrap_i64 (by omega) (by omega)
    have hp : 2 ^ (i + 1) = 2 ^ i + 2 ^ i := by rw [Nat.pow_succ]; omega
    have hx : r + 2 ^ i < 2 ^ 64 := by
      have := lt_of_mul h3 h4 h1
      have := Nat.two_pow_pos i
      omega
    have h3' : r % 2 ^ i = 0 := by
      have hd : 2 ^ i ∣ 2 ^ (i + 1) := ⟨2, by rw [Nat.pow_succ]⟩
      exact Nat.mod_eq_zero_of_dvd (Nat.dvd_trans hd (Nat.dvd_of_mod_eq_zero h3))
    rw [e, e8]
    simp only [e0, e1, decide_true, decide_false, cond_true, cond_false]
    rw [or_bit h3 h4 (by omega), refMul_hl hk hx hx]
    have hsq : (r + 2 ^ i) * (r + 2 ^ i) < 2 ^ 128 := by
      have := Nat.mul_lt_mul'' hx hx
      rw [← Nat.pow_add] at this
      exact this
    rw [refCompare_hl hk hsq hA]
    by_cases hc : (r + 2 ^ i) * (r + 2 ^ i) ≤ A
    · have : sgn ((r + 2 ^ i) * (r + 2 ^ i)) A ≤ 0 := by unfold sgn; split; decide; rw [if_neg (by omega)]; decide
      simp only [this, decide_true, cond_true]
      refine refSqrt_loop hk hA hs a b K i n (r + 2 ^ i) (by omega) (by omega) ?_ hx hc ?_
      · rw [Nat.add_mod, h3', Nat.mod_self]; rfl
      · rw [hp, ← Nat.add_assoc] at h6; exact h6
    · have : ¬ sgn ((r + 2 ^ i) * (r + 2 ^ i)) A ≤ 0 := by unfold sgn; rw [if_neg (by omega), if_pos (by omega)]; decide
      simp only [this, decide_false, cond_false]
      exact refSqrt_loop hk hA hs a b K i n r (by omega) (by omega) h3' h4 h5 (by omega)

theorem refSqrt_hl {R : Type} {k : Nat} (hk : 5000 ≤ k) {A s : Nat} (hA : A < 2 ^ 128) (hs : IsRoot A s) (K : Int → Int → Int → Option R) :
    plumblineref01_Sqrt k (hi A) (lo A) K = K (s : Int) (hi (A - s * s)) (lo (A - s * s)) := by
  unfold plumblineref01_Sqrt
  have h := refSqrt_loop hk hA hs 0 0 (fun r1 =>
    plumblineref01_Mul k r1 r1 (fun r2 r3 =>
      plumblineref01_Sub k (hi A) (lo A) r2 r3 (fun r4 r5 r6 =>
        K r1 r4 r5))) 64 k 0 (by decide) (by omega) (by decide) (by decide) (by omega) (by rw [Nat.zero_add, ← Nat.pow_add]; exact hA)
  refine h.trans ?_
  have hs64 : s < 2 ^ 64 := hs.lt (by rw [← Nat.pow_add]; exact hA)
  have hsq : s * s < 2 ^ 128 := Nat.lt_of_le_of_lt hs.1 hA
  rw [refMul_hl hk hs64 hs64, refSub_hl hk hA hsq]
  have : (A + 2 ^ 128 - s * s) % 2 ^ 128 = A - s * s := by
    have := hs.1
    generalize s * s = q at *
    omega
  rw [this]

theorem live_true {R : Type} {k : Nat} (hk : 5000 ≤ k) (K : Bool → Option R) : plumblinelaw01_live k K = K true := by
  unfold plumblinelaw01_live
  have h10 : IsRoot 10 3 := ⟨by decide, by decide⟩
  have e1 : (0 : Int) = hi 10 := by decide
  have e2 : (10 : Int) = lo 10 := by decide
  have h1 := Sqrt_hl (R := R) hk (A := 10) (by decide) h10 (fun r1 r2 r3 =>
    wide_Shr k 0 5 1 (fun r4 r5 r6 =>
      cond (r1 == 3) (
        cond ((r2 == 0) && (r3 == 1)) (
          cond ((r4 == 0) && (r5 == 2)) (
            K r6) (
            K false)) (
          K false)) (
        K false)))
  refine Eq.trans ?_ (h1.trans ?_)
  · rfl
  · have h2 := Shr_hl (R := R) k (A := 5) (n := 1) (by decide) (by decide) (fun r4 r5 r6 =>
      cond (((3 : Nat) : Int) == 3) (
        cond ((hi (10 - 3 * 3) == 0) && (lo (10 - 3 * 3) == 1)) (
          cond ((r4 == 0) && (r5 == 2)) (
            K r6) (
            K false)) (
          K false)) (
        K false))
    exact h2
end Go.Proofs.Ytnbmconaglehbaa.N
