/- The reference of floats: rounding. Conditions: none. -/
import Derived.Test.YtelifkahdhhmoaaRo0
namespace Go.Proofs.Ytelifkahdhhmoaa.N
set_option linter.unusedVariables false
set_option linter.unusedSimpArgs false
open Go Go.Ab

/-- A number's lowest n bits, in a row. -/
def bitsOf (n N : Nat) : List Bool := rowN n N.testBit
theorem bitsOf_length (n N : Nat) : (bitsOf n N).length = n := rowN_length _ _
theorem bitsOf_get {n N i : Nat} (h : i < n) : (bitsOf n N)[i]? = some (N.testBit i) := by unfold bitsOf; rw [rowN_get, if_pos h]

theorem length_loop {R : Type} (k n N : Nat) (hn : n < 2 ^ 60) (K : Int → Option R) : ∀ (i m : Nat), i ≤ n → N < 2 ^ i → i < m → plumblineref02_length_l0 k m (i : Int) (bitsOf n N) K = K ((bl N : Nat) : Int)
  | i, 0, _, _, h => by omega
  | 0, m + 1, _, h, _ => by
    rw [plumblineref02_length_l0, plumblineref02_length_l0B]
    have : N = 0 := by simpa using h
    subst this
    rfl
  | i + 1, m + 1, h1, h2, h3 => by
    rw [plumblineref02_length_l0, plumblineref02_length_l0B]
    have e1 : ((((i + 1 : Nat) : Int)) > 0) := by omega
    have ew : Wi64 (((i + 1 : Nat) : Int) - 1) = (i : Int) := by rw [wrap_i64 (by omega) (by omega)]; omega
    have e2 : ((0 : Int) ≤ (i : Int)) := by omega
    have e3 : ((i : Int) < ((n : Nat) : Int)) := by omega
    rw [decide_eq_true e1, cond_true, ew, decide_eq_true e2, cond_true, bitsOf_length, decide_eq_true e3, cond_true, Int.toNat_natCast, bitsOf_get (by omega), Option.bind_some]
    cases hb : N.testBit i with
    | false =>
      rw [Bool.not_false, cond_true]
      refine length_loop k n N hn K i m (by omega) ?_ (by omega)
      refine Nat.lt_of_not_le fun hh => ?_
      have := top_bit h2
      rw [hb] at this
      simp at this; omega
    | true =>
      rw [Bool.not_true, cond_false]
      have := Nat.ge_two_pow_of_testBit hb
      rw [bl_eq this h2]

theorem length_k {R : Type} {k n N : Nat} (hn : n < k) (hn2 : n < 2 ^ 60) (h : N < 2 ^ n) (K : Int → Option R) : plumblineref02_length k (bitsOf n N) K = K ((bl N : Nat) : Int) := by
  unfold plumblineref02_length plumblineref02_lengthT
  rw [bitsOf_length]
  exact length_loop k n N hn2 K n k (Nat.le_refl _) h hn

/-! ### The whole part -/

theorem bit_off {q j : Nat} (h : q % 2 ^ (j + 1) = 0) (hj : j < 63) (hq : q < 2 ^ 63) : bAndNot .u64 ((q + 2 ^ j : Nat) : Int) ((2 ^ j : Nat) : Int) = (q : Int) := by
  have hp : 2 ^ j < 2 ^ 63 := Nat.pow_lt_pow_right (by decide) hj
  rw [bAndNot_nat (by omega) (by omega)]
  congr 1
  apply Nat.eq_of_testBit_eq
  intro i
  have hor : q + 2 ^ j = q ||| 2 ^ j := (or_add h (by rw [Nat.pow_succ]; have := Nat.two_pow_pos j; omega)).symm
  rw [hor, Nat.testBit_and, Nat.testBit_or, Nat.testBit_two_pow, Nat.testBit_two_pow_sub_succ (by omega), Nat.testBit_two_pow]
  by_cases c : j = i
  · subst c
    have : q.testBit j = false := by
      have hz : (q % 2 ^ (j + 1)).testBit j = q.testBit j := by rw [Nat.testBit_mod_two_pow]; simp
      rw [h] at hz; rw [← hz]; simp
    simp [this]
  · by_cases c2 : i < 64
    · simp [c, c2]
    · have : q.testBit i = false := Nat.testBit_lt_two_pow (Nat.lt_of_lt_of_le hq (Nat.pow_le_pow_right (by decide) (by omega)))
      simp [c, this]

theorem or_bit' {r j : Nat} (hr : r % 2 ^ (j + 1) = 0) (hrl : r < 2 ^ 64) (hj : j < 63) : bOr .u64 (r : Int) (shl .u64 1 (j : Int)) = ((r + 2 ^ j : Nat) : Int) := by
  have hp : 2 ^ j < 2 ^ 63 := Nat.pow_lt_pow_right (by decide) hj
  rw [shl_1 (by omega), bOr_nat hrl (by omega), or_add (s := j + 1) hr (by rw [Nat.pow_succ]; have := Nat.two_pow_pos j; omega)]

/-- The places told so far. -/
def Qi (N : Nat) (d : Int) (i : Nat) : Nat := if d ≤ (i : Int) then (N / 2 ^ i) * 2 ^ ((i : Int) - d).toNat else N / 2 ^ d.toNat

theorem Qi_zero (N : Nat) (d : Int) : Qi N d 0 = qd N d := by
  unfold Qi qd
  by_cases h : 0 < d
  · by_cases h0 : d ≤ ((0 : Nat) : Int)
    · omega
    · rw [if_neg h0, if_pos h]
  · rw [if_pos (by omega), if_neg h]
    simp

theorem q_loop {R : Type} (k : Nat) {n N : Nat} {f m : Int} {b : Bool} {e last : Int} {x5 x6 x7 x8 : Int} (hn : n ≤ 100000) (he : -100000 ≤ e) (he2 : e ≤ 100000) (hl : -1074 ≤ last) (hl2 : last < 1000000) {p : Nat} (hp : p ≤ 52) (K : Int → Option R) :
    ∀ (i mm : Nat), i ≤ n → ((i : Int) ≤ last - e + p + 1) → N < 2 ^ (p + 1) * 2 ^ (last - e).toNat → i < mm → (∀ j, i ≤ j → True) → Qi N (last - e) i < 2 ^ (p + 1) → Qi N (last - e) 0 < 2 ^ (p + 1) →
    plumblineref02_Rounded_l0 k mm f m b e x5 x6 x7 x8 last ((Qi N (last - e) i : Nat) : Int) ((i : Int) - 1) (bitsOf n N) K = K ((Qi N (last - e) 0 : Nat) : Int)
  | i, 0, _, _, _, h, _, _, _ => by omega
  | 0, mm + 1, _, _, _, _, _, _, _ => by
    rw [plumblineref02_Rounded_l0, plumblineref02_Rounded_l0B]
    have e0 : ¬ ((((0 : Nat) : Int) - 1) ≥ 0) := by decide
    rw [decide_eq_false e0, cond_false]
  | i + 1, mm + 1, h1, h2, h3, h4, h5, h6, h7 => by
    rw [plumblineref02_Rounded_l0, plumblineref02_Rounded_l0B]
    have ei : (((i + 1 : Nat) : Int) - 1) = (i : Int) := by omega
    have e0 : ((i : Int) ≥ 0) := by omega
    have e1 : ((0 : Int) ≤ (i : Int)) := by omega
    have e2 : ((i : Int) < ((n : Nat) : Int)) := by omega
    have ew : Wi64 (e + (i : Int)) = e + i := wrap_i64 (by omega) (by omega)
    have ew2 : Wi64 (e + (i : Int) - last) = e + i - last := wrap_i64 (by omega) (by omega)
    have ew3 : Wi64 ((i : Int) - 1) = (i : Int) - 1 := wrap_i64 (by omega) (by omega)
    rw [ei, ew, ew2, ew3, decide_eq_true e0, bitsOf_length, decide_eq_true e2, Int.toNat_natCast, bitsOf_get (by omega)]
    obtain ⟨d, hd⟩ : ∃ d, d = last - e := ⟨_, rfl⟩
    rw [← hd] at h2 h3 h6 h7 ⊢
    have hp53 : 2 ^ (p + 1) ≤ 2 ^ 53 := Nat.pow_le_pow_right (by decide) (by omega)
    by_cases c : e + (i : Int) ≥ last
    · have c' : ¬ (e + (i : Int) - last < 0) := by omega
      obtain ⟨j, hj⟩ : ∃ j : Nat, e + (i : Int) - last = (j : Int) := ⟨(e + i - last).toNat, by omega⟩
      rw [decide_eq_true c, decide_eq_false c', hj]
      repeat rw [cond_true]
      rw [cond_false]
      repeat rw [cond_true]
      rw [Option.bind_some]
      have hj63 : j < 63 := by omega
      have hQ1 : Qi N d (i + 1) = N / 2 ^ (i + 1) * 2 ^ (j + 1) := by
        unfold Qi
        rw [if_pos (by omega)]
        congr 2; omega
      have hQ0 : Qi N d i = N / 2 ^ i * 2 ^ j := by
        unfold Qi
        rw [if_pos (by omega)]
        congr 2; omega
      have hstep : Qi N d i = Qi N d (i + 1) + (N.testBit i).toNat * 2 ^ j := by
        rw [hQ0, hQ1]
        have hd : N / 2 ^ (i + 1) = N / 2 ^ i / 2 := by rw [Nat.pow_succ, Nat.div_div_eq_div_mul]
        have hb := Nat.toNat_testBit N i
        rw [hd, hb, Nat.pow_succ, ← Nat.mul_assoc, Nat.mul_right_comm, ← Nat.add_mul]
        congr 1; omega
      have hmod : Qi N d (i + 1) % 2 ^ (j + 1) = 0 := by rw [hQ1]; exact Nat.mul_mod_left _ _
      have hor := or_bit' hmod (by omega) hj63
      have h6' : Qi N d i < 2 ^ (p + 1) := by
        have : Qi N d i ≤ Qi N d 0 ∨ True := .inr trivial
        -- the places grow no further than the last ones
        by_cases hz : d ≤ 0
        · have e0' : Qi N d 0 = N * 2 ^ (-d).toNat := by rw [Qi_zero]; unfold qd; rw [if_neg (by omega)]
          rw [hQ0]
          refine Nat.lt_of_le_of_lt ?_ h7
          rw [e0']
          have hj' : j = i + (-d).toNat := by omega
          rw [hj', Nat.pow_add, ← Nat.mul_assoc]
          exact Nat.mul_le_mul_right _ (Nat.div_mul_le_self _ _)
        · have e0' : Qi N d 0 = N / 2 ^ d.toNat := by rw [Qi_zero]; unfold qd; rw [if_pos (by omega)]
          rw [hQ0]
          refine Nat.lt_of_le_of_lt ?_ h7
          rw [e0', Nat.le_div_iff_mul_le (Nat.two_pow_pos _), Nat.mul_assoc, ← Nat.pow_add]
          have : j + d.toNat = i := by omega
          rw [this]
          exact Nat.div_mul_le_self _ _
      have ih := q_loop (R := R) k (f := f) (m := m) (b := b) (x5 := x5) (x6 := x6) (x7 := x7) (x8 := x8) hn he he2 hl hl2 hp K i mm (by omega) (by omega) (by rw [← hd]; exact h3) (by omega) (fun _ _ => trivial) (by rw [← hd]; exact h6') (by rw [← hd]; exact h7)
      rw [← hd] at ih
      rw [hor]
      cases hb : N.testBit i with
      | true =>
        rw [Bool.not_true, cond_false]
        rw [hb, Bool.toNat_true, Nat.one_mul] at hstep
        rw [← hstep]; exact ih
      | false =>
        rw [Bool.not_false, cond_true, cond_false, shl_1 (by omega), bit_off hmod hj63 (by omega)]
        rw [hb, Bool.toNat_false, Nat.zero_mul, Nat.add_zero] at hstep
        rw [← hstep]; exact ih
    · rw [decide_eq_false c]
      rw [cond_false]
      repeat rw [cond_true]
      rw [Option.bind_some]
      have hQ : Qi N d i = Qi N d (i + 1) := by
        unfold Qi
        by_cases c2 : d ≤ ((i + 1 : Nat) : Int)
        · have hdi : d = ((i + 1 : Nat) : Int) := by omega
          rw [if_neg (by omega), if_pos c2, hdi]
          simp
        · rw [if_neg (by omega), if_neg c2]
      have ih := q_loop (R := R) k (f := f) (m := m) (b := b) (x5 := x5) (x6 := x6) (x7 := x7) (x8 := x8) hn he he2 hl hl2 hp K i mm (by omega) (by omega) (by rw [← hd]; exact h3) (by omega) (fun _ _ => trivial) (by rw [← hd, hQ]; exact h6) (by rw [← hd]; exact h7)
      rw [← hd, hQ] at ih
      cases hb : N.testBit i with
      | true => rw [Bool.not_true, cond_false]; exact ih
      | false => rw [Bool.not_false, cond_true, cond_false]; exact ih

end Go.Proofs.Ytelifkahdhhmoaa.N
