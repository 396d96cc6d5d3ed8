/- Floats as numbers: formats, rounding of a whole number times a power of 2: definitions and first laws. Conditions: none. -/
import Derived.Test.YtejfnbjhcohkiaaMa
import Derived.Test.YtejfnbjhcohkiaaNsoft
namespace Go.Proofs.Ytejfnbjhcohkiaa.N
set_option linter.unusedVariables false
set_option linter.unusedSimpArgs false
open Go Go.Ab

/-! ### Formats: bits of the fraction, of the exponent, the least power -/
def fP (f : Int) : Nat := if f = 1 then 23 else 52
def fE (f : Int) : Nat := if f = 1 then 8 else 11
def fL (f : Int) : Int := if f = 1 then -149 else -1074
def fB (f : Int) : Nat := 2 ^ (fP f + fE f)
def fI (f : Int) : Nat := (2 ^ fE f - 1) * 2 ^ fP f
def sg (f : Int) (b : Bool) : Nat := if b then fB f else 0

theorem fmt (f : Int) : (f = 1 ∧ fP f = 23 ∧ fE f = 8 ∧ fL f = -149) ∨ (f ≠ 1 ∧ fP f = 52 ∧ fE f = 11 ∧ fL f = -1074) := by
  by_cases h : f = 1
  · subst h; exact .inl ⟨rfl, rfl, rfl, rfl⟩
  · refine .inr ⟨h, ?_, ?_, ?_⟩ <;> simp [fP, fE, fL, h]

theorem fmt_le (f : Int) : 23 ≤ fP f ∧ fP f ≤ 52 ∧ 8 ≤ fE f ∧ fE f ≤ 11 ∧ fP f + fE f ≤ 63 ∧ -1074 ≤ fL f ∧ fL f ≤ -149 := by
  rcases fmt f with ⟨_, h1, h2, h3⟩ | ⟨_, h1, h2, h3⟩ <;> rw [h1, h2, h3] <;> decide

theorem fI_lt (f : Int) : fI f + 2 ^ fP f = fB f := by
  unfold fI fB
  have h1 : 2 ^ (fP f + fE f) = 2 ^ fE f * 2 ^ fP f := by rw [Nat.add_comm, Nat.pow_add]
  have h2 : 0 < 2 ^ fE f := Nat.two_pow_pos _
  rw [h1, Nat.sub_mul, Nat.one_mul]
  have : 1 * 2 ^ fP f ≤ 2 ^ fE f * 2 ^ fP f := Nat.mul_le_mul_right _ h2
  omega

theorem fB_le (f : Int) : fB f ≤ 2 ^ 63 := Nat.pow_le_pow_right (by decide) (fmt_le f).2.2.2.2.1
theorem sg_le (f : Int) (b : Bool) : sg f b ≤ fB f := by unfold sg; split <;> omega
theorem fP_pos (f : Int) : 0 < 2 ^ fP f := Nat.two_pow_pos _
theorem fI_pos (f : Int) : 2 ^ fP f < fI f := by
  rcases fmt f with ⟨_, h1, h2, h3⟩ | ⟨_, h1, h2, h3⟩ <;> unfold fI <;> rw [h1, h2] <;> decide

/-! ### Digits of a number at a place d above its lowest one -/
def qd (N : Nat) (d : Int) : Nat := if 0 < d then N / 2 ^ d.toNat else N * 2 ^ (-d).toNat
def hd (N : Nat) (d : Int) : Bool := decide (0 < d) && N.testBit (d.toNat - 1)
def rs (N : Nat) (d : Int) : Bool := decide (0 < d) && decide (N % 2 ^ (d.toNat - 1) ≠ 0)

/-- Whether a number goes on to the next one, away from 0. -/
def more (m : Int) (below odd half rest : Bool) : Bool :=
  if m = 1 then !below && (half || rest) else if m = 2 then below && (half || rest) else if m = 3 then false else half && (rest || odd)

def lastOf (f : Int) (N : Nat) (e : Int) : Int := max (e + (bl N : Nat) - 1 - (fP f : Nat)) (fL f)

/-- What is put together: the place, the number of places, what is below. -/
def gOf (f m : Int) (below : Bool) (last : Int) (q : Nat) (half rest : Bool) : Nat := (last - fL f).toNat * 2 ^ fP f + q + (more m below (q % 2 == 1) half rest).toNat
/-- Too great ones. -/
def clip (f m : Int) (below : Bool) (g : Nat) : Nat := if g < fI f then g else if more m below true true true then fI f else fI f - 1
def enc (f m : Int) (below : Bool) (last : Int) (q : Nat) (half rest : Bool) : Nat := sg f below + clip f m below (gOf f m below last q half rest)

/-- N times 2 to the e, and a little more, if so, rounded. -/
def Rd (f m : Int) (below : Bool) (N : Nat) (e : Int) (rest : Bool) : Nat :=
  if N = 0 ∧ rest = false then sg f below else enc f m below (lastOf f N e) (qd N (lastOf f N e - e)) (hd N (lastOf f N e - e)) (rest || rs N (lastOf f N e - e))

theorem bl_pos {N : Nat} (h : 0 < N) : 0 < bl N := by unfold bl; rw [if_neg (by omega)]; omega
theorem bl_low {N : Nat} (h : 0 < N) : 2 ^ (bl N - 1) ≤ N := by
  refine Nat.le_of_not_lt fun hh => ?_
  have := bl_le_iff.2 hh
  have := bl_pos h
  omega
theorem bl_up (N : Nat) : N < 2 ^ bl N := bl_le_iff.1 (Nat.le_refl _)
theorem bl_mul {N : Nat} (h : 0 < N) (j : Nat) : bl (N * 2 ^ j) = bl N + j := by
  have h1 := bl_low h
  have h2 := bl_up N
  have h3 := bl_pos h
  have : bl (N * 2 ^ j) = (bl N + j - 1) + 1 := by
    refine bl_eq ?_ ?_
    · have : bl N + j - 1 = (bl N - 1) + j := by omega
      rw [this, Nat.pow_add]; exact Nat.mul_le_mul_right _ h1
    · have : bl N + j - 1 + 1 = bl N + j := by omega
      rw [this, Nat.pow_add]; exact Nat.mul_lt_mul_of_pos_right h2 (Nat.two_pow_pos _)
  omega
theorem bl_mul_add {N : Nat} (h : 0 < N) (j t : Nat) (ht : t < 2 ^ j) : bl (N * 2 ^ j + t) = bl N + j := by
  have h1 := bl_low h
  have h2 := bl_up N
  have h3 := bl_pos h
  have : bl (N * 2 ^ j + t) = (bl N + j - 1) + 1 := by
    refine bl_eq ?_ ?_
    · have : bl N + j - 1 = (bl N - 1) + j := by omega
      rw [this, Nat.pow_add]; exact Nat.le_trans (Nat.mul_le_mul_right _ h1) (Nat.le_add_right _ _)
    · have : bl N + j - 1 + 1 = bl N + j := by omega
      rw [this, Nat.pow_add]
      have := Nat.mul_le_mul_right (2 ^ j) (Nat.succ_le_of_lt h2)
      rw [Nat.succ_eq_add_one, Nat.add_mul, Nat.one_mul] at this
      omega
  rw [this]; omega

/-- The number of places is one more than the fraction has bits, at most; just that, if the place is not the least one. -/
theorem qd_lt {f : Int} {N : Nat} {e : Int} (h : 0 < N) : qd N (lastOf f N e - e) < 2 ^ (fP f + 1) := by
  have h2 := bl_up N
  have h3 := bl_pos h
  unfold qd
  have hl : e + (bl N : Nat) - 1 - (fP f : Nat) ≤ lastOf f N e := Int.le_max_left _ _
  generalize lastOf f N e = last at *
  split
  · rename_i hd
    rw [Nat.div_lt_iff_lt_mul (Nat.two_pow_pos _), ← Nat.pow_add]
    exact Nat.lt_of_lt_of_le h2 (Nat.pow_le_pow_right (by decide) (by omega))
  · rename_i hd
    refine Nat.lt_of_lt_of_le (Nat.mul_lt_mul_of_pos_right h2 (Nat.two_pow_pos _)) ?_
    rw [← Nat.pow_add]
    exact Nat.pow_le_pow_right (by decide) (by omega)

theorem qd_ge {f : Int} {N : Nat} {e : Int} (h : 0 < N) (hl : lastOf f N e ≠ fL f) : 2 ^ fP f ≤ qd N (lastOf f N e - e) := by
  have h2 := bl_low h
  have h3 := bl_pos h
  unfold qd
  have hl : lastOf f N e = e + (bl N : Nat) - 1 - (fP f : Nat) := by unfold lastOf at hl ⊢; omega
  rw [hl]
  split
  · rename_i hd
    rw [Nat.le_div_iff_mul_le (Nat.two_pow_pos _), ← Nat.pow_add]
    refine Nat.le_trans (Nat.pow_le_pow_right (by decide) ?_) h2
    omega
  · rename_i hd
    refine Nat.le_trans ?_ (Nat.mul_le_mul_right _ h2)
    rw [← Nat.pow_add]
    exact Nat.pow_le_pow_right (by decide) (by omega)

/-! ### The same number, told otherwise -/

theorem pow_split {a b : Nat} (h : a ≤ b) : 2 ^ b = 2 ^ a * 2 ^ (b - a) := by rw [← Nat.pow_add]; congr 1; omega

theorem qd_scale (N : Nat) (d : Int) (j : Nat) : qd (N * 2 ^ j) (d + j) = qd N d := by
  unfold qd
  by_cases h : 0 < d
  · have h1 : 0 < d + (j : Int) := by omega
    rw [if_pos h, if_pos h1]
    have : (d + (j : Int)).toNat = d.toNat + j := by omega
    rw [this, Nat.pow_add, Nat.mul_div_mul_right _ _ (Nat.two_pow_pos j)]
  · rw [if_neg h]
    by_cases h1 : 0 < d + (j : Int)
    · rw [if_pos h1]
      have e1 : j = (d + (j : Int)).toNat + (-d).toNat := by omega
      conv => lhs; rw [show 2 ^ j = 2 ^ ((d + (j : Int)).toNat + (-d).toNat) from by rw [← e1]]
      rw [Nat.pow_add, Nat.mul_comm (2 ^ (d + (j : Int)).toNat), ← Nat.mul_assoc, Nat.mul_div_cancel _ (Nat.two_pow_pos _)]
    · rw [if_neg h1, Nat.mul_assoc, ← Nat.pow_add]
      congr 2; omega

theorem hd_scale (N : Nat) (d : Int) (j : Nat) : hd (N * 2 ^ j) (d + j) = hd N d := by
  unfold hd
  by_cases h : 0 < d
  · have h1 : 0 < d + (j : Int) := by omega
    have e1 : (d + (j : Int)).toNat - 1 = (d.toNat - 1) + j := by omega
    rw [e1, Nat.testBit_mul_two_pow]
    simp [h, h1]
  · by_cases h1 : 0 < d + (j : Int)
    · have : ¬ j ≤ (d + (j : Int)).toNat - 1 := by omega
      rw [Nat.testBit_mul_two_pow]
      simp [h, this]
    · simp [h, h1]

theorem rs_scale (N : Nat) (d : Int) (j : Nat) : rs (N * 2 ^ j) (d + j) = rs N d := by
  unfold rs
  by_cases h : 0 < d
  · have h1 : 0 < d + (j : Int) := by omega
    have e1 : (d + (j : Int)).toNat - 1 = (d.toNat - 1) + j := by omega
    rw [e1, Nat.pow_add, Nat.mul_mod_mul_right]
    have : (N % 2 ^ (d.toNat - 1) * 2 ^ j ≠ 0) ↔ (N % 2 ^ (d.toNat - 1) ≠ 0) := by
      have := Nat.two_pow_pos j
      constructor
      · intro hh h2; exact hh (by rw [h2, Nat.zero_mul])
      · intro hh h2
        rcases Nat.mul_eq_zero.1 h2 with h3 | h3
        · exact hh h3
        · omega
    simp only [h, h1, decide_true, Bool.true_and, this]
  · by_cases h1 : 0 < d + (j : Int)
    · have hle : (d + (j : Int)).toNat - 1 ≤ j := by omega
      have : N * 2 ^ j % 2 ^ ((d + (j : Int)).toNat - 1) = 0 := by
        rw [pow_split hle, Nat.mul_left_comm]
        exact Nat.mul_mod_right _ _
      simp [h, this]
    · simp [h, h1]

theorem lastOf_scale (f : Int) {N : Nat} (h : 0 < N) (e : Int) (j : Nat) : lastOf f (N * 2 ^ j) (e - j) = lastOf f N e := by
  unfold lastOf
  rw [bl_mul h]
  congr 1
  omega

theorem Rd_scale (f m : Int) (below : Bool) (N : Nat) (e : Int) (j : Nat) : Rd f m below (N * 2 ^ j) (e - j) false = Rd f m below N e false := by
  by_cases h : N = 0
  · subst h; simp [Rd]
  · have hp : 0 < N := by omega
    have hn : N * 2 ^ j ≠ 0 := by
      have := Nat.mul_pos hp (Nat.two_pow_pos j); omega
    unfold Rd
    simp only [h, hn, false_and, if_false]
    rw [lastOf_scale f hp]
    have e1 : lastOf f N e - (e - (j : Int)) = (lastOf f N e - e) + (j : Int) := by omega
    rw [e1, qd_scale, hd_scale, rs_scale]

/-- A little more is a bit below. -/
theorem Rd_stick (f m : Int) (below : Bool) {N : Nat} (e : Int) {j t : Nat} (hb : fP f + 2 ≤ bl N) (h0 : 0 < t) (ht : t < 2 ^ j) : Rd f m below (N * 2 ^ j + t) (e - j) false = Rd f m below N e true := by
  have hp : 0 < N := by
    refine Nat.pos_of_ne_zero fun h => ?_
    subst h
    rw [show bl 0 = 0 from rfl] at hb; omega
  have hn : N * 2 ^ j + t ≠ 0 := by omega
  have hlast : lastOf f (N * 2 ^ j + t) (e - j) = lastOf f N e := by
    unfold lastOf
    rw [bl_mul_add hp j t ht]
    congr 1
    omega
  unfold Rd
  simp only [hn, false_and, if_false, and_false, Bool.true_eq_false]
  rw [hlast]
  have hl : e + (bl N : Nat) - 1 - (fP f : Nat) ≤ lastOf f N e := Int.le_max_left _ _
  generalize lastOf f N e = last at *
  have d0 : 0 < last - e := by omega
  have d2 : 0 < last - (e - (j : Int)) := by omega
  have e1 : (last - (e - (j : Int))).toNat = (last - e).toNat + j := by omega
  have q1 : qd (N * 2 ^ j + t) (last - (e - j)) = qd N (last - e) := by
    unfold qd
    rw [if_pos d0, if_pos d2, e1, Nat.pow_add, Nat.mul_comm (2 ^ (last - e).toNat), ← Nat.div_div_eq_div_mul]
    congr 1
    rw [Nat.mul_comm, Nat.mul_add_div (Nat.two_pow_pos _), Nat.div_eq_of_lt ht, Nat.add_zero]
  have h1 : hd (N * 2 ^ j + t) (last - (e - j)) = hd N (last - e) := by
    unfold hd
    rw [e1]
    have : (last - e).toNat + j - 1 = ((last - e).toNat - 1) + j := by omega
    rw [this, Nat.mul_comm, Nat.testBit_two_pow_mul_add _ ht, if_neg (by omega), Nat.add_sub_cancel]
    simp only [d0, d2, decide_true]
  have r1 : rs (N * 2 ^ j + t) (last - (e - j)) = true := by
    unfold rs
    rw [e1]
    have : (last - e).toNat + j - 1 = j + ((last - e).toNat - 1) := by omega
    rw [this, Nat.pow_add, Nat.mod_mul, Nat.mul_comm N, Nat.mul_add_mod, Nat.mod_eq_of_lt ht]
    simp only [d2, decide_true, Bool.true_and, decide_eq_true_eq]
    omega
  rw [q1, h1, r1]
  rfl

end Go.Proofs.Ytejfnbjhcohkiaa.N

/- What package soft's inner functions come to: shapes, rounding. Conditions: none. -/
namespace Go.Proofs.Ytejfnbjhcohkiaa.N
set_option linter.unusedVariables false
set_option linter.unusedSimpArgs false
open Go Go.Ab

theorem shapeOf_k {R : Type} (k : Nat) (f : Int) (K : Int → Int → Int → Option R) : soft_shapeOf k f K = K ((fP f : Nat) : Int) ((fE f : Nat) : Int) (fL f) := by
  unfold soft_shapeOf soft_shapeOfT fP fE fL
  by_cases h : f = 1
  · subst h; rfl
  · have : (f == 1) = false := by rw [beq_eq_false_iff_ne]; exact h
    rw [this]; simp [h]

theorem shl_pow {x n : Nat} (hn : n ≤ 63) (h : x * 2 ^ n < 2 ^ 64) : shl .u64 (x : Int) (n : Int) = ((x * 2 ^ n : Nat) : Int) := by
  rw [shl_nat x n (by omega), Nat.mod_eq_of_lt h]
theorem shl_1 {n : Nat} (hn : n ≤ 63) : shl .u64 1 (n : Int) = ((2 ^ n : Nat) : Int) := by
  have := shl_pow (x := 1) hn (by rw [Nat.one_mul]; exact Nat.pow_lt_pow_right (by decide) (by omega))
  rw [Nat.one_mul] at this
  exact this
theorem Wu64_pred {n : Nat} (h : 0 < n) (h2 : n ≤ 2 ^ 64) : Wu64 ((n : Int) - 1) = ((n - 1 : Nat) : Int) := by
  rw [show (1 : Int) = ((1 : Nat) : Int) from rfl, Wu64_sub (by omega), Nat.mod_eq_of_lt (by omega)]

theorem full_k {R : Type} (k : Nat) (f p L : Int) (K : Int → Option R) : soft_shape_full k p ((fE f : Nat) : Int) L K = K ((2 ^ fE f - 1 : Nat) : Int) := by
  unfold soft_shape_full soft_shape_fullT
  have := fmt_le f
  have c : ¬ (((fE f : Nat) : Int) < 0) := by omega
  have hp : 2 ^ fE f < 2 ^ 64 := Nat.pow_lt_pow_right (by decide) (by omega)
  rw [shl_1 (by omega), Wu64_pred (Nat.two_pow_pos _) (by omega)]
  simp only [c, decide_false, cond_false]

theorem sign_k {R : Type} (k : Nat) (f L : Int) (b : Bool) (K : Int → Option R) : soft_shape_sign k ((fP f : Nat) : Int) ((fE f : Nat) : Int) L b K = K ((sg f b : Nat) : Int) := by
  unfold soft_shape_sign soft_shape_signT sg fB
  have := fmt_le f
  have e : Wi64 (((fP f : Nat) : Int) + ((fE f : Nat) : Int)) = ((fP f + fE f : Nat) : Int) := by rw [wrap_i64 (by omega) (by omega)]; omega
  have c : ¬ (((fP f + fE f : Nat) : Int) < 0) := by omega
  rw [e, shl_1 (by omega)]
  cases b
  · simp
  · simp only [cond_true, c, decide_false, cond_false, if_true]

theorem or_add2 {a b s : Nat} (ha : a % 2 ^ s = 0) (hb : b < 2 ^ s) (h : a + b < 2 ^ 64) : bOr .u64 (a : Int) (b : Int) = ((a + b : Nat) : Int) := by
  rw [bOr_nat (by omega) (by omega), or_add ha hb]

theorem sg_mod (f : Int) (b : Bool) : sg f b % 2 ^ (fP f + fE f) = 0 := by unfold sg fB; cases b <;> simp

theorem fI_lt2 (f : Int) : fI f < 2 ^ (fP f + fE f) := by
  have := fI_lt f; have := fP_pos f; unfold fB at *; omega

theorem inf_k {R : Type} (k : Nat) (f L : Int) (b : Bool) (K : Int → Option R) : soft_shape_inf k ((fP f : Nat) : Int) ((fE f : Nat) : Int) L b K = K ((sg f b + fI f : Nat) : Int) := by
  unfold soft_shape_inf soft_shape_infT
  have := fmt_le f
  have c : ¬ (((fP f : Nat) : Int) < 0) := by omega
  have h1 := fI_lt f; have h2 := fB_le f; have h3 := sg_le f b; have h4 := fP_pos f
  rw [sign_k, full_k, shl_pow (by omega) (by unfold fI at h1; omega)]
  simp only [c, decide_false, cond_false]
  have h5 := fI_lt2 f
  show K (bOr .u64 _ ((fI f : Nat) : Int)) = _
  have h6 : fI f < 2 ^ 63 := by omega
  have h7 : sg f b ≤ 2 ^ 63 := by omega
  rw [or_add2 (sg_mod f b) h5 (by omega)]

theorem most_k {R : Type} (k : Nat) (f L : Int) (b : Bool) (K : Int → Option R) : soft_shape_most k ((fP f : Nat) : Int) ((fE f : Nat) : Int) L b K = K ((sg f b + (fI f - 1) : Nat) : Int) := by
  unfold soft_shape_most soft_shape_mostT
  have h1 := fI_lt f; have h2 := fB_le f; have h3 := sg_le f b; have h4 := fI_pos f; have h5 := fP_pos f
  have h6 : fI f ≤ 2 ^ 63 := by omega
  have h7 : sg f b ≤ 2 ^ 63 := by omega
  rw [inf_k, Wu64_pred (by omega) (by omega)]
  congr 2 <;> omega

theorem nan_k {R : Type} (k : Nat) (f L : Int) (K : Int → Option R) : soft_shape_nan k ((fP f : Nat) : Int) ((fE f : Nat) : Int) L K = K ((fI f + 2 ^ (fP f - 1) : Nat) : Int) := by
  unfold soft_shape_nan soft_shape_nanT
  have := fmt_le f
  have c : ¬ (((fP f : Nat) : Int) < 0) := by omega
  have e : Wi64 (((fP f : Nat) : Int) - 1) = ((fP f - 1 : Nat) : Int) := by rw [wrap_i64 (by omega) (by omega)]; omega
  have c2 : ¬ (((fP f - 1 : Nat) : Int) < 0) := by omega
  have h1 := fI_lt f; have h2 := fB_le f; have h4 := fP_pos f
  have h5 : 2 ^ (fP f - 1) < 2 ^ fP f := Nat.pow_lt_pow_right (by decide) (by omega)
  rw [full_k, shl_pow (by omega) (by unfold fI at h1; omega), e, shl_1 (by omega)]
  simp only [c, c2, decide_false, cond_false]
  rw [or_add2 (s := fP f) (Nat.mul_mod_left _ _) h5 (by unfold fI at h1; omega)]
  rfl

/-! ### Rounding: the last step -/

/-- A float put together. -/
theorem pack_k {f : Int} {b : Bool} {x y : Nat} (hx : x < 2 ^ fE f - 1) (hy : y < 2 ^ fP f) :
    bOr .u64 (bOr .u64 ((sg f b : Nat) : Int) (shl .u64 (x : Int) ((fP f : Nat) : Int))) (y : Int) = ((sg f b + x * 2 ^ fP f + y : Nat) : Int) := by
  have := fmt_le f
  have h1 := fI_lt f; have h2 := fB_le f; have h3 := sg_le f b
  have h4 : (x + 1) * 2 ^ fP f ≤ fI f := Nat.mul_le_mul_right _ hx
  rw [Nat.add_mul, Nat.one_mul] at h4
  have h5 := fI_lt2 f
  rw [shl_pow (by omega) (by omega), or_add2 (sg_mod f b) (by omega) (by omega), or_add2 (s := fP f) ?_ hy (by omega)]
  rw [Nat.add_mul_mod_self_right]
  unfold sg fB
  cases b
  · simp
  · simp only [if_true]
    rw [pow_split (Nat.le_add_right (fP f) (fE f))]; exact Nat.mul_mod_right _ _

theorem c1_k {R : Type} (rnd : Nat → Bool → Bool → Bool → (Bool → Option R) → Option R) (k : Nat) (f m : Int) (b : Bool) {last : Int} {q : Nat} (hr : ∀ K : Bool → Option R, rnd k true true true K = K (more m b true true true))
    (hl : fL f ≤ last) (hl2 : last < 1000000) (hq : q ≤ 2 ^ (fP f + 1)) (hq2 : q < 2 ^ fP f → last = fL f) (K : Int → Option R) :
    soft_shape_round_c1T rnd soft_shape_full soft_shape_inf soft_shape_most soft_shape_sign k b last (q : Int) ((fP f : Nat) : Int) ((fE f : Nat) : Int) (fL f) K =
      K ((sg f b + clip f m b ((last - fL f).toNat * 2 ^ fP f + q) : Nat) : Int) := by
  have hf := fmt_le f
  have h1 := fI_lt f; have h2 := fB_le f; have h4 := fI_pos f
  have hpp := fP_pos f
  have hp2 : 2 ^ (fP f + 1) = 2 * 2 ^ fP f := by rw [Nat.pow_succ, Nat.mul_comm]
  have e1 : Wi64 (((fP f : Nat) : Int) + 1) = ((fP f + 1 : Nat) : Int) := by rw [wrap_i64 (by omega) (by omega)]; omega
  have c1 : ¬ (((fP f + 1 : Nat) : Int) < 0) := by omega
  have c2 : ¬ (((fP f : Nat) : Int) < 0) := by omega
  have sh : ∀ (x : Nat) (s : Nat), s ≤ 64 → shr .u64 (x : Int) (s : Int) = ((x / 2 ^ s : Nat) : Int) := fun x s hs => shr_nat x s hs
  have w1 : Wi64 (Wi64 (last - fL f) + 1) = (((last - fL f).toNat + 1 : Nat) : Int) := by
    rw [wrap_i64 (x := last - fL f) (by omega) (by omega), wrap_i64 (by omega) (by omega)]; omega
  have w2 : Wi64 (Wi64 (Wi64 (last + 1) - fL f) + 1) = (((last - fL f).toNat + 2 : Nat) : Int) := by
    rw [wrap_i64 (x := last + 1) (by omega) (by omega), wrap_i64 (x := last + 1 - fL f) (by omega) (by omega), wrap_i64 (by omega) (by omega)]; omega
  have hm : ∀ y : Nat, y < 2 ^ 64 → bAnd .u64 (y : Int) (Wu64 (shl .u64 1 ((fP f : Nat) : Int) - 1)) = ((y % 2 ^ fP f : Nat) : Int) := by
    intro y hy
    have : 2 ^ fP f ≤ 2 ^ 52 := Nat.pow_le_pow_right (by decide) (by omega)
    rw [shl_1 (by omega), Wu64_pred hpp (by omega), bAnd_nat hy (by omega), Nat.and_two_pow_sub_one_eq_mod]
  have hq64 : q < 2 ^ 64 := by
    have : 2 ^ (fP f + 1) ≤ 2 ^ 53 := Nat.pow_le_pow_right (by decide) (by omega)
    omega
  unfold soft_shape_round_c1T
  rw [e1]
  simp only [c1, c2, decide_false, cond_false, w1, w2]
  obtain ⟨D, hD⟩ : ∃ D, D = (last - fL f).toNat := ⟨_, rfl⟩
  rw [← hD]
  have hD6 : D < 2000000 := by omega
  have hexp : 255 ≤ 2 ^ fE f - 1 := by
    have : 2 ^ 8 ≤ 2 ^ fE f := Nat.pow_le_pow_right (by decide) (by omega)
    omega
  -- too great
  have top : ∀ x : Nat, 2 ^ fE f - 1 ≤ x → D * 2 ^ fP f + q = (x - 1) * 2 ^ fP f + 2 ^ fP f ∨ D * 2 ^ fP f + q ≥ x * 2 ^ fP f →
      (rnd k true true true fun yyyr4 => cond yyyr4 (soft_shape_inf k ((fP f : Nat) : Int) ((fE f : Nat) : Int) (fL f) b (fun yyyr5 => K yyyr5)) (soft_shape_most k ((fP f : Nat) : Int) ((fE f : Nat) : Int) (fL f) b (fun yyyr6 => K yyyr6))) =
      K ((sg f b + clip f m b (D * 2 ^ fP f + q) : Nat) : Int) := by
    intro x hx hg
    have hge : fI f ≤ D * 2 ^ fP f + q := by
      have hx1 : 1 ≤ x := by omega
      have hxx : x * 2 ^ fP f = (x - 1) * 2 ^ fP f + 2 ^ fP f := by
        conv => lhs; rw [show x = (x - 1) + 1 by omega]
        rw [Nat.add_mul, Nat.one_mul]
      have : fI f ≤ x * 2 ^ fP f := Nat.mul_le_mul_right _ hx
      omega
    rw [hr]
    unfold clip
    rw [if_neg (by omega)]
    cases more m b true true true
    · simp only [cond_false]
      rw [most_k]; simp
    · simp only [cond_true]
      rw [inf_k]; simp
  by_cases hc : q = 2 ^ (fP f + 1)
  · have d1 : q / 2 ^ (fP f + 1) = 1 := by rw [hc]; exact Nat.div_self (Nat.two_pow_pos _)
    have d2 : q / 2 ^ 1 = 2 ^ fP f := by rw [hc, hp2]; omega
    have d3 : q / 2 ^ 1 / 2 ^ fP f = 1 := by rw [d2]; exact Nat.div_self hpp
    have n1 : (((1 : Nat) : Int) != 0) = true := rfl
    have n2 : (((1 : Nat) : Int) == 0) = false := rfl
    rw [sh q _ (by omega), d1, n1, cond_true, show shr .u64 (q : Int) 1 = ((q / 2 ^ 1 : Nat) : Int) from shr_nat q 1 (by decide), sh _ _ (by omega), d3, n2, cond_false, full_k]
    rw [Wu64_lt (by omega)]
    by_cases hx : D + 2 < 2 ^ fE f - 1
    · have : (((D + 2 : Nat) : Int) < ((2 ^ fE f - 1 : Nat) : Int)) := by omega
      simp only [this, decide_true, cond_true, sign_k]
      have hlow : q / 2 ^ 1 < 2 ^ 64 := by omega
      rw [hm _ hlow, d2, Nat.mod_self, pack_k hx hpp]
      have hlt : D * 2 ^ fP f + q < fI f := by
        have : (D + 3) * 2 ^ fP f ≤ fI f := Nat.mul_le_mul_right _ (by omega)
        rw [Nat.add_mul] at this
        omega
      unfold clip
      rw [if_pos hlt, hc, hp2, Nat.add_mul]
      congr 2 <;> omega
    · have : ¬ (((D + 2 : Nat) : Int) < ((2 ^ fE f - 1 : Nat) : Int)) := by omega
      simp only [this, decide_false, cond_false]
      refine top (D + 2) (by omega) (.inr ?_)
      rw [hc, hp2, Nat.add_mul]; omega
  · have d1 : q / 2 ^ (fP f + 1) = 0 := Nat.div_eq_of_lt (by omega)
    have n1 : (((0 : Nat) : Int) != 0) = false := rfl
    rw [sh q _ (by omega), d1, n1, cond_false, sh q _ (by omega)]
    by_cases hlow : q < 2 ^ fP f
    · have hlast := hq2 hlow
      have hD0 : D = 0 := by rw [hD, hlast]; omega
      have n2 : (((q / 2 ^ fP f : Nat) : Int) == 0) = true := by rw [Nat.div_eq_of_lt hlow]; rfl
      rw [n2, cond_true, sign_k]
      have hB : 2 ^ fP f ≤ 2 ^ (fP f + fE f) := Nat.pow_le_pow_right (by decide) (by omega)
      have h3 := sg_le f b
      rw [or_add2 (sg_mod f b) (by omega) (by omega)]
      unfold clip
      rw [if_pos (by rw [hD0]; omega), hD0, Nat.zero_mul, Nat.zero_add]
    · have n2 : (((q / 2 ^ fP f : Nat) : Int) == 0) = false := by
        have : 0 < q / 2 ^ fP f := Nat.div_pos (by omega) hpp
        rw [beq_eq_false_iff_ne]; omega
      rw [n2, cond_false, full_k, Wu64_lt (by omega)]
      have hmod : q % 2 ^ fP f = q - 2 ^ fP f := by
        rw [Nat.mod_eq_sub_mod (by omega), Nat.mod_eq_of_lt (by omega)]
      by_cases hx : D + 1 < 2 ^ fE f - 1
      · have : (((D + 1 : Nat) : Int) < ((2 ^ fE f - 1 : Nat) : Int)) := by omega
        simp only [this, decide_true, cond_true, sign_k]
        rw [hm _ hq64, hmod, pack_k hx (by omega)]
        have hlt : D * 2 ^ fP f + q < fI f := by
          have : (D + 2) * 2 ^ fP f ≤ fI f := Nat.mul_le_mul_right _ (by omega)
          rw [Nat.add_mul] at this
          omega
        unfold clip
        rw [if_pos hlt, Nat.add_mul]
        congr 2 <;> omega
      · have : ¬ (((D + 1 : Nat) : Int) < ((2 ^ fE f - 1 : Nat) : Int)) := by omega
        simp only [this, decide_false, cond_false]
        refine top (D + 1) (by omega) (.inr ?_)
        rw [Nat.add_mul]; omega

end Go.Proofs.Ytejfnbjhcohkiaa.N

/- What package soft's rounding comes to. Conditions: none. -/
namespace Go.Proofs.Ytejfnbjhcohkiaa.N
set_option linter.unusedVariables false
set_option linter.unusedSimpArgs false
open Go Go.Ab

theorem lost_far {N d : Nat} (hN : N < 2 ^ 128) (h0 : 0 < N) (hd : 129 < d) : N % 2 ^ (d - 1) ≠ 0 := by
  rw [Nat.mod_eq_of_lt (Nat.lt_of_lt_of_le hN (Nat.pow_le_pow_right (by decide) (by omega)))]
  omega

theorem c0_k {R : Type} (k : Nat) {N d : Nat} (hN : N < 2 ^ 128) (h0 : 0 < N) (hd : d < 2 ^ 62) (x1 rest half : Bool) (last p eb L : Int) (K : Bool → Int → Int → Option R) :
    soft_shape_round_c0 k x1 rest last half (d : Int) (decide (N % 2 ^ (d - 1) ≠ 0)) p eb L (hi N) (lo N) K = K (rest || decide (N % 2 ^ (d - 1) ≠ 0)) (hi (N / 2 ^ d)) (lo (N / 2 ^ d)) := by
  unfold soft_shape_round_c0 soft_shape_round_c0T
  have hs : ∀ J : Int → Int → Bool → Option R, wide_Shr k (hi N) (lo N) (d : Int) J = J (hi (N / 2 ^ d)) (lo (N / 2 ^ d)) (decide (N % 2 ^ d ≠ 0)) := fun J => by
    have := Shr_hl k hN (wf_nat (i := d) (by omega)) J
    rw [Int.toNat_natCast] at this
    exact this
  simp only [hs]
  by_cases c : (d : Int) > 129
  · have := lost_far hN h0 (d := d) (by omega)
    simp only [c, decide_true, cond_true, this, ne_eq, not_false_eq_true, Bool.or_true]
    cases rest <;> rfl
  · simp only [c, decide_false, cond_false]
    cases rest <;> rfl

theorem rounderOf_k {R : Type} (k : Nat) (m : Int) (b : Bool) (K0 K1 K2 : Option R) : soft_rounderOf k m b K0 K1 K2 =
    if (m = 1 ∧ b = false) ∨ (m = 2 ∧ b = true) then K0 else if m = 1 ∨ m = 2 ∨ m = 3 then K1 else K2 := by
  unfold soft_rounderOf soft_rounderOfT
  by_cases h1 : m = 1
  · subst h1; cases b <;> rfl
  · have e1 : (m == 1) = false := by rw [beq_eq_false_iff_ne]; exact h1
    by_cases h2 : m = 2
    · subst h2; cases b <;> rfl
    · have e2 : (m == 2) = false := by rw [beq_eq_false_iff_ne]; exact h2
      by_cases h3 : m = 3
      · subst h3; cases b <;> rfl
      · have e3 : (m == 3) = false := by rw [beq_eq_false_iff_ne]; exact h3
        simp [e1, e2, e3, h1, h2, h3]

/-- What is behind the rounder, for one of them. -/
noncomputable def brT {R : Type} (c0 : soft_shape_round_c0Y R) (c2 : soft_shape_round_c2Y R) (k : Nat) (x2 : Bool) (x3 : Int) (x4 : Bool) (x5 : Int) (x6 : Int) (x7 : Int) (x8 : Int) (x9 : Int) (K0 : Int → Option R) : Option R :=
    wide_Len k x8 x9 (fun yr1 =>
      cond (decide ((Wi64 ((if x7 > (Wi64 ((Wi64 ((Wi64 (x3 + yr1)) - 1)) - x5)) then x7 else (Wi64 ((Wi64 ((Wi64 (x3 + yr1)) - 1)) - x5))) - x3)) > 0)) (
        wide_Shr k x8 x9 (Wi64 ((Wi64 ((if x7 > (Wi64 ((Wi64 ((Wi64 (x3 + yr1)) - 1)) - x5)) then x7 else (Wi64 ((Wi64 ((Wi64 (x3 + yr1)) - 1)) - x5))) - x3)) - 1)) (fun yr2 yr3 yr4 =>
          cond ((bAnd .u64 yr3 1) == 1) (
            c0 k x2 x4 (if x7 > (Wi64 ((Wi64 ((Wi64 (x3 + yr1)) - 1)) - x5)) then x7 else (Wi64 ((Wi64 ((Wi64 (x3 + yr1)) - 1)) - x5))) (decide ((Wi64 ((if x7 > (Wi64 ((Wi64 ((Wi64 (x3 + yr1)) - 1)) - x5)) then x7 else (Wi64 ((Wi64 ((Wi64 (x3 + yr1)) - 1)) - x5))) - x3)) ≤ 129)) (Wi64 ((if x7 > (Wi64 ((Wi64 ((Wi64 (x3 + yr1)) - 1)) - x5)) then x7 else (Wi64 ((Wi64 ((Wi64 (x3 + yr1)) - 1)) - x5))) - x3)) yr4 x5 x6 x7 x8 x9 (fun yr5 yr6 yr7 =>
              c2 k x2 yr5 (if x7 > (Wi64 ((Wi64 ((Wi64 (x3 + yr1)) - 1)) - x5)) then x7 else (Wi64 ((Wi64 ((Wi64 (x3 + yr1)) - 1)) - x5))) (decide ((Wi64 ((if x7 > (Wi64 ((Wi64 ((Wi64 (x3 + yr1)) - 1)) - x5)) then x7 else (Wi64 ((Wi64 ((Wi64 (x3 + yr1)) - 1)) - x5))) - x3)) ≤ 129)) x5 x6 x7 yr6 yr7 (fun yr8 =>
                K0 yr8))) (
            c0 k x2 x4 (if x7 > (Wi64 ((Wi64 ((Wi64 (x3 + yr1)) - 1)) - x5)) then x7 else (Wi64 ((Wi64 ((Wi64 (x3 + yr1)) - 1)) - x5))) false (Wi64 ((if x7 > (Wi64 ((Wi64 ((Wi64 (x3 + yr1)) - 1)) - x5)) then x7 else (Wi64 ((Wi64 ((Wi64 (x3 + yr1)) - 1)) - x5))) - x3)) yr4 x5 x6 x7 x8 x9 (fun yr9 yr10 yr11 =>
              c2 k x2 yr9 (if x7 > (Wi64 ((Wi64 ((Wi64 (x3 + yr1)) - 1)) - x5)) then x7 else (Wi64 ((Wi64 ((Wi64 (x3 + yr1)) - 1)) - x5))) false x5 x6 x7 yr10 yr11 (fun yr12 =>
                K0 yr12))))) (
        wide_Shl k x8 x9 (Wi64 (0 - (Wi64 ((if x7 > (Wi64 ((Wi64 ((Wi64 (x3 + yr1)) - 1)) - x5)) then x7 else (Wi64 ((Wi64 ((Wi64 (x3 + yr1)) - 1)) - x5))) - x3)))) (fun yr13 yr14 =>
          c2 k x2 x4 (if x7 > (Wi64 ((Wi64 ((Wi64 (x3 + yr1)) - 1)) - x5)) then x7 else (Wi64 ((Wi64 ((Wi64 (x3 + yr1)) - 1)) - x5))) false x5 x6 x7 yr13 yr14 (fun yr15 =>
            K0 yr15))))

theorem c9_br {R : Type} (k : Nat) (x1 : Int) (x2 : Bool) (x3 : Int) (x4 : Bool) (x5 : Int) (x6 : Int) (x7 : Int) (x8 : Int) (x9 : Int) (K0 : Int → Option R) :
    soft_shape_round_c9 k x1 x2 x3 x4 x5 x6 x7 x8 x9 K0 = soft_rounderOf k x1 x2 (brT soft_shape_round_c0 soft_shape_round_c2 k x2 x3 x4 x5 x6 x7 x8 x9 K0)
      (brT soft_shape_round_c0 soft_shape_round_c5 k x2 x3 x4 x5 x6 x7 x8 x9 K0) (brT soft_shape_round_c0 soft_shape_round_c8 k x2 x3 x4 x5 x6 x7 x8 x9 K0) := rfl

/-- What the digits are rounded to. -/
def Rounds {R : Type} (c2 : soft_shape_round_c2Y R) (k : Nat) (f m : Int) (b : Bool) : Prop :=
  ∀ (last : Int) (q : Nat) (half rest : Bool) (K : Int → Option R), fL f ≤ last → last < 1000000 → q < 2 ^ (fP f + 1) → (q < 2 ^ fP f → last = fL f) →
    c2 k b rest last half ((fP f : Nat) : Int) ((fE f : Nat) : Int) (fL f) (hi q) (lo q) K = K ((enc f m b last q half rest : Nat) : Int)

theorem odd_eq {q : Nat} (hq : q < 2 ^ 64) : (bAnd .u64 (q : Int) 1 == 1) = (q % 2 == 1) := by
  rw [show (1 : Int) = ((1 : Nat) : Int) from rfl, bAnd_nat hq (by decide), Nat.and_one_is_mod]
  rw [Bool.eq_iff_iff]
  simp only [beq_iff_eq]
  omega

theorem rounds_of {R : Type} (rnd : Nat → Bool → Bool → Bool → (Bool → Option R) → Option R) (k : Nat) (f m : Int) (b : Bool) (hr : ∀ o h r (K : Bool → Option R), rnd k o h r K = K (more m b o h r)) :
    Rounds (fun k x1 x2 x3 x4 x5 x6 x7 x8 x9 K0 =>
      rnd k ((bAnd .u64 x9 1) == 1) x4 x2 (fun yyr1 =>
    cond yyr1 (
      soft_shape_round_c1T rnd soft_shape_full soft_shape_inf soft_shape_most soft_shape_sign k x1 x3 (Wu64 (x9 + 1)) x5 x6 x7 (fun yyr2 =>
        K0 yyr2)) (
      soft_shape_round_c1T rnd soft_shape_full soft_shape_inf soft_shape_most soft_shape_sign k x1 x3 x9 x5 x6 x7 (fun yyr3 =>
        K0 yyr3)))) k f m b := by
  intro last q half rest K hl hl2 hq hq2
  have hf := fmt_le f
  have hq64 : q < 2 ^ 53 := Nat.lt_of_lt_of_le hq (Nat.pow_le_pow_right (by decide) (by omega))
  simp only [lo_small (show q < 2 ^ 64 by omega), odd_eq (show q < 2 ^ 64 by omega), hr]
  unfold enc gOf
  cases hm : more m b (q % 2 == 1) half rest
  · simp only [cond_false, Bool.toNat_false, Nat.add_zero]
    exact c1_k rnd k f m b (fun K => hr _ _ _ K) hl hl2 (by omega) hq2 K
  · simp only [cond_true, Bool.toNat_true]
    rw [show (q : Int) + 1 = ((q + 1 : Nat) : Int) from rfl, Wu64_lt (by omega)]
    rw [Nat.add_assoc]
    exact c1_k rnd k f m b (fun K => hr _ _ _ K) hl hl2 (by omega) (fun h => hq2 (by omega)) K

theorem c2_rounds {R : Type} (k : Nat) (f m : Int) (b : Bool) (h : (m = 1 ∧ b = false) ∨ (m = 2 ∧ b = true)) : Rounds (R := R) soft_shape_round_c2 k f m b := by
  refine rounds_of soft_rounderOf_1 k f m b fun o h' r K => ?_
  unfold soft_rounderOf_1 soft_rounderOf_1T more
  rcases h with ⟨rfl, rfl⟩ | ⟨rfl, rfl⟩ <;> cases h' <;> cases r <;> rfl
theorem c5_rounds {R : Type} (k : Nat) (f m : Int) (b : Bool) (h : ¬ ((m = 1 ∧ b = false) ∨ (m = 2 ∧ b = true))) (h2 : m = 1 ∨ m = 2 ∨ m = 3) : Rounds (R := R) soft_shape_round_c5 k f m b := by
  refine rounds_of soft_rounderOf_2 k f m b fun o h' r K => ?_
  unfold soft_rounderOf_2 soft_rounderOf_2T more
  rcases h2 with rfl | rfl | rfl
  · cases b
    · exact absurd (.inl ⟨rfl, rfl⟩) h
    · rfl
  · cases b
    · rfl
    · exact absurd (.inr ⟨rfl, rfl⟩) h
  · rfl
theorem c8_rounds {R : Type} (k : Nat) (f m : Int) (b : Bool) (h2 : ¬ (m = 1 ∨ m = 2 ∨ m = 3)) : Rounds (R := R) soft_shape_round_c8 k f m b := by
  refine rounds_of soft_rounderOf_3 k f m b fun o h' r K => ?_
  unfold soft_rounderOf_3 soft_rounderOf_3T more
  have a1 : ¬ m = 1 := fun h => h2 (.inl h)
  have a2 : ¬ m = 2 := fun h => h2 (.inr (.inl h))
  have a3 : ¬ m = 3 := fun h => h2 (.inr (.inr h))
  simp only [a1, a2, a3, if_false]
  cases h' <;> cases r <;> cases o <;> rfl

theorem br_k {R : Type} {c2 : soft_shape_round_c2Y R} {k : Nat} {f m : Int} {b : Bool} (hc : Rounds c2 k f m b) {N : Nat} {e : Int} (hN : N < 2 ^ 128) (h0 : 0 < N) (he : -100000 ≤ e) (he2 : e ≤ 100000) (rest : Bool) (K : Int → Option R) :
    brT soft_shape_round_c0 c2 k b e rest ((fP f : Nat) : Int) ((fE f : Nat) : Int) (fL f) (hi N) (lo N) K = K ((Rd f m b N e rest : Nat) : Int) := by
  have hf := fmt_le f
  have hb1 : bl N ≤ 128 := bl_le_iff.2 hN
  have hb0 := bl_pos h0
  unfold brT
  rw [Len_hl k hN]
  have w : Wi64 (Wi64 (Wi64 (e + ((bl N : Nat) : Int)) - 1) - ((fP f : Nat) : Int)) = e + ((bl N : Nat) : Int) - 1 - ((fP f : Nat) : Int) := by
    rw [wrap_i64 (x := e + ((bl N : Nat) : Int)) (by omega) (by omega), wrap_i64 (x := e + ((bl N : Nat) : Int) - 1) (by omega) (by omega), wrap_i64 (by omega) (by omega)]
  have wl : (if fL f > e + ((bl N : Nat) : Int) - 1 - ((fP f : Nat) : Int) then fL f else e + ((bl N : Nat) : Int) - 1 - ((fP f : Nat) : Int)) = lastOf f N e := by
    unfold lastOf
    split <;> omega
  simp only [w, wl]
  have hl1 : fL f ≤ lastOf f N e := Int.le_max_right _ _
  have hl2 : lastOf f N e ≤ 200000 := by unfold lastOf; omega
  have wd : Wi64 (lastOf f N e - e) = lastOf f N e - e := wrap_i64 (by omega) (by omega)
  simp only [wd]
  have hq := qd_lt (f := f) (N := N) (e := e) h0
  have hq2 : qd N (lastOf f N e - e) < 2 ^ fP f → lastOf f N e = fL f := by
    intro h
    by_cases h' : lastOf f N e = fL f
    · exact h'
    · have := qd_ge h0 h'; omega
  have hRd : Rd f m b N e rest = enc f m b (lastOf f N e) (qd N (lastOf f N e - e)) (hd N (lastOf f N e - e)) (rest || rs N (lastOf f N e - e)) := by
    unfold Rd; rw [if_neg (by omega)]
  rw [hRd]
  generalize lastOf f N e = last at *
  clear w wl
  by_cases c : last - e > 0
  · simp only [c, decide_true, cond_true]
    obtain ⟨d, hde⟩ : ∃ d : Nat, last - e = (d : Int) := ⟨(last - e).toNat, by omega⟩
    have hdb : d ≤ 400000 := by omega
    rw [hde] at hq hq2 c ⊢
    have wd1 : Wi64 ((d : Int) - 1) = ((d - 1 : Nat) : Int) := by rw [wrap_i64 (by omega) (by omega)]; omega
    rw [wd1, Shr_hl k hN (wf_nat (by omega)), Int.toNat_natCast]
    have eq : qd N (d : Int) = N / 2 ^ d := by unfold qd; rw [if_pos (by omega), Int.toNat_natCast]
    have er : rs N (d : Int) = decide (N % 2 ^ (d - 1) ≠ 0) := by unfold rs; rw [Int.toNat_natCast]; simp only [show (0 < (d : Int)) from c, decide_true, Bool.true_and]
    have eh : hd N (d : Int) = N.testBit (d - 1) := by unfold hd; rw [Int.toNat_natCast]; simp only [show (0 < (d : Int)) from c, decide_true, Bool.true_and]
    have hbit : (bAnd .u64 (lo (N / 2 ^ (d - 1))) 1 == 1) = N.testBit (d - 1) := by
      unfold lo
      rw [odd_eq (lo_lt _), Nat.testBit_eq_decide_div_mod_eq, Bool.eq_iff_iff]
      simp only [beq_iff_eq, decide_eq_true_eq]
      omega
    have hhalf : N.testBit (d - 1) = true → ((d : Int) ≤ 129) := by
      intro h
      have := Nat.ge_two_pow_of_testBit h
      have : 2 ^ (d - 1) < 2 ^ 128 := by omega
      have := (Nat.pow_lt_pow_iff_right (by decide : 1 < 2)).1 this
      omega
    rw [hbit]
    rw [eq] at hq hq2 ⊢
    rw [er, eh]
    have hc0 : ∀ (h' : Bool) (J : Bool → Int → Int → Option R), soft_shape_round_c0 k b rest last h' (d : Int) (decide (N % 2 ^ (d - 1) ≠ 0)) ((fP f : Nat) : Int) ((fE f : Nat) : Int) (fL f) (hi N) (lo N) J = J (rest || decide (N % 2 ^ (d - 1) ≠ 0)) (hi (N / 2 ^ d)) (lo (N / 2 ^ d)) :=
      fun h' J => c0_k k hN h0 (by omega) b rest h' last _ _ _ J
    cases htb : N.testBit (d - 1) with
    | true =>
      simp only [cond_true, hhalf htb, decide_true]
      rw [hc0]
      exact hc last _ true _ K hl1 (by omega) hq hq2
    | false =>
      simp only [cond_false]
      rw [hc0]
      exact hc last _ false _ K hl1 (by omega) hq hq2
  · simp only [c, decide_false, cond_false]
    obtain ⟨d, hde⟩ : ∃ d : Nat, last - e = -(d : Int) := ⟨(e - last).toNat, by omega⟩
    have hdb : d ≤ 400000 := by omega
    rw [hde] at hq hq2 ⊢
    have c' : ¬ (0 < -(d : Int)) := by omega
    have eq : qd N (-(d : Int)) = N * 2 ^ d := by unfold qd; rw [if_neg c']; simp
    have er : rs N (-(d : Int)) = false := by unfold rs; simp only [c', decide_false, Bool.false_and]
    have eh : hd N (-(d : Int)) = false := by unfold hd; simp only [c', decide_false, Bool.false_and]
    have wd1 : Wi64 (0 - -(d : Int)) = (d : Int) := by rw [wrap_i64 (by omega) (by omega)]; omega
    rw [eq] at hq hq2 ⊢
    have hlt : N * 2 ^ d < 2 ^ 128 := Nat.lt_of_lt_of_le hq (Nat.pow_le_pow_right (by decide) (by omega))
    rw [wd1, Shl_hl k hN (wf_nat (by omega)), Int.toNat_natCast, Nat.mod_eq_of_lt hlt, er, eh, Bool.or_false]
    exact hc last _ false rest K hl1 (by omega) hq hq2

/-- Rounding: a number that is not 0, or 0 and no more. -/
theorem round_k {R : Type} (k : Nat) (f m : Int) (b : Bool) {N : Nat} {e : Int} (hN : N < 2 ^ 128) (he : -100000 ≤ e) (he2 : e ≤ 100000) {rest : Bool} (h0 : 0 < N ∨ rest = false) (K : Int → Option R) :
    soft_shape_round k ((fP f : Nat) : Int) ((fE f : Nat) : Int) (fL f) m b (hi N) (lo N) e rest K = K ((Rd f m b N e rest : Nat) : Int) := by
  have hz : ((hi N == 0) && (lo N == 0)) = (N == 0) := by
    have := hl_beq (A := N) (B := 0)
    rw [show hi 0 = 0 from by decide, show lo 0 = 0 from by decide] at this
    exact this
  unfold soft_shape_round soft_shape_roundT
  rw [hz]
  by_cases hN0 : N = 0
  · subst hN0
    have hr : rest = false := by rcases h0 with h0 | h0; omega; exact h0
    subst hr
    simp only [beq_self_eq_true, cond_true, Bool.not_false, sign_k]
    rfl
  · have : (N == 0) = false := by rw [beq_eq_false_iff_ne]; exact hN0
    rw [this, cond_false, c9_br, rounderOf_k]
    have hp : 0 < N := by omega
    split
    · rename_i h; exact br_k (c2_rounds k f m b h) hN hp he he2 rest K
    · rename_i h
      split
      · rename_i h2; exact br_k (c5_rounds k f m b h h2) hN hp he he2 rest K
      · rename_i h2; exact br_k (c8_rounds k f m b h2) hN hp he he2 rest K

end Go.Proofs.Ytejfnbjhcohkiaa.N

/- Floats taken apart: kind, sign, number and power. Conditions: none. -/
namespace Go.Proofs.Ytejfnbjhcohkiaa.N
set_option linter.unusedVariables false
set_option linter.unusedSimpArgs false
open Go Go.Ab

/-- Bits that are none of the format. -/
def bad (f : Int) (a : Nat) : Bool := decide (f = 1 ∧ 2 ^ 32 ≤ a)
/-- A float without its sign. -/
def gg (f : Int) (a : Nat) : Nat := a % fB f
def kd (f : Int) (a : Nat) : Int := if bad f a then 0 else if fI f < gg f a then 0 else if gg f a = fI f then 1 else if gg f a = 0 then 2 else 3
def bw (f : Int) (a : Nat) : Bool := if bad f a then false else decide (fB f ≤ a)
def nG (f : Int) (g : Nat) : Nat := if g < 2 ^ fP f then g else 2 ^ fP f + g % 2 ^ fP f
def eG (f : Int) (g : Nat) : Int := if g < 2 ^ fP f then fL f else ((g / 2 ^ fP f : Nat) : Int) - 1 + fL f
def nn (f : Int) (a : Nat) : Nat := if kd f a = 3 then nG f (gg f a) else 0
def ee (f : Int) (a : Nat) : Int := if kd f a = 3 then eG f (gg f a) else 0

theorem lt_2B {f : Int} {a : Nat} (ha : a < 2 ^ 64) (hb : bad f a = false) : a < 2 * fB f := by
  unfold fB
  rcases fmt f with ⟨h0, h1, h2, h3⟩ | ⟨h0, h1, h2, h3⟩
  · rw [h1, h2]
    simp only [bad, h0, true_and, decide_eq_false_iff_not] at hb
    omega
  · rw [h1, h2]; omega

theorem kd_vals (f : Int) (a : Nat) : kd f a = 0 ∨ kd f a = 1 ∨ kd f a = 2 ∨ kd f a = 3 := by
  unfold kd
  split
  · exact .inl rfl
  · split
    · exact .inl rfl
    · split
      · exact .inr (.inl rfl)
      · split
        · exact .inr (.inr (.inl rfl))
        · exact .inr (.inr (.inr rfl))

theorem gg_lt (f : Int) (a : Nat) : gg f a < fB f := Nat.mod_lt _ (Nat.two_pow_pos _)

theorem kd3 {f : Int} {a : Nat} (h : kd f a = 3) : bad f a = false ∧ 0 < gg f a ∧ gg f a < fI f := by
  unfold kd at h
  split at h
  · cases h
  · rename_i h1
    split at h
    · cases h
    · split at h
      · cases h
      · split at h
        · cases h
        · exact ⟨by simpa using h1, by omega, by omega⟩

theorem nG_bounds (f : Int) {g : Nat} (h0 : 0 < g) (hI : g < fI f) : 0 < nG f g ∧ nG f g < 2 ^ (fP f + 1) ∧ fL f ≤ eG f g ∧ eG f g ≤ 2046 + fL f := by
  have hp := fP_pos f
  have hf := fmt_le f
  have hp2 : 2 ^ (fP f + 1) = 2 * 2 ^ fP f := by rw [Nat.pow_succ, Nat.mul_comm]
  unfold nG eG
  have hm := Nat.mod_lt g hp
  split
  · exact ⟨h0, by omega, Int.le_refl _, by omega⟩
  · rename_i h
    have h1 : 0 < g / 2 ^ fP f := Nat.div_pos (by omega) hp
    have h2 : g / 2 ^ fP f < 2 ^ fE f - 1 := by
      rw [Nat.div_lt_iff_lt_mul hp]; exact hI
    have h3 : 2 ^ fE f ≤ 2 ^ 11 := Nat.pow_le_pow_right (by decide) (by omega)
    exact ⟨by omega, by omega, by omega, by omega⟩

theorem nn_bounds {f : Int} {a : Nat} (h : kd f a = 3) : 0 < nn f a ∧ nn f a < 2 ^ (fP f + 1) ∧ fL f ≤ ee f a ∧ ee f a ≤ 2046 + fL f := by
  obtain ⟨_, h1, h2⟩ := kd3 h
  unfold nn ee
  rw [if_pos h, if_pos h]
  exact nG_bounds f h1 h2

theorem nn_zero {f : Int} {a : Nat} (h : kd f a ≠ 3) : nn f a = 0 ∧ ee f a = 0 := by unfold nn ee; simp [h]
theorem nn_lt64 (f : Int) (a : Nat) : nn f a < 2 ^ 53 := by
  have hf := fmt_le f
  have : 2 ^ (fP f + 1) ≤ 2 ^ 53 := Nat.pow_le_pow_right (by decide) (by omega)
  by_cases h : kd f a = 3
  · have := nn_bounds h; omega
  · rw [(nn_zero h).1]; decide
theorem ee_bounds (f : Int) (a : Nat) : -1074 ≤ ee f a ∧ ee f a ≤ 1897 := by
  have hf := fmt_le f
  by_cases h : kd f a = 3
  · have := nn_bounds h; omega
  · rw [(nn_zero h).2]; decide

theorem gg_parts (f : Int) (a : Nat) : gg f a = (a / 2 ^ fP f % 2 ^ fE f) * 2 ^ fP f + a % 2 ^ fP f := by
  unfold gg fB
  rw [Nat.pow_add, Nat.mod_mul, Nat.mul_comm]; omega

theorem fI_eq (f : Int) : fI f = (2 ^ fE f - 1) * 2 ^ fP f := rfl

/-- The same by parts: exponent and fraction. -/
theorem parts_gg (f : Int) (a : Nat) : (a / 2 ^ fP f % 2 ^ fE f) = gg f a / 2 ^ fP f ∧ a % 2 ^ fP f = gg f a % 2 ^ fP f := by
  have hp := fP_pos f
  have hm := Nat.mod_lt a hp
  have h := gg_parts f a
  constructor
  · rw [h, Nat.mul_comm, Nat.mul_add_div hp, Nat.div_eq_of_lt hm, Nat.add_zero]
  · rw [h, Nat.mul_comm, Nat.mul_add_mod, Nat.mod_mod]

theorem cls (f : Int) (a : Nat) : (a / 2 ^ fP f % 2 ^ fE f = 2 ^ fE f - 1 ↔ fI f ≤ gg f a) ∧ (a / 2 ^ fP f % 2 ^ fE f = 2 ^ fE f - 1 → (a % 2 ^ fP f = 0 ↔ gg f a = fI f)) ∧
    (a / 2 ^ fP f % 2 ^ fE f = 0 ↔ gg f a < 2 ^ fP f) ∧ (a / 2 ^ fP f % 2 ^ fE f = 0 → a % 2 ^ fP f = gg f a) ∧
    (¬ gg f a < 2 ^ fP f → a % 2 ^ fP f + 2 ^ fP f = nG f (gg f a)) := by
  have hp := fP_pos f
  have hm := Nat.mod_lt a hp
  have h := gg_parts f a
  have hx : a / 2 ^ fP f % 2 ^ fE f < 2 ^ fE f := Nat.mod_lt _ (Nat.two_pow_pos _)
  obtain ⟨p1, p2⟩ := parts_gg f a
  have hI := fI_eq f
  generalize hX : a / 2 ^ fP f % 2 ^ fE f = X at *
  generalize hM : a % 2 ^ fP f = M at *
  refine ⟨?_, ?_, ?_, ?_, ?_⟩
  · constructor
    · intro h2; rw [h, h2, hI]; exact Nat.le_add_right _ _
    · intro h2
      refine Nat.le_antisymm (by omega) (Nat.le_of_not_lt fun h3 => ?_)
      have : (X + 1) * 2 ^ fP f ≤ (2 ^ fE f - 1) * 2 ^ fP f := Nat.mul_le_mul_right _ h3
      rw [Nat.add_mul, Nat.one_mul] at this
      omega
  · intro h2; rw [h, h2, hI]; omega
  · constructor
    · intro h2; rw [h, h2]; omega
    · intro h2
      refine Nat.eq_zero_of_not_pos fun h3 => ?_
      have : 1 * 2 ^ fP f ≤ X * 2 ^ fP f := Nat.mul_le_mul_right _ h3
      omega
  · intro h2; rw [h, h2]; omega
  · intro h2
    unfold nG
    rw [if_neg h2, p2]; omega

end Go.Proofs.Ytejfnbjhcohkiaa.N

/- What package soft's functions of one float come to. Conditions: none. -/
namespace Go.Proofs.Ytejfnbjhcohkiaa.N
set_option linter.unusedVariables false
set_option linter.unusedSimpArgs false
open Go Go.Ab

/-! ### Single bits -/

theorem and_pow2 (a n : Nat) : a &&& 2 ^ n = (a.testBit n).toNat * 2 ^ n := by
  apply Nat.eq_of_testBit_eq
  intro i
  rw [Nat.testBit_and, Nat.testBit_two_pow]
  by_cases h : n = i
  · subst h
    cases a.testBit n <;> simp [Nat.testBit_two_pow_self]
  · cases hb : a.testBit n
    · simp [h]
    · rw [Bool.toNat_true, Nat.one_mul, Nat.testBit_two_pow_of_ne h]; simp [h]

theorem top_bit {a n : Nat} (h : a < 2 ^ (n + 1)) : a.testBit n = decide (2 ^ n ≤ a) := by
  rw [Nat.testBit_eq_decide_div_mod_eq]
  have hp := Nat.two_pow_pos n
  rw [Nat.pow_succ] at h
  by_cases c : 2 ^ n ≤ a
  · have : a / 2 ^ n = 1 := Nat.div_eq_of_lt_le (by omega) (by omega)
    simp [this, c]
  · have : a / 2 ^ n = 0 := Nat.div_eq_of_lt (by omega)
    simp [this, c]

theorem nat_bne00 (x : Nat) : (((x : Nat) : Int) != 0) = (x != 0) := by
  rw [Bool.eq_iff_iff]; simp only [bne_iff_ne]; omega

theorem sign_test {f : Int} {a : Nat} (ha : a < 2 * fB f) : (bAnd .u64 (a : Int) ((fB f : Nat) : Int) != 0) = decide (fB f ≤ a) := by
  have h2 := fB_le f
  rw [bAnd_nat (by omega) (by omega)]
  unfold fB at *
  rw [and_pow2, top_bit (by rw [Nat.pow_succ]; omega)]
  have hp := Nat.two_pow_pos (fP f + fE f)
  by_cases c : 2 ^ (fP f + fE f) ≤ a
  · simp only [c, decide_true, Bool.toNat_true, Nat.one_mul, nat_bne00]; rw [bne_iff_ne]; omega
  · simp only [c, decide_false, Bool.toNat_false, Nat.zero_mul]; rfl

theorem xor_top {g n : Nat} (h : g < 2 ^ n) : g ^^^ 2 ^ n = g + 2 ^ n ∧ (g + 2 ^ n) ^^^ 2 ^ n = g := by
  have e : g ^^^ 2 ^ n = g + 2 ^ n := by
    rw [← Nat.or_two_pow_eq_add_of_lt h]
    apply Nat.eq_of_testBit_eq
    intro i
    rw [Nat.testBit_xor, Nat.testBit_or, Nat.testBit_two_pow]
    by_cases c : n = i
    · subst c
      rw [Nat.testBit_lt_two_pow h]; simp
    · simp [c]
  refine ⟨e, ?_⟩
  rw [← e, Nat.xor_assoc, Nat.xor_self, Nat.xor_zero]

theorem bXor_nat {n m : Nat} (hn : n < 2 ^ 64) (hm : m < 2 ^ 64) : bXor .u64 (n : Int) (m : Int) = ((n ^^^ m : Nat) : Int) := by
  show orInt .u64 _ _ _ = _
  refine (orInt_nat (· ^^^ ·) n m).trans ?_
  simp [BitVec.toNat_xor, Nat.mod_eq_of_lt hn, Nat.mod_eq_of_lt hm]

theorem bAndNot_nat {n m : Nat} (hn : n < 2 ^ 64) (hm : m < 2 ^ 64) : bAndNot .u64 (n : Int) (m : Int) = ((n &&& (2 ^ 64 - (m + 1)) : Nat) : Int) := by
  show orInt .u64 _ _ _ = _
  refine (orInt_nat (fun a b => a &&& ~~~b) n m).trans ?_
  simp only [BitVec.toNat_and, BitVec.toNat_not, BitVec.toNat_ofNat, Nat.mod_eq_of_lt hn, Nat.mod_eq_of_lt hm]
  have e : 2 ^ 64 - 1 - m = 2 ^ 64 - (m + 1) := by omega
  rw [e]

/-- The sign turned, and taken away. -/
theorem sign_turn {f : Int} {a : Nat} (ha : a < 2 * fB f) : bXor .u64 (a : Int) ((fB f : Nat) : Int) = ((if fB f ≤ a then a - fB f else a + fB f : Nat) : Int) := by
  have h2 := fB_le f
  rw [bXor_nat (by omega) (by omega)]
  unfold fB at *
  congr 1
  split
  · rename_i h
    have := (xor_top (g := a - 2 ^ (fP f + fE f)) (n := fP f + fE f) (by omega)).2
    rw [Nat.sub_add_cancel h] at this
    exact this
  · exact (xor_top (by omega)).1

theorem sign_off {f : Int} {a : Nat} (ha : a < 2 * fB f) : bAndNot .u64 (a : Int) ((fB f : Nat) : Int) = ((gg f a : Nat) : Int) := by
  have h2 := fB_le f
  have hf := fmt_le f
  rw [bAndNot_nat (by omega) (by omega)]
  unfold gg fB at *
  congr 1
  apply Nat.eq_of_testBit_eq
  intro i
  rw [Nat.testBit_and, Nat.testBit_two_pow_sub_succ (by omega), Nat.testBit_mod_two_pow, Nat.testBit_two_pow]
  by_cases c : i < fP f + fE f
  · have d : ¬ (fP f + fE f = i) := by omega
    have d2 : i < 64 := by omega
    simp [c, d, d2]
  · by_cases d : fP f + fE f = i
    · simp [d]
    · have : a.testBit i = false := Nat.testBit_lt_two_pow (Nat.lt_of_lt_of_le ha (by rw [Nat.mul_comm, ← Nat.pow_succ]; exact Nat.pow_le_pow_right (by decide) (by omega)))
      rw [this]; simp [c]

/-! ### apart -/

theorem sg_true (f : Int) : sg f true = fB f := by unfold sg; simp

theorem shr_pow {x s : Nat} (hs : s ≤ 64) : shr .u64 (x : Int) (s : Int) = ((x / 2 ^ s : Nat) : Int) := shr_nat x s hs

theorem low_bits {x s : Nat} (hs : s ≤ 63) (hx : x < 2 ^ 64) : bAnd .u64 (x : Int) (Wu64 (shl .u64 1 ((s : Nat) : Int) - 1)) = ((x % 2 ^ s : Nat) : Int) := by
  have : 2 ^ s ≤ 2 ^ 63 := Nat.pow_le_pow_right (by decide) hs
  rw [shl_1 hs, Wu64_pred (Nat.two_pow_pos _) (by omega), bAnd_nat hx (by omega), Nat.and_two_pow_sub_one_eq_mod]
theorem low_bits2 {x s : Nat} (hs : s ≤ 63) (hx : x < 2 ^ 64) : bAnd .u64 (x : Int) ((2 ^ s - 1 : Nat) : Int) = ((x % 2 ^ s : Nat) : Int) := by
  have : 2 ^ s ≤ 2 ^ 63 := Nat.pow_le_pow_right (by decide) hs
  rw [bAnd_nat hx (by omega), Nat.and_two_pow_sub_one_eq_mod]

theorem nat_beq (x y : Nat) : (((x : Nat) : Int) == ((y : Nat) : Int)) = (x == y) := by
  rw [Bool.eq_iff_iff]; simp only [beq_iff_eq]; omega
theorem nat_beq0 (x : Nat) : (((x : Nat) : Int) == 0) = (x == 0) := nat_beq x 0
theorem nat_bne0 (x : Nat) : (((x : Nat) : Int) != 0) = (x != 0) := by unfold bne; rw [nat_beq0]

theorem apart_k {R : Type} (k : Nat) (f : Int) {a : Nat} (ha : a < 2 ^ 64) (K : Int → Int → Int → Int → Bool → Int → Int → Option R) :
    soft_apart k f (a : Int) K = K ((fP f : Nat) : Int) ((fE f : Nat) : Int) (fL f) (kd f a) (bw f a) ((nn f a : Nat) : Int) (ee f a) := by
  have hf := fmt_le f
  have hp := fP_pos f
  unfold soft_apart soft_apartT
  rw [shapeOf_k]
  -- what is common to both formats
  have key : bad f a = false → (cond (decide (((fP f : Nat) : Int) < 0)) (
          none) (
          soft_shape_full k ((fP f : Nat) : Int) ((fE f : Nat) : Int) (fL f) (fun r4 =>
            cond (decide (((fP f : Nat) : Int) < 0)) (
              none) (
              soft_shape_sign k ((fP f : Nat) : Int) ((fE f : Nat) : Int) (fL f) true (fun r5 =>
                soft_shape_full k ((fP f : Nat) : Int) ((fE f : Nat) : Int) (fL f) (fun r6 =>
                  cond ((bAnd .u64 (shr .u64 a ((fP f : Nat) : Int)) r4) == r6) (
                    cond ((bAnd .u64 a (Wu64 ((shl .u64 1 ((fP f : Nat) : Int)) - 1))) != 0) (
                      K ((fP f : Nat) : Int) ((fE f : Nat) : Int) (fL f) 0 ((bAnd .u64 a r5) != 0) 0 0) (
                      soft_shape_full k ((fP f : Nat) : Int) ((fE f : Nat) : Int) (fL f) (fun r7 =>
                        cond ((bAnd .u64 (shr .u64 a ((fP f : Nat) : Int)) r4) == r7) (
                          K ((fP f : Nat) : Int) ((fE f : Nat) : Int) (fL f) 1 ((bAnd .u64 a r5) != 0) 0 0) (
                          cond ((bAnd .u64 (shr .u64 a ((fP f : Nat) : Int)) r4) == 0) (
                            cond ((bAnd .u64 a (Wu64 ((shl .u64 1 ((fP f : Nat) : Int)) - 1))) == 0) (
                              K ((fP f : Nat) : Int) ((fE f : Nat) : Int) (fL f) 2 ((bAnd .u64 a r5) != 0) 0 0) (
                              cond ((bAnd .u64 (shr .u64 a ((fP f : Nat) : Int)) r4) == 0) (
                                K ((fP f : Nat) : Int) ((fE f : Nat) : Int) (fL f) 3 ((bAnd .u64 a r5) != 0) (bAnd .u64 a (Wu64 ((shl .u64 1 ((fP f : Nat) : Int)) - 1))) (fL f)) (
                                cond (decide (((fP f : Nat) : Int) < 0)) (
                                  none) (
                                  K ((fP f : Nat) : Int) ((fE f : Nat) : Int) (fL f) 3 ((bAnd .u64 a r5) != 0) (bOr .u64 (bAnd .u64 a (Wu64 ((shl .u64 1 ((fP f : Nat) : Int)) - 1))) (shl .u64 1 ((fP f : Nat) : Int))) (Wi64 ((Wi64 ((Wi64 (bAnd .u64 (shr .u64 a ((fP f : Nat) : Int)) r4)) - 1)) + (fL f))))))) (
                            cond ((bAnd .u64 (shr .u64 a ((fP f : Nat) : Int)) r4) == 0) (
                              K ((fP f : Nat) : Int) ((fE f : Nat) : Int) (fL f) 3 ((bAnd .u64 a r5) != 0) (bAnd .u64 a (Wu64 ((shl .u64 1 ((fP f : Nat) : Int)) - 1))) (fL f)) (
                              cond (decide (((fP f : Nat) : Int) < 0)) (
                                none) (
                                K ((fP f : Nat) : Int) ((fE f : Nat) : Int) (fL f) 3 ((bAnd .u64 a r5) != 0) (bOr .u64 (bAnd .u64 a (Wu64 ((shl .u64 1 ((fP f : Nat) : Int)) - 1))) (shl .u64 1 ((fP f : Nat) : Int))) (Wi64 ((Wi64 ((Wi64 (bAnd .u64 (shr .u64 a ((fP f : Nat) : Int)) r4)) - 1)) + (fL f)))))))))) (
                    soft_shape_full k ((fP f : Nat) : Int) ((fE f : Nat) : Int) (fL f) (fun r8 =>
                      cond ((bAnd .u64 (shr .u64 a ((fP f : Nat) : Int)) r4) == r8) (
                        K ((fP f : Nat) : Int) ((fE f : Nat) : Int) (fL f) 1 ((bAnd .u64 a r5) != 0) 0 0) (
                        cond ((bAnd .u64 (shr .u64 a ((fP f : Nat) : Int)) r4) == 0) (
                          cond ((bAnd .u64 a (Wu64 ((shl .u64 1 ((fP f : Nat) : Int)) - 1))) == 0) (
                            K ((fP f : Nat) : Int) ((fE f : Nat) : Int) (fL f) 2 ((bAnd .u64 a r5) != 0) 0 0) (
                            cond ((bAnd .u64 (shr .u64 a ((fP f : Nat) : Int)) r4) == 0) (
                              K ((fP f : Nat) : Int) ((fE f : Nat) : Int) (fL f) 3 ((bAnd .u64 a r5) != 0) (bAnd .u64 a (Wu64 ((shl .u64 1 ((fP f : Nat) : Int)) - 1))) (fL f)) (
                              cond (decide (((fP f : Nat) : Int) < 0)) (
                                none) (
                                K ((fP f : Nat) : Int) ((fE f : Nat) : Int) (fL f) 3 ((bAnd .u64 a r5) != 0) (bOr .u64 (bAnd .u64 a (Wu64 ((shl .u64 1 ((fP f : Nat) : Int)) - 1))) (shl .u64 1 ((fP f : Nat) : Int))) (Wi64 ((Wi64 ((Wi64 (bAnd .u64 (shr .u64 a ((fP f : Nat) : Int)) r4)) - 1)) + (fL f))))))) (
                          cond ((bAnd .u64 (shr .u64 a ((fP f : Nat) : Int)) r4) == 0) (
                            K ((fP f : Nat) : Int) ((fE f : Nat) : Int) (fL f) 3 ((bAnd .u64 a r5) != 0) (bAnd .u64 a (Wu64 ((shl .u64 1 ((fP f : Nat) : Int)) - 1))) (fL f)) (
                            cond (decide (((fP f : Nat) : Int) < 0)) (
                              none) (
                              K ((fP f : Nat) : Int) ((fE f : Nat) : Int) (fL f) 3 ((bAnd .u64 a r5) != 0) (bOr .u64 (bAnd .u64 a (Wu64 ((shl .u64 1 ((fP f : Nat) : Int)) - 1))) (shl .u64 1 ((fP f : Nat) : Int))) (Wi64 ((Wi64 ((Wi64 (bAnd .u64 (shr .u64 a ((fP f : Nat) : Int)) r4)) - 1)) + (fL f))))))))))))))) =
      K ((fP f : Nat) : Int) ((fE f : Nat) : Int) (fL f) (kd f a) (bw f a) ((nn f a : Nat) : Int) (ee f a) := by
    intro hb
    have c0 : ¬ (((fP f : Nat) : Int) < 0) := by omega
    have hq : a / 2 ^ fP f < 2 ^ 64 := Nat.lt_of_le_of_lt (Nat.div_le_self _ _) ha
    have hbw : (bAnd .u64 (a : Int) ((fB f : Nat) : Int) != 0) = bw f a := by
      rw [sign_test (lt_2B ha hb)]; unfold bw; rw [hb]; rfl
    simp only [c0, decide_false, cond_false, full_k, sign_k, sg_true, hbw, shr_pow (show fP f ≤ 64 by omega), low_bits (show fP f ≤ 63 by omega) ha, low_bits2 (show fE f ≤ 63 by omega) hq, nat_beq, nat_beq0, nat_bne0]
    obtain ⟨k1, k2, k3, k4, k5⟩ := cls f a
    have hX : a / 2 ^ fP f % 2 ^ fE f < 2 ^ fE f := Nat.mod_lt _ (Nat.two_pow_pos _)
    have hM : a % 2 ^ fP f < 2 ^ fP f := Nat.mod_lt _ hp
    have hexp : 255 ≤ 2 ^ fE f - 1 := by
      have : 2 ^ 8 ≤ 2 ^ fE f := Nat.pow_le_pow_right (by decide) (by omega)
      omega
    have hexp2 : 2 ^ fE f ≤ 2 ^ 11 := Nat.pow_le_pow_right (by decide) (by omega)
    have hpI := fI_pos f
    by_cases cX : a / 2 ^ fP f % 2 ^ fE f = 2 ^ fE f - 1
    · have cX' : (a / 2 ^ fP f % 2 ^ fE f == 2 ^ fE f - 1) = true := by rw [beq_iff_eq]; exact cX
      simp only [cX', cond_true]
      have hge := k1.1 cX
      by_cases cM : a % 2 ^ fP f = 0
      · have cM' : (a % 2 ^ fP f != 0) = false := by rw [cM]; rfl
        have hg := (k2 cX).1 cM
        have hk : kd f a = 1 := by unfold kd; rw [hb]; simp [hg]
        have h3 : kd f a ≠ 3 := by rw [hk]; decide
        rw [cM', hk, (nn_zero h3).1, (nn_zero h3).2]; rfl
      · have cM' : (a % 2 ^ fP f != 0) = true := by rw [bne_iff_ne]; exact cM
        have hg : fI f < gg f a := Nat.lt_of_le_of_ne hge (fun h => cM ((k2 cX).2 h.symm))
        have hk : kd f a = 0 := by unfold kd; rw [hb]; simp [hg]
        have h3 : kd f a ≠ 3 := by rw [hk]; decide
        rw [cM', hk, (nn_zero h3).1, (nn_zero h3).2]; rfl
    · have cX' : (a / 2 ^ fP f % 2 ^ fE f == 2 ^ fE f - 1) = false := by rw [beq_eq_false_iff_ne]; exact cX
      have hlt : gg f a < fI f := Nat.lt_of_not_le fun h => cX (k1.2 h)
      simp only [cX', cond_false]
      by_cases c0' : a / 2 ^ fP f % 2 ^ fE f = 0
      · have d0 : (a / 2 ^ fP f % 2 ^ fE f == 0) = true := by rw [beq_iff_eq]; exact c0'
        simp only [d0, cond_true]
        have hg := k4 c0'
        have hg2 := k3.1 c0'
        rw [hg]
        by_cases cz : gg f a = 0
        · have hk : kd f a = 2 := by
            unfold kd; rw [hb]
            simp only [Bool.false_eq_true, if_false]
            rw [if_neg (by omega), if_neg (by omega), if_pos cz]
          have h3 : kd f a ≠ 3 := by rw [hk]; decide
          have : (gg f a == 0) = true := by rw [beq_iff_eq]; exact cz
          rw [this, hk, (nn_zero h3).1, (nn_zero h3).2]; rfl
        · have hk : kd f a = 3 := by
            unfold kd; rw [hb]
            simp only [Bool.false_eq_true, if_false]
            rw [if_neg (by omega), if_neg (by omega), if_neg cz]
          have : (gg f a == 0) = false := by rw [beq_eq_false_iff_ne]; exact cz
          have hn : nn f a = gg f a := by unfold nn nG; rw [if_pos hk, if_pos hg2]
          have he : ee f a = fL f := by unfold ee eG; rw [if_pos hk, if_pos hg2]
          rw [this, hk, hn, he]; rfl
      · have d0 : (a / 2 ^ fP f % 2 ^ fE f == 0) = false := by rw [beq_eq_false_iff_ne]; exact c0'
        simp only [d0, cond_false]
        have hg2 : ¬ gg f a < 2 ^ fP f := fun h => c0' (k3.2 h)
        have hk : kd f a = 3 := by
          unfold kd; rw [hb]
          simp only [Bool.false_eq_true, if_false]
          rw [if_neg (by omega), if_neg (by omega), if_neg (by omega)]
        have hn : nn f a = a % 2 ^ fP f + 2 ^ fP f := by
          unfold nn; rw [if_pos hk]; exact (k5 hg2).symm
        have he : ee f a = ((a / 2 ^ fP f % 2 ^ fE f : Nat) : Int) - 1 + fL f := by
          unfold ee eG; rw [if_pos hk, if_neg hg2, (parts_gg f a).1]
        have e1 : bOr .u64 ((a % 2 ^ fP f : Nat) : Int) (shl .u64 1 ((fP f : Nat) : Int)) = ((a % 2 ^ fP f + 2 ^ fP f : Nat) : Int) := bit_or hM (by omega)
        have e2 : Wi64 (Wi64 (Wi64 ((a / 2 ^ fP f % 2 ^ fE f : Nat) : Int) - 1) + fL f) = ((a / 2 ^ fP f % 2 ^ fE f : Nat) : Int) - 1 + fL f := by
          rw [Wi64_nat (by omega), wrap_i64 (x := ((a / 2 ^ fP f % 2 ^ fE f : Nat) : Int) - 1) (by omega) (by omega), wrap_i64 (by omega) (by omega)]
        rw [e1, e2, hk, hn, he]
  by_cases hf1 : f = 1
  · have e : (f == 1) = true := by rw [beq_iff_eq]; exact hf1
    rw [e, cond_true]
    rw [show shr .u64 (a : Int) 32 = ((a / 2 ^ 32 : Nat) : Int) from shr_nat a 32 (by decide), nat_bne0]
    by_cases hb : 2 ^ 32 ≤ a
    · have : (a / 2 ^ 32 != 0) = true := by rw [bne_iff_ne]; omega
      have hbd : bad f a = true := by unfold bad; rw [decide_eq_true_iff]; exact ⟨hf1, hb⟩
      have hk : kd f a = 0 := by unfold kd; rw [hbd]; rfl
      have h3 : kd f a ≠ 3 := by rw [hk]; decide
      have hw : bw f a = false := by unfold bw; rw [hbd]; rfl
      rw [this, cond_true, hk, hw, (nn_zero h3).1, (nn_zero h3).2]; rfl
    · have : (a / 2 ^ 32 != 0) = false := by
        have : a / 2 ^ 32 = 0 := Nat.div_eq_of_lt (by omega)
        rw [this]; rfl
      rw [this, cond_false]
      refine key ?_
      unfold bad; rw [decide_eq_false_iff_not]; exact fun h => hb h.2
  · have e : (f == 1) = false := by rw [beq_eq_false_iff_ne]; exact hf1
    rw [e, cond_false]
    refine key ?_
    unfold bad; rw [decide_eq_false_iff_not]; exact fun h => hf1 h.1

end Go.Proofs.Ytejfnbjhcohkiaa.N

/- Floats reckoned with, as the document says it: sums, products, quotients, roots by whole numbers. Conditions: none. -/
namespace Go.Proofs.Ytejfnbjhcohkiaa.N
set_option linter.unusedVariables false
set_option linter.unusedSimpArgs false
open Go Go.Ab

def NAN (f : Int) : Nat := fI f + 2 ^ (fP f - 1)
def NegS (f : Int) (a : Nat) : Nat := if kd f a = 0 then NAN f else if fB f ≤ a then a - fB f else a + fB f
def AbsS (f : Int) (a : Nat) : Nat := if kd f a = 0 then NAN f else gg f a
def FinS (f : Int) (a : Nat) : Bool := decide (2 ≤ kd f a)
def ClassS (f : Int) (a : Nat) : Int := if bad f a then 0 else if kd f a = 0 then 5 else if kd f a = 1 then 4 else if kd f a = 2 then 1 else if gg f a < 2 ^ fP f then 2 else 3
def rank (f : Int) (a : Nat) : Int := if bw f a then -((gg f a : Nat) : Int) else ((gg f a : Nat) : Int)
def sgnI (x y : Int) : Int := if x < y then -1 else if y < x then 1 else 0
def CmpS (f : Int) (a b : Nat) : Int × Bool := if kd f a = 0 ∨ kd f b = 0 then (0, false) else (sgnI (rank f a) (rank f b), true)

/-- Two numbers of a sign each, added, and rounded. -/
def AddX (f m : Int) (bx : Bool) (X : Nat) (ex : Int) (by' : Bool) (Y : Nat) (ey : Int) : Nat :=
  let l := min ex ey
  let u := X * 2 ^ (ex - l).toNat
  let v := Y * 2 ^ (ey - l).toNat
  if bx = by' then Rd f m bx (u + v) l false
  else if u = v then sg f (m == 2) else if v < u then Rd f m bx (u - v) l false else Rd f m by' (v - u) l false

def AddS (f m : Int) (a b : Nat) : Nat :=
  if kd f a = 0 ∨ kd f b = 0 ∨ (kd f a = 1 ∧ kd f b = 1 ∧ bw f a ≠ bw f b) then NAN f
  else if kd f a = 1 then a else if kd f b = 1 then b
  else AddX f m (bw f a) (nn f a) (ee f a) (bw f b) (nn f b) (ee f b)

def MulS (f m : Int) (a b : Nat) : Nat :=
  if kd f a = 0 ∨ kd f b = 0 then NAN f
  else if kd f a = 1 ∨ kd f b = 1 then (if kd f a = 2 ∨ kd f b = 2 then NAN f else sg f (bw f a != bw f b) + fI f)
  else Rd f m (bw f a != bw f b) (nn f a * nn f b) (ee f a + ee f b) false

/-- A quotient to so many places, and whether there is a rest. -/
def DivX (f m : Int) (s : Bool) (X : Nat) (Y : Nat) (e : Int) (up : Nat) : Nat := Rd f m s (X * 2 ^ up / Y) (e - up) (decide (X * 2 ^ up % Y ≠ 0))

def DivS (f m : Int) (a b : Nat) : Nat :=
  if kd f a = 0 ∨ kd f b = 0 ∨ (kd f a = kd f b ∧ kd f a < 3) then NAN f
  else if kd f a = 1 ∨ kd f b = 2 then sg f (bw f a != bw f b) + fI f
  else if kd f b = 1 ∨ kd f a = 2 then sg f (bw f a != bw f b)
  else DivX f m (bw f a != bw f b) (nn f a) (nn f b) (ee f a - ee f b) (127 - bl (nn f a))

/-- The sign and the rest are the float. -/
theorem parts_of {f : Int} {a : Nat} (ha : a < 2 ^ 64) (hb : bad f a = false) : a = sg f (bw f a) + gg f a := by
  have h := lt_2B ha hb
  have hB : 0 < fB f := Nat.two_pow_pos _
  unfold sg bw gg
  rw [hb]
  simp only [Bool.false_eq_true, if_false]
  by_cases c : fB f ≤ a
  · simp only [c, decide_true, if_true]
    rw [Nat.mod_eq_sub_mod c, Nat.mod_eq_of_lt (by omega)]; omega
  · simp only [c, decide_false, Bool.false_eq_true, if_false]
    rw [Nat.mod_eq_of_lt (by omega)]; omega

theorem more_none (m : Int) (b o : Bool) : more m b o false false = false := by
  unfold more
  split
  · simp
  · split
    · simp
    · split <;> simp

theorem bl_range {N p : Nat} (h1 : 2 ^ p ≤ N) (h2 : N < 2 ^ (p + 1)) : bl N = p + 1 := bl_eq h1 h2

/-- What is a float is itself, rounded. -/
theorem Rd_G (f m : Int) (s : Bool) {g : Nat} (h0 : 0 < g) (hI : g < fI f) : Rd f m s (nG f g) (eG f g) false = sg f s + g := by
  have hp := fP_pos f
  obtain ⟨n0, n1, n2, n3⟩ := nG_bounds f h0 hI
  have hm := Nat.mod_lt g hp
  have hlast : lastOf f (nG f g) (eG f g) = eG f g := by
    unfold lastOf nG eG
    by_cases c : g < 2 ^ fP f
    · rw [if_pos c, if_pos c]
      have : bl g ≤ fP f := bl_le_iff.2 c
      omega
    · rw [if_neg c, if_neg c]
      have : bl (2 ^ fP f + g % 2 ^ fP f) = fP f + 1 := bl_range (by omega) (by rw [Nat.pow_succ]; omega)
      rw [this]
      have h1 : 0 < g / 2 ^ fP f := Nat.div_pos (by omega) hp
      omega
  unfold Rd
  rw [if_neg (by omega), hlast]
  have e0 : eG f g - eG f g = 0 := by omega
  rw [e0]
  have q : qd (nG f g) 0 = nG f g := by unfold qd; simp
  have h : hd (nG f g) 0 = false := by unfold hd; simp
  have r : rs (nG f g) 0 = false := by unfold rs; simp
  rw [q, h, r]
  unfold enc gOf
  rw [Bool.or_false, more_none, Bool.toNat_false, Nat.add_zero]
  have : (eG f g - fL f).toNat * 2 ^ fP f + nG f g = g := by
    unfold nG eG
    by_cases c : g < 2 ^ fP f
    · rw [if_pos c, if_pos c]
      have : (fL f - fL f).toNat = 0 := by omega
      rw [this]; omega
    · rw [if_neg c, if_neg c]
      have h1 : 0 < g / 2 ^ fP f := Nat.div_pos (by omega) hp
      have : (((g / 2 ^ fP f : Nat) : Int) - 1 + fL f - fL f).toNat = g / 2 ^ fP f - 1 := by omega
      rw [this, Nat.sub_mul, Nat.one_mul]
      have h2 : 1 * 2 ^ fP f ≤ g / 2 ^ fP f * 2 ^ fP f := Nat.mul_le_mul_right _ h1
      have h3 := Nat.div_add_mod g (2 ^ fP f)
      rw [Nat.mul_comm] at h3
      omega
  rw [this]
  unfold clip
  rw [if_pos hI]

theorem Rd_self {f : Int} (m : Int) {a : Nat} (ha : a < 2 ^ 64) (h : kd f a = 3) : Rd f m (bw f a) (nn f a) (ee f a) false = a := by
  obtain ⟨h1, h2, h3⟩ := kd3 h
  unfold nn ee
  rw [if_pos h, if_pos h, Rd_G f m _ h2 h3]
  exact (parts_of ha h1).symm

/-- Zeros play no part but by their signs. -/
theorem AddX_zero (f m : Int) (bx by' : Bool) (ex : Int) (Y : Nat) (ey : Int) (h0 : 0 < Y) : AddX f m bx 0 ex by' Y ey = Rd f m by' Y ey false := by
  unfold AddX
  simp only [Nat.zero_mul, Nat.zero_add, Nat.sub_zero, Nat.not_lt_zero, if_false]
  have hpos : 0 < Y * 2 ^ (ey - min ex ey).toNat := Nat.mul_pos h0 (Nat.two_pow_pos _)
  have hr : ∀ s, Rd f m s (Y * 2 ^ (ey - min ex ey).toNat) (min ex ey) false = Rd f m s Y ey false := by
    intro s
    have := Rd_scale f m s Y ey (ey - min ex ey).toNat
    have e : ey - ((ey - min ex ey).toNat : Int) = min ex ey := by omega
    rw [e] at this
    exact this
  rw [hr, hr]
  split
  · rename_i h; rw [h]
  · rw [if_neg (by omega)]

theorem AddX_comm (f m : Int) (bx : Bool) (X : Nat) (ex : Int) (by' : Bool) (Y : Nat) (ey : Int) : AddX f m bx X ex by' Y ey = AddX f m by' Y ey bx X ex := by
  unfold AddX
  rw [Int.min_comm ey ex]
  simp only
  generalize X * 2 ^ (ex - min ex ey).toNat = u
  generalize Y * 2 ^ (ey - min ex ey).toNat = v
  by_cases h : bx = by'
  · subst h
    simp only [if_true]
    rw [Nat.add_comm]
  · have h' : ¬ by' = bx := fun hh => h hh.symm
    simp only [h, h', if_false]
    by_cases c : u = v
    · subst c; simp
    · have c' : ¬ v = u := fun hh => c hh.symm
      simp only [c, c', if_false]
      by_cases d : v < u
      · have : ¬ u < v := by omega
        simp only [d, this, if_true, if_false]
      · have : u < v := by omega
        simp only [d, this, if_true, if_false]

/-! ### The program's way: 60 places below the greater one -/

def SumS (f m : Int) (bx : Bool) (X : Nat) (ex : Int) (by' : Bool) (Y : Nat) (ey : Int) : Nat :=
  let d := (min (ex - ey) 128).toNat
  let u := X * 2 ^ 60
  let v := Y * 2 ^ 60 / 2 ^ d
  let rest := decide (Y * 2 ^ 60 % 2 ^ d ≠ 0)
  if bx = by' then Rd f m bx (u + v) (ex - 60) rest
  else
    let w := v + rest.toNat
    if u < w then Rd f m by' (w - u) (ex - 60) rest
    else Rd f m (if u = w ∧ rest = false then m == 2 else bx) (u - w) (ex - 60) rest

theorem SumS_eq {f : Int} (m : Int) (bx : Bool) {X : Nat} {ex : Int} (by' : Bool) {Y : Nat} {ey : Int} (hX : X < 2 ^ (fP f + 1)) (hY : Y < 2 ^ (fP f + 1)) (hY0 : 0 < Y) (hle : ey ≤ ex) (hn : ey < ex → 2 ^ fP f ≤ X) :
    SumS f m bx X ex by' Y ey = AddX f m bx X ex by' Y ey := by
  have hf := fmt_le f
  have hY53 : Y < 2 ^ 53 := Nat.lt_of_lt_of_le hY (Nat.pow_le_pow_right (by decide) (by omega))
  obtain ⟨D, hD⟩ : ∃ D : Nat, ex - ey = (D : Int) := ⟨(ex - ey).toNat, by omega⟩
  have hmin : min ex ey = ey := by omega
  have eD : (ex - ey).toNat = D := by omega
  unfold SumS AddX
  simp only [hmin, eD, Int.sub_self, Int.toNat_zero, Nat.pow_zero, Nat.mul_one]
  rw [hD]
  have hd : (min (D : Int) 128).toNat = min D 128 := by omega
  rw [hd]
  by_cases c60 : D ≤ 60
  · -- no bit is lost
    have em : min D 128 = D := by omega
    have e2 : (2 : Nat) ^ 60 = 2 ^ (60 - D) * 2 ^ D := by rw [← Nat.pow_add]; congr 1; omega
    have hv : Y * 2 ^ 60 / 2 ^ D = Y * 2 ^ (60 - D) := by rw [e2, ← Nat.mul_assoc, Nat.mul_div_cancel _ (Nat.two_pow_pos D)]
    have hr : Y * 2 ^ 60 % 2 ^ D = 0 := by rw [e2, ← Nat.mul_assoc, Nat.mul_mod_left]
    have hu : X * 2 ^ 60 = X * 2 ^ D * 2 ^ (60 - D) := by rw [e2, Nat.mul_comm (2 ^ (60 - D)), ← Nat.mul_assoc]
    have ee' : ex - 60 = ey - ((60 - D : Nat) : Int) := by omega
    have hpos := Nat.two_pow_pos (60 - D)
    rw [em, hv, hr, hu, ee']
    simp only [ne_eq, not_true_eq_false, decide_false, Bool.toNat_false, Nat.add_zero]
    generalize hU : X * 2 ^ D = U at *
    rw [← Nat.add_mul, Rd_scale]
    split
    · rfl
    · by_cases c1 : U = Y
      · subst c1
        rw [if_neg (by omega), Nat.sub_self]
        simp [Rd]
      · by_cases c2 : Y < U
        · have k1 : ¬ U * 2 ^ (60 - D) < Y * 2 ^ (60 - D) := by
            have := Nat.mul_le_mul_right (2 ^ (60 - D)) (Nat.le_of_lt c2); omega
          have k2 : ¬ (U * 2 ^ (60 - D) = Y * 2 ^ (60 - D)) := fun h => c1 (Nat.eq_of_mul_eq_mul_right hpos h)
          rw [if_neg k1, if_neg c1, if_pos c2]
          simp only [k2, false_and, if_false]
          rw [← Nat.sub_mul, Rd_scale]
        · have k1 : U * 2 ^ (60 - D) < Y * 2 ^ (60 - D) := Nat.mul_lt_mul_of_pos_right (by omega) hpos
          rw [if_pos k1, if_neg c1, if_neg c2, ← Nat.sub_mul, Rd_scale]
  · have hXn : 2 ^ fP f ≤ X := hn (by omega)
    obtain ⟨j, hj⟩ : ∃ j, D = 60 + j := ⟨D - 60, by omega⟩
    have hj0 : 0 < j := by omega
    have hjp := Nat.two_pow_pos j
    have hlt113 : Y * 2 ^ 60 < 2 ^ 113 := by
      have := Nat.mul_lt_mul_of_pos_right hY53 (Nat.two_pow_pos 60)
      rw [← Nat.pow_add] at this
      exact this
    have hv : Y * 2 ^ 60 / 2 ^ (min D 128) = Y / 2 ^ j := by
      have h1 : Y * 2 ^ 60 / 2 ^ D = Y / 2 ^ j := by rw [hj, Nat.pow_add, Nat.mul_comm (2 ^ 60), Nat.mul_div_mul_right _ _ (Nat.two_pow_pos 60)]
      by_cases c : D ≤ 128
      · rw [Nat.min_eq_left c]; exact h1
      · rw [Nat.min_eq_right (by omega), ← h1, Nat.div_eq_of_lt (Nat.lt_of_lt_of_le hlt113 (Nat.pow_le_pow_right (by decide) (by omega))), Nat.div_eq_of_lt (Nat.lt_of_lt_of_le hlt113 (Nat.pow_le_pow_right (by decide) (by omega)))]
    have hr : decide (Y * 2 ^ 60 % 2 ^ (min D 128) ≠ 0) = decide (Y % 2 ^ j ≠ 0) := by
      have h1 : Y * 2 ^ 60 % 2 ^ D = Y % 2 ^ j * 2 ^ 60 := by rw [hj, Nat.pow_add, Nat.mul_comm (2 ^ 60), Nat.mul_mod_mul_right]
      have h2 : (Y * 2 ^ 60 % 2 ^ D ≠ 0) ↔ (Y % 2 ^ j ≠ 0) := by rw [h1]; omega
      by_cases c : D ≤ 128
      · rw [Nat.min_eq_left c]; simp only [h2]
      · have l1 : Y * 2 ^ 60 < 2 ^ 128 := Nat.lt_of_lt_of_le hlt113 (Nat.pow_le_pow_right (by decide) (by omega))
        have l2 : Y * 2 ^ 60 < 2 ^ D := Nat.lt_of_lt_of_le hlt113 (Nat.pow_le_pow_right (by decide) (by omega))
        rw [Nat.mod_eq_of_lt l2] at h2
        rw [Nat.min_eq_right (by omega), Nat.mod_eq_of_lt l1]
        simp only [h2]
    rw [hv, hr]
    have hdm := Nat.div_add_mod Y (2 ^ j)
    have htl := Nat.mod_lt Y hjp
    have hvle := Nat.div_le_self Y (2 ^ j)
    obtain ⟨v, hve⟩ : ∃ v, v = Y / 2 ^ j := ⟨_, rfl⟩
    obtain ⟨t, hte⟩ : ∃ t, t = Y % 2 ^ j := ⟨_, rfl⟩
    rw [← hve, ← hte] at hdm ⊢
    rw [← hte] at htl
    rw [← hve] at hvle
    have hXu : X * 2 ^ D = X * 2 ^ 60 * 2 ^ j := by rw [hj, Nat.pow_add, Nat.mul_assoc]
    obtain ⟨u, hu⟩ : ∃ u, u = X * 2 ^ 60 := ⟨_, rfl⟩
    have hub : 2 ^ (fP f + 60) ≤ u := by rw [hu, Nat.pow_add]; exact Nat.mul_le_mul_right _ hXn
    have hvb : v < 2 ^ (fP f + 1) := by omega
    have hpow : 2 ^ (fP f + 60) = 2 ^ (fP f + 1) * 2 ^ 59 := by rw [← Nat.pow_add]
    have hp1 := Nat.two_pow_pos (fP f + 1)
    rw [hXu, ← hu]
    have ee' : ex - 60 = ey + (j : Int) := by omega
    have es : ey = ex - 60 - (j : Int) := by omega
    have hY' : Y = v * 2 ^ j + t := by rw [Nat.mul_comm]; exact hdm.symm
    have big : ∀ n, 2 ^ (fP f + 58) ≤ n → fP f + 2 ≤ bl n := by
      intro n hn'
      refine Nat.le_of_not_lt fun h => ?_
      have := bl_le_iff.1 (show bl n ≤ fP f + 1 by omega)
      have : 2 ^ (fP f + 1) ≤ 2 ^ (fP f + 58) := Nat.pow_le_pow_right (by decide) (by omega)
      omega
    have hp58 : 2 ^ (fP f + 58) = 2 ^ (fP f + 1) * 2 ^ 57 := by rw [← Nat.pow_add]
    split
    · -- one sign
      have e1 : u * 2 ^ j + Y = (u + v) * 2 ^ j + t := by rw [hY', Nat.add_mul]; omega
      rw [e1]
      by_cases ct : t = 0
      · rw [ct]
        simp only [ne_eq, not_true_eq_false, decide_false, Nat.add_zero]
        rw [es, Rd_scale]
      · have : decide (t ≠ 0) = true := by simp [ct]
        rw [this, es, Rd_stick f m bx (ex - 60) (big _ (by omega)) (by omega) htl]
    · -- two signs
      have hgt : Y < u * 2 ^ j := by
        have h1 : (v + 1) * 2 ^ j ≤ u * 2 ^ j := Nat.mul_le_mul_right _ (by omega)
        rw [Nat.add_mul, Nat.one_mul] at h1
        omega
      rw [if_neg (show ¬ u * 2 ^ j = Y by omega), if_pos hgt]
      by_cases ct : t = 0
      · rw [ct]
        simp only [ne_eq, not_true_eq_false, decide_false, Bool.toNat_false, Nat.add_zero]
        rw [if_neg (by omega), if_neg (by omega)]
        have e1 : u * 2 ^ j - Y = (u - v) * 2 ^ j := by rw [hY', Nat.sub_mul]; omega
        rw [e1, es, Rd_scale]
      · have hd1 : decide (t ≠ 0) = true := by simp [ct]
        rw [hd1]
        simp only [Bool.toNat_true, Bool.true_eq_false, and_false, if_false]
        rw [if_neg (by omega)]
        have e1 : u * 2 ^ j - Y = (u - (v + 1)) * 2 ^ j + (2 ^ j - t) := by
          have h1 : (v + 1) * 2 ^ j ≤ u * 2 ^ j := Nat.mul_le_mul_right _ (by omega)
          rw [hY', Nat.sub_mul]
          rw [Nat.add_mul, Nat.one_mul] at h1 ⊢
          omega
        rw [e1, es, Rd_stick f m bx (ex - 60) (big _ (by omega)) (by omega) (by omega)]

end Go.Proofs.Ytejfnbjhcohkiaa.N

/- Floats: bounds, the order of two, the other sign. Conditions: none. -/
namespace Go.Proofs.Ytejfnbjhcohkiaa.N
set_option linter.unusedVariables false
set_option linter.unusedSimpArgs false
open Go Go.Ab

theorem clip_le (f m : Int) (b : Bool) (g : Nat) : clip f m b g ≤ fI f := by
  unfold clip; split
  · omega
  · split <;> omega
/-- A rounded number: its sign, and at most the infinite one. -/
theorem Rd_form (f m : Int) (b : Bool) (N : Nat) (e : Int) (r : Bool) : ∃ x, x ≤ fI f ∧ Rd f m b N e r = sg f b + x := by
  unfold Rd
  split
  · exact ⟨0, Nat.zero_le _, rfl⟩
  · exact ⟨_, clip_le _ _ _ _, rfl⟩

theorem fB_double (f : Int) : 2 * fB f ≤ 2 ^ 64 ∧ fI f < fB f := by
  have := fB_le f; have := fI_lt f; have := fP_pos f; omega
theorem sgx_lt {f : Int} {b : Bool} {x : Nat} (h : x ≤ fI f) : sg f b + x < 2 * fB f := by
  have := (fB_double f).2; have := sg_le f b; omega
theorem NAN_lt (f : Int) : fI f < NAN f ∧ NAN f < fB f := by
  have h1 := fI_lt f
  have h2 : 2 ^ (fP f - 1) < 2 ^ fP f := Nat.pow_lt_pow_right (by decide) (by have := fmt_le f; omega)
  have h3 := Nat.two_pow_pos (fP f - 1)
  unfold NAN; omega

/-- A float put together out of its sign and its rest. -/
theorem bad_small {f : Int} {a : Nat} (h : a < 2 * fB f) : bad f a = false := by
  unfold bad
  rw [decide_eq_false_iff_not]
  rintro ⟨h1, h2⟩
  subst h1
  have : fB 1 = 2 ^ 31 := by decide
  omega
theorem gg_sg {f : Int} (b : Bool) {x : Nat} (h : x < fB f) : gg f (sg f b + x) = x ∧ bw f (sg f b + x) = b ∧ bad f (sg f b + x) = false := by
  have hb : bad f (sg f b + x) = false := bad_small (by have := sg_le f b; omega)
  refine ⟨?_, ?_, hb⟩
  · unfold gg sg
    cases b
    · simp [Nat.mod_eq_of_lt h]
    · simp [Nat.mod_eq_of_lt h]
  · unfold bw sg
    rw [show bad f ((if b = true then fB f else 0) + x) = false from hb]
    cases b
    · simp; omega
    · simp

theorem kd_sg {f : Int} (b : Bool) {x : Nat} (h : x < fB f) : kd f (sg f b + x) = if fI f < x then 0 else if x = fI f then 1 else if x = 0 then 2 else 3 := by
  obtain ⟨h1, h2, h3⟩ := gg_sg b h
  unfold kd
  rw [h3, h1]; rfl

theorem kd_congr {f : Int} {a b : Nat} (h1 : bad f a = bad f b) (h2 : gg f a = gg f b) : kd f a = kd f b ∧ nn f a = nn f b ∧ ee f a = ee f b := by
  have hk : kd f a = kd f b := by unfold kd; rw [h1, h2]
  refine ⟨hk, ?_, ?_⟩
  · unfold nn; rw [hk, h2]
  · unfold ee; rw [hk, h2]

theorem kd_NAN (f : Int) : kd f (NAN f) = 0 := by
  have h := NAN_lt f
  have := kd_sg (f := f) false (x := NAN f) h.2
  rw [show sg f false + NAN f = NAN f from Nat.zero_add _, if_pos h.1] at this
  exact this

theorem gg_le_of_kd {f : Int} {a : Nat} (h : kd f a ≠ 0) : gg f a ≤ fI f := by
  refine Nat.le_of_not_lt fun h2 => h ?_
  unfold kd
  by_cases hb : bad f a = true
  · rw [if_pos hb]
  · rw [if_neg hb, if_pos h2]

theorem Neg_form {f : Int} {a : Nat} (ha : a < 2 ^ 64) (h : kd f a ≠ 0) : NegS f a = sg f (!bw f a) + gg f a := by
  have hb : bad f a = false := by
    cases hb : bad f a with
    | false => rfl
    | true => exact absurd (by unfold kd; rw [hb]; rfl) h
  have h2 := lt_2B ha hb
  have hp := parts_of ha hb
  unfold NegS
  rw [if_neg h]
  unfold bw at hp ⊢
  rw [hb] at hp ⊢
  by_cases c : fB f ≤ a
  · simp only [c, decide_true, Bool.false_eq_true, if_false, if_true, Bool.not_true] at hp ⊢
    unfold sg at *
    simp at hp ⊢
    omega
  · simp only [c, decide_false, Bool.false_eq_true, if_false, Bool.not_false] at hp ⊢
    unfold sg at *
    simp at hp ⊢
    omega

/-- What the other sign changes. -/
theorem Neg_parts {f : Int} {a : Nat} (ha : a < 2 ^ 64) (h : kd f a ≠ 0) : kd f (NegS f a) = kd f a ∧ nn f (NegS f a) = nn f a ∧ ee f (NegS f a) = ee f a ∧ bw f (NegS f a) = !bw f a := by
  have hg := gg_lt f a
  obtain ⟨h1, h2, h3⟩ := gg_sg (f := f) (!bw f a) hg
  have hb : bad f a = false := by
    cases hb : bad f a with
    | false => rfl
    | true => exact absurd (by unfold kd; rw [hb]; rfl) h
  rw [Neg_form ha h]
  obtain ⟨k1, k2, k3⟩ := kd_congr (f := f) (a := sg f (!bw f a) + gg f a) (b := a) (by rw [h3, hb]) h1
  exact ⟨k1, k2, k3, h2⟩

theorem Neg_lt (f : Int) {a : Nat} (ha : a < 2 ^ 64) : NegS f a < 2 ^ 64 := by
  have h0 := fB_double f
  by_cases h : kd f a = 0
  · unfold NegS; rw [if_pos h]; have := NAN_lt f; omega
  · rw [Neg_form ha h]; have := gg_lt f a; have := sg_le f (!bw f a); omega

theorem AddX_form (f m : Int) (bx : Bool) (X : Nat) (ex : Int) (by' : Bool) (Y : Nat) (ey : Int) : ∃ b x, x ≤ fI f ∧ AddX f m bx X ex by' Y ey = sg f b + x := by
  unfold AddX
  simp only
  split
  · exact ⟨_, Rd_form ..⟩
  · split
    · exact ⟨_, 0, Nat.zero_le _, rfl⟩
    · split
      · exact ⟨_, Rd_form ..⟩
      · exact ⟨_, Rd_form ..⟩

theorem form_lt {f : Int} {y : Nat} (h : ∃ b x, x ≤ fI f ∧ y = sg f b + x) : y < 2 ^ 64 := by
  obtain ⟨b, x, h1, rfl⟩ := h
  have := sgx_lt (b := b) h1; have := (fB_double f).1; omega

theorem NAN_lt64 (f : Int) : NAN f < 2 ^ 64 := by have := NAN_lt f; have := (fB_double f).1; omega

theorem AddS_lt (f m : Int) {a b : Nat} (ha : a < 2 ^ 64) (hb : b < 2 ^ 64) : AddS f m a b < 2 ^ 64 := by
  unfold AddS
  split
  · exact NAN_lt64 f
  · split
    · exact ha
    · split
      · exact hb
      · exact form_lt (AddX_form ..)
theorem MulS_lt (f m : Int) (a b : Nat) : MulS f m a b < 2 ^ 64 := by
  unfold MulS
  split
  · exact NAN_lt64 f
  · split
    · split
      · exact NAN_lt64 f
      · exact form_lt ⟨_, _, Nat.le_refl _, rfl⟩
    · exact form_lt ⟨_, Rd_form ..⟩
theorem DivS_lt (f m : Int) (a b : Nat) : DivS f m a b < 2 ^ 64 := by
  unfold DivS DivX
  split
  · exact NAN_lt64 f
  · split
    · exact form_lt ⟨_, _, Nat.le_refl _, rfl⟩
    · split
      · exact form_lt ⟨_, 0, Nat.zero_le _, rfl⟩
      · exact form_lt ⟨_, Rd_form ..⟩

theorem zero_kd2 {f : Int} {c : Nat} (h : kd f c = 2) : nn f c = 0 := (nn_zero (by rw [h]; decide)).1

theorem AddS_comm (f m : Int) (a b : Nat) (ha : a < 2 ^ 64) (hb : b < 2 ^ 64) : AddS f m a b = AddS f m b a := by
  unfold AddS
  by_cases h1 : kd f a = 0
  · rw [if_pos (.inl h1), if_pos (.inr (.inl h1))]
  by_cases h2 : kd f b = 0
  · rw [if_pos (.inr (.inl h2)), if_pos (.inl h2)]
  by_cases h3 : kd f a = 1
  · by_cases h4 : kd f b = 1
    · by_cases h5 : bw f a = bw f b
      · have e1 : ¬ (kd f a = 0 ∨ kd f b = 0 ∨ (kd f a = 1 ∧ kd f b = 1 ∧ bw f a ≠ bw f b)) := by simp [h1, h2, h5]
        have e2 : ¬ (kd f b = 0 ∨ kd f a = 0 ∨ (kd f b = 1 ∧ kd f a = 1 ∧ bw f b ≠ bw f a)) := by simp [h1, h2, h5]
        rw [if_neg e1, if_neg e2, if_pos h3, if_pos h4]
        -- both are the infinite one of a sign
        have inf : ∀ {c : Nat}, c < 2 ^ 64 → kd f c = 1 → c = sg f (bw f c) + fI f := by
          intro c hc h
          have hb : bad f c = false := by
            cases hb : bad f c with
            | false => rfl
            | true => rw [show kd f c = 0 from by unfold kd; rw [hb]; rfl] at h; cases h
          have hp := parts_of hc hb
          have hg : gg f c = fI f := by
            unfold kd at h
            rw [hb] at h
            simp only [Bool.false_eq_true, if_false] at h
            split at h
            · cases h
            · split at h
              · assumption
              · split at h <;> cases h
          rw [hg] at hp; exact hp
        rw [inf ha h3, inf hb h4, h5]
      · rw [if_pos (.inr (.inr ⟨h3, h4, h5⟩)), if_pos (.inr (.inr ⟨h4, h3, fun h => h5 h.symm⟩))]
    · have e1 : ¬ (kd f a = 0 ∨ kd f b = 0 ∨ (kd f a = 1 ∧ kd f b = 1 ∧ bw f a ≠ bw f b)) := by simp [h1, h2, h4]
      have e2 : ¬ (kd f b = 0 ∨ kd f a = 0 ∨ (kd f b = 1 ∧ kd f a = 1 ∧ bw f b ≠ bw f a)) := by simp [h1, h2, h4]
      rw [if_neg e1, if_neg e2, if_pos h3, if_neg h4, if_pos h3]
  · have e1 : ¬ (kd f a = 0 ∨ kd f b = 0 ∨ (kd f a = 1 ∧ kd f b = 1 ∧ bw f a ≠ bw f b)) := by simp [h1, h2, h3]
    have e2 : ¬ (kd f b = 0 ∨ kd f a = 0 ∨ (kd f b = 1 ∧ kd f a = 1 ∧ bw f b ≠ bw f a)) := by simp [h1, h2, h3]
    rw [if_neg e1, if_neg e2, if_neg h3, if_neg h3]
    by_cases h4 : kd f b = 1
    · rw [if_pos h4, if_pos h4]
    · rw [if_neg h4, if_neg h4, AddX_comm]

theorem MulS_comm (f m : Int) (a b : Nat) : MulS f m a b = MulS f m b a := by
  unfold MulS
  have e1 : (kd f a = 0 ∨ kd f b = 0) = (kd f b = 0 ∨ kd f a = 0) := by rw [Or.comm]
  have e2 : (kd f a = 1 ∨ kd f b = 1) = (kd f b = 1 ∨ kd f a = 1) := by rw [Or.comm]
  have e3 : (kd f a = 2 ∨ kd f b = 2) = (kd f b = 2 ∨ kd f a = 2) := by rw [Or.comm]
  have e4 : (bw f a != bw f b) = (bw f b != bw f a) := by cases bw f a <;> cases bw f b <;> rfl
  rw [e4, Nat.mul_comm, Int.add_comm]
  simp only [e1, e2, e3]

/-! ### The other sign, the other mode -/

theorem more_flip (b o h r : Bool) : more 1 b o h r = more 2 (!b) o h r := by unfold more; cases b <;> cases h <;> cases r <;> rfl

/-- A number's two roundings: up of one sign is down of the other. -/
theorem Rd_flip (f : Int) (b : Bool) (N : Nat) (e : Int) (r : Bool) : ∃ x, x ≤ fI f ∧ Rd f 1 b N e r = sg f b + x ∧ Rd f 2 (!b) N e r = sg f (!b) + x := by
  unfold Rd
  split
  · exact ⟨0, Nat.zero_le _, rfl, rfl⟩
  · refine ⟨_, clip_le f 1 b _, rfl, ?_⟩
    unfold enc clip gOf
    rw [← more_flip, ← more_flip]

theorem Neg_sg {f : Int} (b : Bool) {x : Nat} (h : x ≤ fI f) : NegS f (sg f b + x) = sg f (!b) + x := by
  have hB := (fB_double f).2
  have hx : x < fB f := by omega
  obtain ⟨h1, h2, h3⟩ := gg_sg (f := f) b hx
  have hk : kd f (sg f b + x) ≠ 0 := by
    rw [kd_sg b hx, if_neg (by omega)]
    split
    · decide
    · split <;> decide
  have hlt : sg f b + x < 2 ^ 64 := by have := sgx_lt (b := b) h; have := (fB_double f).1; omega
  rw [Neg_form hlt hk, h1, h2]

theorem Neg_Rd (f : Int) (b : Bool) (N : Nat) (e : Int) (r : Bool) : NegS f (Rd f 1 b N e r) = Rd f 2 (!b) N e r := by
  obtain ⟨x, h1, h2, h3⟩ := Rd_flip f b N e r
  rw [h2, h3, Neg_sg b h1]

theorem Neg_AddX (f : Int) (bx : Bool) (X : Nat) (ex : Int) (by' : Bool) (Y : Nat) (ey : Int) : NegS f (AddX f 1 bx X ex by' Y ey) = AddX f 2 (!bx) X ex (!by') Y ey := by
  unfold AddX
  simp only
  generalize X * 2 ^ (ex - min ex ey).toNat = u
  generalize Y * 2 ^ (ey - min ex ey).toNat = v
  by_cases h : bx = by'
  · subst h
    rw [if_pos rfl, if_pos rfl, Neg_Rd]
  · have h' : ¬ (!bx) = (!by') := by cases bx <;> cases by' <;> simp_all
    rw [if_neg h, if_neg h']
    by_cases c : u = v
    · rw [if_pos c, if_pos c]
      have h0 := Neg_sg (f := f) false (x := 0) (Nat.zero_le _)
      exact h0
    · rw [if_neg c, if_neg c]
      split
      · exact Neg_Rd ..
      · exact Neg_Rd ..

theorem Neg_NAN (f : Int) : NegS f (NAN f) = NAN f := by unfold NegS; rw [if_pos (kd_NAN f)]

theorem Neg_kd0 {f : Int} {a : Nat} (h : kd f a = 0) : NegS f a = NAN f := by unfold NegS; rw [if_pos h]

theorem xor_not (x y : Bool) : ((!x) != y) = !(x != y) := by cases x <;> cases y <;> rfl

theorem Neg_AddS (f : Int) {a b : Nat} (ha : a < 2 ^ 64) (hb : b < 2 ^ 64) : NegS f (AddS f 1 a b) = AddS f 2 (NegS f a) (NegS f b) := by
  by_cases h1 : kd f a = 0
  · unfold AddS
    rw [if_pos (.inl h1), Neg_NAN, Neg_kd0 h1, if_pos (.inl (kd_NAN f))]
  by_cases h2 : kd f b = 0
  · unfold AddS
    rw [if_pos (.inr (.inl h2)), Neg_NAN, Neg_kd0 h2, if_pos (.inr (.inl (kd_NAN f)))]
  obtain ⟨a1, a2, a3, a4⟩ := Neg_parts ha h1
  obtain ⟨b1, b2, b3, b4⟩ := Neg_parts hb h2
  unfold AddS
  rw [a1, a2, a3, a4, b1, b2, b3, b4]
  have e : ((!bw f a) ≠ (!bw f b)) ↔ (bw f a ≠ bw f b) := by cases bw f a <;> cases bw f b <;> simp
  by_cases c : kd f a = 0 ∨ kd f b = 0 ∨ (kd f a = 1 ∧ kd f b = 1 ∧ bw f a ≠ bw f b)
  · have c' : kd f a = 0 ∨ kd f b = 0 ∨ (kd f a = 1 ∧ kd f b = 1 ∧ (!bw f a) ≠ (!bw f b)) := by rw [e]; exact c
    rw [if_pos c, if_pos c', Neg_NAN]
  · have c' : ¬ (kd f a = 0 ∨ kd f b = 0 ∨ (kd f a = 1 ∧ kd f b = 1 ∧ (!bw f a) ≠ (!bw f b))) := by rw [e]; exact c
    rw [if_neg c, if_neg c']
    split
    · rfl
    · split
      · rfl
      · exact Neg_AddX ..

theorem Neg_MulS (f : Int) {a b : Nat} (ha : a < 2 ^ 64) : NegS f (MulS f 1 a b) = MulS f 2 (NegS f a) b := by
  by_cases h1 : kd f a = 0
  · unfold MulS
    rw [if_pos (.inl h1), Neg_NAN, Neg_kd0 h1, if_pos (.inl (kd_NAN f))]
  obtain ⟨a1, a2, a3, a4⟩ := Neg_parts ha h1
  unfold MulS
  rw [a1, a2, a3, a4, xor_not]
  split
  · exact Neg_NAN f
  · split
    · split
      · exact Neg_NAN f
      · exact Neg_sg _ (Nat.le_refl _)
    · exact Neg_Rd ..

theorem Neg_DivS (f : Int) {a b : Nat} (ha : a < 2 ^ 64) : NegS f (DivS f 1 a b) = DivS f 2 (NegS f a) b := by
  by_cases h1 : kd f a = 0
  · unfold DivS
    rw [if_pos (.inl h1), Neg_NAN, Neg_kd0 h1, if_pos (.inl (kd_NAN f))]
  obtain ⟨a1, a2, a3, a4⟩ := Neg_parts ha h1
  unfold DivS DivX
  rw [a1, a2, a3, a4, xor_not]
  split
  · exact Neg_NAN f
  · split
    · exact Neg_sg _ (Nat.le_refl _)
    · split
      · have := Neg_sg (f := f) (bw f a != bw f b) (x := 0) (Nat.zero_le _)
        rw [Nat.add_zero, Nat.add_zero] at this
        exact this
      · exact Neg_Rd ..

theorem Neg_Neg {f : Int} {a : Nat} (ha : a < 2 ^ 64) (h : kd f a ≠ 0) : NegS f (NegS f a) = a := by
  have hb : bad f a = false := by
    cases hb : bad f a with
    | false => rfl
    | true => exact absurd (by unfold kd; rw [hb]; rfl) h
  rw [Neg_form ha h, Neg_sg _ (gg_le_of_kd h), Bool.not_not]
  exact (parts_of ha hb).symm

end Go.Proofs.Ytejfnbjhcohkiaa.N

/- What package soft's functions come to. Conditions: none. -/
namespace Go.Proofs.Ytejfnbjhcohkiaa.N
set_option linter.unusedVariables false
set_option linter.unusedSimpArgs false
open Go Go.Ab

theorem bad_of_kd {f : Int} {a : Nat} (h : kd f a ≠ 0) : bad f a = false := by
  cases hb : bad f a with
  | false => rfl
  | true => exact absurd (by unfold kd; rw [hb]; rfl) h

theorem kd_beq0 (f : Int) (a : Nat) : (kd f a == 0) = decide (kd f a = 0) := by
  rw [Bool.eq_iff_iff]; simp

theorem Neg_k {R : Type} (k : Nat) (f : Int) {a : Nat} (ha : a < 2 ^ 64) (K : Int → Option R) : soft_Neg k f (a : Int) K = K ((NegS f a : Nat) : Int) := by
  unfold soft_Neg soft_NegT NegS
  rw [apart_k k f ha]
  by_cases h : kd f a = 0
  · have : (kd f a == 0) = true := by rw [h]; rfl
    rw [this, cond_true, nan_k, if_pos h]; rfl
  · have : (kd f a == 0) = false := by rw [beq_eq_false_iff_ne]; exact h
    rw [this, cond_false, sign_k, sg_true, sign_turn (lt_2B ha (bad_of_kd h)), if_neg h]

theorem Abs_k {R : Type} (k : Nat) (f : Int) {a : Nat} (ha : a < 2 ^ 64) (K : Int → Option R) : soft_Abs k f (a : Int) K = K ((AbsS f a : Nat) : Int) := by
  unfold soft_Abs soft_AbsT AbsS
  rw [apart_k k f ha]
  by_cases h : kd f a = 0
  · have : (kd f a == 0) = true := by rw [h]; rfl
    rw [this, cond_true, nan_k, if_pos h]; rfl
  · have : (kd f a == 0) = false := by rw [beq_eq_false_iff_ne]; exact h
    rw [this, cond_false, sign_k, sg_true, sign_off (lt_2B ha (bad_of_kd h)), if_neg h]

theorem Finite_k {R : Type} (k : Nat) (f : Int) {a : Nat} (ha : a < 2 ^ 64) (K : Bool → Option R) : soft_Finite k f (a : Int) K = K (FinS f a) := by
  unfold soft_Finite soft_FiniteT FinS
  rw [apart_k k f ha]

theorem Most_k {R : Type} (k : Nat) (f : Int) (K : Int → Option R) : soft_Most k f K = K ((fI f - 1 : Nat) : Int) := by
  unfold soft_Most soft_MostT
  rw [shapeOf_k, most_k]
  have : sg f false = 0 := rfl
  rw [this, Nat.zero_add]

theorem Nan_k {R : Type} (k : Nat) (f : Int) (K : Int → Option R) : soft_Nan k f K = K ((NAN f : Nat) : Int) := by
  unfold soft_Nan soft_NanT
  rw [shapeOf_k, nan_k]; rfl

theorem nn_sub {f : Int} {a : Nat} (h : kd f a = 3) : (nn f a / 2 ^ fP f = 0) ↔ gg f a < 2 ^ fP f := by
  have hp := fP_pos f
  have hm := Nat.mod_lt (gg f a) hp
  unfold nn nG
  rw [if_pos h]
  split
  · rename_i c
    simp [Nat.div_eq_of_lt c, c]
  · rename_i c
    constructor
    · intro h0
      have : 0 < (2 ^ fP f + gg f a % 2 ^ fP f) / 2 ^ fP f := Nat.div_pos (by omega) hp
      omega
    · intro h0; exact absurd h0 c

theorem Class_k {R : Type} (k : Nat) (f : Int) {a : Nat} (ha : a < 2 ^ 64) (K : Int → Option R) : soft_Class k f (a : Int) K = K (ClassS f a) := by
  unfold soft_Class soft_ClassT ClassS
  have hf := fmt_le f
  rw [apart_k k f ha]
  have c0 : ¬ (((fP f : Nat) : Int) < 0) := by omega
  have tail : bad f a = false → (cond (kd f a == 0) (K 5) (cond (kd f a == 1) (K 4) (cond (kd f a == 2) (K 1) (cond (decide (((fP f : Nat) : Int) < 0)) none (cond ((shr .u64 ((nn f a : Nat) : Int) ((fP f : Nat) : Int)) == 0) (K 2) (K 3)))))) =
      K (if bad f a = true then 0 else if kd f a = 0 then 5 else if kd f a = 1 then 4 else if kd f a = 2 then 1 else if gg f a < 2 ^ fP f then 2 else 3) := by
    intro hb
    rw [hb, shr_pow (by omega), nat_beq0]
    rcases kd_vals f a with h | h | h | h
    · rw [h]; rfl
    · rw [h]; rfl
    · rw [h]; rfl
    · have hs := nn_sub h
      rw [h]
      simp only [c0, decide_false, cond_false, Bool.false_eq_true, if_false, show ((3 : Int) == 0) = false from rfl, show ((3 : Int) == 1) = false from rfl, show ((3 : Int) == 2) = false from rfl, show ¬ ((3 : Int) = 0) from by decide, show ¬ ((3 : Int) = 1) from by decide, show ¬ ((3 : Int) = 2) from by decide]
      by_cases c : gg f a < 2 ^ fP f
      · have : (nn f a / 2 ^ fP f == 0) = true := by rw [beq_iff_eq]; exact hs.2 c
        rw [this, if_pos c]; rfl
      · have : (nn f a / 2 ^ fP f == 0) = false := by rw [beq_eq_false_iff_ne]; exact fun h => c (hs.1 h)
        rw [this, if_neg c]; rfl
  by_cases hf1 : f = 1
  · have e : (f == 1) = true := by rw [beq_iff_eq]; exact hf1
    rw [e, cond_true, show shr .u64 (a : Int) 32 = ((a / 2 ^ 32 : Nat) : Int) from shr_nat a 32 (by decide), nat_bne0]
    by_cases hb : 2 ^ 32 ≤ a
    · have : (a / 2 ^ 32 != 0) = true := by rw [bne_iff_ne]; omega
      have hbd : bad f a = true := by unfold bad; rw [decide_eq_true_iff]; exact ⟨hf1, hb⟩
      rw [this, hbd]; rfl
    · have : (a / 2 ^ 32 != 0) = false := by
        have : a / 2 ^ 32 = 0 := Nat.div_eq_of_lt (by omega)
        rw [this]; rfl
      rw [this, cond_false]
      refine tail ?_
      unfold bad; rw [decide_eq_false_iff_not]; exact fun h => hb h.2
  · have e : (f == 1) = false := by rw [beq_eq_false_iff_ne]; exact hf1
    rw [e, cond_false]
    refine tail ?_
    unfold bad; rw [decide_eq_false_iff_not]; exact fun h => hf1 h.1

/-! ### Compare -/

theorem cmpI {R : Type} (k : Nat) (x y : Int) (K : Int → Option R) : cmp_Compare_int64 k x y K = K (sgnI x y) := by
  unfold cmp_Compare_int64 cmp_Compare_int64T cmp_isNaN_int64 cmp_isNaN_int64T sgnI
  simp only [bne_self_eq_false, cond_false]
  by_cases h1 : x < y
  · simp only [h1, decide_true, cond_true, if_true]
  · by_cases h2 : y < x
    · have : x > y := h2
      simp only [h1, this, h2, decide_true, decide_false, cond_true, cond_false, if_true, if_false]
    · have : ¬ x > y := h2
      simp only [h1, this, h2, decide_false, cond_false, if_false]

theorem rank_k {R : Type} (k : Nat) (f : Int) {a : Nat} (ha : a < 2 ^ 64) (hk : kd f a ≠ 0) (x4 x6 x7 : Int) (K : Int → Option R) :
    soft_float_rank k ((fP f : Nat) : Int) ((fE f : Nat) : Int) (fL f) x4 (bw f a) x6 x7 (a : Int) K = K (rank f a) := by
  unfold soft_float_rank soft_float_rankT rank
  have hg := gg_lt f a
  have hB := fB_le f
  have e1 : Wi64 ((gg f a : Nat) : Int) = ((gg f a : Nat) : Int) := wrap_i64 (by omega) (by omega)
  have e2 : Wi64 (0 - ((gg f a : Nat) : Int)) = -((gg f a : Nat) : Int) := by rw [wrap_i64 (by omega) (by omega)]; omega
  rw [sign_k, sg_true, sign_off (lt_2B ha (bad_of_kd hk)), e1, e2]
  cases bw f a <;> rfl

theorem Compare_k {R : Type} (k : Nat) (f : Int) {a b : Nat} (ha : a < 2 ^ 64) (hb : b < 2 ^ 64) (K : Int → Bool → Option R) : soft_Compare k f (a : Int) (b : Int) K = K (CmpS f a b).1 (CmpS f a b).2 := by
  unfold soft_Compare soft_CompareT CmpS
  rw [apart_k k f ha, apart_k k f hb]
  by_cases h1 : kd f a = 0
  · have : (kd f a == 0) = true := by rw [h1]; rfl
    rw [this, if_pos (.inl h1)]; rfl
  · have e1 : (kd f a == 0) = false := by rw [beq_eq_false_iff_ne]; exact h1
    by_cases h2 : kd f b = 0
    · have : (kd f b == 0) = true := by rw [h2]; rfl
      rw [e1, this, if_pos (.inr h2)]; rfl
    · have e2 : (kd f b == 0) = false := by rw [beq_eq_false_iff_ne]; exact h2
      rw [e1, e2, if_neg (by simp [h1, h2])]
      simp only [cond_false]
      rw [rank_k k f ha h1, rank_k k f hb h2, cmpI]


end Go.Proofs.Ytejfnbjhcohkiaa.N
