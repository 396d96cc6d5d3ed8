/- Quotients and roots of numbers of 128 bits: what they come to. Conditions: none. -/
import Derived.Test.YtnbmconaglehbaaWm8
namespace Go.Proofs.Ytnbmconaglehbaa.N
set_option linter.unusedVariables false
set_option linter.unusedSimpArgs false
open Go Go.Ab

theorem Div_hl {R : Type} {k : Nat} (hk : 5000 ≤ k) {A b : Nat} (hA : A < 2 ^ 128) (hb : b < 2 ^ 64) (h0 : b ≠ 0) (K : Int → Int → Int → Option R) :
    wide_Div k (hi A) (lo A) (b : Int) K = K (hi (A / b)) (lo (A / b)) ((A % b : Nat) : Int) := by
  unfold wide_Div
  have c1 : ((b : Int) == 0) = false := by rw [beq_eq_false_iff_ne]; omega
  have c2 : ¬ ((b : Int) = 0) := by omega
  rw [c1]
  simp only [c2, decide_false, cond_false]
  have hb0 : 0 < b := by omega
  unfold hi lo
  simp only [tdiv_nat, tmod_nat]
  rw [Div64_nat hk (lo_lt A) hb (Nat.mod_lt _ hb0), Wu64_lt (Nat.lt_of_le_of_lt (Nat.div_le_self _ _) (hi_lt hA))]
  have hV := V_hl A
  unfold V at hV
  have hdm := Nat.div_add_mod (A / 2 ^ 64) b
  have e : A = b * (A / 2 ^ 64 / b * 2 ^ 64) + (A / 2 ^ 64 % b * 2 ^ 64 + A % 2 ^ 64) := by
    rw [← Nat.mul_assoc]
    conv => lhs; rw [← hV, ← hdm]
    rw [Nat.add_mul, Nat.add_assoc]
  have eq : A / b = A / 2 ^ 64 / b * 2 ^ 64 + (A / 2 ^ 64 % b * 2 ^ 64 + A % 2 ^ 64) / b := by
    conv => lhs; rw [e]
    rw [Nat.mul_add_div hb0]
  have er : A % b = (A / 2 ^ 64 % b * 2 ^ 64 + A % 2 ^ 64) % b := by
    conv => lhs; rw [e]
    rw [Nat.mul_add_mod]
  have hlt : (A / 2 ^ 64 % b * 2 ^ 64 + A % 2 ^ 64) / b < 2 ^ 64 := by
    rw [Nat.div_lt_iff_lt_mul hb0]
    have h1 : A / 2 ^ 64 % b < b := Nat.mod_lt _ hb0
    have h2 : (A / 2 ^ 64 % b + 1) * 2 ^ 64 ≤ b * 2 ^ 64 := Nat.mul_le_mul_right _ h1
    have h3 := lo_lt A
    rw [Nat.mul_comm (2 ^ 64) b]
    omega
  rw [eq, ← er]
  obtain ⟨q, hq⟩ : ∃ q, q = A / 2 ^ 64 / b := ⟨_, rfl⟩
  obtain ⟨r, hr⟩ : ∃ r, r = (A / 2 ^ 64 % b * 2 ^ 64 + A % 2 ^ 64) / b := ⟨_, rfl⟩
  rw [← hq, ← hr]
  rw [← hr] at hlt
  have e1 : (q * 2 ^ 64 + r) / 2 ^ 64 = q := by omega
  have e2 : (q * 2 ^ 64 + r) % 2 ^ 64 = r := by omega
  rw [e1, e2]

theorem half_step (A i : Nat) : A / 2 ^ i = 2 * (A / 2 ^ (i + 1)) + (A.testBit i).toNat := by
  have hd : A / 2 ^ (i + 1) = A / 2 ^ i / 2 := by rw [Nat.pow_succ, Nat.div_div_eq_div_mul]
  rw [hd, Nat.toNat_testBit]; omega

/-- One digit of a quotient. -/
theorem quot_step {P b t : Nat} (hb : 0 < b) : (2 * P + t) % b = (2 * (P % b) + t) % b ∧ (2 * P + t) / b = 2 * (P / b) + (2 * (P % b) + t) / b := by
  have hdm := Nat.div_add_mod P b
  have e : 2 * P + t = b * (2 * (P / b)) + (2 * (P % b) + t) := by
    have : b * (2 * (P / b)) = 2 * (b * (P / b)) := by rw [Nat.mul_left_comm]
    rw [this]; omega
  constructor
  · conv => lhs; rw [e]
    rw [Nat.mul_add_mod]
  · conv => lhs; rw [e]
    rw [Nat.mul_add_div hb]

theorem quot_bit {P b t : Nat} (hb : 0 < b) (ht : t ≤ 1) : (2 * (P % b) + t < b → (2 * P + t) % b = 2 * (P % b) + t ∧ (2 * P + t) / b % 2 = 0) ∧
    (b ≤ 2 * (P % b) + t → (2 * P + t) % b = 2 * (P % b) + t - b ∧ (2 * P + t) / b % 2 = 1) := by
  obtain ⟨h1, h2⟩ := quot_step (P := P) (t := t) hb
  have hm := Nat.mod_lt P hb
  constructor
  · intro h
    rw [h1, h2, Nat.mod_eq_of_lt h, Nat.div_eq_of_lt h]
    exact ⟨rfl, by omega⟩
  · intro h
    have : (2 * (P % b) + t) / b = 1 := Nat.div_eq_of_lt_le (by omega) (by omega)
    rw [h1, h2, this, Nat.mod_eq_sub_mod h, Nat.mod_eq_of_lt (by omega)]
    exact ⟨rfl, by omega⟩

theorem lo_or_one {X : Nat} (hX : X < 2 ^ 64) : bOr .u64 (lo (2 * X)) 1 = lo (2 * X + 1) := by
  unfold lo
  rw [show (1 : Int) = ((1 : Nat) : Int) from rfl, bOr_nat (lo_lt _) (by decide)]
  have : (2 * X % 2 ^ 64) ||| 1 = 2 * X % 2 ^ 64 + 1 := or_add (s := 1) (by omega) (by decide)
  rw [this]; congr 1; omega

theorem hi_or_one (X : Nat) : hi (2 * X + 1) = hi (2 * X) := by
  unfold hi; congr 1; omega

theorem refDiv_loop {R : Type} {k : Nat} (hk : 5000 ≤ k) (A b : Nat) (hA : A < 2 ^ 128) (hb : b < 2 ^ 64) (h0 : 0 < b) (c d : Int) (K : List Bool → Int → Int → Option R) : ∀ (i n : Nat), i ≤ 128 → i < n →
    plumblineref01_Div_l0 k n (b : Int) ((i : Int) - 1) c d (rowN 128 A.testBit) (rowN 128 fun j => if i ≤ j then (A / b).testBit j else false) (hi (A / 2 ^ i % b)) (lo (A / 2 ^ i % b)) K =
      K (rowN 128 (A / b).testBit) (hi (A % b)) (lo (A % b))
  | i, 0, h1, h2 => by omega
  | 0, n + 1, h1, h2 => by
    rw [plumblineref01_Div_l0, plumblineref01_Div_l0B]
    have e0 : ¬ ((((0 : Nat) : Int) - 1) ≥ 0) := by decide
    simp only [e0, decide_false, cond_false, Nat.zero_le, if_true, Nat.pow_zero, Nat.div_one]
  | i + 1, n + 1, h1, h2 => by
    rw [plumblineref01_Div_l0, plumblineref01_Div_l0B]
    have e : (((i + 1 : Nat) : Int) - 1) = (i : Int) := by omega
    have e0 : ((i : Int) ≥ 0) := by omega
    have e1 : ((0 : Int) ≤ (i : Int)) := by omega
    have e2 : ((i : Int) < ((128 : Nat) : Int)) := by omega
    have e3 : i < 128 := by omega
    have e8 : Wi64 ((i : Int) - 1) = ((i : Int) - 1) := wrap_i64 (by omega) (by omega)
    have ih := refDiv_loop hk A b hA hb h0 c d K i n (by omega) (by omega)
    have hP := half_step A i
    have hbit : (A / b).testBit i = decide (A / 2 ^ i / b % 2 = 1) := by
      rw [Nat.testBit_eq_decide_div_mod_eq, Nat.div_div_eq_div_mul, Nat.mul_comm, ← Nat.div_div_eq_div_mul]
    have hm := Nat.mod_lt (A / 2 ^ (i + 1)) h0
    have ht : (A.testBit i).toNat ≤ 1 := Bool.toNat_le _
    obtain ⟨q1, q2⟩ := quot_bit (P := A / 2 ^ (i + 1)) (t := (A.testBit i).toNat) h0 ht
    rw [← hP] at q1 q2
    rw [e, e8]
    have hX : A / 2 ^ (i + 1) % b < 2 ^ 64 := by omega
    rw [refShl_hl hk (by omega) (by decide)]
    have e4 : A / 2 ^ (i + 1) % b * 2 ^ (1 : Int).toNat % 2 ^ 128 = 2 * (A / 2 ^ (i + 1) % b) := by
      have : (1 : Int).toNat = 1 := rfl
      rw [this]; omega
    rw [e4]
    simp only [e0, e1, e2, decide_true, cond_true, rowN_length, Int.toNat_natCast, rowN_get, if_pos e3, Option.bind_some, rowN_set]
    -- the same at both bits
    have key : ∀ X : Nat, X = 2 * (A / 2 ^ (i + 1) % b) + (A.testBit i).toNat →
        plumblineref01_Compare k (hi X) (lo X) 0 (b : Int) (fun yr4 =>
              cond (decide (yr4 ≥ 0)) (
                plumblineref01_Sub k (hi X) (lo X) 0 (b : Int) (fun yr5 yr6 yr7 =>
                      plumblineref01_Div_l0 k n (b : Int) ((i : Int) - 1) c d (rowN 128 A.testBit) (rowN 128 fun j => if j = i then true else if i + 1 ≤ j then (A / b).testBit j else false) yr5 yr6 K)) (
                plumblineref01_Div_l0 k n (b : Int) ((i : Int) - 1) c d (rowN 128 A.testBit) (rowN 128 fun j => if i + 1 ≤ j then (A / b).testBit j else false) (hi X) (lo X) K)) = K (rowN 128 (A / b).testBit) (hi (A % b)) (lo (A % b)) := by
      intro X hX'
      rw [zero_hi hb, ← lo_small hb]
      have hb' : b < 2 ^ 128 := Nat.lt_trans hb (by decide)
      have hbb : (hi b = 0) := hi_small hb
      have hX2 : X < 2 ^ 128 := by omega
      rw [refCompare_hl hk hX2 hb', refSub_hl hk hX2 hb', lo_small hb, hbb]
      rw [← hX'] at q1 q2
      by_cases hlt : X < b
      · have : ¬ (sgn X b ≥ 0) := by unfold sgn; rw [if_pos hlt]; decide
        simp only [this, decide_false, cond_false]
        obtain ⟨a1, a2⟩ := q1 hlt
        rw [a1] at ih
        refine Eq.trans ?_ ih
        congr 1
        refine rowN_congr fun j hj => ?_
        by_cases cc : j = i
        · subst cc
          have : ¬ j + 1 ≤ j := by omega
          simp [this, hbit, a2]
        · have : (i < j) ↔ (i ≤ j) := by omega
          simp only [Nat.succ_le_iff, this]
      · have : (sgn X b ≥ 0) := by unfold sgn; rw [if_neg hlt]; split <;> decide
        simp only [this, decide_true, cond_true]
        obtain ⟨a1, a2⟩ := q2 (by omega)
        have a3 : (X + 2 ^ 128 - b) % 2 ^ 128 = X - b := by omega
        rw [a3]
        rw [a1] at ih
        refine Eq.trans ?_ ih
        congr 1
        refine rowN_congr fun j hj => ?_
        by_cases cc : j = i
        · subst cc
          simp [hbit, a2]
        · have : (i < j) ↔ (i ≤ j) := by omega
          simp only [cc, Nat.succ_le_iff, this, if_false]
    cases hbt : A.testBit i with
    | true =>
      simp only [cond_true]
      rw [lo_or_one hX, ← hi_or_one]
      refine key _ ?_
      rw [hbt]; rfl
    | false =>
      simp only [cond_false]
      refine key _ ?_
      rw [hbt]; rfl

theorem refDiv_hl {R : Type} {k A b : Nat} (hk : 5000 ≤ k) (hA : A < 2 ^ 128) (hb : b < 2 ^ 64) (h0 : b ≠ 0) (K : Int → Int → Int → Option R) :
    plumblineref01_Div k (hi A) (lo A) (b : Int) K = K (hi (A / b)) (lo (A / b)) ((A % b : Nat) : Int) := by
  unfold plumblineref01_Div
  have c1 : ((b : Int) == 0) = false := by rw [beq_eq_false_iff_ne]; omega
  rw [c1, cond_false, Bits_hl hk hA, rowN_false]
  have h := refDiv_loop hk A b hA hb (by omega) 0 0 (fun r2 r3 r4 => plumblineref01_From k r2 (fun r5 r6 => K r5 r6 r4)) 128 k (by omega) (by omega)
  rw [Nat.div_eq_of_lt hA, Nat.zero_mod, hi_small (by decide), lo_small (by decide)] at h
  have e : (rowN 128 fun j => if 128 ≤ j then (A / b).testBit j else false) = rowN 128 (fun _ => false) := rowN_congr fun j hj => by
    have : ¬ 128 ≤ j := by omega
    simp [this]
  rw [e] at h
  refine h.trans ?_
  rw [From_num hk (Nat.lt_of_le_of_lt (Nat.div_le_self _ _) hA) (fun i _ => rfl)]
  have := Nat.mod_lt A (show 0 < b by omega)
  rw [lo_small (Nat.lt_trans this hb)]

/-! ### Roots -/

def IsRoot (A r : Nat) : Prop := r * r ≤ A ∧ A < (r + 1) * (r + 1)

theorem sq_succ (r : Nat) : (r + 1) * (r + 1) = r * r + 2 * r + 1 := by
  rw [Nat.add_mul, Nat.mul_add]; omega

theorem IsRoot.unique {A r s : Nat} (h : IsRoot A r) (h' : IsRoot A s) : r = s := by
  refine Nat.le_antisymm ?_ ?_
  · refine Nat.le_of_not_lt fun hlt => ?_
    have := Nat.mul_le_mul (Nat.succ_le_of_lt hlt) (Nat.succ_le_of_lt hlt)
    have h1 := h.1; have h2 := h'.2
    exact absurd (Nat.lt_of_lt_of_le h2 this) (Nat.not_lt.2 h1)
  · refine Nat.le_of_not_lt fun hlt => ?_
    have := Nat.mul_le_mul (Nat.succ_le_of_lt hlt) (Nat.succ_le_of_lt hlt)
    have h1 := h'.1; have h2 := h.2
    exact absurd (Nat.lt_of_lt_of_le h2 this) (Nat.not_lt.2 h1)

theorem IsRoot.lt {A r n : Nat} (h : IsRoot A r) (hA : A < n * n) : r < n := by
  refine Nat.lt_of_not_le fun hle => ?_
  have := Nat.mul_le_mul hle hle
  have := h.1
  omega

theorem root_step {P r t : Nat} (h : IsRoot P r) (ht : t < 4) :
    (4 * r + 1 ≤ 4 * (P - r * r) + t → IsRoot (4 * P + t) (2 * r + 1) ∧ 4 * P + t - (2 * r + 1) * (2 * r + 1) = 4 * (P - r * r) + t - (4 * r + 1)) ∧
    (4 * (P - r * r) + t < 4 * r + 1 → IsRoot (4 * P + t) (2 * r) ∧ 4 * P + t - (2 * r) * (2 * r) = 4 * (P - r * r) + t) := by
  obtain ⟨h1, h2⟩ := h
  rw [sq_succ] at h2
  have e1 : (2 * r) * (2 * r) = 4 * (r * r) := by rw [Nat.mul_mul_mul_comm]
  have e2 : (2 * r + 1) * (2 * r + 1) = 4 * (r * r) + 4 * r + 1 := by rw [sq_succ, e1]; omega
  have e3 : (2 * r + 1 + 1) * (2 * r + 1 + 1) = 4 * (r * r) + 8 * r + 4 := by rw [sq_succ, e2]; omega
  unfold IsRoot
  rw [e1, e2, e3]
  generalize r * r = q at *
  refine ⟨fun h => ⟨⟨by omega, by omega⟩, by omega⟩, fun h => ⟨⟨by omega, by omega⟩, by omega⟩⟩

theorem quarter_step (A i : Nat) : A / 2 ^ i = 4 * (A / 2 ^ (i + 2)) + A / 2 ^ i % 4 := by
  have hd : A / 2 ^ (i + 2) = A / 2 ^ i / 4 := by rw [Nat.pow_add, Nat.div_div_eq_div_mul]
  rw [hd]; omega

theorem or_three {X t : Nat} (ht : t < 4) : bOr .u64 (lo (4 * X)) (t : Int) = lo (4 * X + t) := by
  unfold lo
  rw [bOr_nat (lo_lt _) (by omega)]
  have : (4 * X % 2 ^ 64) ||| t = 4 * X % 2 ^ 64 + t := or_add (s := 2) (by omega) ht
  rw [this]; congr 1; omega

theorem hi_three {X t : Nat} (ht : t < 4) : hi (4 * X + t) = hi (4 * X) := by
  unfold hi; congr 1; omega

end Go.Proofs.Ytnbmconaglehbaa.N
