/- Sums, differences, sizes by the reference and by the program: what they come to. Conditions: none. -/
import Derived.Test.YtnbmconaglehbaaWm5
namespace Go.Proofs.Ytnbmconaglehbaa.N
set_option linter.unusedVariables false
set_option linter.unusedSimpArgs false
open Go Go.Ab

/-! ### Shr by the reference -/

theorem decide_mod_succ (A s i : Nat) (h : i < s) : (decide (A % 2 ^ (i + 1) ≠ 0)) = (decide (A % 2 ^ i ≠ 0) || A.testBit i) := by
  rw [Nat.pow_succ, Nat.mod_mul, ← Nat.toNat_testBit]
  have hp : 0 < 2 ^ i := Nat.two_pow_pos i
  cases A.testBit i <;> simp <;> omega

theorem refShr_loop {R : Type} (k : Nat) (A : Nat) (s : Nat) (hs : s < 2 ^ 63) (a b c : Int) (K : Bool → List Bool → Option R) : ∀ (m n i : Nat), m + i = 128 → m < n →
    plumblineref01_Shr_l0 k n (s : Int) (decide (A % 2 ^ (min i s) ≠ 0)) (i : Int) a b (rowN 128 A.testBit) (rowN 128 fun j => if j + s < i then A.testBit (j + s) else false) K =
      K (decide (A % 2 ^ (min 128 s) ≠ 0)) (rowN 128 fun j => if j + s < 128 then A.testBit (j + s) else false)
  | m, 0, i, h1, h2 => by omega
  | 0, n + 1, i, h1, h2 => by
    have : i = 128 := by omega
    subst this
    rw [plumblineref01_Shr_l0, plumblineref01_Shr_l0B]
    have e0 : ¬ (((128 : Nat) : Int) < 128) := by decide
    simp only [e0, decide_false, cond_false]
  | m + 1, n + 1, i, h1, h2 => by
    rw [plumblineref01_Shr_l0, plumblineref01_Shr_l0B]
    have e0 : ((i : Int) < 128) := by omega
    have e1 : ((0 : Int) ≤ (i : Int)) := by omega
    have e2 : ((i : Int) < ((128 : Nat) : Int)) := by omega
    have e3 : i < 128 := by omega
    have ih := refShr_loop k A s hs a b c K m n (i + 1) (by omega) (by omega)
    rw [Wi64_succ (by omega)]
    by_cases his : i < s
    · have e4 : ((i : Int) < (s : Int)) := by omega
      simp only [e0, e1, e2, e4, decide_true, cond_true, rowN_length, Int.toNat_natCast, rowN_get, if_pos e3, Option.bind_some]
      have d1 : min i s = i := by omega
      have d2 : min (i + 1) s = i + 1 := by omega
      rw [d1]
      rw [d2, decide_mod_succ A s i his] at ih
      have d3 : (rowN 128 fun j => if j + s < i then A.testBit (j + s) else false) = (rowN 128 fun j => if j + s < i + 1 then A.testBit (j + s) else false) := rowN_congr fun j hj => by
        have a1 : ¬ (j + s < i) := by omega
        have a2 : ¬ (j + s < i + 1) := by omega
        simp only [a1, a2, if_false]
      rw [d3]
      cases hd : decide (A % 2 ^ i ≠ 0) with
      | true => rw [hd] at ih; simpa using ih
      | false => rw [hd] at ih; simpa using ih
    · have e4 : ¬ ((i : Int) < (s : Int)) := by omega
      have e5 : (0 : Int) ≤ ((i - s : Nat) : Int) := by omega
      have e6 : (((i - s : Nat) : Int) < ((128 : Nat) : Int)) := by omega
      have e7 : i - s < 128 := by omega
      rw [Wi64_sub (by omega) (by omega)]
      simp only [e0, e1, e2, e4, e5, e6, decide_true, decide_false, cond_true, cond_false, rowN_length, Int.toNat_natCast, rowN_get, if_pos e3, if_pos e7, Option.bind_some, rowN_set]
      have d1 : min i s = s := by omega
      have d2 : min (i + 1) s = s := by omega
      rw [d1]
      rw [d2] at ih
      refine Eq.trans ?_ ih
      congr 1
      refine rowN_congr fun j hj => ?_
      by_cases c : j = i - s
      · subst c
        have a1 : i - s + s < i + 1 := by omega
        have a2 : i - s + s = i := by omega
        simp [a2]
      · have a1 : (j + s < i + 1) ↔ (j + s < i) := by omega
        simp only [c, a1, if_false]

theorem refShr_hl {R : Type} {k A : Nat} {n : Int} (hk : 5000 ≤ k) (hA : A < 2 ^ 128) (hn : (Lit.int .i64 n).wf = true) (K : Int → Int → Bool → Option R) :
    plumblineref01_Shr k (hi A) (lo A) n K = K (hi (A / 2 ^ n.toNat)) (lo (A / 2 ^ n.toNat)) (decide (A % 2 ^ n.toNat ≠ 0)) := by
  have hb := i64_wf hn
  have key : ∀ s : Nat, s < 2 ^ 63 → (plumblineref01_Bits k (hi A) (lo A) (fun r1 =>
      plumblineref01_Shr_l0 k k (s : Int) false 0 0 0 r1 (List.replicate 128 false) (fun r2 r3 => plumblineref01_From k r3 (fun r4 r5 => K r4 r5 r2)))) = K (hi (A / 2 ^ s)) (lo (A / 2 ^ s)) (decide (A % 2 ^ s ≠ 0)) := by
    intro s hs
    rw [Bits_hl hk hA, rowN_false]
    have h := refShr_loop k A s hs 0 0 0 (fun r2 r3 => plumblineref01_From k r3 (fun r4 r5 => K r4 r5 r2)) 128 k 0 (by omega) (by omega)
    have e : (rowN 128 fun j => if j + s < 0 then A.testBit (j + s) else false) = rowN 128 (fun _ => false) := rowN_congr fun j hj => by
      have : ¬ (j + s < 0) := by omega
      simp only [this, if_false]
    rw [e] at h
    have e2 : (decide (A % 2 ^ (min 0 s) ≠ 0)) = false := by simp [Nat.mod_one]
    rw [e2] at h
    refine h.trans ?_
    have hq : A / 2 ^ s < 2 ^ 128 := Nat.lt_of_le_of_lt (Nat.div_le_self _ _) hA
    rw [From_num hk hq (fun i hi => ?_)]
    · congr 1
      by_cases c : s ≤ 128
      · rw [Nat.min_eq_right c]
      · rw [Nat.min_eq_left (by omega), Nat.mod_eq_of_lt hA, Nat.mod_eq_of_lt (Nat.lt_of_lt_of_le hA (Nat.pow_le_pow_right (by decide) (by omega)))]
    · rw [Nat.testBit_div_two_pow]
      by_cases c : i + s < 128
      · simp [c]
      · simp only [c, if_false]
        exact (Nat.testBit_lt_two_pow (Nat.lt_of_lt_of_le hA (Nat.pow_le_pow_right (by decide) (by omega)))).symm
  unfold plumblineref01_Shr
  by_cases h0 : n < 0
  · have : n.toNat = 0 := by omega
    simp only [h0, decide_true, cond_true, this]
    exact key 0 (by decide)
  · obtain ⟨s, rfl⟩ : ∃ s : Nat, n = (s : Int) := ⟨n.toNat, by omega⟩
    simp only [h0, decide_false, cond_false, Int.toNat_natCast]
    exact key s (by omega)

/-! ### add -/

def carryAt (A B : Nat) (c : Bool) (i : Nat) : Bool := decide (2 ^ i ≤ A % 2 ^ i + B % 2 ^ i + c.toNat)

theorem carry_zero (A B : Nat) (c : Bool) : carryAt A B c 0 = c := by cases c <;> simp [carryAt, Nat.mod_one]

theorem add_bit (A B : Nat) (c : Bool) (i : Nat) : (A + B + c.toNat).testBit i = Bool.xor (Bool.xor (A.testBit i) (B.testBit i)) (carryAt A B c i) ∧
    carryAt A B c (i + 1) = decide (2 ≤ (A.testBit i).toNat + (B.testBit i).toNat + (carryAt A B c i).toNat) := by
  have hp : 0 < 2 ^ i := Nat.two_pow_pos i
  have hA := Nat.div_add_mod A (2 ^ i)
  have hB := Nat.div_add_mod B (2 ^ i)
  have ha := Nat.mod_lt A hp
  have hb := Nat.mod_lt B hp
  have hc : c.toNat ≤ 1 := Bool.toNat_le _
  have e1 : (A + B + c.toNat) / 2 ^ i = A / 2 ^ i + B / 2 ^ i + (carryAt A B c i).toNat := by
    have : A + B + c.toNat = 2 ^ i * (A / 2 ^ i + B / 2 ^ i) + (A % 2 ^ i + B % 2 ^ i + c.toNat) := by
      rw [Nat.mul_add]; omega
    rw [this, Nat.mul_add_div hp]
    congr 1
    unfold carryAt
    by_cases h : 2 ^ i ≤ A % 2 ^ i + B % 2 ^ i + c.toNat
    · simp only [h, decide_true, Bool.toNat_true]
      rw [Nat.div_eq_of_lt_le] <;> omega
    · simp only [h, decide_false, Bool.toNat_false]
      exact Nat.div_eq_of_lt (by omega)
  constructor
  · rw [Nat.testBit_eq_decide_div_mod_eq, e1, Nat.testBit_eq_decide_div_mod_eq, Nat.testBit_eq_decide_div_mod_eq]
    have := Nat.mod_two_eq_zero_or_one (A / 2 ^ i)
    have := Nat.mod_two_eq_zero_or_one (B / 2 ^ i)
    cases carryAt A B c i <;> by_cases p : A / 2 ^ i % 2 = 1 <;> by_cases q : B / 2 ^ i % 2 = 1 <;> simp [p, q] <;> omega
  · have mA : A % 2 ^ (i + 1) = A % 2 ^ i + 2 ^ i * (A.testBit i).toNat := by rw [Nat.pow_succ, Nat.mod_mul, Nat.toNat_testBit]
    have mB : B % 2 ^ (i + 1) = B % 2 ^ i + 2 ^ i * (B.testBit i).toNat := by rw [Nat.pow_succ, Nat.mod_mul, Nat.toNat_testBit]
    unfold carryAt
    rw [mA, mB, Nat.pow_succ]
    cases A.testBit i <;> cases B.testBit i <;> by_cases h : 2 ^ i ≤ A % 2 ^ i + B % 2 ^ i + c.toNat <;> simp [h] <;> omega

theorem add_loop {R : Type} (k : Nat) (A B : Nat) (c : Bool) (K : Bool → List Bool → Option R) : ∀ (m n i : Nat), m + i = 128 → m < n →
    plumblineref01_add_l0 k n (carryAt A B c i) 128 (i : Int) (rowN 128 A.testBit) (rowN 128 B.testBit) (rowN 129 fun j => if j < i then (A + B + c.toNat).testBit j else false) K =
      K (carryAt A B c 128) (rowN 129 fun j => if j < 128 then (A + B + c.toNat).testBit j else false)
  | m, 0, i, h1, h2 => by omega
  | 0, n + 1, i, h1, h2 => by
    have : i = 128 := by omega
    subst this
    rw [plumblineref01_add_l0, plumblineref01_add_l0B]
    have e0 : ¬ (((128 : Nat) : Int) < 128) := by decide
    simp only [e0, decide_false, cond_false]
  | m + 1, n + 1, i, h1, h2 => by
    rw [plumblineref01_add_l0, plumblineref01_add_l0B]
    have e0 : ((i : Int) < 128) := by omega
    have e1 : ((0 : Int) ≤ (i : Int)) := by omega
    have e2 : ((i : Int) < ((128 : Nat) : Int)) := by omega
    have e2' : ((i : Int) < ((129 : Nat) : Int)) := by omega
    have e3 : i < 128 := by omega
    have e3' : i < 129 := by omega
    have ih := add_loop k A B c K m n (i + 1) (by omega) (by omega)
    rw [Wi64_succ (by omega)]
    obtain ⟨hb, hc⟩ := add_bit A B c i
    have hrow : ∀ b : Bool, b = (A + B + c.toNat).testBit i → (rowN 129 fun j => if j = i then b else if j < i then (A + B + c.toNat).testBit j else false) = rowN 129 fun j => if j < i + 1 then (A + B + c.toNat).testBit j else false := by
      intro b hb
      refine rowN_congr fun j hj => ?_
      by_cases cc : j = i
      · subst cc; simp [hb]
      · have a1 : (j < i + 1) ↔ (j < i) := by omega
        simp only [cc, a1, if_false]
    rw [hc] at ih
    simp only [e0, e1, e2, e2', decide_true, cond_true, rowN_length, Int.toNat_natCast, rowN_get, if_pos e3, if_pos e3', Option.bind_some, rowN_set]
    rw [hb] at hrow
    cases hx : A.testBit i <;> cases hy : B.testBit i <;> cases hz : carryAt A B c i <;> rw [hx, hy, hz] at ih hrow <;> simp only [cond_true, cond_false] <;> first | (rw [hrow true rfl]; exact ih) | (rw [hrow false rfl]; exact ih)

theorem add_row {R : Type} {k A B : Nat} (hk : 5000 ≤ k) (hA : A < 2 ^ 128) (hB : B < 2 ^ 128) (c : Bool) (K : List Bool → Option R) :
    plumblineref01_add k c (rowN 128 A.testBit) (rowN 128 B.testBit) K = K (rowN 129 (A + B + c.toNat).testBit) := by
  unfold plumblineref01_add
  simp only [rowN_length]
  have e0 : ¬ (((128 : Nat) : Int) > ((128 : Nat) : Int)) := by decide
  have e1 : Wi64 (((128 : Nat) : Int) + 1) = ((129 : Nat) : Int) := Wi64_succ (by decide)
  rw [e1, rowN_false]
  have e2 : (0 : Int) ≤ ((129 : Nat) : Int) := by decide
  have e3 : ((129 : Nat) : Int) ≤ ((129 : Nat) : Int) := by decide
  have e4 : (((129 : Nat) : Int) * 1) ≤ 140737488355328 := by decide
  have e5 : (0 : Int) ≤ ((128 : Nat) : Int) := by decide
  simp only [e0, e2, e3, e4, e5, decide_false, decide_true, cond_false, cond_true, Int.toNat_natCast]
  have h := add_loop k A B c (fun r4 r5 =>
            cond (decide (((128 : Nat) : Int) < (((List.length r5) : Nat) : Int))) (
                Option.bind (r5[128]?) fun e6 =>
                K (List.set r5 128 r4)) (
                none)) 128 k 0 (by omega) (by omega)
  rw [carry_zero] at h
  have e : (rowN 129 fun j => if j < 0 then (A + B + c.toNat).testBit j else false) = rowN 129 (fun _ => false) := rowN_congr fun j hj => by simp
  rw [e] at h
  refine h.trans ?_
  have e6 : ((128 : Nat) : Int) < ((129 : Nat) : Int) := by decide
  have e7 : 128 < 129 := by decide
  simp only [rowN_length, e6, decide_true, cond_true, rowN_get, if_pos e7, Option.bind_some, rowN_set]
  congr 1
  refine rowN_congr fun j hj => ?_
  by_cases cc : j = 128
  · subst cc
    obtain ⟨hb, _⟩ := add_bit A B c 128
    rw [hb, Nat.testBit_lt_two_pow hA, Nat.testBit_lt_two_pow hB]
    simp
  · have : j < 128 := by omega
    simp only [cc, this, if_false, if_true]

theorem refAdd_hl {R : Type} {k A B : Nat} (hk : 5000 ≤ k) (hA : A < 2 ^ 128) (hB : B < 2 ^ 128) (K : Int → Int → Bool → Option R) :
    plumblineref01_Add k (hi A) (lo A) (hi B) (lo B) K = K (hi ((A + B) % 2 ^ 128)) (lo ((A + B) % 2 ^ 128)) (decide (2 ^ 128 ≤ A + B)) := by
  unfold plumblineref01_Add
  rw [Bits_hl hk hA, Bits_hl hk hB, add_row hk hA hB]
  have e0 : ((128 : Nat) : Int) < ((129 : Nat) : Int) := by decide
  have e1 : (128 : Nat) < 129 := by decide
  rw [From_row hk (by decide)]
  simp only [rowN_length, Bool.toNat_false, Nat.add_zero]
  have e2 : (128 : Int) < ((129 : Nat) : Int) := by decide
  simp only [e2, decide_true, cond_true, rowN_get, if_pos e1, Option.bind_some]
  have e3 : min 129 128 = 128 := by decide
  rw [e3, nOf_bits]
  congr 1
  rw [Nat.testBit_eq_decide_div_mod_eq]
  rw [e128] at *
  rw [Bool.eq_iff_iff]
  simp only [decide_eq_true_eq]
  omega

theorem refSub_loop {R : Type} (k : Nat) (B : Nat) (a b c d : Int) (K : List Bool → Option R) : ∀ (m n i : Nat), m + i = 128 → m < n →
    plumblineref01_Sub_l0 k n (i : Int) a b c d (rowN 128 fun j => if j < i then !B.testBit j else B.testBit j) K = K (rowN 128 fun j => !B.testBit j)
  | m, 0, i, h1, h2 => by omega
  | 0, n + 1, i, h1, h2 => by
    have : i = 128 := by omega
    subst this
    rw [plumblineref01_Sub_l0, plumblineref01_Sub_l0B]
    have e0 : ¬ (((128 : Nat) : Int) < 128) := by decide
    simp only [e0, decide_false, cond_false]
    exact congrArg K (rowN_congr fun j hj => by simp [hj])
  | m + 1, n + 1, i, h1, h2 => by
    rw [plumblineref01_Sub_l0, plumblineref01_Sub_l0B]
    have e0 : ((i : Int) < 128) := by omega
    have e1 : ((0 : Int) ≤ (i : Int)) := by omega
    have e2 : ((i : Int) < ((128 : Nat) : Int)) := by omega
    have e3 : i < 128 := by omega
    rw [Wi64_succ (by omega)]
    simp only [e0, e1, e2, decide_true, cond_true, rowN_length, Int.toNat_natCast, rowN_get, if_pos e3, Option.bind_some, rowN_set]
    refine Eq.trans ?_ (refSub_loop k B a b c d K m n (i + 1) (by omega) (by omega))
    congr 1
    refine rowN_congr fun j hj => ?_
    by_cases cc : j = i
    · subst cc; simp
    · have a1 : (j < i + 1) ↔ (j < i) := by omega
      simp only [cc, a1, if_false]

theorem refSub_hl {R : Type} {k A B : Nat} (hk : 5000 ≤ k) (hA : A < 2 ^ 128) (hB : B < 2 ^ 128) (K : Int → Int → Bool → Option R) :
    plumblineref01_Sub k (hi A) (lo A) (hi B) (lo B) K = K (hi ((A + 2 ^ 128 - B) % 2 ^ 128)) (lo ((A + 2 ^ 128 - B) % 2 ^ 128)) (decide (A < B)) := by
  unfold plumblineref01_Sub
  rw [Bits_hl hk hB]
  have h := refSub_loop k B (hi A) (lo A) 0 0 (fun r2 =>
      plumblineref01_Bits k (hi A) (lo A) (fun r3 =>
        plumblineref01_add k true r3 r2 (fun r4 =>
          plumblineref01_From k r4 (fun r5 r6 =>
            cond (decide (128 < (((List.length r4) : Nat) : Int))) (
              Option.bind (r4[128]?) fun e7 =>
              K r5 r6 (!e7)) (
              none))))) 128 k 0 (by omega) (by omega)
  have e : (rowN 128 fun j => if j < 0 then !B.testBit j else B.testBit j) = rowN 128 B.testBit := rowN_congr fun j hj => by simp
  rw [e] at h
  refine h.trans ?_
  rw [Bits_hl hk hA]
  have hN : 2 ^ 128 - (B + 1) < 2 ^ 128 := by omega
  have e2 : (rowN 128 fun j => !B.testBit j) = rowN 128 (2 ^ 128 - (B + 1)).testBit := rowN_congr fun j hj => by
    rw [Nat.testBit_two_pow_sub_succ hB]; simp [hj]
  rw [e2, add_row hk hA hN, From_row hk (by decide)]
  have e1 : (128 : Nat) < 129 := by decide
  have e3 : (128 : Int) < ((129 : Nat) : Int) := by decide
  simp only [rowN_length, Bool.toNat_true, e3, decide_true, cond_true, rowN_get, if_pos e1, Option.bind_some]
  have e4 : min 129 128 = 128 := by decide
  have e5 : A + (2 ^ 128 - (B + 1)) + 1 = A + 2 ^ 128 - B := by omega
  rw [e4, nOf_bits, e5]
  congr 1
  rw [Nat.testBit_eq_decide_div_mod_eq]
  rw [e128] at *
  rw [Bool.eq_iff_iff]
  simp only [Bool.not_eq_true', decide_eq_false_iff_not, decide_eq_true_eq]
  omega

/-! ### Add, Sub, by the program -/

theorem Add_hl {R : Type} (k : Nat) {A B : Nat} (hA : A < 2 ^ 128) (hB : B < 2 ^ 128) (K : Int → Int → Bool → Option R) :
    wide_Add k (hi A) (lo A) (hi B) (lo B) K = K (hi ((A + B) % 2 ^ 128)) (lo ((A + B) % 2 ^ 128)) (decide (2 ^ 128 ≤ A + B)) := by
  unfold wide_Add add64 carry64 hi lo
  have h1 := lo_lt A
  have h2 := lo_lt B
  have h3 := hi_lt hA
  have h4 := hi_lt hB
  have eA := V_hl A
  have eB := V_hl B
  unfold V at eA eB
  simp only [Int.toNat_natCast, Int.toNat_zero, Nat.add_zero, Int.ofNat_eq_natCast]
  generalize A / 2 ^ 64 = a at *
  generalize A % 2 ^ 64 = b at *
  generalize B / 2 ^ 64 = c at *
  generalize B % 2 ^ 64 = d at *
  subst eA eB
  rw [e128, e64] at *
  have c1 : (((b + d) / 18446744073709551616 : Nat) : Int) ≤ 1 := by omega
  simp only [c1, decide_true, cond_true]
  have k1 : (a + c + (b + d) / 18446744073709551616) % 18446744073709551616 = (a * 18446744073709551616 + b + (c * 18446744073709551616 + d)) % 340282366920938463463374607431768211456 / 18446744073709551616 := by omega
  have k2 : (b + d) % 18446744073709551616 = (a * 18446744073709551616 + b + (c * 18446744073709551616 + d)) % 340282366920938463463374607431768211456 % 18446744073709551616 := by omega
  rw [← k1, ← k2]
  congr 1
  rw [Bool.eq_iff_iff]
  simp only [beq_iff_eq, decide_eq_true_eq]
  omega

theorem Sub_hl {R : Type} (k : Nat) {A B : Nat} (hA : A < 2 ^ 128) (hB : B < 2 ^ 128) (K : Int → Int → Bool → Option R) :
    wide_Sub k (hi A) (lo A) (hi B) (lo B) K = K (hi ((A + 2 ^ 128 - B) % 2 ^ 128)) (lo ((A + 2 ^ 128 - B) % 2 ^ 128)) (decide (A < B)) := by
  unfold wide_Sub sub64 borrow64 hi lo
  have h1 := lo_lt A
  have h2 := lo_lt B
  have h3 := hi_lt hA
  have h4 := hi_lt hB
  have eA := V_hl A
  have eB := V_hl B
  unfold V at eA eB
  simp only [Int.toNat_natCast, Int.toNat_zero, Nat.add_zero, Nat.sub_zero, Int.ofNat_eq_natCast]
  generalize A / 2 ^ 64 = a at *
  generalize A % 2 ^ 64 = b at *
  generalize B / 2 ^ 64 = c at *
  generalize B % 2 ^ 64 = d at *
  subst eA eB
  rw [e128, e64] at *
  have c1 : (((if b < d then 1 else 0) : Nat) : Int) ≤ 1 := by split <;> omega
  simp only [c1, decide_true, cond_true]
  have k1 : (a + 18446744073709551616 - c - if b < d then 1 else 0) % 18446744073709551616 = (a * 18446744073709551616 + b + 340282366920938463463374607431768211456 - (c * 18446744073709551616 + d)) % 340282366920938463463374607431768211456 / 18446744073709551616 := by split <;> omega
  have k2 : (b + 18446744073709551616 - d) % 18446744073709551616 = (a * 18446744073709551616 + b + 340282366920938463463374607431768211456 - (c * 18446744073709551616 + d)) % 340282366920938463463374607431768211456 % 18446744073709551616 := by omega
  rw [← k1, ← k2]
  congr 1
  rw [Bool.eq_iff_iff]
  simp only [beq_iff_eq, decide_eq_true_eq]
  split <;> split <;> omega

/-! ### Compare -/

def sgn (A B : Nat) : Int := if A < B then -1 else if B < A then 1 else 0

theorem Compare_hl {R : Type} {k A B : Nat} (hk : 5000 ≤ k) (K : Int → Option R) : wide_Compare k (hi A) (lo A) (hi B) (lo B) K = K (sgn A B) := by
  obtain ⟨k, rfl⟩ : ∃ j, k = j + 3 := ⟨k - 3, by omega⟩
  have hs : ∀ x y : Nat, ∀ L : Int → Option R, cmp_Compare_uint64 (k + 3) (x : Int) (y : Int) L = L (sgn x y) := by
    intro x y L
    unfold cmp_Compare_uint64 cmp_isNaN_uint64 sgn
    simp only [bne_self_eq_false, cond_false]
    by_cases h1 : x < y
    · have : (x : Int) < (y : Int) := by omega
      simp only [this, h1, decide_true, cond_true, if_true]
    · by_cases h2 : y < x
      · have a1 : ¬ (x : Int) < (y : Int) := by omega
        have a2 : (x : Int) > (y : Int) := by omega
        simp only [a1, a2, h1, h2, decide_true, decide_false, cond_true, cond_false, if_true, if_false]
      · have a1 : ¬ (x : Int) < (y : Int) := by omega
        have a2 : ¬ (x : Int) > (y : Int) := by omega
        simp only [a1, a2, h1, h2, decide_true, decide_false, cond_true, cond_false, if_true, if_false]
  unfold wide_Compare wide_words hi lo
  rw [hs, hs]
  unfold cmp_Or_int
  rw [cmp_Or_int_l0, cmp_Or_int_l0B]
  have d1 : A = 2 ^ 64 * (A / 2 ^ 64) + A % 2 ^ 64 := (Nat.div_add_mod _ _).symm
  have d2 : B = 2 ^ 64 * (B / 2 ^ 64) + B % 2 ^ 64 := (Nat.div_add_mod _ _).symm
  have l1 := lo_lt A
  have l2 := lo_lt B
  have e1 : Wi64 (0 + 1) = 1 := by decide
  have e2 : Wi64 (1 + 1) = 2 := by decide
  have c1 : ((0 : Int) < ((List.length [sgn (A / 2 ^ 64) (B / 2 ^ 64), sgn (A % 2 ^ 64) (B % 2 ^ 64)] : Nat) : Int)) := by simp
  have c2 : ((1 : Int) < ((List.length [sgn (A / 2 ^ 64) (B / 2 ^ 64), sgn (A % 2 ^ 64) (B % 2 ^ 64)] : Nat) : Int)) := by simp
  have c3 : ¬ ((2 : Int) < ((List.length [sgn (A / 2 ^ 64) (B / 2 ^ 64), sgn (A % 2 ^ 64) (B % 2 ^ 64)] : Nat) : Int)) := by simp
  have z0 : (0 : Int) ≤ 0 := by decide
  have z1 : (0 : Int) ≤ 1 := by decide
  rw [e1, cmp_Or_int_l0, cmp_Or_int_l0B, e2, cmp_Or_int_l0, cmp_Or_int_l0B]
  simp only [c1, c2, c3, z0, z1, decide_true, decide_false, cond_true, cond_false, Int.toNat_zero, Int.toNat_one, List.getElem?_cons_zero, List.getElem?_cons_succ, Option.bind_some]
  rw [e64] at *
  generalize A / 18446744073709551616 = a at *
  generalize A % 18446744073709551616 = b at *
  generalize B / 18446744073709551616 = c at *
  generalize B % 18446744073709551616 = d at *
  subst d1 d2
  unfold sgn
  by_cases h1 : a < c
  · have : 18446744073709551616 * a + b < 18446744073709551616 * c + d := by omega
    simp only [h1, this, if_true]; rfl
  · by_cases h2 : c < a
    · have x1 : ¬ 18446744073709551616 * a + b < 18446744073709551616 * c + d := by omega
      have x2 : 18446744073709551616 * c + d < 18446744073709551616 * a + b := by omega
      simp only [h1, h2, x1, x2, if_true, if_false]; rfl
    · have : a = c := by omega
      subst this
      have x1 : (18446744073709551616 * a + b < 18446744073709551616 * a + d) ↔ b < d := by omega
      have x2 : (18446744073709551616 * a + d < 18446744073709551616 * a + b) ↔ d < b := by omega
      simp only [h1, x1, x2, if_false]
      by_cases h3 : b < d
      · simp only [h3, if_true]; rfl
      · by_cases h4 : d < b
        · simp only [h3, h4, if_true, if_false]; rfl
        · simp only [h3, h4, if_false]; rfl

theorem div_lt_of_bits {A B i : Nat} (h : A / 2 ^ (i + 1) = B / 2 ^ (i + 1)) (h1 : A.testBit i = true) (h2 : B.testBit i = false) : B < A := by
  have eA : A / 2 ^ i = 2 * (A / 2 ^ (i + 1)) + 1 := by
    have := Nat.toNat_testBit A i
    rw [h1] at this
    have hd : A / 2 ^ (i + 1) = A / 2 ^ i / 2 := by rw [Nat.pow_succ, Nat.div_div_eq_div_mul]
    rw [hd]
    simp at this
    omega
  have eB : B / 2 ^ i = 2 * (B / 2 ^ (i + 1)) := by
    have := Nat.toNat_testBit B i
    rw [h2] at this
    have hd : B / 2 ^ (i + 1) = B / 2 ^ i / 2 := by rw [Nat.pow_succ, Nat.div_div_eq_div_mul]
    rw [hd]
    simp at this
    omega
  have hlt : B / 2 ^ i < A / 2 ^ i := by omega
  exact Nat.lt_of_not_le fun hle => by
    have := Nat.div_le_div_right (c := 2 ^ i) hle
    omega

theorem div_eq_of_bits {A B i : Nat} (h : A / 2 ^ (i + 1) = B / 2 ^ (i + 1)) (h1 : A.testBit i = B.testBit i) : A / 2 ^ i = B / 2 ^ i := by
  have a1 := Nat.toNat_testBit A i
  have b1 := Nat.toNat_testBit B i
  have hd : A / 2 ^ (i + 1) = A / 2 ^ i / 2 := by rw [Nat.pow_succ, Nat.div_div_eq_div_mul]
  have hd2 : B / 2 ^ (i + 1) = B / 2 ^ i / 2 := by rw [Nat.pow_succ, Nat.div_div_eq_div_mul]
  rw [hd, hd2] at h
  rw [h1] at a1
  omega

theorem refCompare_loop {R : Type} (k : Nat) (A B : Nat) (K : Int → Option R) : ∀ (i n : Nat), i ≤ 128 → i < n → A / 2 ^ i = B / 2 ^ i →
    plumblineref01_Compare_l0 k n ((i : Int) - 1) (rowN 128 A.testBit) (rowN 128 B.testBit) K (K 0) = K (sgn A B)
  | i, 0, h1, h2, _ => by omega
  | 0, n + 1, h1, h2, h3 => by
    rw [plumblineref01_Compare_l0, plumblineref01_Compare_l0B]
    have e0 : ¬ ((((0 : Nat) : Int) - 1) ≥ 0) := by decide
    simp only [e0, decide_false, cond_false]
    simp only [Nat.pow_zero, Nat.div_one] at h3
    subst h3
    simp [sgn]
  | i + 1, n + 1, h1, h2, h3 => by
    rw [plumblineref01_Compare_l0, plumblineref01_Compare_l0B]
    have e : (((i + 1 : Nat) : Int) - 1) = (i : Int) := by omega
    have e0 : ((i : Int) ≥ 0) := by omega
    have e1 : ((0 : Int) ≤ (i : Int)) := by omega
    have e2 : ((i : Int) < ((128 : Nat) : Int)) := by omega
    have e3 : i < 128 := by omega
    have e8 : Wi64 ((i : Int) - 1) = ((i : Int) - 1) := wrap_i64 (by omega) (by omega)
    rw [e, e8]
    simp only [e0, e1, e2, decide_true, cond_true, rowN_length, Int.toNat_natCast, rowN_get, if_pos e3, Option.bind_some]
    by_cases hb : A.testBit i = B.testBit i
    · have : (!(A.testBit i == B.testBit i)) = false := by simp [hb]
      rw [this]
      simp only [cond_false]
      exact refCompare_loop k A B K i n (by omega) (by omega) (div_eq_of_bits h3 hb)
    · have : (!(A.testBit i == B.testBit i)) = true := by simp [hb]
      rw [this]
      simp only [cond_true]
      cases hx : A.testBit i with
      | true =>
        have hy : B.testBit i = false := by rw [hx] at hb; cases hq : B.testBit i with | true => exact absurd hq.symm hb | false => rfl
        have h9 := div_lt_of_bits h3 hx hy
        have : ¬ A < B := by omega
        simp [sgn, this, h9]
      | false =>
        have hy : B.testBit i = true := by rw [hx] at hb; cases hq : B.testBit i with | true => rfl | false => exact absurd hq.symm hb
        have := div_lt_of_bits h3.symm hy hx
        simp [sgn, this]

theorem refCompare_hl {R : Type} {k A B : Nat} (hk : 5000 ≤ k) (hA : A < 2 ^ 128) (hB : B < 2 ^ 128) (K : Int → Option R) : plumblineref01_Compare k (hi A) (lo A) (hi B) (lo B) K = K (sgn A B) := by
  unfold plumblineref01_Compare
  rw [Bits_hl hk hA, Bits_hl hk hB]
  exact refCompare_loop k A B K 128 k (by omega) (by omega) (by rw [Nat.div_eq_of_lt hA, Nat.div_eq_of_lt hB])

end Go.Proofs.Ytnbmconaglehbaa.N
