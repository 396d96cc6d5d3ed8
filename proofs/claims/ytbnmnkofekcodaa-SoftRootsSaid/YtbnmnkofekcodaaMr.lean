/- The reference: bits and moves. Conditions: none. -/
import Derived.Test.YtbnmnkofekcodaaMa
import Derived.Test.YtbnmnkofekcodaaNr01
import Derived.Test.YtbnmnkofekcodaaMb
namespace Go.Proofs.Ytbnmnkofekcodaa.N
set_option linter.unusedVariables false
set_option linter.unusedSimpArgs false
open Go Go.Ab

/-- 128 bits told by a function. -/
def row (f : Nat → Bool) : List Bool := (List.range 128).map f

theorem row_length (f : Nat → Bool) : (row f).length = 128 := by simp [row]

theorem row_get (f : Nat → Bool) (i : Nat) : (row f)[i]? = if i < 128 then some (f i) else none := by
  unfold row
  rw [List.getElem?_map]
  by_cases h : i < 128
  · rw [List.getElem?_range h, if_pos h]; rfl
  · rw [List.getElem?_eq_none (by simp; omega), if_neg h]; rfl

theorem row_set (f : Nat → Bool) (i : Nat) (b : Bool) : (row f).set i b = row (fun j => if j = i then b else f j) := by
  apply List.ext_getElem?
  intro j
  rw [List.getElem?_set, row_get, row_length, row_get]
  by_cases hj : i = j
  · subst hj
    simp
  · rw [if_neg hj]
    have : ¬ j = i := fun h => hj h.symm
    simp [this]

theorem row_congr {f g : Nat → Bool} (h : ∀ i, i < 128 → f i = g i) : row f = row g := by
  apply List.ext_getElem?
  intro i
  rw [row_get, row_get]
  split
  · rename_i hi; rw [h i hi]
  · rfl

theorem row_false : List.replicate 128 false = row (fun _ => false) := by
  apply List.ext_getElem?
  intro i
  rw [row_get, List.getElem?_replicate]

theorem bit_eq {n i : Nat} (hn : n < 2 ^ 64) (hi : i ≤ 64) : (bAnd .u64 (shr .u64 (n : Int) (i : Int)) 1 == 1) = n.testBit i := by
  rw [shr_nat n i hi]
  have := bAnd_nat (n := n / 2 ^ i) (m := 1) (Nat.lt_of_le_of_lt (Nat.div_le_self _ _) hn) (by decide)
  rw [show (1 : Int) = ((1 : Nat) : Int) from rfl, this]
  have h1 : (n / 2 ^ i &&& 1) = n / 2 ^ i % 2 := Nat.and_one_is_mod _
  rw [h1, Nat.testBit_eq_decide_div_mod_eq]
  rw [Bool.eq_iff_iff]
  simp only [beq_iff_eq, decide_eq_true_eq]
  omega

theorem V_testBit {h l : Nat} (hl : l < 2 ^ 64) (i : Nat) : (V h l).testBit i = if i < 64 then l.testBit i else h.testBit (i - 64) := by
  unfold V
  rw [Nat.mul_comm, Nat.testBit_two_pow_mul_add _ hl]

theorem Bits_loop {R : Type} (k : Nat) {h l : Nat} (hh : h < 2 ^ 64) (hl : l < 2 ^ 64) (K : List Bool → Option R) : ∀ (m n i : Nat), i + m = 64 → m < n →
    plumblineref01_Bits_l0 k n (i : Int) (h : Int) (l : Int) (row fun j => if j < i then l.testBit j else if 64 ≤ j ∧ j < 64 + i then h.testBit (j - 64) else false) K = K (row (V h l).testBit)
  | m, 0, i, h1, h2 => by omega
  | 0, n + 1, i, h1, h2 => by
    have : i = 64 := by omega
    subst this
    rw [plumblineref01_Bits_l0, plumblineref01_Bits_l0B]
    have e0 : ¬ (((64 : Nat) : Int) < 64) := by decide
    simp only [e0, decide_false, cond_false]
    congr 1
    refine row_congr fun j hj => ?_
    rw [V_testBit hl]
    by_cases h1 : j < 64
    · simp [h1]
    · have : 64 ≤ j ∧ j < 64 + 64 := by omega
      simp [h1, this]
  | m + 1, n + 1, i, h1, h2 => by
    rw [plumblineref01_Bits_l0, plumblineref01_Bits_l0B]
    have e0 : ((i : Int) < 64) := by omega
    have e1 : ¬ ((i : Int) < 0) := by omega
    have e2 : (0 : Int) ≤ (i : Int) := by omega
    have e3 : Wi64 (64 + (i : Int)) = ((64 + i : Nat) : Int) := by rw [wrap_i64 (by omega) (by omega)]; omega
    have e4 : Wi64 ((i : Int) + 1) = ((i + 1 : Nat) : Int) := by rw [wrap_i64 (by omega) (by omega)]; omega
    have e5 : (0 : Int) ≤ ((64 + i : Nat) : Int) := by omega
    have e6 : ((i : Int) < ((128 : Nat) : Int)) := by omega
    have e7 : (((64 + i : Nat) : Int) < ((128 : Nat) : Int)) := by omega
    rw [e3, e4]
    simp only [Int.toNat_natCast, row_set, row_length, row_get, e0, e1, e2, e5, e6, e7, decide_true, decide_false, cond_true, cond_false, bit_eq hl (by omega : i ≤ 64), bit_eq hh (by omega : i ≤ 64)]
    have e8 : i < 128 := by omega
    have e9 : 64 + i < 128 := by omega
    simp only [e8, e9, if_true, Option.bind_some]
    refine Eq.trans ?_ (Bits_loop k hh hl K m n (i + 1) (by omega) (by omega))
    congr 1
    refine row_congr fun j hj => ?_
    by_cases c1 : j = 64 + i
    · subst c1; simp; omega
    · by_cases c2 : j = i
      · subst c2; simp [c1]
      · have d1 : (j < i + 1) ↔ (j < i) := by omega
        have d2 : (64 ≤ j ∧ j < 64 + (i + 1)) ↔ (64 ≤ j ∧ j < 64 + i) := by omega
        simp only [c1, c2, if_false, d1, d2]

theorem Bits_spec {R : Type} {k h l : Nat} (hk : 65 ≤ k) (hh : h < 2 ^ 64) (hl : l < 2 ^ 64) (K : List Bool → Option R) : plumblineref01_Bits k (h : Int) (l : Int) K = K (row (V h l).testBit) := by
  unfold plumblineref01_Bits plumblineref01_BitsT
  rw [row_false]
  have := Bits_loop k hh hl K 64 k 0 (by omega) (by omega)
  refine Eq.trans ?_ this
  have e : (row fun _ => false) = row (fun j => if j < 0 then l.testBit j else if 64 ≤ j ∧ j < 64 + 0 then h.testBit (j - 64) else false) := row_congr fun j hj => by
    have d : ¬ (64 ≤ j ∧ j < 64 + 0) := by omega
    simp [d]
  rw [e]; rfl

theorem row_eq (f : Nat → Bool) : row f = rowN 128 f := rfl

theorem Bits_hl {R : Type} {k A : Nat} (hk : 5000 ≤ k) (hA : A < 2 ^ 128) (K : List Bool → Option R) :
    plumblineref01_Bits k (hi A) (lo A) K = K (rowN 128 A.testBit) := by
  have := Bits_spec (k := k) (by omega) (hi_lt hA) (lo_lt A) K
  rw [V_hl] at this
  exact this

theorem From_loop {R : Type} (k : Nat) (N : Nat) (hN : N < 2 ^ 60) (f : Nat → Bool) (a b : Int) (K : Int → Int → Option R) : ∀ (m n i : Nat), i + m = 128 → m < n → i ≤ N →
    plumblineref01_From_l0 k n (i : Int) (rowN N f) a b (hi (nOf f i)) (lo (nOf f i)) K = K (hi (nOf f (min N 128))) (lo (nOf f (min N 128)))
  | m, 0, i, h1, h2, _ => by omega
  | 0, n + 1, i, h1, h2, h3 => by
    have : i = 128 := by omega
    subst this
    rw [plumblineref01_From_l0, plumblineref01_From_l0B]
    have e0 : ¬ (((128 : Nat) : Int) < 128) := by decide
    simp only [e0, decide_false, cond_false, rowN_length]
    have : min N 128 = 128 := by omega
    rw [this]
    cases decide (((128 : Nat) : Int) < (N : Int)) <;> rfl
  | m + 1, n + 1, i, h1, h2, h3 => by
    rw [plumblineref01_From_l0, plumblineref01_From_l0B]
    simp only [rowN_length]
    by_cases hN2 : i = N
    · subst hN2
      have e0 : ¬ ((i : Int) < (i : Int)) := by omega
      have : min i 128 = i := by omega
      simp only [e0, decide_false, cond_false, this]
    · have e0 : ((i : Int) < (N : Int)) := by omega
      have e1 : ((i : Int) < 128) := by omega
      have e2 : ((0 : Int) ≤ (i : Int)) := by omega
      have e3 : ¬ ((i : Int) < 0) := by omega
      have e4 : i < N := by omega
      rw [Wi64_succ (by omega)]
      simp only [e0, e1, e2, e3, decide_true, decide_false, cond_true, cond_false, Int.toNat_natCast, rowN_get, if_pos e4, Option.bind_some]
      have ih := From_loop k N hN f a b K m n (i + 1) (by omega) (by omega) (by omega)
      refine Eq.trans ?_ ih
      have hlt := nOf_lt f i
      cases hf : f i with
      | false =>
        simp only [Bool.not_false, cond_true, nOf, hf, Bool.toNat_false, Nat.zero_mul, Nat.add_zero]
      | true =>
        simp only [Bool.not_true, cond_false, nOf, hf, Bool.toNat_true, Nat.one_mul]
        by_cases h64 : i < 64
        · have c1 : ((i : Int) < 64) := by omega
          have hp : 2 ^ i ≤ 2 ^ 63 := Nat.pow_le_pow_right (by decide) (by omega)
          have hl2 : nOf f i < 2 ^ 64 := by omega
          have hl3 : nOf f i + 2 ^ i < 2 ^ 64 := by omega
          simp only [c1, decide_true, cond_true, hi_small hl2, lo_small hl2, hi_small hl3, lo_small hl3, bit_or hlt h64]
        · have c1 : ¬ ((i : Int) < 64) := by omega
          have c2 : Wi64 ((i : Int) - 64) = ((i - 64 : Nat) : Int) := by rw [wrap_i64 (by omega) (by omega)]; omega
          have c3 : ¬ (((i - 64 : Nat) : Int) < 0) := by omega
          simp only [c1, c2, c3, decide_false, cond_false]
          have hp : 2 ^ i = 2 ^ (i - 64) * 2 ^ 64 := by rw [← Nat.pow_add]; congr 1; omega
          have hd : nOf f i / 2 ^ 64 < 2 ^ (i - 64) := by rw [Nat.div_lt_iff_lt_mul (by decide), ← hp]; exact hlt
          have e5 : hi (nOf f i + 2 ^ i) = bOr .u64 (hi (nOf f i)) (shl .u64 1 ((i - 64 : Nat) : Int)) := by
            unfold hi
            rw [bit_or hd (by omega), hp, Nat.add_mul_div_right _ _ (by decide)]
          have e6 : lo (nOf f i + 2 ^ i) = lo (nOf f i) := by
            unfold lo
            rw [hp, Nat.add_mul_mod_self_right]
          rw [e5, e6]

theorem From_row {R : Type} {k N : Nat} (hk : 5000 ≤ k) (hN : N < 2 ^ 60) (f : Nat → Bool) (K : Int → Int → Option R) :
    plumblineref01_From k (rowN N f) K = K (hi (nOf f (min N 128))) (lo (nOf f (min N 128))) := by
  unfold plumblineref01_From plumblineref01_FromT
  have := From_loop k N hN f 0 0 K 128 k 0 (by omega) (by omega) (by omega)
  rw [show nOf f 0 = 0 from rfl, hi_small (by decide), lo_small (by decide)] at this
  exact this

theorem From_num {R : Type} {k A : Nat} (hk : 5000 ≤ k) (hA : A < 2 ^ 128) {f : Nat → Bool} (hf : ∀ i, i < 128 → f i = A.testBit i) (K : Int → Int → Option R) :
    plumblineref01_From k (rowN 128 f) K = K (hi A) (lo A) := by
  rw [From_row hk (by decide)]
  have : nOf f (min 128 128) = A := nOf_eq hA hf
  rw [this]

theorem refShl_loop {R : Type} (k : Nat) (A : Nat) (s : Nat) (hs : s < 2 ^ 63) (a b : Int) (K : List Bool → Option R) : ∀ (m n i : Nat), m = i → m < n → i ≤ 128 →
    plumblineref01_Shl_l0 k n (s : Int) ((i : Int) - 1) a b (rowN 128 A.testBit) (rowN 128 fun j => if i ≤ j ∧ s ≤ j then A.testBit (j - s) else false) K = K (rowN 128 fun j => if s ≤ j then A.testBit (j - s) else false)
  | m, 0, i, h1, h2, _ => by omega
  | 0, n + 1, i, h1, h2, h3 => by
    subst h1
    rw [plumblineref01_Shl_l0, plumblineref01_Shl_l0B]
    have e0 : ¬ ((((0 : Nat) : Int) - 1) ≥ 0) := by decide
    simp only [e0, decide_false, cond_false, Nat.zero_le, true_and]
  | m + 1, n + 1, i, h1, h2, h3 => by
    subst h1
    rw [plumblineref01_Shl_l0, plumblineref01_Shl_l0B]
    have e : (((m + 1 : Nat) : Int) - 1) = (m : Int) := by omega
    have e0 : ((m : Int) ≥ 0) := by omega
    rw [e]
    by_cases hsm : s ≤ m
    · have e1 : ((m : Int) ≥ (s : Int)) := by omega
      have e2 : ((0 : Int) ≤ ((m - s : Nat) : Int)) := by omega
      have e3 : ((0 : Int) ≤ (m : Int)) := by omega
      have e4 : (((m - s : Nat) : Int) < ((128 : Nat) : Int)) := by omega
      have e5 : ((m : Int) < ((128 : Nat) : Int)) := by omega
      have e6 : m - s < 128 := by omega
      have e7 : m < 128 := by omega
      have e8 : Wi64 ((m : Int) - 1) = ((m : Int) - 1) := wrap_i64 (by omega) (by omega)
      rw [Wi64_sub (by omega) hsm, e8]
      simp only [e0, e1, e2, e3, e4, e5, rowN_length, decide_true, cond_true, Int.toNat_natCast, rowN_get, if_pos e6, if_pos e7, Option.bind_some, rowN_set]
      refine Eq.trans ?_ (refShl_loop k A s hs a b K m n m rfl (by omega) (by omega))
      congr 1
      refine rowN_congr fun j hj => ?_
      by_cases c : j = m
      · subst c; simp [hsm]
      · have d : (m + 1 ≤ j) ↔ (m ≤ j) := by omega
        simp only [c, if_false, d]
    · have e1 : ¬ ((m : Int) ≥ (s : Int)) := by omega
      simp only [e0, e1, decide_true, decide_false, cond_true, cond_false]
      congr 1
      refine rowN_congr fun j hj => ?_
      have d : (m + 1 ≤ j ∧ s ≤ j) ↔ (s ≤ j) := by omega
      simp only [d]

theorem refShl_hl {R : Type} {k A : Nat} {n : Int} (hk : 5000 ≤ k) (hA : A < 2 ^ 128) (hn : (Lit.int .i64 n).wf = true) (K : Int → Int → Option R) :
    plumblineref01_Shl k (hi A) (lo A) n K = K (hi (A * 2 ^ n.toNat % 2 ^ 128)) (lo (A * 2 ^ n.toNat % 2 ^ 128)) := by
  have hb := i64_wf hn
  have key : ∀ s : Nat, s < 2 ^ 63 → (plumblineref01_Bits k (hi A) (lo A) (fun r5 =>
      plumblineref01_Shl_l0 k k (s : Int) 127 0 0 r5 (List.replicate 128 false) (fun r6 => plumblineref01_From k r6 (fun r7 r8 => K r7 r8)))) = K (hi (A * 2 ^ s % 2 ^ 128)) (lo (A * 2 ^ s % 2 ^ 128)) := by
    intro s hs
    rw [Bits_hl hk hA, rowN_false]
    have h := refShl_loop k A s hs 0 0 (fun r6 => plumblineref01_From k r6 (fun r7 r8 => K r7 r8)) 128 k 128 rfl (by omega) (by omega)
    have e : (rowN 128 fun j => if 128 ≤ j ∧ s ≤ j then A.testBit (j - s) else false) = rowN 128 (fun _ => false) := rowN_congr fun j hj => by
      have : ¬ (128 ≤ j ∧ s ≤ j) := by omega
      simp only [this, if_false]
    rw [e] at h
    refine h.trans ?_
    refine From_num hk (Nat.mod_lt _ (by decide)) (fun i hi => ?_) K
    rw [Nat.testBit_mod_two_pow, Nat.testBit_mul_two_pow]
    by_cases c : s ≤ i <;> simp [c, hi]
  unfold plumblineref01_Shl plumblineref01_ShlT
  by_cases h0 : n < 0
  · have : n.toNat = 0 := by omega
    simp only [h0, decide_true, cond_true, this]
    exact key 0 (by decide)
  · obtain ⟨s, rfl⟩ : ∃ s : Nat, n = (s : Int) := ⟨n.toNat, by omega⟩
    simp only [h0, decide_false, cond_false, Int.toNat_natCast]
    exact key s (by omega)

end Go.Proofs.Ytbnmnkofekcodaa.N

/- The reference: sums, differences, the order. Conditions: none. -/
namespace Go.Proofs.Ytbnmnkofekcodaa.N
set_option linter.unusedVariables false
set_option linter.unusedSimpArgs false
open Go Go.Ab

def carryAt (A B : Nat) (c : Bool) (i : Nat) : Bool := decide (2 ^ i ≤ A % 2 ^ i + B % 2 ^ i + c.toNat)

theorem carry_zero (A B : Nat) (c : Bool) : carryAt A B c 0 = c := by cases c <;> simp [carryAt, Nat.mod_one]

theorem add_bit (A B : Nat) (c : Bool) (i : Nat) : (A + B + c.toNat).testBit i = Bool.xor (Bool.xor (A.testBit i) (B.testBit i)) (carryAt A B c i) ∧
    carryAt A B c (i + 1) = decide (2 ≤ (A.testBit i).toNat + (B.testBit i).toNat + (carryAt A B c i).toNat) := by
  have hp : 0 < 2 ^ i := Nat.two_pow_pos i
  have hA := Nat.div_add_mod A (2 ^ i)
  have hB := Nat.div_add_mod B (2 ^ i)
  have ha := Nat.mod_lt A hp
  have hb := Nat.mod_lt B hp
  have hc : c.toNat ≤ 1 := Bool.toNat_le _
  have e1 : (A + B + c.toNat) / 2 ^ i = A / 2 ^ i + B / 2 ^ i + (carryAt A B c i).toNat := by
    have : A + B + c.toNat = 2 ^ i * (A / 2 ^ i + B / 2 ^ i) + (A % 2 ^ i + B % 2 ^ i + c.toNat) := by
      rw [Nat.mul_add]; omega
    rw [this, Nat.mul_add_div hp]
    congr 1
    unfold carryAt
    by_cases h : 2 ^ i ≤ A % 2 ^ i + B % 2 ^ i + c.toNat
    · simp only [h, decide_true, Bool.toNat_true]
      rw [Nat.div_eq_of_lt_le] <;> omega
    · simp only [h, decide_false, Bool.toNat_false]
      exact Nat.div_eq_of_lt (by omega)
  constructor
  · rw [Nat.testBit_eq_decide_div_mod_eq, e1, Nat.testBit_eq_decide_div_mod_eq, Nat.testBit_eq_decide_div_mod_eq]
    have := Nat.mod_two_eq_zero_or_one (A / 2 ^ i)
    have := Nat.mod_two_eq_zero_or_one (B / 2 ^ i)
    cases carryAt A B c i <;> by_cases p : A / 2 ^ i % 2 = 1 <;> by_cases q : B / 2 ^ i % 2 = 1 <;> simp [p, q] <;> omega
  · have mA : A % 2 ^ (i + 1) = A % 2 ^ i + 2 ^ i * (A.testBit i).toNat := by rw [Nat.pow_succ, Nat.mod_mul, Nat.toNat_testBit]
    have mB : B % 2 ^ (i + 1) = B % 2 ^ i + 2 ^ i * (B.testBit i).toNat := by rw [Nat.pow_succ, Nat.mod_mul, Nat.toNat_testBit]
    unfold carryAt
    rw [mA, mB, Nat.pow_succ]
    cases A.testBit i <;> cases B.testBit i <;> by_cases h : 2 ^ i ≤ A % 2 ^ i + B % 2 ^ i + c.toNat <;> simp [h] <;> omega

theorem add_loop {R : Type} (k : Nat) (A B : Nat) (c : Bool) (K : Bool → List Bool → Option R) : ∀ (m n i : Nat), m + i = 128 → m < n →
    plumblineref01_add_l0 k n (carryAt A B c i) 128 (i : Int) (rowN 128 A.testBit) (rowN 128 B.testBit) (rowN 129 fun j => if j < i then (A + B + c.toNat).testBit j else false) K =
      K (carryAt A B c 128) (rowN 129 fun j => if j < 128 then (A + B + c.toNat).testBit j else false)
  | m, 0, i, h1, h2 => by omega
  | 0, n + 1, i, h1, h2 => by
    have : i = 128 := by omega
    subst this
    rw [plumblineref01_add_l0, plumblineref01_add_l0B]
    have e0 : ¬ (((128 : Nat) : Int) < 128) := by decide
    simp only [e0, decide_false, cond_false]
  | m + 1, n + 1, i, h1, h2 => by
    rw [plumblineref01_add_l0, plumblineref01_add_l0B]
    have e0 : ((i : Int) < 128) := by omega
    have e1 : ((0 : Int) ≤ (i : Int)) := by omega
    have e2 : ((i : Int) < ((128 : Nat) : Int)) := by omega
    have e2' : ((i : Int) < ((129 : Nat) : Int)) := by omega
    have e3 : i < 128 := by omega
    have e3' : i < 129 := by omega
    have ih := add_loop k A B c K m n (i + 1) (by omega) (by omega)
    rw [Wi64_succ (by omega)]
    obtain ⟨hb, hc⟩ := add_bit A B c i
    have hrow : ∀ b : Bool, b = (A + B + c.toNat).testBit i → (rowN 129 fun j => if j = i then b else if j < i then (A + B + c.toNat).testBit j else false) = rowN 129 fun j => if j < i + 1 then (A + B + c.toNat).testBit j else false := by
      intro b hb
      refine rowN_congr fun j hj => ?_
      by_cases cc : j = i
      · subst cc; simp [hb]
      · have a1 : (j < i + 1) ↔ (j < i) := by omega
        simp only [cc, a1, if_false]
    rw [hc] at ih
    simp only [e0, e1, e2, e2', decide_true, cond_true, rowN_length, Int.toNat_natCast, rowN_get, if_pos e3, if_pos e3', Option.bind_some, rowN_set]
    rw [hb] at hrow
    cases hx : A.testBit i <;> cases hy : B.testBit i <;> cases hz : carryAt A B c i <;> rw [hx, hy, hz] at ih hrow <;> simp only [cond_true, cond_false] <;> first | (rw [hrow true rfl]; exact ih) | (rw [hrow false rfl]; exact ih)

theorem add_row {R : Type} {k A B : Nat} (hk : 5000 ≤ k) (hA : A < 2 ^ 128) (hB : B < 2 ^ 128) (c : Bool) (K : List Bool → Option R) :
    plumblineref01_add k c (rowN 128 A.testBit) (rowN 128 B.testBit) K = K (rowN 129 (A + B + c.toNat).testBit) := by
  unfold plumblineref01_add plumblineref01_addT
  simp only [rowN_length]
  have e0 : ¬ (((128 : Nat) : Int) > ((128 : Nat) : Int)) := by decide
  have e1 : Wi64 (((128 : Nat) : Int) + 1) = ((129 : Nat) : Int) := Wi64_succ (by decide)
  rw [e1, rowN_false]
  have e2 : (0 : Int) ≤ ((129 : Nat) : Int) := by decide
  have e3 : ((129 : Nat) : Int) ≤ ((129 : Nat) : Int) := by decide
  have e4 : (((129 : Nat) : Int) * 1) ≤ 140737488355328 := by decide
  have e5 : (0 : Int) ≤ ((128 : Nat) : Int) := by decide
  simp only [e0, e2, e3, e4, e5, decide_false, decide_true, cond_false, cond_true, Int.toNat_natCast]
  have h := add_loop k A B c (fun r4 r5 =>
            cond (decide (((128 : Nat) : Int) < (((List.length r5) : Nat) : Int))) (
                Option.bind (r5[128]?) fun e6 =>
                K (List.set r5 128 r4)) (
                none)) 128 k 0 (by omega) (by omega)
  rw [carry_zero] at h
  have e : (rowN 129 fun j => if j < 0 then (A + B + c.toNat).testBit j else false) = rowN 129 (fun _ => false) := rowN_congr fun j hj => by simp
  rw [e] at h
  refine h.trans ?_
  have e6 : ((128 : Nat) : Int) < ((129 : Nat) : Int) := by decide
  have e7 : 128 < 129 := by decide
  simp only [rowN_length, e6, decide_true, cond_true, rowN_get, if_pos e7, Option.bind_some, rowN_set]
  congr 1
  refine rowN_congr fun j hj => ?_
  by_cases cc : j = 128
  · subst cc
    obtain ⟨hb, _⟩ := add_bit A B c 128
    rw [hb, Nat.testBit_lt_two_pow hA, Nat.testBit_lt_two_pow hB]
    simp
  · have : j < 128 := by omega
    simp only [cc, this, if_false, if_true]

theorem refAdd_hl {R : Type} {k A B : Nat} (hk : 5000 ≤ k) (hA : A < 2 ^ 128) (hB : B < 2 ^ 128) (K : Int → Int → Bool → Option R) :
    plumblineref01_Add k (hi A) (lo A) (hi B) (lo B) K = K (hi ((A + B) % 2 ^ 128)) (lo ((A + B) % 2 ^ 128)) (decide (2 ^ 128 ≤ A + B)) := by
  unfold plumblineref01_Add plumblineref01_AddT
  rw [Bits_hl hk hA, Bits_hl hk hB, add_row hk hA hB]
  have e0 : ((128 : Nat) : Int) < ((129 : Nat) : Int) := by decide
  have e1 : (128 : Nat) < 129 := by decide
  rw [From_row hk (by decide)]
  simp only [rowN_length, Bool.toNat_false, Nat.add_zero]
  have e2 : (128 : Int) < ((129 : Nat) : Int) := by decide
  simp only [e2, decide_true, cond_true, rowN_get, if_pos e1, Option.bind_some]
  have e3 : min 129 128 = 128 := by decide
  rw [e3, nOf_bits]
  congr 1
  rw [Nat.testBit_eq_decide_div_mod_eq]
  rw [e128] at *
  rw [Bool.eq_iff_iff]
  simp only [decide_eq_true_eq]
  omega

theorem refSub_loop {R : Type} (k : Nat) (B : Nat) (a b c d : Int) (K : List Bool → Option R) : ∀ (m n i : Nat), m + i = 128 → m < n →
    plumblineref01_Sub_l0 k n (i : Int) a b c d (rowN 128 fun j => if j < i then !B.testBit j else B.testBit j) K = K (rowN 128 fun j => !B.testBit j)
  | m, 0, i, h1, h2 => by omega
  | 0, n + 1, i, h1, h2 => by
    have : i = 128 := by omega
    subst this
    rw [plumblineref01_Sub_l0, plumblineref01_Sub_l0B]
    have e0 : ¬ (((128 : Nat) : Int) < 128) := by decide
    simp only [e0, decide_false, cond_false]
    exact congrArg K (rowN_congr fun j hj => by simp [hj])
  | m + 1, n + 1, i, h1, h2 => by
    rw [plumblineref01_Sub_l0, plumblineref01_Sub_l0B]
    have e0 : ((i : Int) < 128) := by omega
    have e1 : ((0 : Int) ≤ (i : Int)) := by omega
    have e2 : ((i : Int) < ((128 : Nat) : Int)) := by omega
    have e3 : i < 128 := by omega
    rw [Wi64_succ (by omega)]
    simp only [e0, e1, e2, decide_true, cond_true, rowN_length, Int.toNat_natCast, rowN_get, if_pos e3, Option.bind_some, rowN_set]
    refine Eq.trans ?_ (refSub_loop k B a b c d K m n (i + 1) (by omega) (by omega))
    congr 1
    refine rowN_congr fun j hj => ?_
    by_cases cc : j = i
    · subst cc; simp
    · have a1 : (j < i + 1) ↔ (j < i) := by omega
      simp only [cc, a1, if_false]

theorem refSub_hl {R : Type} {k A B : Nat} (hk : 5000 ≤ k) (hA : A < 2 ^ 128) (hB : B < 2 ^ 128) (K : Int → Int → Bool → Option R) :
    plumblineref01_Sub k (hi A) (lo A) (hi B) (lo B) K = K (hi ((A + 2 ^ 128 - B) % 2 ^ 128)) (lo ((A + 2 ^ 128 - B) % 2 ^ 128)) (decide (A < B)) := by
  unfold plumblineref01_Sub plumblineref01_SubT
  rw [Bits_hl hk hB]
  have h := refSub_loop k B (hi A) (lo A) 0 0 (fun r2 =>
      plumblineref01_Bits k (hi A) (lo A) (fun r3 =>
        plumblineref01_add k true r3 r2 (fun r4 =>
          plumblineref01_From k r4 (fun r5 r6 =>
            cond (decide (128 < (((List.length r4) : Nat) : Int))) (
              Option.bind (r4[128]?) fun e7 =>
              K r5 r6 (!e7)) (
              none))))) 128 k 0 (by omega) (by omega)
  have e : (rowN 128 fun j => if j < 0 then !B.testBit j else B.testBit j) = rowN 128 B.testBit := rowN_congr fun j hj => by simp
  rw [e] at h
  refine h.trans ?_
  rw [Bits_hl hk hA]
  have hN : 2 ^ 128 - (B + 1) < 2 ^ 128 := by omega
  have e2 : (rowN 128 fun j => !B.testBit j) = rowN 128 (2 ^ 128 - (B + 1)).testBit := rowN_congr fun j hj => by
    rw [Nat.testBit_two_pow_sub_succ hB]; simp [hj]
  rw [e2, add_row hk hA hN, From_row hk (by decide)]
  have e1 : (128 : Nat) < 129 := by decide
  have e3 : (128 : Int) < ((129 : Nat) : Int) := by decide
  simp only [rowN_length, Bool.toNat_true, e3, decide_true, cond_true, rowN_get, if_pos e1, Option.bind_some]
  have e4 : min 129 128 = 128 := by decide
  have e5 : A + (2 ^ 128 - (B + 1)) + 1 = A + 2 ^ 128 - B := by omega
  rw [e4, nOf_bits, e5]
  congr 1
  rw [Nat.testBit_eq_decide_div_mod_eq]
  rw [e128] at *
  rw [Bool.eq_iff_iff]
  simp only [Bool.not_eq_true', decide_eq_false_iff_not, decide_eq_true_eq]
  omega

theorem div_lt_of_bits {A B i : Nat} (h : A / 2 ^ (i + 1) = B / 2 ^ (i + 1)) (h1 : A.testBit i = true) (h2 : B.testBit i = false) : B < A := by
  have eA : A / 2 ^ i = 2 * (A / 2 ^ (i + 1)) + 1 := by
    have := Nat.toNat_testBit A i
    rw [h1] at this
    have hd : A / 2 ^ (i + 1) = A / 2 ^ i / 2 := by rw [Nat.pow_succ, Nat.div_div_eq_div_mul]
    rw [hd]
    simp at this
    omega
  have eB : B / 2 ^ i = 2 * (B / 2 ^ (i + 1)) := by
    have := Nat.toNat_testBit B i
    rw [h2] at this
    have hd : B / 2 ^ (i + 1) = B / 2 ^ i / 2 := by rw [Nat.pow_succ, Nat.div_div_eq_div_mul]
    rw [hd]
    simp at this
    omega
  have hlt : B / 2 ^ i < A / 2 ^ i := by omega
  exact Nat.lt_of_not_le fun hle => by
    have := Nat.div_le_div_right (c := 2 ^ i) hle
    omega

theorem div_eq_of_bits {A B i : Nat} (h : A / 2 ^ (i + 1) = B / 2 ^ (i + 1)) (h1 : A.testBit i = B.testBit i) : A / 2 ^ i = B / 2 ^ i := by
  have a1 := Nat.toNat_testBit A i
  have b1 := Nat.toNat_testBit B i
  have hd : A / 2 ^ (i + 1) = A / 2 ^ i / 2 := by rw [Nat.pow_succ, Nat.div_div_eq_div_mul]
  have hd2 : B / 2 ^ (i + 1) = B / 2 ^ i / 2 := by rw [Nat.pow_succ, Nat.div_div_eq_div_mul]
  rw [hd, hd2] at h
  rw [h1] at a1
  omega

theorem refCompare_loop {R : Type} (k : Nat) (A B : Nat) (K : Int → Option R) : ∀ (i n : Nat), i ≤ 128 → i < n → A / 2 ^ i = B / 2 ^ i →
    plumblineref01_Compare_l0 k n ((i : Int) - 1) (rowN 128 A.testBit) (rowN 128 B.testBit) K (K 0) = K (sgn A B)
  | i, 0, h1, h2, _ => by omega
  | 0, n + 1, h1, h2, h3 => by
    rw [plumblineref01_Compare_l0, plumblineref01_Compare_l0B]
    have e0 : ¬ ((((0 : Nat) : Int) - 1) ≥ 0) := by decide
    simp only [e0, decide_false, cond_false]
    simp only [Nat.pow_zero, Nat.div_one] at h3
    subst h3
    simp [sgn]
  | i + 1, n + 1, h1, h2, h3 => by
    rw [plumblineref01_Compare_l0, plumblineref01_Compare_l0B]
    have e : (((i + 1 : Nat) : Int) - 1) = (i : Int) := by omega
    have e0 : ((i : Int) ≥ 0) := by omega
    have e1 : ((0 : Int) ≤ (i : Int)) := by omega
    have e2 : ((i : Int) < ((128 : Nat) : Int)) := by omega
    have e3 : i < 128 := by omega
    have e8 : Wi64 ((i : Int) - 1) = ((i : Int) - 1) := wrap_i64 (by omega) (by omega)
    rw [e, e8]
    simp only [e0, e1, e2, decide_true, cond_true, rowN_length, Int.toNat_natCast, rowN_get, if_pos e3, Option.bind_some]
    by_cases hb : A.testBit i = B.testBit i
    · have : (!(A.testBit i == B.testBit i)) = false := by simp [hb]
      rw [this]
      simp only [cond_false]
      exact refCompare_loop k A B K i n (by omega) (by omega) (div_eq_of_bits h3 hb)
    · have : (!(A.testBit i == B.testBit i)) = true := by simp [hb]
      rw [this]
      simp only [cond_true]
      cases hx : A.testBit i with
      | true =>
        have hy : B.testBit i = false := by rw [hx] at hb; cases hq : B.testBit i with | true => exact absurd hq.symm hb | false => rfl
        have h9 := div_lt_of_bits h3 hx hy
        have : ¬ A < B := by omega
        simp [sgn, this, h9]
      | false =>
        have hy : B.testBit i = true := by rw [hx] at hb; cases hq : B.testBit i with | true => rfl | false => exact absurd hq.symm hb
        have := div_lt_of_bits h3.symm hy hx
        simp [sgn, this]

theorem refCompare_hl {R : Type} {k A B : Nat} (hk : 5000 ≤ k) (hA : A < 2 ^ 128) (hB : B < 2 ^ 128) (K : Int → Option R) : plumblineref01_Compare k (hi A) (lo A) (hi B) (lo B) K = K (sgn A B) := by
  unfold plumblineref01_Compare plumblineref01_CompareT
  rw [Bits_hl hk hA, Bits_hl hk hB]
  exact refCompare_loop k A B K 128 k (by omega) (by omega) (by rw [Nat.div_eq_of_lt hA, Nat.div_eq_of_lt hB])

theorem half_step (A i : Nat) : A / 2 ^ i = 2 * (A / 2 ^ (i + 1)) + (A.testBit i).toNat := by
  have hd : A / 2 ^ (i + 1) = A / 2 ^ i / 2 := by rw [Nat.pow_succ, Nat.div_div_eq_div_mul]
  rw [hd, Nat.toNat_testBit]; omega

/-- One digit of a quotient. -/
theorem quot_step {P b t : Nat} (hb : 0 < b) : (2 * P + t) % b = (2 * (P % b) + t) % b ∧ (2 * P + t) / b = 2 * (P / b) + (2 * (P % b) + t) / b := by
  have hdm := Nat.div_add_mod P b
  have e : 2 * P + t = b * (2 * (P / b)) + (2 * (P % b) + t) := by
    have : b * (2 * (P / b)) = 2 * (b * (P / b)) := by rw [Nat.mul_left_comm]
    rw [this]; omega
  constructor
  · conv => lhs; rw [e]
    rw [Nat.mul_add_mod]
  · conv => lhs; rw [e]
    rw [Nat.mul_add_div hb]

theorem quot_bit {P b t : Nat} (hb : 0 < b) (ht : t ≤ 1) : (2 * (P % b) + t < b → (2 * P + t) % b = 2 * (P % b) + t ∧ (2 * P + t) / b % 2 = 0) ∧
    (b ≤ 2 * (P % b) + t → (2 * P + t) % b = 2 * (P % b) + t - b ∧ (2 * P + t) / b % 2 = 1) := by
  obtain ⟨h1, h2⟩ := quot_step (P := P) (t := t) hb
  have hm := Nat.mod_lt P hb
  constructor
  · intro h
    rw [h1, h2, Nat.mod_eq_of_lt h, Nat.div_eq_of_lt h]
    exact ⟨rfl, by omega⟩
  · intro h
    have : (2 * (P % b) + t) / b = 1 := Nat.div_eq_of_lt_le (by omega) (by omega)
    rw [h1, h2, this, Nat.mod_eq_sub_mod h, Nat.mod_eq_of_lt (by omega)]
    exact ⟨rfl, by omega⟩

theorem lo_or_one {X : Nat} (hX : X < 2 ^ 64) : bOr .u64 (lo (2 * X)) 1 = lo (2 * X + 1) := by
  unfold lo
  rw [show (1 : Int) = ((1 : Nat) : Int) from rfl, bOr_nat (lo_lt _) (by decide)]
  have : (2 * X % 2 ^ 64) ||| 1 = 2 * X % 2 ^ 64 + 1 := or_add (s := 1) (by omega) (by decide)
  rw [this]; congr 1; omega

theorem hi_or_one (X : Nat) : hi (2 * X + 1) = hi (2 * X) := by
  unfold hi; congr 1; omega

end Go.Proofs.Ytbnmnkofekcodaa.N

/- The reference: products. Conditions: none. -/
namespace Go.Proofs.Ytbnmnkofekcodaa.N
set_option linter.unusedVariables false
set_option linter.unusedSimpArgs false
open Go Go.Ab

theorem refMul_loop {R : Type} {k : Nat} (hk : 5000 ≤ k) (A B : Nat) (hA : A < 2 ^ 64) (hB : B < 2 ^ 64) (c d : Int) (K : Int → Int → Option R) : ∀ (m n i : Nat), m + i = 64 → m < n →
    plumblineref01_Mul_l0 k n (A : Int) (B : Int) (i : Int) c d (hi (A * (B % 2 ^ i))) (lo (A * (B % 2 ^ i))) K = K (hi (A * B)) (lo (A * B))
  | m, 0, i, h1, h2 => by omega
  | 0, n + 1, i, h1, h2 => by
    have : i = 64 := by omega
    subst this
    rw [plumblineref01_Mul_l0, plumblineref01_Mul_l0B]
    have e0 : ¬ (((64 : Nat) : Int) < 64) := by decide
    simp only [e0, decide_false, cond_false, Nat.mod_eq_of_lt hB]
  | m + 1, n + 1, i, h1, h2 => by
    rw [plumblineref01_Mul_l0, plumblineref01_Mul_l0B]
    have e0 : ((i : Int) < 64) := by omega
    have e1 : ¬ ((i : Int) < 0) := by omega
    rw [Wi64_succ (by omega)]
    simp only [e0, e1, decide_true, decide_false, cond_true, cond_false, bit_eq hB (by omega : i ≤ 64)]
    have ih := refMul_loop hk A B hA hB c d K m n (i + 1) (by omega) (by omega)
    have hp : 2 ^ (i + 1) ≤ 2 ^ 64 := Nat.pow_le_pow_right (by decide) (by omega)
    have hpp : 0 < 2 ^ i := Nat.two_pow_pos i
    rw [Nat.pow_succ, Nat.mod_mul, ← Nat.toNat_testBit] at ih
    rw [Nat.pow_succ] at hp
    have hm := Nat.mod_lt B hpp
    cases hb : B.testBit i with
    | false =>
      rw [hb] at ih
      simp only [cond_false]
      simpa using ih
    | true =>
      rw [hb] at ih
      simp only [Bool.toNat_true, Nat.mul_one] at ih
      simp only [cond_true]
      rw [zero_hi hA, ← lo_small hA]
      have hA' : A < 2 ^ 128 := Nat.lt_trans hA (by decide)
      have hwf : (Lit.int .i64 (i : Int)).wf = true := by
        simp only [Lit.wf, Bool.and_eq_true, decide_eq_true_eq]
        have e1 : IntKind.i64.min = -9223372036854775808 := by decide
        have e2 : IntKind.i64.max = 9223372036854775807 := by decide
        rw [e1, e2]; omega
      rw [refShl_hl hk hA' hwf, Int.toNat_natCast]
      have b1 : A * 2 ^ i < 2 ^ 64 * 2 ^ 63 := by
        have : 2 ^ i ≤ 2 ^ 63 := Nat.pow_le_pow_right (by decide) (by omega)
        exact Nat.mul_lt_mul_of_lt_of_le hA this (by decide)
      have b2 : A * (B % 2 ^ i) ≤ 2 ^ 64 * 2 ^ 63 := by
        have : B % 2 ^ i ≤ 2 ^ 63 := by
          have : 2 ^ i ≤ 2 ^ 63 := Nat.pow_le_pow_right (by decide) (by omega)
          omega
        exact Nat.mul_le_mul (by omega) this
      have b3 : A * 2 ^ i % 2 ^ 128 = A * 2 ^ i := Nat.mod_eq_of_lt (by omega)
      rw [b3, refAdd_hl hk (by omega) (by omega)]
      have b4 : (A * (B % 2 ^ i) + A * 2 ^ i) % 2 ^ 128 = A * (B % 2 ^ i + 2 ^ i) := by
        rw [Nat.mul_add]; exact Nat.mod_eq_of_lt (by omega)
      rw [b4, lo_small hA]
      exact ih

theorem refMul_hl {R : Type} {k A B : Nat} (hk : 5000 ≤ k) (hA : A < 2 ^ 64) (hB : B < 2 ^ 64) (K : Int → Int → Option R) :
    plumblineref01_Mul k (A : Int) (B : Int) K = K (hi (A * B)) (lo (A * B)) := by
  unfold plumblineref01_Mul plumblineref01_MulT
  have h := refMul_loop hk A B hA hB 0 0 K 64 k 0 (by omega) (by omega)
  have e : A * (B % 2 ^ 0) = 0 := by rw [Nat.pow_zero, Nat.mod_one, Nat.mul_zero]
  rw [e, hi_small (by decide), lo_small (by decide)] at h
  exact h

end Go.Proofs.Ytbnmnkofekcodaa.N

/- The reference: roots. Conditions: none. -/
namespace Go.Proofs.Ytbnmnkofekcodaa.N
set_option linter.unusedVariables false
set_option linter.unusedSimpArgs false
open Go Go.Ab

theorem or_bit {r i : Nat} (hr : r % 2 ^ (i + 1) = 0) (hrl : r < 2 ^ 64) (hi64 : i < 64) : bOr .u64 (r : Int) (shl .u64 1 (i : Int)) = ((r + 2 ^ i : Nat) : Int) := by
  have hp : 2 ^ i < 2 ^ 64 := Nat.pow_lt_pow_right (by decide) hi64
  rw [show (1 : Int) = ((1 : Nat) : Int) from rfl, shl_nat 1 i (by omega), Nat.one_mul, Nat.mod_eq_of_lt hp, bOr_nat hrl hp]
  rw [or_add (s := i + 1) hr (by rw [Nat.pow_succ]; have := Nat.two_pow_pos i; omega)]

theorem lt_of_mul {r i n : Nat} (hr : r % 2 ^ i = 0) (hlt : r < 2 ^ n) (hi : i ≤ n) : r + 2 ^ i ≤ 2 ^ n := by
  have h1 : r = 2 ^ i * (r / 2 ^ i) := by have := Nat.div_add_mod r (2 ^ i); omega
  have h2 : 2 ^ n = 2 ^ i * 2 ^ (n - i) := by rw [← Nat.pow_add]; congr 1; omega
  have h3 : r / 2 ^ i < 2 ^ (n - i) := by rw [Nat.div_lt_iff_lt_mul (Nat.two_pow_pos i), Nat.mul_comm, ← h2]; exact hlt
  have := Nat.mul_le_mul_left (2 ^ i) h3
  rw [← h2, Nat.succ_eq_add_one, Nat.mul_add, Nat.mul_one, ← h1] at this
  exact this

theorem refSqrt_loop {R : Type} {k : Nat} (hk : 5000 ≤ k) {A s : Nat} (hA : A < 2 ^ 128) (hs : IsRoot A s) (a b : Int) (K : Int → Option R) : ∀ (i n r : Nat), i ≤ 64 → i < n → r % 2 ^ i = 0 → r < 2 ^ 64 → r * r ≤ A → A < (r + 2 ^ i) * (r + 2 ^ i) →
    plumblineref01_Sqrt_l0 k n (r : Int) ((i : Int) - 1) (hi A) (lo A) a b K = K (s : Int)
  | i, 0, r, h1, h2, _, _, _, _ => by omega
  | 0, n + 1, r, h1, h2, h3, h4, h5, h6 => by
    rw [plumblineref01_Sqrt_l0, plumblineref01_Sqrt_l0B]
    have e0 : ¬ ((((0 : Nat) : Int) - 1) ≥ 0) := by decide
    simp only [e0, decide_false, cond_false]
    have : IsRoot A r := ⟨h5, h6⟩
    rw [this.unique hs]
  | i + 1, n + 1, r, h1, h2, h3, h4, h5, h6 => by
    rw [plumblineref01_Sqrt_l0, plumblineref01_Sqrt_l0B]
    have e : (((i + 1 : Nat) : Int) - 1) = (i : Int) := by omega
    have e0 : ((i : Int) ≥ 0) := by omega
    have e1 : ¬ ((i : Int) < 0) := by omega
    have e8 : Wi64 ((i : Int) - 1) = ((i : Int) - 1) := wrap_i64 (by omega) (by omega)
    have hp : 2 ^ (i + 1) = 2 ^ i + 2 ^ i := by rw [Nat.pow_succ]; omega
    have hx : r + 2 ^ i < 2 ^ 64 := by
      have := lt_of_mul h3 h4 h1
      have := Nat.two_pow_pos i
      omega
    have h3' : r % 2 ^ i = 0 := by
      have hd : 2 ^ i ∣ 2 ^ (i + 1) := ⟨2, by rw [Nat.pow_succ]⟩
      exact Nat.mod_eq_zero_of_dvd (Nat.dvd_trans hd (Nat.dvd_of_mod_eq_zero h3))
    rw [e, e8]
    simp only [e0, e1, decide_true, decide_false, cond_true, cond_false]
    rw [or_bit h3 h4 (by omega), refMul_hl hk hx hx]
    have hsq : (r + 2 ^ i) * (r + 2 ^ i) < 2 ^ 128 := by
      have := Nat.mul_lt_mul'' hx hx
      rw [← Nat.pow_add] at this
      exact this
    rw [refCompare_hl hk hsq hA]
    by_cases hc : (r + 2 ^ i) * (r + 2 ^ i) ≤ A
    · have : sgn ((r + 2 ^ i) * (r + 2 ^ i)) A ≤ 0 := by unfold sgn; split; decide; rw [if_neg (by omega)]; decide
      simp only [this, decide_true, cond_true]
      refine refSqrt_loop hk hA hs a b K i n (r + 2 ^ i) (by omega) (by omega) ?_ hx hc ?_
      · rw [Nat.add_mod, h3', Nat.mod_self]; rfl
      · rw [hp, ← Nat.add_assoc] at h6; exact h6
    · have : ¬ sgn ((r + 2 ^ i) * (r + 2 ^ i)) A ≤ 0 := by unfold sgn; rw [if_neg (by omega), if_pos (by omega)]; decide
      simp only [this, decide_false, cond_false]
      exact refSqrt_loop hk hA hs a b K i n r (by omega) (by omega) h3' h4 h5 (by omega)

theorem refSqrt_hl {R : Type} {k : Nat} (hk : 5000 ≤ k) {A s : Nat} (hA : A < 2 ^ 128) (hs : IsRoot A s) (K : Int → Int → Int → Option R) :
    plumblineref01_Sqrt k (hi A) (lo A) K = K (s : Int) (hi (A - s * s)) (lo (A - s * s)) := by
  unfold plumblineref01_Sqrt plumblineref01_SqrtT
  have h := refSqrt_loop hk hA hs 0 0 (fun r1 =>
    plumblineref01_Mul k r1 r1 (fun r2 r3 =>
      plumblineref01_Sub k (hi A) (lo A) r2 r3 (fun r4 r5 r6 =>
        K r1 r4 r5))) 64 k 0 (by decide) (by omega) (by decide) (by decide) (by omega) (by rw [Nat.zero_add, ← Nat.pow_add]; exact hA)
  refine h.trans ?_
  have hs64 : s < 2 ^ 64 := hs.lt (by rw [← Nat.pow_add]; exact hA)
  have hsq : s * s < 2 ^ 128 := Nat.lt_of_le_of_lt hs.1 hA
  rw [refMul_hl hk hs64 hs64, refSub_hl hk hA hsq]
  have : (A + 2 ^ 128 - s * s) % 2 ^ 128 = A - s * s := by
    have := hs.1
    generalize s * s = q at *
    omega
  rw [this]

end Go.Proofs.Ytbnmnkofekcodaa.N
