/- Rows of bits by the reference: from numbers, moved up, added, compared, subtracted. Conditions: none. -/
import Derived.Test.YtbnmnkofekcodaaRo3
import Derived.Test.YtbnmnkofekcodaaMr
namespace Go.Proofs.Ytbnmnkofekcodaa.N
set_option linter.unusedVariables false
set_option linter.unusedSimpArgs false
open Go Go.Ab

theorem ble_lim {n : Nat} (h : n < 2 ^ 40) : Nat.ble (n * 1) 70368744177664 = true := Nat.ble_eq_true_of_le (by omega)

theorem bitsOf_snoc (n N : Nat) (b : Bool) (h : b = N.testBit n) : bitsOf n N ++ [b] = bitsOf (n + 1) N := by
  subst h
  unfold bitsOf
  apply List.ext_getElem?
  intro i
  rw [rowN_get]
  by_cases c : i < n
  · rw [List.getElem?_append_left (by rw [rowN_length]; exact c), rowN_get, if_pos c, if_pos (by omega)]
  · rw [List.getElem?_append_right (by rw [rowN_length]; omega), rowN_length]
    by_cases c2 : i = n
    · subst c2
      rw [Nat.sub_self, if_pos (by omega)]; rfl
    · rw [if_neg (by omega)]
      exact List.getElem?_eq_none (by simp; omega)

theorem bits_loop {R : Type} (k X : Nat) (hX : X < 2 ^ 64) (K : List Bool → Option R) : ∀ (m i : Nat), i ≤ bl X → bl X - i < m → plumblineref02_bits_l0 k m ((X / 2 ^ i : Nat) : Int) (bitsOf i X) K = K (bitsOf (bl X) X)
  | 0, i, _, h => by omega
  | m + 1, i, h1, h2 => by
    have hbl : bl X ≤ 64 := bl_le_iff.2 hX
    rw [plumblineref02_bits_l0, plumblineref02_bits_l0B]
    by_cases c : X / 2 ^ i = 0
    · have hz : ¬ (((X / 2 ^ i : Nat) : Int) > 0) := by rw [c]; decide
      have hi : bl X ≤ i := by
        rw [bl_le_iff]
        refine Nat.lt_of_not_le fun h => ?_
        have := Nat.div_pos h (Nat.two_pow_pos i)
        omega
      have : i = bl X := by omega
      rw [decide_eq_false hz, cond_false, this]
    · have hz : (((X / 2 ^ i : Nat) : Int) > 0) := Int.natCast_pos.2 (Nat.pos_of_ne_zero c)
      have hi : i < bl X := by
        refine Nat.lt_of_not_le fun h => c ?_
        exact Nat.div_eq_of_lt (Nat.lt_of_lt_of_le (bl_up X) (Nat.pow_le_pow_right (by decide) h))
      have hq : X / 2 ^ i < 2 ^ 64 := Nat.lt_of_le_of_lt (Nat.div_le_self _ _) hX
      have w : Wu64 (Int.tdiv ((X / 2 ^ i : Nat) : Int) 2) = ((X / 2 ^ (i + 1) : Nat) : Int) := by
        rw [show (2 : Int) = ((2 : Nat) : Int) from rfl, tdiv_nat', Wu64_lt (by omega)]
        congr 1
        rw [Nat.pow_succ, Nat.div_div_eq_div_mul]
      have hb : (Int.tmod ((X / 2 ^ i : Nat) : Int) 2 == 1) = X.testBit i := by
        rw [show (2 : Int) = ((2 : Nat) : Int) from rfl, tmod_nat', Nat.testBit_eq_decide_div_mod_eq]
        rw [Bool.eq_iff_iff]
        simp only [beq_iff_eq, decide_eq_true_eq]
        omega
      rw [decide_eq_true hz, cond_true, bitsOf_length, ble_lim (by omega), cond_true, w, hb, bitsOf_snoc i X _ rfl]
      exact bits_loop k X hX K m (i + 1) (by omega) (by omega)

theorem bits_k {R : Type} {k : Nat} (hk : 70 ≤ k) {X : Nat} (hX : X < 2 ^ 64) (K0 : List Bool → Option R) (K1 : Option R) : plumblineref02_bits k (X : Int) K0 K1 = if X = 0 then K1 else K0 (bitsOf (bl X) X) := by
  obtain ⟨k, rfl⟩ : ∃ j, k = j + 1 := ⟨k - 1, by omega⟩
  have hbl : bl X ≤ 64 := bl_le_iff.2 hX
  unfold plumblineref02_bits plumblineref02_bitsT
  rw [plumblineref02_bits_l1, plumblineref02_bits_l1B]
  by_cases c : X = 0
  · subst c
    rw [if_pos rfl]
    rfl
  · have hz : ((X : Int) > 0) := by omega
    have hb0 := bl_pos (show 0 < X by omega)
    have w : Wu64 (Int.tdiv (X : Int) 2) = ((X / 2 ^ 1 : Nat) : Int) := by
      rw [show (2 : Int) = ((2 : Nat) : Int) from rfl, tdiv_nat', Wu64_lt (by omega)]
    have hb : (Int.tmod (X : Int) 2 == 1) = X.testBit 0 := by
      rw [show (2 : Int) = ((2 : Nat) : Int) from rfl, tmod_nat', Nat.testBit_eq_decide_div_mod_eq]
      rw [Bool.eq_iff_iff]
      simp only [beq_iff_eq, decide_eq_true_eq, Nat.pow_zero, Nat.div_one]
      omega
    have hs : [X.testBit 0] = bitsOf 1 X := by
      have := bitsOf_snoc 0 X _ rfl
      rw [← this]; rfl
    rw [if_neg c, decide_eq_true hz, cond_true, w, hb, hs]
    exact bits_loop (k + 1) X hX K0 k 1 (by omega) (by omega)

/-! ### Moved up -/

theorem bitsOf_up (n len X : Nat) : List.replicate n false ++ bitsOf len X = bitsOf (n + len) (X * 2 ^ n) := by
  unfold bitsOf
  apply List.ext_getElem?
  intro i
  rw [rowN_get, Nat.testBit_mul_two_pow]
  by_cases c : i < n
  · rw [List.getElem?_append_left (by simp; exact c), List.getElem?_replicate, if_pos c, if_pos (by omega)]
    have : ¬ n ≤ i := by omega
    simp [this]
  · rw [List.getElem?_append_right (by simp; omega), List.length_replicate, rowN_get]
    have : n ≤ i := by omega
    by_cases c2 : i < n + len
    · rw [if_pos (by omega), if_pos c2]; simp [this]
    · rw [if_neg (by omega), if_neg c2]

theorem up_k {R : Type} (k : Nat) {n len X : Nat} (hn : n < 2 ^ 30) (hl : len < 2 ^ 30) (K : List Bool → Option R) : plumblineref02_up k (n : Int) (bitsOf len X) K = K (bitsOf (n + len) (X * 2 ^ n)) := by
  unfold plumblineref02_up plumblineref02_upT
  have e1 : (0 : Int) ≤ (n : Int) := by omega
  have e2 : (n : Int) ≤ (n : Int) := by omega
  have e3 : (n : Int) * 1 ≤ 140737488355328 := by omega
  rw [decide_eq_true e1, cond_true, decide_eq_true e2, cond_true, decide_eq_true e3, cond_true, Int.toNat_natCast, List.length_replicate, bitsOf_length, ble_lim (by omega), cond_true, bitsOf_up]

theorem up_n0_k {R : Type} (k : Nat) {n : Nat} (hn : n < 2 ^ 30) (K : List Bool → Option R) : plumblineref02_up_n0 k (n : Int) K = K (bitsOf (n + 0) (0 * 2 ^ n)) := by
  unfold plumblineref02_up_n0 plumblineref02_up_n0T
  have e1 : (0 : Int) ≤ (n : Int) := by omega
  have e2 : (n : Int) ≤ (n : Int) := by omega
  have e3 : (n : Int) * 1 ≤ 140737488355328 := by omega
  rw [decide_eq_true e1, cond_true, decide_eq_true e2, cond_true, decide_eq_true e3, cond_true, Int.toNat_natCast, List.length_replicate, ble_lim (by omega), cond_true, ← bitsOf_up]
  rfl

/-! ### Sums -/

theorem plus_c3_k {R : Type} (k : Nat) (c : Bool) (i : Int) {t : Nat} (ht : t ≤ 2) (r s l : List Bool) (hl : l.length < 2 ^ 39) (K : Bool → List Bool → Option R) :
    plumblineref02_plus_c3 k c i (t : Int) r s l K = K (decide (2 ≤ t + c.toNat)) (l ++ [decide ((t + c.toNat) % 2 = 1)]) := by
  unfold plumblineref02_plus_c3 plumblineref02_plus_c3T
  have e := ble_lim (n := l.length + 1) (by omega)
  rw [e]
  have : t = 0 ∨ t = 1 ∨ t = 2 := by omega
  rcases this with rfl | rfl | rfl <;> cases c <;> rfl

theorem plus_c0_k {R : Type} (k : Nat) (c : Bool) (i : Int) {t : Nat} (ht : t ≤ 2) (r s : List Bool) (K : Bool → List Bool → Option R) :
    plumblineref02_plus_c0 k c i (t : Int) r s K = K (decide (2 ≤ t + c.toNat)) [decide ((t + c.toNat) % 2 = 1)] := by
  unfold plumblineref02_plus_c0 plumblineref02_plus_c0T
  have : t = 0 ∨ t = 1 ∨ t = 2 := by omega
  rcases this with rfl | rfl | rfl <;> cases c <;> rfl

theorem bit_past {B m i : Nat} (hB : B < 2 ^ m) (h : ¬ i < m) : B.testBit i = false :=
  Nat.testBit_lt_two_pow (Nat.lt_of_lt_of_le hB (Nat.pow_le_pow_right (by decide) (by omega)))

theorem Wi_succ {t : Nat} (ht : t < 2 ^ 60) : Wi64 ((t : Int) + 1) = ((t + 1 : Nat) : Int) := (wrap_i64 (by omega) (by omega)).trans (by omega)

theorem plus_c4_k {R : Type} (k : Nat) (c : Bool) {t i m B : Nat} (ht : t ≤ 1) (hB : B < 2 ^ m) (r l : List Bool) (hl : l.length < 2 ^ 39) (K : Bool → List Bool → Option R) :
    plumblineref02_plus_c4 k c (i : Int) (t : Int) r (bitsOf m B) l K = K (decide (2 ≤ t + (B.testBit i).toNat + c.toNat)) (l ++ [decide ((t + (B.testBit i).toNat + c.toNat) % 2 = 1)]) := by
  unfold plumblineref02_plus_c4 plumblineref02_plus_c4T
  rw [bitsOf_length]
  have e2 : (0 : Int) ≤ (i : Int) := by omega
  by_cases h : i < m
  · have e1 : (i : Int) < (m : Int) := by omega
    rw [decide_eq_true e1, decide_eq_true e2]
    simp only [cond_true, Int.toNat_natCast, bitsOf_get h, Option.bind_some]
    rw [Wi_succ (by omega), plus_c3_k k c _ (by omega) _ _ l hl, plus_c3_k k c _ (by omega) _ _ l hl]
    cases B.testBit i <;> rfl
  · have e1 : ¬ ((i : Int) < (m : Int)) := by omega
    rw [decide_eq_false e1, cond_false, plus_c3_k k c _ (by omega) _ _ l hl, bit_past hB h]
    rfl

theorem plus_c1_k {R : Type} (k : Nat) (c : Bool) {t i m B : Nat} (ht : t ≤ 1) (hB : B < 2 ^ m) (r : List Bool) (K : Bool → List Bool → Option R) :
    plumblineref02_plus_c1 k c (i : Int) (t : Int) r (bitsOf m B) K = K (decide (2 ≤ t + (B.testBit i).toNat + c.toNat)) [decide ((t + (B.testBit i).toNat + c.toNat) % 2 = 1)] := by
  unfold plumblineref02_plus_c1 plumblineref02_plus_c1T
  rw [bitsOf_length]
  have e2 : (0 : Int) ≤ (i : Int) := by omega
  by_cases h : i < m
  · have e1 : (i : Int) < (m : Int) := by omega
    rw [decide_eq_true e1, decide_eq_true e2]
    simp only [cond_true, Int.toNat_natCast, bitsOf_get h, Option.bind_some]
    rw [Wi_succ (by omega), plus_c0_k k c _ (by omega), plus_c0_k k c _ (by omega)]
    cases B.testBit i <;> rfl
  · have e1 : ¬ ((i : Int) < (m : Int)) := by omega
    rw [decide_eq_false e1, cond_false, plus_c0_k k c _ (by omega), bit_past hB h]
    rfl

theorem plus_bits (A B i : Nat) : decide (2 ≤ (A.testBit i).toNat + (B.testBit i).toNat + (carryAt A B false i).toNat) = carryAt A B false (i + 1) ∧
    decide (((A.testBit i).toNat + (B.testBit i).toNat + (carryAt A B false i).toNat) % 2 = 1) = (A + B).testBit i := by
  have h := add_bit A B false i
  refine ⟨h.2.symm, ?_⟩
  have h1 := h.1
  rw [show A + B + false.toNat = A + B from rfl] at h1
  rw [h1]
  cases A.testBit i <;> cases B.testBit i <;> cases carryAt A B false i <;> rfl

theorem plus_c5_k {R : Type} (k : Nat) {i n m A B : Nat} (hi : i < 2 ^ 39) (hA : A < 2 ^ n) (hB : B < 2 ^ m) (K : Bool → Int → List Bool → Option R) :
    plumblineref02_plus_c5 k (carryAt A B false i) (i : Int) (bitsOf n A) (bitsOf m B) (bitsOf i (A + B)) K = K (carryAt A B false (i + 1)) ((i + 1 : Nat) : Int) (bitsOf (i + 1) (A + B)) := by
  unfold plumblineref02_plus_c5 plumblineref02_plus_c5T
  rw [bitsOf_length]
  have e2 : (0 : Int) ≤ (i : Int) := by omega
  have hl : (bitsOf i (A + B)).length < 2 ^ 39 := by rw [bitsOf_length]; exact hi
  have hb := plus_bits A B i
  have c1 := fun J => plus_c4_k (R := R) k (carryAt A B false i) (t := 1) (i := i) (m := m) (by omega) hB (bitsOf n A) (bitsOf i (A + B)) hl J
  have c0 := fun J => plus_c4_k (R := R) k (carryAt A B false i) (t := 0) (i := i) (m := m) (by omega) hB (bitsOf n A) (bitsOf i (A + B)) hl J
  have key : ∀ J : Bool → List Bool → Option R, plumblineref02_plus_c4 k (carryAt A B false i) (i : Int) (((A.testBit i).toNat : Nat) : Int) (bitsOf n A) (bitsOf m B) (bitsOf i (A + B)) J = J (carryAt A B false (i + 1)) (bitsOf (i + 1) (A + B)) := by
    intro J
    rw [plus_c4_k k _ (by cases A.testBit i <;> decide) hB _ _ hl, hb.1, hb.2, bitsOf_snoc i (A + B) _ rfl]
  by_cases h : i < n
  · have e1 : (i : Int) < (n : Int) := by omega
    rw [decide_eq_true e1, decide_eq_true e2]
    simp only [cond_true, Int.toNat_natCast, bitsOf_get h, Option.bind_some]
    rw [Wi_succ (by omega)]
    cases hx : A.testBit i with
    | true => rw [hx] at key; exact key _
    | false => rw [hx] at key; exact key _
  · have e1 : ¬ ((i : Int) < (n : Int)) := by omega
    rw [bit_past hA h] at key
    rw [decide_eq_false e1, cond_false, Wi_succ (by omega)]
    exact key _

theorem plus_c2_k {R : Type} (k : Nat) {n m A B : Nat} (hA : A < 2 ^ n) (hB : B < 2 ^ m) (K : Bool → Int → List Bool → Option R) :
    plumblineref02_plus_c2 k false 0 (bitsOf n A) (bitsOf m B) K = K (carryAt A B false 1) ((1 : Nat) : Int) (bitsOf 1 (A + B)) := by
  unfold plumblineref02_plus_c2 plumblineref02_plus_c2T
  rw [bitsOf_length]
  have hb := plus_bits A B 0
  rw [carry_zero] at hb
  have key : ∀ J : Bool → List Bool → Option R, plumblineref02_plus_c1 k false ((0 : Nat) : Int) (((A.testBit 0).toNat : Nat) : Int) (bitsOf n A) (bitsOf m B) J = J (carryAt A B false 1) (bitsOf 1 (A + B)) := by
    intro J
    rw [plus_c1_k k _ (by cases A.testBit 0 <;> decide) hB, hb.1, hb.2, ← bitsOf_snoc 0 (A + B) _ rfl]
    rfl
  by_cases h : 0 < n
  · have e1 : (0 : Int) < (n : Int) := by omega
    have e2 : (0 : Int) ≤ 0 := by omega
    rw [decide_eq_true e1, decide_eq_true e2]
    simp only [cond_true, show Int.toNat 0 = 0 from rfl, bitsOf_get h, Option.bind_some]
    cases hx : A.testBit 0 with
    | true => rw [hx] at key; exact key _
    | false => rw [hx] at key; exact key _
  · have e1 : ¬ ((0 : Int) < (n : Int)) := by omega
    rw [bit_past hA h] at key
    rw [decide_eq_false e1, cond_false]
    exact key _

theorem carry_top {A B i n m : Nat} (hA : A < 2 ^ n) (hB : B < 2 ^ m) (h1 : n ≤ i) (h2 : m ≤ i) : carryAt A B false i = decide (2 ^ i ≤ A + B) := by
  unfold carryAt
  rw [Nat.mod_eq_of_lt (Nat.lt_of_lt_of_le hA (Nat.pow_le_pow_right (by decide) h1)), Nat.mod_eq_of_lt (Nat.lt_of_lt_of_le hB (Nat.pow_le_pow_right (by decide) h2))]
  rfl

theorem plus_top {A B n m : Nat} (hA : A < 2 ^ n) (hB : B < 2 ^ m) : A + B < 2 ^ (max n m + 1) := by
  have h1 := Nat.lt_of_lt_of_le hA (Nat.pow_le_pow_right (n := 2) (by decide) (Nat.le_max_left n m))
  have h2 := Nat.lt_of_lt_of_le hB (Nat.pow_le_pow_right (n := 2) (by decide) (Nat.le_max_right n m))
  rw [Nat.pow_succ]; omega

theorem plus_loop {R : Type} (k : Nat) {n m A B : Nat} (hn : n < 2 ^ 30) (hm : m < 2 ^ 30) (hA : A < 2 ^ n) (hB : B < 2 ^ m) (K : List Bool → Option R) (r : Option R)
    (h : ∀ L, A + B < 2 ^ L → L ≤ max n m + 1 → K (bitsOf L (A + B)) = r) : ∀ (f i : Nat), i ≤ max n m + 1 → max n m + 1 - i < f →
    plumblineref02_plus_l6 k f (carryAt A B false i) (i : Int) (bitsOf n A) (bitsOf m B) (bitsOf i (A + B)) K = r
  | 0, i, _, h2 => by omega
  | f + 1, i, h1, h2 => by
    have ht := plus_top hA hB
    rw [plumblineref02_plus_l6, plumblineref02_plus_l6B, bitsOf_length, bitsOf_length]
    by_cases c1 : (i : Int) < (n : Int)
    · rw [decide_eq_true c1, cond_true, plus_c5_k k (by omega) hA hB]
      exact plus_loop k hn hm hA hB K r h f (i + 1) (by omega) (by omega)
    · rw [decide_eq_false c1, cond_false]
      by_cases c2 : (i : Int) < (m : Int)
      · rw [decide_eq_true c2, cond_true, plus_c5_k k (by omega) hA hB]
        exact plus_loop k hn hm hA hB K r h f (i + 1) (by omega) (by omega)
      · have hc := carry_top hA hB (i := i) (by omega) (by omega)
        rw [decide_eq_false c2, cond_false]
        by_cases c3 : 2 ^ i ≤ A + B
        · have hi : i ≠ max n m + 1 := by
            intro e; rw [e] at c3; omega
          have hct : carryAt A B false i = true := by rw [hc]; exact decide_eq_true c3
          have := plus_c5_k (R := R) k (i := i) (by omega) hA hB
          rw [hct] at this ⊢
          rw [cond_true, this]
          exact plus_loop k hn hm hA hB K r h f (i + 1) (by omega) (by omega)
        · have hct : carryAt A B false i = false := by rw [hc]; exact decide_eq_false c3
          rw [hct, cond_false]
          exact h i (by omega) h1

theorem plus_k {R : Type} {k n m A B : Nat} (hk : max n m + 5 ≤ k) (hn : n < 2 ^ 30) (hm : m < 2 ^ 30) (hA : A < 2 ^ n) (hB : B < 2 ^ m) (K : List Bool → Option R) (K1 r : Option R)
    (h : ∀ L, A + B < 2 ^ L → L ≤ max n m + 1 → K (bitsOf L (A + B)) = r) (h0 : n = 0 → m = 0 → K1 = r) : plumblineref02_plus k (bitsOf n A) (bitsOf m B) K K1 = r := by
  obtain ⟨k, rfl⟩ : ∃ j, k = j + 1 := ⟨k - 1, by omega⟩
  unfold plumblineref02_plus plumblineref02_plusT
  rw [plumblineref02_plus_l7, plumblineref02_plus_l7B, bitsOf_length, bitsOf_length, plus_c2_k (k + 1) hA hB]
  have key : n ≠ 0 ∨ m ≠ 0 → plumblineref02_plus_l6 (k + 1) k (carryAt A B false 1) ((1 : Nat) : Int) (bitsOf n A) (bitsOf m B) (bitsOf 1 (A + B)) K = r :=
    fun hh => plus_loop (k + 1) hn hm hA hB K r h k 1 (by omega) (by omega)
  by_cases c1 : (0 : Int) < (n : Int)
  · rw [decide_eq_true c1, cond_true]
    exact key (Or.inl (by omega))
  · rw [decide_eq_false c1, cond_false]
    by_cases c2 : (0 : Int) < (m : Int)
    · rw [decide_eq_true c2, cond_true]
      exact key (Or.inr (by omega))
    · rw [decide_eq_false c2, cond_false, cond_false]
      exact h0 (by omega) (by omega)

end Go.Proofs.Ytbnmnkofekcodaa.N
