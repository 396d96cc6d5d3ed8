/- Rows of bits as numbers; numbers of 128 bits in two halves; moves by the reference. Conditions: none. -/
import Derived.Test.YtnbmconaglehbaaWm4
namespace Go.Proofs.Ytnbmconaglehbaa.N
set_option linter.unusedVariables false
set_option linter.unusedSimpArgs false
open Go Go.Ab

/-! ### Halves -/

def hi (A : Nat) : Int := ((A / 2 ^ 64 : Nat) : Int)
def lo (A : Nat) : Int := ((A % 2 ^ 64 : Nat) : Int)

theorem V_hl (A : Nat) : V (A / 2 ^ 64) (A % 2 ^ 64) = A := by
  unfold V; rw [Nat.mul_comm]; exact Nat.div_add_mod _ _
theorem hi_lt {A : Nat} (h : A < 2 ^ 128) : A / 2 ^ 64 < 2 ^ 64 := by
  rw [Nat.div_lt_iff_lt_mul (by decide), ← Nat.pow_add]; exact h
theorem lo_lt (A : Nat) : A % 2 ^ 64 < 2 ^ 64 := Nat.mod_lt _ (by decide)
theorem hi_V {h l : Nat} (hl : l < 2 ^ 64) : hi (V h l) = (h : Int) := by
  unfold hi V
  congr 1
  rw [Nat.mul_comm, Nat.mul_add_div (by decide), Nat.div_eq_of_lt hl, Nat.add_zero]
theorem lo_V {h l : Nat} (hl : l < 2 ^ 64) : lo (V h l) = (l : Int) := by
  unfold lo V
  congr 1
  rw [Nat.mul_comm, Nat.mul_add_mod, Nat.mod_eq_of_lt hl]
theorem hl_of {h l A : Nat} (hl : l < 2 ^ 64) (hV : V h l = A) : (h : Int) = hi A ∧ (l : Int) = lo A := by
  subst hV; exact ⟨(hi_V hl).symm, (lo_V hl).symm⟩
theorem hi_small {l : Nat} (hl : l < 2 ^ 64) : hi l = 0 := by unfold hi; rw [Nat.div_eq_of_lt hl]; rfl
theorem lo_small {l : Nat} (hl : l < 2 ^ 64) : lo l = (l : Int) := by unfold lo; rw [Nat.mod_eq_of_lt hl]
theorem hl_beq {A B : Nat} : ((hi A == hi B) && (lo A == lo B)) = (A == B) := by
  unfold hi lo
  rw [pair_beq (lo_lt A) (lo_lt B), V_hl, V_hl]

theorem Shl_hl {R : Type} (k : Nat) {A : Nat} {n : Int} (hA : A < 2 ^ 128) (hn : (Lit.int .i64 n).wf = true) (K : Int → Int → Option R) :
    wide_Shl k (hi A) (lo A) n K = K (hi (A * 2 ^ n.toNat % 2 ^ 128)) (lo (A * 2 ^ n.toNat % 2 ^ 128)) := by
  obtain ⟨h', l', h1, h2, h3, h4⟩ := Shl_spec (R := R) k (hi_lt hA) (lo_lt A) hn
  rw [V_hl] at h3
  obtain ⟨e1, e2⟩ := hl_of h2 h3
  rw [← e1, ← e2]; exact h4 K

theorem Shr_hl {R : Type} (k : Nat) {A : Nat} {n : Int} (hA : A < 2 ^ 128) (hn : (Lit.int .i64 n).wf = true) (K : Int → Int → Bool → Option R) :
    wide_Shr k (hi A) (lo A) n K = K (hi (A / 2 ^ n.toNat)) (lo (A / 2 ^ n.toNat)) (decide (A % 2 ^ n.toNat ≠ 0)) := by
  obtain ⟨h', l', h1, h2, h3, h4⟩ := Shr_spec (R := R) k (hi_lt hA) (lo_lt A) hn
  rw [V_hl] at h3
  obtain ⟨e1, e2⟩ := hl_of h2 h3
  rw [← e1, ← e2]
  have := h4 K
  rw [V_hl] at this
  exact this

/-! ### Rows -/

def rowN (n : Nat) (f : Nat → Bool) : List Bool := (List.range n).map f
theorem row_eq (f : Nat → Bool) : row f = rowN 128 f := rfl
@[simp] theorem rowN_length (n : Nat) (f : Nat → Bool) : (rowN n f).length = n := by simp [rowN]
theorem rowN_get (n : Nat) (f : Nat → Bool) (i : Nat) : (rowN n f)[i]? = if i < n then some (f i) else none := by
  unfold rowN
  rw [List.getElem?_map]
  by_cases h : i < n
  · rw [List.getElem?_range h, if_pos h]; rfl
  · rw [List.getElem?_eq_none (by simp; omega), if_neg h]; rfl
theorem rowN_set (n : Nat) (f : Nat → Bool) (i : Nat) (b : Bool) : (rowN n f).set i b = rowN n (fun j => if j = i then b else f j) := by
  apply List.ext_getElem?
  intro j
  rw [List.getElem?_set, rowN_get, rowN_length, rowN_get]
  by_cases hj : i = j
  · subst hj; simp
  · rw [if_neg hj]
    have : ¬ j = i := fun h => hj h.symm
    simp [this]
theorem rowN_congr {n : Nat} {f g : Nat → Bool} (h : ∀ i, i < n → f i = g i) : rowN n f = rowN n g := by
  apply List.ext_getElem?
  intro i
  rw [rowN_get, rowN_get]
  split
  · rename_i hi; rw [h i hi]
  · rfl
theorem rowN_false (n : Nat) : List.replicate n false = rowN n (fun _ => false) := by
  apply List.ext_getElem?
  intro i
  rw [rowN_get, List.getElem?_replicate]
theorem rowN_of (l : List Bool) : l = rowN l.length (fun i => l.getD i false) := by
  apply List.ext_getElem?
  intro i
  rw [rowN_get]
  split
  · rename_i h; rw [List.getElem?_eq_getElem h, List.getD_eq_getElem?_getD, List.getElem?_eq_getElem h]; rfl
  · rename_i h; exact List.getElem?_eq_none (by omega)

/-- The number of the first n bits. -/
def nOf (f : Nat → Bool) : Nat → Nat
  | 0 => 0
  | n + 1 => nOf f n + (f n).toNat * 2 ^ n

theorem nOf_lt (f : Nat → Bool) : ∀ n, nOf f n < 2 ^ n
  | 0 => by simp [nOf]
  | n + 1 => by
    have h := nOf_lt f n
    have : (f n).toNat ≤ 1 := Bool.toNat_le _
    rw [nOf, Nat.pow_succ]
    have := Nat.mul_le_mul_right (2 ^ n) this
    omega

theorem nOf_congr {f g : Nat → Bool} : ∀ {n : Nat}, (∀ i, i < n → f i = g i) → nOf f n = nOf g n
  | 0, _ => rfl
  | n + 1, h => by rw [nOf, nOf, nOf_congr (fun i hi => h i (by omega)), h n (by omega)]

theorem nOf_bits (x : Nat) : ∀ n, nOf x.testBit n = x % 2 ^ n
  | 0 => by simp [nOf, Nat.mod_one]
  | n + 1 => by
    rw [nOf, nOf_bits x n, Nat.toNat_testBit, Nat.mul_comm, Nat.pow_succ, Nat.mod_mul]

theorem nOf_testBit (f : Nat → Bool) : ∀ n i, (nOf f n).testBit i = (decide (i < n) && f i)
  | 0, i => by simp [nOf]
  | n + 1, i => by
    have h := nOf_lt f n
    rw [nOf, Nat.add_comm, Nat.mul_comm]
    by_cases hi : i < n
    · rw [Nat.testBit_two_pow_mul_add _ h, if_pos hi, nOf_testBit f n i]
      simp [hi, Nat.lt_succ_of_lt hi]
    · rw [Nat.testBit_two_pow_mul_add _ h, if_neg hi]
      by_cases h2 : i = n
      · subst h2
        cases f i <;> simp
      · have h3 : ¬ i < n + 1 := by omega
        have h4 : i - n ≠ 0 := by omega
        have h5 : Nat.testBit 1 (i - n) = false := by
          cases hb : Nat.testBit 1 (i - n) with
          | false => rfl
          | true => exact absurd (Nat.testBit_one_eq_true_iff_self_eq_zero.1 hb) h4
        cases f n <;> simp [h3, h5]

theorem nOf_eq {f : Nat → Bool} {n x : Nat} (hx : x < 2 ^ n) (h : ∀ i, i < n → f i = x.testBit i) : nOf f n = x := by
  rw [nOf_congr h, nOf_bits, Nat.mod_eq_of_lt hx]

/-! ### Bits, From -/

theorem Bits_hl {R : Type} {k A : Nat} (hk : 5000 ≤ k) (hA : A < 2 ^ 128) (K : List Bool → Option R) :
    plumblineref01_Bits k (hi A) (lo A) K = K (rowN 128 A.testBit) := by
  have := Bits_spec (k := k) (by omega) (hi_lt hA) (lo_lt A) K
  rw [V_hl] at this
  exact this

theorem bit_or {l i : Nat} (hl : l < 2 ^ i) (hi : i < 64) : bOr .u64 (l : Int) (shl .u64 1 (i : Int)) = ((l + 2 ^ i : Nat) : Int) := by
  have hp : 2 ^ i < 2 ^ 64 := Nat.pow_lt_pow_right (by decide) hi
  rw [show (1 : Int) = ((1 : Nat) : Int) from rfl, shl_nat 1 i (by omega), Nat.one_mul, Nat.mod_eq_of_lt hp,
    bOr_nat (Nat.lt_of_lt_of_le hl (Nat.pow_le_pow_right (by decide) (by omega))) hp]
  have : l ||| 2 ^ i = l + 2 ^ i := by
    rw [Nat.or_comm, or_add (s := i) (by simp) hl, Nat.add_comm]
  rw [this]

theorem Wi64_nat {i : Nat} (h : i < 2 ^ 62) : Wi64 (i : Int) = (i : Int) := wrap_i64 (by omega) (by omega)
theorem Wi64_succ {i : Nat} (h : i < 2 ^ 62) : Wi64 ((i : Int) + 1) = ((i + 1 : Nat) : Int) := by rw [wrap_i64 (by omega) (by omega)]; rfl
theorem Wi64_sub {i j : Nat} (h : i < 2 ^ 62) (hj : j ≤ i) : Wi64 ((i : Int) - (j : Int)) = ((i - j : Nat) : Int) := by rw [wrap_i64 (by omega) (by omega)]; omega

theorem From_loop {R : Type} (k : Nat) (N : Nat) (hN : N < 2 ^ 60) (f : Nat → Bool) (a b : Int) (K : Int → Int → Option R) : ∀ (m n i : Nat), i + m = 128 → m < n → i ≤ N →
    plumblineref01_From_l0 k n (i : Int) (rowN N f) a b (hi (nOf f i)) (lo (nOf f i)) K = K (hi (nOf f (min N 128))) (lo (nOf f (min N 128)))
  | m, 0, i, h1, h2, _ => by omega
  | 0, n + 1, i, h1, h2, h3 => by
    have : i = 128 := by omega
    subst this
    rw [plumblineref01_From_l0, plumblineref01_From_l0B]
    have e0 : ¬ (((128 : Nat) : Int) < 128) := by decide
    simp only [e0, decide_false, cond_false, rowN_length]
    have : min N 128 = 128 := by omega
    rw [this]
    cases decide (((128 : Nat) : Int) < (N : Int)) <;> rfl
  | m + 1, n + 1, i, h1, h2, h3 => by
    rw [plumblineref01_From_l0, plumblineref01_From_l0B]
    simp only [rowN_length]
    by_cases hN2 : i = N
    · subst hN2
      have e0 : ¬ ((i : Int) < (i : Int)) := by omega
      have : min i 128 = i := by omega
      simp only [e0, decide_false, cond_false, this]
    · have e0 : ((i : Int) < (N : Int)) := by omega
      have e1 : ((i : Int) < 128) := by omega
      have e2 : ((0 : Int) ≤ (i : Int)) := by omega
      have e3 : ¬ ((i : Int) < 0) := by omega
      have e4 : i < N := by omega
      rw [Wi64_succ (by omega)]
      simp only [e0, e1, e2, e3, decide_true, decide_false, cond_true, cond_false, Int.toNat_natCast, rowN_get, if_pos e4, Option.bind_some]
      have ih := From_loop k N hN f a b K m n (i + 1) (by omega) (by omega) (by omega)
      refine Eq.trans ?_ ih
      have hlt := nOf_lt f i
      cases hf : f i with
      | false =>
        simp only [Bool.not_false, cond_true, nOf, hf, Bool.toNat_false, Nat.zero_mul, Nat.add_zero]
      | true =>
        simp only [Bool.not_true, cond_false, nOf, hf, Bool.toNat_true, Nat.one_mul]
        by_cases h64 : i < 64
        · have c1 : ((i : Int) < 64) := by omega
          have hp : 2 ^ i ≤ 2 ^ 63 := Nat.pow_le_pow_right (by decide) (by omega)
          have hl2 : nOf f i < 2 ^ 64 := by omega
          have hl3 : nOf f i + 2 ^ i < 2 ^ 64 := by omega
          simp only [c1, decide_true, cond_true, hi_small hl2, lo_small hl2, hi_small hl3, lo_small hl3, bit_or hlt h64]
        · have c1 : ¬ ((i : Int) < 64) := by omega
          have c2 : Wi64 ((i : Int) - 64) = ((i - 64 : Nat) : Int) := by rw [wrap_i64 (by omega) (by omega)]; omega
          have c3 : ¬ (((i - 64 : Nat) : Int) < 0) := by omega
          simp only [c1, c2, c3, decide_false, cond_false]
          have hp : 2 ^ i = 2 ^ (i - 64) * 2 ^ 64 := by rw [← Nat.pow_add]; congr 1; omega
          have hd : nOf f i / 2 ^ 64 < 2 ^ (i - 64) := by rw [Nat.div_lt_iff_lt_mul (by decide), ← hp]; exact hlt
          have e5 : hi (nOf f i + 2 ^ i) = bOr .u64 (hi (nOf f i)) (shl .u64 1 ((i - 64 : Nat) : Int)) := by
            unfold hi
            rw [bit_or hd (by omega), hp, Nat.add_mul_div_right _ _ (by decide)]
          have e6 : lo (nOf f i + 2 ^ i) = lo (nOf f i) := by
            unfold lo
            rw [hp, Nat.add_mul_mod_self_right]
          rw [e5, e6]

theorem From_row {R : Type} {k N : Nat} (hk : 5000 ≤ k) (hN : N < 2 ^ 60) (f : Nat → Bool) (K : Int → Int → Option R) :
    plumblineref01_From k (rowN N f) K = K (hi (nOf f (min N 128))) (lo (nOf f (min N 128))) := by
  unfold plumblineref01_From
  have := From_loop k N hN f 0 0 K 128 k 0 (by omega) (by omega) (by omega)
  rw [show nOf f 0 = 0 from rfl, hi_small (by decide), lo_small (by decide)] at this
  exact this

theorem From_num {R : Type} {k A : Nat} (hk : 5000 ≤ k) (hA : A < 2 ^ 128) {f : Nat → Bool} (hf : ∀ i, i < 128 → f i = A.testBit i) (K : Int → Int → Option R) :
    plumblineref01_From k (rowN 128 f) K = K (hi A) (lo A) := by
  rw [From_row hk (by decide)]
  have : nOf f (min 128 128) = A := nOf_eq hA hf
  rw [this]

/-! ### Moves by the reference -/

theorem refShl_loop {R : Type} (k : Nat) (A : Nat) (s : Nat) (hs : s < 2 ^ 63) (a b : Int) (K : List Bool → Option R) : ∀ (m n i : Nat), m = i → m < n → i ≤ 128 →
    plumblineref01_Shl_l0 k n (s : Int) ((i : Int) - 1) a b (rowN 128 A.testBit) (rowN 128 fun j => if i ≤ j ∧ s ≤ j then A.testBit (j - s) else false) K = K (rowN 128 fun j => if s ≤ j then A.testBit (j - s) else false)
  | m, 0, i, h1, h2, _ => by omega
  | 0, n + 1, i, h1, h2, h3 => by
    subst h1
    rw [plumblineref01_Shl_l0, plumblineref01_Shl_l0B]
    have e0 : ¬ ((((0 : Nat) : Int) - 1) ≥ 0) := by decide
    simp only [e0, decide_false, cond_false, Nat.zero_le, true_and]
  | m + 1, n + 1, i, h1, h2, h3 => by
    subst h1
    rw [plumblineref01_Shl_l0, plumblineref01_Shl_l0B]
    have e : (((m + 1 : Nat) : Int) - 1) = (m : Int) := by omega
    have e0 : ((m : Int) ≥ 0) := by omega
    rw [e]
    by_cases hsm : s ≤ m
    · have e1 : ((m : Int) ≥ (s : Int)) := by omega
      have e2 : ((0 : Int) ≤ ((m - s : Nat) : Int)) := by omega
      have e3 : ((0 : Int) ≤ (m : Int)) := by omega
      have e4 : (((m - s : Nat) : Int) < ((128 : Nat) : Int)) := by omega
      have e5 : ((m : Int) < ((128 : Nat) : Int)) := by omega
      have e6 : m - s < 128 := by omega
      have e7 : m < 128 := by omega
      have e8 : Wi64 ((m : Int) - 1) = ((m : Int) - 1) := wrap_i64 (by omega) (by omega)
      rw [Wi64_sub (by omega) hsm, e8]
      simp only [e0, e1, e2, e3, e4, e5, rowN_length, decide_true, cond_true, Int.toNat_natCast, rowN_get, if_pos e6, if_pos e7, Option.bind_some, rowN_set]
      refine Eq.trans ?_ (refShl_loop k A s hs a b K m n m rfl (by omega) (by omega))
      congr 1
      refine rowN_congr fun j hj => ?_
      by_cases c : j = m
      · subst c; simp [hsm]
      · have d : (m + 1 ≤ j) ↔ (m ≤ j) := by omega
        simp only [c, if_false, d]
    · have e1 : ¬ ((m : Int) ≥ (s : Int)) := by omega
      simp only [e0, e1, decide_true, decide_false, cond_true, cond_false]
      congr 1
      refine rowN_congr fun j hj => ?_
      have d : (m + 1 ≤ j ∧ s ≤ j) ↔ (s ≤ j) := by omega
      simp only [d]

theorem refShl_hl {R : Type} {k A : Nat} {n : Int} (hk : 5000 ≤ k) (hA : A < 2 ^ 128) (hn : (Lit.int .i64 n).wf = true) (K : Int → Int → Option R) :
    plumblineref01_Shl k (hi A) (lo A) n K = K (hi (A * 2 ^ n.toNat % 2 ^ 128)) (lo (A * 2 ^ n.toNat % 2 ^ 128)) := by
  have hb := i64_wf hn
  have key : ∀ s : Nat, s < 2 ^ 63 → (plumblineref01_Bits k (hi A) (lo A) (fun r5 =>
      plumblineref01_Shl_l0 k k (s : Int) 127 0 0 r5 (List.replicate 128 false) (fun r6 => plumblineref01_From k r6 (fun r7 r8 => K r7 r8)))) = K (hi (A * 2 ^ s % 2 ^ 128)) (lo (A * 2 ^ s % 2 ^ 128)) := by
    intro s hs
    rw [Bits_hl hk hA, rowN_false]
    have h := refShl_loop k A s hs 0 0 (fun r6 => plumblineref01_From k r6 (fun r7 r8 => K r7 r8)) 128 k 128 rfl (by omega) (by omega)
    have e : (rowN 128 fun j => if 128 ≤ j ∧ s ≤ j then A.testBit (j - s) else false) = rowN 128 (fun _ => false) := rowN_congr fun j hj => by
      have : ¬ (128 ≤ j ∧ s ≤ j) := by omega
      simp only [this, if_false]
    rw [e] at h
    refine h.trans ?_
    refine From_num hk (Nat.mod_lt _ (by decide)) (fun i hi => ?_) K
    rw [Nat.testBit_mod_two_pow, Nat.testBit_mul_two_pow]
    by_cases c : s ≤ i <;> simp [c, hi]
  unfold plumblineref01_Shl
  by_cases h0 : n < 0
  · have : n.toNat = 0 := by omega
    simp only [h0, decide_true, cond_true, this]
    exact key 0 (by decide)
  · obtain ⟨s, rfl⟩ : ∃ s : Nat, n = (s : Int) := ⟨n.toNat, by omega⟩
    simp only [h0, decide_false, cond_false, Int.toNat_natCast]
    exact key s (by omega)

end Go.Proofs.Ytnbmconaglehbaa.N
