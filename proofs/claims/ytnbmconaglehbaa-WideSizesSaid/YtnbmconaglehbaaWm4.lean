/- The bits of a number of 128 bits, by the reference. Conditions: none. -/
import Derived.Test.YtnbmconaglehbaaWm3
namespace Go.Proofs.Ytnbmconaglehbaa.N
set_option linter.unusedVariables false
set_option linter.unusedSimpArgs false
open Go Go.Ab

/-- 128 bits told by a function. -/
def row (f : Nat → Bool) : List Bool := (List.range 128).map f

theorem row_length (f : Nat → Bool) : (row f).length = 128 := by simp [row]

theorem row_get (f : Nat → Bool) (i : Nat) : (row f)[i]? = if i < 128 then some (f i) else none := by
  unfold row
  rw [List.getElem?_map]
  by_cases h : i < 128
  · rw [List.getElem?_range h, if_pos h]; rfl
  · rw [List.getElem?_eq_none (by simp; omega), if_neg h]; rfl

theorem row_set (f : Nat → Bool) (i : Nat) (b : Bool) : (row f).set i b = row (fun j => if j = i then b else f j) := by
  apply List.ext_getElem?
  intro j
  rw [List.getElem?_set, row_get, row_length, row_get]
  by_cases hj : i = j
  · subst hj
    simp
  · rw [if_neg hj]
    have : ¬ j = i := fun h => hj h.symm
    simp [this]

theorem row_congr {f g : Nat → Bool} (h : ∀ i, i < 128 → f i = g i) : row f = row g := by
  apply List.ext_getElem?
  intro i
  rw [row_get, row_get]
  split
  · rename_i hi; rw [h i hi]
  · rfl

theorem row_false : List.replicate 128 false = row (fun _ => false) := by
  apply List.ext_getElem?
  intro i
  rw [row_get, List.getElem?_replicate]

theorem bit_eq {n i : Nat} (hn : n < 2 ^ 64) (hi : i ≤ 64) : (bAnd .u64 (shr .u64 (n : Int) (i : Int)) 1 == 1) = n.testBit i := by
  rw [shr_nat n i hi]
  have := bAnd_nat (n := n / 2 ^ i) (m := 1) (Nat.lt_of_le_of_lt (Nat.div_le_self _ _) hn) (by decide)
  rw [show (1 : Int) = ((1 : Nat) : Int) from rfl, this]
  have h1 : (n / 2 ^ i &&& 1) = n / 2 ^ i % 2 := Nat.and_one_is_mod _
  rw [h1, Nat.testBit_eq_decide_div_mod_eq]
  rw [Bool.eq_iff_iff]
  simp only [beq_iff_eq, decide_eq_true_eq]
  omega

theorem V_testBit {h l : Nat} (hl : l < 2 ^ 64) (i : Nat) : (V h l).testBit i = if i < 64 then l.testBit i else h.testBit (i - 64) := by
  unfold V
  rw [Nat.mul_comm, Nat.testBit_two_pow_mul_add _ hl]

theorem Bits_loop {R : Type} (k : Nat) {h l : Nat} (hh : h < 2 ^ 64) (hl : l < 2 ^ 64) (K : List Bool → Option R) : ∀ (m n i : Nat), i + m = 64 → m < n →
    plumblineref01_Bits_l0 k n (i : Int) (h : Int) (l : Int) (row fun j => if j < i then l.testBit j else if 64 ≤ j ∧ j < 64 + i then h.testBit (j - 64) else false) K = K (row (V h l).testBit)
  | m, 0, i, h1, h2 => by omega
  | 0, n + 1, i, h1, h2 => by
    have : i = 64 := by omega
    subst this
    rw [plumblineref01_Bits_l0, plumblineref01_Bits_l0B]
    have e0 : ¬ (((64 : Nat) : Int) < 64) := by decide
    simp only [e0, decide_false, cond_false]
    congr 1
    refine row_congr fun j hj => ?_
    rw [V_testBit hl]
    by_cases h1 : j < 64
    · simp [h1]
    · have : 64 ≤ j ∧ j < 64 + 64 := by omega
      simp [h1, this]
  | m + 1, n + 1, i, h1, h2 => by
    rw [plumblineref01_Bits_l0, plumblineref01_Bits_l0B]
    have e0 : ((i : Int) < 64) := by omega
    have e1 : ¬ ((i : Int) < 0) := by omega
    have e2 : (0 : Int) ≤ (i : Int) := by omega
    have e3 : Wi64 (64 + (i : Int)) = ((64 + i : Nat) : Int) := by rw [wrap_i64 (by omega) (by omega)]; omega
    have e4 : Wi64 ((i : Int) + 1) = ((i + 1 : Nat) : Int) := by rw [wrap_i64 (by omega) (by omega)]; omega
    have e5 : (0 : Int) ≤ ((64 + i : Nat) : Int) := by omega
    have e6 : ((i : Int) < ((128 : Nat) : Int)) := by omega
    have e7 : (((64 + i : Nat) : Int) < ((128 : Nat) : Int)) := by omega
    rw [e3, e4]
    simp only [Int.toNat_natCast, row_set, row_length, row_get, e0, e1, e2, e5, e6, e7, decide_true, decide_false, cond_true, cond_false, bit_eq hl (by omega : i ≤ 64), bit_eq hh (by omega : i ≤ 64)]
    have e8 : i < 128 := by omega
    have e9 : 64 + i < 128 := by omega
    simp only [e8, e9, if_true, Option.bind_some]
    refine Eq.trans ?_ (Bits_loop k hh hl K m n (i + 1) (by omega) (by omega))
    congr 1
    refine row_congr fun j hj => ?_
    by_cases c1 : j = 64 + i
    · subst c1; simp; omega
    · by_cases c2 : j = i
      · subst c2; simp [c1]
      · have d1 : (j < i + 1) ↔ (j < i) := by omega
        have d2 : (64 ≤ j ∧ j < 64 + (i + 1)) ↔ (64 ≤ j ∧ j < 64 + i) := by omega
        simp only [c1, c2, if_false, d1, d2]

theorem Bits_spec {R : Type} {k h l : Nat} (hk : 65 ≤ k) (hh : h < 2 ^ 64) (hl : l < 2 ^ 64) (K : List Bool → Option R) : plumblineref01_Bits k (h : Int) (l : Int) K = K (row (V h l).testBit) := by
  unfold plumblineref01_Bits
  rw [row_false]
  have := Bits_loop k hh hl K 64 k 0 (by omega) (by omega)
  refine Eq.trans ?_ this
  have e : (row fun _ => false) = row (fun j => if j < 0 then l.testBit j else if 64 ≤ j ∧ j < 64 + 0 then h.testBit (j - 64) else false) := row_congr fun j hj => by
    have d : ¬ (64 ≤ j ∧ j < 64 + 0) := by omega
    simp [d]
  rw [e]; rfl

end Go.Proofs.Ytnbmconaglehbaa.N
