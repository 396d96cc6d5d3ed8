/- Whole numbers of 64 bits as the evaluator has them, told in naturals. Conditions: none. -/
import Derived.Test.YtnbmconaglehbaaAb1
import GoSem.Claim
namespace Go.Ab
set_option linter.unusedVariables false
set_option linter.unusedSimpArgs false
open Go

theorem wrap_u64 (x : Int) : IntKind.wrap .u64 x = x % 18446744073709551616 := by
  unfold IntKind.wrap
  simp only [IntKind.bits, IntKind.signed]
  have e1 : (2 ^ 64 : Int) = 18446744073709551616 := by decide
  simp only [e1]
  rfl

theorem wrap_i64 {x : Int} (h0 : -9223372036854775808 ≤ x) (h1 : x < 9223372036854775808) : Wi64 x = x := by
  unfold Wi64 IntKind.wrap
  simp only [IntKind.bits, IntKind.signed]
  have e1 : (2 ^ 64 : Int) = 18446744073709551616 := by decide
  have e2 : (2 ^ (64 - 1) : Int) = 9223372036854775808 := by decide
  simp only [e1, e2, Bool.true_and, decide_eq_true_eq]
  split <;> omega

theorem shl_nat (n s : Nat) (hs : s ≤ 64) : shl .u64 (n : Int) (s : Int) = ((n * 2 ^ s % 2 ^ 64 : Nat) : Int) := by
  unfold shl
  rw [wrap_u64]
  have : min ((s : Int).toNat) IntKind.u64.bits = s := by simp [IntKind.bits]; omega
  rw [this]
  have e : ((n : Int) * 2 ^ s) = ((n * 2 ^ s : Nat) : Int) := by rw [Int.natCast_mul, Int.natCast_pow]; rfl
  rw [e]
  have e2 : (18446744073709551616 : Int) = ((2 ^ 64 : Nat) : Int) := by decide
  rw [e2, ← Int.natCast_emod]

theorem shr_nat (n s : Nat) (hs : s ≤ 64) : shr .u64 (n : Int) (s : Int) = ((n / 2 ^ s : Nat) : Int) := by
  unfold shr
  have : min ((s : Int).toNat) IntKind.u64.bits = s := by simp [IntKind.bits]; omega
  rw [this]
  have e : (2 ^ s : Int) = ((2 ^ s : Nat) : Int) := by rw [Int.natCast_pow]; rfl
  rw [e, Int.fdiv_eq_ediv_of_nonneg _ (Int.natCast_nonneg _)]
  rfl

theorem orInt_nat (f : BitVec 64 → BitVec 64 → BitVec 64) (n m : Nat) : orInt .u64 f (n : Int) (m : Int) = ((f (BitVec.ofNat 64 n) (BitVec.ofNat 64 m)).toNat : Int) := by
  unfold orInt
  rw [wrap_u64]
  have h := (f (BitVec.ofNat 64 n) (BitVec.ofNat 64 m)).isLt
  show (((f (BitVec.ofInt 64 (n : Int)) (BitVec.ofInt 64 (m : Int))).toNat : Int)) % 18446744073709551616 = _
  rw [show BitVec.ofInt 64 (n : Int) = BitVec.ofNat 64 n by simp, show BitVec.ofInt 64 (m : Int) = BitVec.ofNat 64 m by simp]
  have h2 : (f (BitVec.ofNat 64 n) (BitVec.ofNat 64 m)).toNat < 18446744073709551616 := h
  omega

theorem bOr_nat {n m : Nat} (hn : n < 2 ^ 64) (hm : m < 2 ^ 64) : bOr .u64 (n : Int) (m : Int) = ((n ||| m : Nat) : Int) := by
  show orInt .u64 _ _ _ = _
  refine (orInt_nat (· ||| ·) n m).trans ?_
  simp [BitVec.toNat_or, Nat.mod_eq_of_lt hn, Nat.mod_eq_of_lt hm]

theorem bAnd_nat {n m : Nat} (hn : n < 2 ^ 64) (hm : m < 2 ^ 64) : bAnd .u64 (n : Int) (m : Int) = ((n &&& m : Nat) : Int) := by
  show orInt .u64 _ _ _ = _
  refine (orInt_nat (· &&& ·) n m).trans ?_
  simp [BitVec.toNat_and, Nat.mod_eq_of_lt hn, Nat.mod_eq_of_lt hm]

theorem u64_nat {x : Int} (h : (Lit.int .u64 x).wf = true) : ∃ n : Nat, x = (n : Int) ∧ n < 2 ^ 64 := by
  have h' : 0 ≤ x ∧ x ≤ 18446744073709551615 := by
    simp only [Lit.wf, Bool.and_eq_true, decide_eq_true_eq] at h
    have e1 : IntKind.u64.min = 0 := by decide
    have e2 : IntKind.u64.max = 18446744073709551615 := by decide
    rw [e1, e2] at h
    exact h
  exact ⟨x.toNat, by omega, by omega⟩

end Go.Ab
