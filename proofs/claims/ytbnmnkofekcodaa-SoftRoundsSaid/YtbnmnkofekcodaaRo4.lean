/- Whole numbers rounded by the reference. Conditions: none. -/
import Derived.Test.YtbnmnkofekcodaaRo3
import Derived.Test.YtbnmnkofekcodaaMth1
import Derived.Test.YtbnmnkofekcodaaMr
namespace Go.Proofs.Ytbnmnkofekcodaa.N
set_option linter.unusedVariables false
set_option linter.unusedSimpArgs false
open Go Go.Ab

/-- Two bits ahead of a row. -/
theorem bits_ahead (x : Bool) (n N : Nat) : [x, false] ++ rowN n N.testBit = bitsOf (n + 2) (N * 2 ^ 2 + x.toNat) := by
  unfold bitsOf
  apply List.ext_getElem?
  intro i
  have ht : x.toNat < 2 ^ 2 := Nat.lt_of_le_of_lt (Bool.toNat_le _) (by decide)
  rw [rowN_get, Nat.mul_comm, Nat.testBit_two_pow_mul_add _ ht]
  match i with
  | 0 => rw [if_pos (by omega), if_pos (by omega)]; cases x <;> rfl
  | 1 => rw [if_pos (by omega), if_pos (by omega)]; cases x <;> rfl
  | i + 2 =>
    have : ([x, false] ++ rowN n N.testBit)[i + 2]? = (rowN n N.testBit)[i]? := rfl
    rw [this, rowN_get, if_neg (by omega : ¬ i + 2 < 2), Nat.add_sub_cancel]
    by_cases h : i < n
    · rw [if_pos h, if_pos (by omega)]
    · rw [if_neg h, if_neg (by omega)]

theorem rRound_k {R : Type} {k : Nat} (hk : 5000 ≤ k) (f m : Int) (b : Bool) {N : Nat} (hN : N < 2 ^ 128) {e : Int} (he : (Lit.int .i64 e).wf = true) (x : Bool) (K : Int → Option R) :
    plumblineref02_Round k f m b (hi N) (lo N) e x K = K ((Rd f m b (N * 2 ^ 2 + x.toNat) (ce e - ((2 : Nat) : Int)) false : Nat) : Int) := by
  have hx : x.toNat ≤ 1 := Bool.toNat_le _
  have key : ∀ y : Int, -100000 ≤ y → y ≤ 100000 → (plumblineref01_Bits k (hi N) (lo N) (fun r1 =>
      cond (Nat.ble ((2 + (List.length r1)) * 1) 70368744177664) (
        plumblineref02_Rounded k f m b y ([x, false] ++ r1) (fun r2 => K r2)) (none))) = K ((Rd f m b (N * 2 ^ 2 + x.toNat) y false : Nat) : Int) := by
    intro y h1 h2
    have hle : Nat.ble ((2 + 128) * 1) 70368744177664 = true := by decide
    rw [Bits_hl hk hN, rowN_length, hle, cond_true, bits_ahead, Rounded_k f m b (by decide) (by omega) (by omega) h1 h2]
  unfold plumblineref02_Round plumblineref02_RoundT ce
  have hb := i64_wf he
  by_cases c1 : e < -4000
  · rw [decide_eq_true c1, cond_true, if_pos c1]
    exact key (-4002) (by decide) (by decide)
  · rw [decide_eq_false c1, cond_false, if_neg c1]
    by_cases c2 : e > 4000
    · rw [decide_eq_true c2, cond_true, if_pos c2]
      exact key 3998 (by decide) (by decide)
    · have w : Wi64 (e - 2) = e - 2 := wrap_i64 (by omega) (by omega)
      rw [decide_eq_false c2, cond_false, if_neg c2, w]
      exact key (e - 2) (by omega) (by omega)

end Go.Proofs.Ytbnmnkofekcodaa.N
