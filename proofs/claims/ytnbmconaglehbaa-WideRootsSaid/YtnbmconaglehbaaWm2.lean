/- Moves of numbers of 128 bits: what wide.Shl and wide.Shr come to. Conditions: none. -/
import Derived.Test.YtnbmconaglehbaaWm1
import Derived.Test.YtnbmconaglehbaaN5
namespace Go.Proofs.Ytnbmconaglehbaa.N
set_option linter.unusedVariables false
set_option linter.unusedSimpArgs false
open Go Go.Ab

def V (h l : Nat) : Nat := h * 2 ^ 64 + l

theorem V_inj {h l h' l' : Nat} (hl : l < 2 ^ 64) (hl' : l' < 2 ^ 64) (h1 : V h l = V h' l') : h = h' ∧ l = l' := by
  unfold V at h1
  omega

theorem or_add {a b s : Nat} (ha : a % 2 ^ s = 0) (hb : b < 2 ^ s) : a ||| b = a + b := by
  have h1 : a = 2 ^ s * (a / 2 ^ s) := by
    have := Nat.div_add_mod a (2 ^ s); omega
  rw [h1, ← Nat.two_pow_add_eq_or_of_lt hb]

/-- wide.Shl: up by n bits, modulo 2^128. -/
theorem shl_mid {h l s : Nat} (hh : h < 2 ^ 64) (hl : l < 2 ^ 64) (h0 : 0 < s) (hs : s < 64) :
    V ((h * 2 ^ s % 2 ^ 64) ||| (l / 2 ^ (64 - s))) (l * 2 ^ s % 2 ^ 64) = V h l * 2 ^ s % 2 ^ 128 := by
  have hp : 2 ^ 64 = 2 ^ s * 2 ^ (64 - s) := by rw [← Nat.pow_add]; congr 1; omega
  have hpos : 0 < 2 ^ s := Nat.two_pow_pos s
  have hpos2 : 0 < 2 ^ (64 - s) := Nat.two_pow_pos _
  have e1 : l / 2 ^ (64 - s) < 2 ^ s := by
    rw [Nat.div_lt_iff_lt_mul hpos2, ← hp]; exact hl
  have e2 : (h * 2 ^ s % 2 ^ 64) % 2 ^ s = 0 := by
    rw [hp, Nat.mod_mul_right_mod, Nat.mul_mod_left]
  rw [or_add e2 e1]
  have e3 : l * 2 ^ s / 2 ^ 64 = l / 2 ^ (64 - s) := by
    rw [hp, Nat.mul_comm l, Nat.mul_div_mul_left _ _ hpos]
  have e4 : h * 2 ^ s % 2 ^ 64 + 2 ^ s ≤ 2 ^ 64 := by
    have hlt : h * 2 ^ s % 2 ^ 64 < 2 ^ 64 := Nat.mod_lt _ (by decide)
    generalize h * 2 ^ s % 2 ^ 64 = r at e2 hlt ⊢
    have hr : r = 2 ^ s * (r / 2 ^ s) := by have := Nat.div_add_mod r (2 ^ s); omega
    have hlt2 : r / 2 ^ s < 2 ^ (64 - s) := by rw [Nat.div_lt_iff_lt_mul hpos, Nat.mul_comm, ← hp]; exact hlt
    have := Nat.mul_le_mul_left (2 ^ s) hlt2
    rw [← hp] at this
    rw [Nat.succ_eq_add_one, Nat.mul_add, Nat.mul_one, ← hr] at this
    exact this
  have e5 : V h l * 2 ^ s = (h * 2 ^ s) * 2 ^ 64 + l * 2 ^ s := by
    unfold V; rw [Nat.add_mul, Nat.mul_right_comm]
  rw [e5]
  unfold V
  rw [← e3] at e1 ⊢
  generalize h * 2 ^ s = X at *
  generalize l * 2 ^ s = Y at *
  generalize 2 ^ s = A at *
  omega

theorem Shl_spec {R : Type} (k : Nat) {h l : Nat} {n : Int} (hh : h < 2 ^ 64) (hl : l < 2 ^ 64) (hn : (Lit.int .i64 n).wf = true) :
    ∃ h' l' : Nat, h' < 2 ^ 64 ∧ l' < 2 ^ 64 ∧ V h' l' = V h l * 2 ^ n.toNat % 2 ^ 128 ∧ ∀ K : Int → Int → Option R, wide_Shl k (h : Int) (l : Int) n K = K (h' : Int) (l' : Int) := by
  have hb : -9223372036854775808 ≤ n ∧ n ≤ 9223372036854775807 := by
    simp only [Lit.wf, Bool.and_eq_true, decide_eq_true_eq] at hn
    have e1 : IntKind.i64.min = -9223372036854775808 := by decide
    have e2 : IntKind.i64.max = 9223372036854775807 := by decide
    rw [e1, e2] at hn
    exact hn
  by_cases h0 : n ≤ 0
  · refine ⟨h, l, hh, hl, ?_, fun K => ?_⟩
    · have : n.toNat = 0 := by omega
      rw [this]; unfold V; omega
    · unfold wide_Shl; simp [h0]
  · obtain ⟨s, rfl⟩ : ∃ s : Nat, n = (s : Int) := ⟨n.toNat, by omega⟩
    simp only [Int.toNat_natCast]
    by_cases h1 : s < 64
    · refine ⟨(h * 2 ^ s % 2 ^ 64) ||| (l / 2 ^ (64 - s)), l * 2 ^ s % 2 ^ 64, ?_, Nat.mod_lt _ (by decide), shl_mid hh hl (by omega) h1, fun K => ?_⟩
      · exact Nat.or_lt_two_pow (Nat.mod_lt _ (by decide)) (Nat.lt_of_le_of_lt (Nat.div_le_self _ _) hl)
      · have e0 : ¬ ((s : Int) ≤ 0) := h0
        have e1 : ¬ ((s : Int) ≥ 64) := by omega
        have e2 : ¬ ((s : Int) < 0) := by omega
        have e3 : Wi64 (64 - (s : Int)) = ((64 - s : Nat) : Int) := by rw [wrap_i64 (by omega) (by omega)]; omega
        have e4 : ¬ (((64 - s : Nat) : Int) < 0) := by omega
        unfold wide_Shl
        rw [e3]
        simp only [e0, e1, e2, e4, decide_false, cond_false]
        rw [shl_nat h s (by omega), shl_nat l s (by omega), shr_nat l (64 - s) (by omega), bOr_nat (Nat.mod_lt _ (by decide)) (Nat.lt_of_le_of_lt (Nat.div_le_self _ _) hl)]
    · have e0 : ¬ ((s : Int) ≤ 0) := h0
      have e1 : ((s : Int) ≥ 64) := by omega
      have e3 : Wi64 ((s : Int) - 64) = ((s - 64 : Nat) : Int) := by rw [wrap_i64 (by omega) (by omega)]; omega
      have e4 : ¬ (((s - 64 : Nat) : Int) < 0) := by omega
      refine ⟨l * 2 ^ (min (s - 64) 64) % 2 ^ 64, 0, Nat.mod_lt _ (by decide), by decide, ?_, fun K => ?_⟩
      · unfold V
        by_cases hs : s - 64 ≤ 64
        · have hp : 2 ^ s = 2 ^ (s - 64) * 2 ^ 64 := by rw [← Nat.pow_add]; congr 1; omega
          rw [Nat.min_eq_left hs, hp, ← Nat.mul_assoc, Nat.add_mul, Nat.add_mul]
          have : h * 2 ^ 64 * 2 ^ (s - 64) * 2 ^ 64 = (h * 2 ^ (s - 64)) * 2 ^ 128 := by
            rw [Nat.mul_right_comm h, Nat.mul_assoc (h * 2 ^ (s - 64))]
          rw [this]
          generalize h * 2 ^ (s - 64) = X
          generalize l * 2 ^ (s - 64) = Y
          clear this hp
          have e128 : (2 ^ 128 : Nat) = 340282366920938463463374607431768211456 := by decide
          have e64 : (2 ^ 64 : Nat) = 18446744073709551616 := by decide
          rw [e128, e64]
          omega
        · have hp : 2 ^ s = 2 ^ (s - 128) * 2 ^ 128 := by rw [← Nat.pow_add]; congr 1; omega
          rw [Nat.min_eq_right (by omega), hp, ← Nat.mul_assoc, Nat.mul_mod_left, Nat.mul_mod_left]
      · unfold wide_Shl
        rw [e3]
        simp only [e0, e1, e4, decide_false, decide_true, cond_false, cond_true]
        by_cases hs : s - 64 ≤ 64
        · rw [shl_nat l _ hs, Nat.min_eq_left hs]; rfl
        · have : shl .u64 (l : Int) ((s - 64 : Nat) : Int) = shl .u64 (l : Int) ((64 : Nat) : Int) := by
            unfold shl; congr 3; simp [IntKind.bits]; omega
          rw [this, shl_nat l 64 (by omega), Nat.min_eq_right (by omega)]; rfl

end Go.Proofs.Ytnbmconaglehbaa.N
