/- Whole numbers of 64 bits as the evaluator has them, told in naturals. Conditions: none. -/
import Derived.Test.YtbnmnkofekcodaaEng1
import Derived.Test.YtbnmnkofekcodaaNwide
import Derived.Test.YtbnmnkofekcodaaNr01
import Derived.Test.YtbnmnkofekcodaaNsoft
import Derived.Test.YtbnmnkofekcodaaNlaw
import Derived.Test.YtbnmnkofekcodaaEng2
import GoSem.Claim
namespace Go.Ab
set_option linter.unusedVariables false
set_option linter.unusedSimpArgs false
open Go

theorem wrap_u64 (x : Int) : IntKind.wrap .u64 x = x % 18446744073709551616 := by
  unfold IntKind.wrap
  simp only [IntKind.bits, IntKind.signed]
  have e1 : (2 ^ 64 : Int) = 18446744073709551616 := by decide
  simp only [e1]
  rfl

theorem wrap_i64 {x : Int} (h0 : -9223372036854775808 ≤ x) (h1 : x < 9223372036854775808) : Wi64 x = x := by
  unfold Wi64 IntKind.wrap
  simp only [IntKind.bits, IntKind.signed]
  have e1 : (2 ^ 64 : Int) = 18446744073709551616 := by decide
  have e2 : (2 ^ (64 - 1) : Int) = 9223372036854775808 := by decide
  simp only [e1, e2, Bool.true_and, decide_eq_true_eq]
  split <;> omega

theorem shl_nat (n s : Nat) (hs : s ≤ 64) : shl .u64 (n : Int) (s : Int) = ((n * 2 ^ s % 2 ^ 64 : Nat) : Int) := by
  unfold shl
  rw [wrap_u64]
  have : min ((s : Int).toNat) IntKind.u64.bits = s := by simp [IntKind.bits]; omega
  rw [this]
  have e : ((n : Int) * 2 ^ s) = ((n * 2 ^ s : Nat) : Int) := by rw [Int.natCast_mul, Int.natCast_pow]; rfl
  rw [e]
  have e2 : (18446744073709551616 : Int) = ((2 ^ 64 : Nat) : Int) := by decide
  rw [e2, ← Int.natCast_emod]

theorem shr_nat (n s : Nat) (hs : s ≤ 64) : shr .u64 (n : Int) (s : Int) = ((n / 2 ^ s : Nat) : Int) := by
  unfold shr
  have : min ((s : Int).toNat) IntKind.u64.bits = s := by simp [IntKind.bits]; omega
  rw [this]
  have e : (2 ^ s : Int) = ((2 ^ s : Nat) : Int) := by rw [Int.natCast_pow]; rfl
  rw [e, Int.fdiv_eq_ediv_of_nonneg _ (Int.natCast_nonneg _)]
  rfl

theorem orInt_nat (f : BitVec 64 → BitVec 64 → BitVec 64) (n m : Nat) : orInt .u64 f (n : Int) (m : Int) = ((f (BitVec.ofNat 64 n) (BitVec.ofNat 64 m)).toNat : Int) := by
  unfold orInt
  rw [wrap_u64]
  have h := (f (BitVec.ofNat 64 n) (BitVec.ofNat 64 m)).isLt
  show (((f (BitVec.ofInt 64 (n : Int)) (BitVec.ofInt 64 (m : Int))).toNat : Int)) % 18446744073709551616 = _
  rw [show BitVec.ofInt 64 (n : Int) = BitVec.ofNat 64 n by simp, show BitVec.ofInt 64 (m : Int) = BitVec.ofNat 64 m by simp]
  have h2 : (f (BitVec.ofNat 64 n) (BitVec.ofNat 64 m)).toNat < 18446744073709551616 := h
  omega

theorem bOr_nat {n m : Nat} (hn : n < 2 ^ 64) (hm : m < 2 ^ 64) : bOr .u64 (n : Int) (m : Int) = ((n ||| m : Nat) : Int) := by
  show orInt .u64 _ _ _ = _
  refine (orInt_nat (· ||| ·) n m).trans ?_
  simp [BitVec.toNat_or, Nat.mod_eq_of_lt hn, Nat.mod_eq_of_lt hm]

theorem bAnd_nat {n m : Nat} (hn : n < 2 ^ 64) (hm : m < 2 ^ 64) : bAnd .u64 (n : Int) (m : Int) = ((n &&& m : Nat) : Int) := by
  show orInt .u64 _ _ _ = _
  refine (orInt_nat (· &&& ·) n m).trans ?_
  simp [BitVec.toNat_and, Nat.mod_eq_of_lt hn, Nat.mod_eq_of_lt hm]

theorem u64_nat {x : Int} (h : (Lit.int .u64 x).wf = true) : ∃ n : Nat, x = (n : Int) ∧ n < 2 ^ 64 := by
  have h' : 0 ≤ x ∧ x ≤ 18446744073709551615 := by
    simp only [Lit.wf, Bool.and_eq_true, decide_eq_true_eq] at h
    have e1 : IntKind.u64.min = 0 := by decide
    have e2 : IntKind.u64.max = 18446744073709551615 := by decide
    rw [e1, e2] at h
    exact h
  exact ⟨x.toNat, by omega, by omega⟩

end Go.Ab

/- Moves of numbers of 128 bits: what wide.Shl and wide.Shr come to. Conditions: none. -/
namespace Go.Proofs.Ytbnmnkofekcodaa.N
set_option linter.unusedVariables false
set_option linter.unusedSimpArgs false
open Go Go.Ab

def V (h l : Nat) : Nat := h * 2 ^ 64 + l

theorem V_inj {h l h' l' : Nat} (hl : l < 2 ^ 64) (hl' : l' < 2 ^ 64) (h1 : V h l = V h' l') : h = h' ∧ l = l' := by
  unfold V at h1
  omega

theorem or_add {a b s : Nat} (ha : a % 2 ^ s = 0) (hb : b < 2 ^ s) : a ||| b = a + b := by
  have h1 : a = 2 ^ s * (a / 2 ^ s) := by
    have := Nat.div_add_mod a (2 ^ s); omega
  rw [h1, ← Nat.two_pow_add_eq_or_of_lt hb]

/-- wide.Shl: up by n bits, modulo 2^128. -/
theorem shl_mid {h l s : Nat} (hh : h < 2 ^ 64) (hl : l < 2 ^ 64) (h0 : 0 < s) (hs : s < 64) :
    V ((h * 2 ^ s % 2 ^ 64) ||| (l / 2 ^ (64 - s))) (l * 2 ^ s % 2 ^ 64) = V h l * 2 ^ s % 2 ^ 128 := by
  have hp : 2 ^ 64 = 2 ^ s * 2 ^ (64 - s) := by rw [← Nat.pow_add]; congr 1; omega
  have hpos : 0 < 2 ^ s := Nat.two_pow_pos s
  have hpos2 : 0 < 2 ^ (64 - s) := Nat.two_pow_pos _
  have e1 : l / 2 ^ (64 - s) < 2 ^ s := by
    rw [Nat.div_lt_iff_lt_mul hpos2, ← hp]; exact hl
  have e2 : (h * 2 ^ s % 2 ^ 64) % 2 ^ s = 0 := by
    rw [hp, Nat.mod_mul_right_mod, Nat.mul_mod_left]
  rw [or_add e2 e1]
  have e3 : l * 2 ^ s / 2 ^ 64 = l / 2 ^ (64 - s) := by
    rw [hp, Nat.mul_comm l, Nat.mul_div_mul_left _ _ hpos]
  have e4 : h * 2 ^ s % 2 ^ 64 + 2 ^ s ≤ 2 ^ 64 := by
    have hlt : h * 2 ^ s % 2 ^ 64 < 2 ^ 64 := Nat.mod_lt _ (by decide)
    generalize h * 2 ^ s % 2 ^ 64 = r at e2 hlt ⊢
    have hr : r = 2 ^ s * (r / 2 ^ s) := by have := Nat.div_add_mod r (2 ^ s); omega
    have hlt2 : r / 2 ^ s < 2 ^ (64 - s) := by rw [Nat.div_lt_iff_lt_mul hpos, Nat.mul_comm, ← hp]; exact hlt
    have := Nat.mul_le_mul_left (2 ^ s) hlt2
    rw [← hp] at this
    rw [Nat.succ_eq_add_one, Nat.mul_add, Nat.mul_one, ← hr] at this
    exact this
  have e5 : V h l * 2 ^ s = (h * 2 ^ s) * 2 ^ 64 + l * 2 ^ s := by
    unfold V; rw [Nat.add_mul, Nat.mul_right_comm]
  rw [e5]
  unfold V
  rw [← e3] at e1 ⊢
  generalize h * 2 ^ s = X at *
  generalize l * 2 ^ s = Y at *
  generalize 2 ^ s = A at *
  omega

theorem Shl_spec {R : Type} (k : Nat) {h l : Nat} {n : Int} (hh : h < 2 ^ 64) (hl : l < 2 ^ 64) (hn : (Lit.int .i64 n).wf = true) :
    ∃ h' l' : Nat, h' < 2 ^ 64 ∧ l' < 2 ^ 64 ∧ V h' l' = V h l * 2 ^ n.toNat % 2 ^ 128 ∧ ∀ K : Int → Int → Option R, wide_Shl k (h : Int) (l : Int) n K = K (h' : Int) (l' : Int) := by
  have hb : -9223372036854775808 ≤ n ∧ n ≤ 9223372036854775807 := by
    simp only [Lit.wf, Bool.and_eq_true, decide_eq_true_eq] at hn
    have e1 : IntKind.i64.min = -9223372036854775808 := by decide
    have e2 : IntKind.i64.max = 9223372036854775807 := by decide
    rw [e1, e2] at hn
    exact hn
  by_cases h0 : n ≤ 0
  · refine ⟨h, l, hh, hl, ?_, fun K => ?_⟩
    · have : n.toNat = 0 := by omega
      rw [this]; unfold V; omega
    · unfold wide_Shl wide_ShlT; simp [h0]
  · obtain ⟨s, rfl⟩ : ∃ s : Nat, n = (s : Int) := ⟨n.toNat, by omega⟩
    simp only [Int.toNat_natCast]
    by_cases h1 : s < 64
    · refine ⟨(h * 2 ^ s % 2 ^ 64) ||| (l / 2 ^ (64 - s)), l * 2 ^ s % 2 ^ 64, ?_, Nat.mod_lt _ (by decide), shl_mid hh hl (by omega) h1, fun K => ?_⟩
      · exact Nat.or_lt_two_pow (Nat.mod_lt _ (by decide)) (Nat.lt_of_le_of_lt (Nat.div_le_self _ _) hl)
      · have e0 : ¬ ((s : Int) ≤ 0) := h0
        have e1 : ¬ ((s : Int) ≥ 64) := by omega
        have e2 : ¬ ((s : Int) < 0) := by omega
        have e3 : Wi64 (64 - (s : Int)) = ((64 - s : Nat) : Int) := by rw [wrap_i64 (by omega) (by omega)]; omega
        have e4 : ¬ (((64 - s : Nat) : Int) < 0) := by omega
        unfold wide_Shl wide_ShlT
        rw [e3]
        simp only [e0, e1, e2, e4, decide_false, cond_false]
        rw [shl_nat h s (by omega), shl_nat l s (by omega), shr_nat l (64 - s) (by omega), bOr_nat (Nat.mod_lt _ (by decide)) (Nat.lt_of_le_of_lt (Nat.div_le_self _ _) hl)]
    · have e0 : ¬ ((s : Int) ≤ 0) := h0
      have e1 : ((s : Int) ≥ 64) := by omega
      have e3 : Wi64 ((s : Int) - 64) = ((s - 64 : Nat) : Int) := by rw [wrap_i64 (by omega) (by omega)]; omega
      have e4 : ¬ (((s - 64 : Nat) : Int) < 0) := by omega
      refine ⟨l * 2 ^ (min (s - 64) 64) % 2 ^ 64, 0, Nat.mod_lt _ (by decide), by decide, ?_, fun K => ?_⟩
      · unfold V
        by_cases hs : s - 64 ≤ 64
        · have hp : 2 ^ s = 2 ^ (s - 64) * 2 ^ 64 := by rw [← Nat.pow_add]; congr 1; omega
          rw [Nat.min_eq_left hs, hp, ← Nat.mul_assoc, Nat.add_mul, Nat.add_mul]
          have : h * 2 ^ 64 * 2 ^ (s - 64) * 2 ^ 64 = (h * 2 ^ (s - 64)) * 2 ^ 128 := by
            rw [Nat.mul_right_comm h, Nat.mul_assoc (h * 2 ^ (s - 64))]
          rw [this]
          generalize h * 2 ^ (s - 64) = X
          generalize l * 2 ^ (s - 64) = Y
          clear this hp
          have e128 : (2 ^ 128 : Nat) = 340282366920938463463374607431768211456 := by decide
          have e64 : (2 ^ 64 : Nat) = 18446744073709551616 := by decide
          rw [e128, e64]
          omega
        · have hp : 2 ^ s = 2 ^ (s - 128) * 2 ^ 128 := by rw [← Nat.pow_add]; congr 1; omega
          rw [Nat.min_eq_right (by omega), hp, ← Nat.mul_assoc, Nat.mul_mod_left, Nat.mul_mod_left]
      · unfold wide_Shl wide_ShlT
        rw [e3]
        simp only [e0, e1, e4, decide_false, decide_true, cond_false, cond_true]
        by_cases hs : s - 64 ≤ 64
        · rw [shl_nat l _ hs, Nat.min_eq_left hs]; rfl
        · have : shl .u64 (l : Int) ((s - 64 : Nat) : Int) = shl .u64 (l : Int) ((64 : Nat) : Int) := by
            unfold shl; congr 3; simp [IntKind.bits]; omega
          rw [this, shl_nat l 64 (by omega), Nat.min_eq_right (by omega)]; rfl

end Go.Proofs.Ytbnmnkofekcodaa.N

/- wide.Shr. Conditions: none. -/
namespace Go.Proofs.Ytbnmnkofekcodaa.N
set_option linter.unusedVariables false
set_option linter.unusedSimpArgs false
open Go Go.Ab

theorem i64_wf {n : Int} (hn : (Lit.int .i64 n).wf = true) : -9223372036854775808 ≤ n ∧ n ≤ 9223372036854775807 := by
  simp only [Lit.wf, Bool.and_eq_true, decide_eq_true_eq] at hn
  have e1 : IntKind.i64.min = -9223372036854775808 := by decide
  have e2 : IntKind.i64.max = 9223372036854775807 := by decide
  rw [e1, e2] at hn
  exact hn

theorem e64 : (2 ^ 64 : Nat) = 18446744073709551616 := by decide
theorem e128 : (2 ^ 128 : Nat) = 340282366920938463463374607431768211456 := by decide

/-- Two pairs are the same just if their numbers are. -/
theorem pair_beq {h l h' l' : Nat} (hl : l < 2 ^ 64) (hl' : l' < 2 ^ 64) : (((h : Int) == (h' : Int)) && ((l : Int) == (l' : Int))) = (V h l == V h' l') := by
  rw [Bool.eq_iff_iff]
  simp only [Bool.and_eq_true, beq_iff_eq]
  constructor
  · rintro ⟨h1, h2⟩
    have := Int.ofNat.inj h1; have := Int.ofNat.inj h2
    subst_vars; rfl
  · intro hv
    obtain ⟨h1, h2⟩ := V_inj hl hl' hv
    subst h1; subst h2; exact ⟨rfl, rfl⟩

theorem V_lt {h l : Nat} (hh : h < 2 ^ 64) (hl : l < 2 ^ 64) : V h l < 2 ^ 128 := by
  unfold V; rw [e64] at *; rw [e128]; omega

theorem shr_mid {h l s : Nat} (hh : h < 2 ^ 64) (hl : l < 2 ^ 64) (h0 : 0 < s) (hs : s < 64) :
    V (h / 2 ^ s) ((l / 2 ^ s) ||| (h * 2 ^ (64 - s) % 2 ^ 64)) = V h l / 2 ^ s := by
  have hp : 2 ^ 64 = 2 ^ s * 2 ^ (64 - s) := by rw [← Nat.pow_add]; congr 1; omega
  have hpos : 0 < 2 ^ s := Nat.two_pow_pos s
  have hpos2 : 0 < 2 ^ (64 - s) := Nat.two_pow_pos _
  have e1 : l / 2 ^ s < 2 ^ (64 - s) := by
    rw [Nat.div_lt_iff_lt_mul hpos, Nat.mul_comm, ← hp]; exact hl
  have e2 : (h * 2 ^ (64 - s) % 2 ^ 64) % 2 ^ (64 - s) = 0 := by
    rw [hp, Nat.mul_comm (2 ^ s), Nat.mod_mul_right_mod, Nat.mul_mod_left]
  rw [Nat.or_comm, or_add e2 e1]
  have e3 : V h l / 2 ^ s = h * 2 ^ (64 - s) + l / 2 ^ s := by
    unfold V
    rw [hp, show h * (2 ^ s * 2 ^ (64 - s)) + l = 2 ^ s * (h * 2 ^ (64 - s)) + l by rw [← Nat.mul_assoc, Nat.mul_comm h, Nat.mul_assoc], Nat.mul_add_div hpos]
  rw [e3]
  have e4 : h * 2 ^ (64 - s) / 2 ^ 64 = h / 2 ^ s := by
    rw [hp, Nat.mul_div_mul_right _ _ hpos2]
  unfold V
  rw [← e4]
  have := Nat.div_add_mod (h * 2 ^ (64 - s)) (2 ^ 64)
  omega

theorem lost_eq {v s : Nat} (hv : v < 2 ^ 128) : (!(v / 2 ^ s * 2 ^ s % 2 ^ 128 == v)) = decide (v % 2 ^ s ≠ 0) := by
  have h1 := Nat.div_add_mod v (2 ^ s)
  have h2 : v / 2 ^ s * 2 ^ s ≤ v := Nat.div_mul_le_self _ _
  rw [Nat.mod_eq_of_lt (by omega)]
  rw [Bool.eq_iff_iff]
  simp only [Bool.not_eq_true', beq_eq_false_iff_ne, decide_eq_true_eq]
  rw [Nat.mul_comm] at h1
  constructor
  · intro h hh; omega
  · intro h hh; omega

theorem Shr_spec {R : Type} (k : Nat) {h l : Nat} {n : Int} (hh : h < 2 ^ 64) (hl : l < 2 ^ 64) (hn : (Lit.int .i64 n).wf = true) :
    ∃ h' l' : Nat, h' < 2 ^ 64 ∧ l' < 2 ^ 64 ∧ V h' l' = V h l / 2 ^ n.toNat ∧
      ∀ K : Int → Int → Bool → Option R, wide_Shr k (h : Int) (l : Int) n K = K (h' : Int) (l' : Int) (decide (V h l % 2 ^ n.toNat ≠ 0)) := by
  have hb := i64_wf hn
  by_cases h0 : n ≤ 0
  · refine ⟨h, l, hh, hl, ?_, fun K => ?_⟩
    · have : n.toNat = 0 := by omega
      rw [this]; simp
    · have : n.toNat = 0 := by omega
      rw [this]
      unfold wide_Shr wide_ShrT; simp [h0, Nat.mod_one]
  · obtain ⟨s, rfl⟩ : ∃ s : Nat, n = (s : Int) := ⟨n.toNat, by omega⟩
    simp only [Int.toNat_natCast]
    have hV := V_lt hh hl
    by_cases h1 : s < 64
    · have e1 : ¬ ((s : Int) ≥ 128) := by omega
      have e2 : ¬ ((s : Int) ≥ 64) := by omega
      have e2' : ¬ ((s : Int) < 0) := by omega
      have e3 : Wi64 (64 - (s : Int)) = ((64 - s : Nat) : Int) := by rw [wrap_i64 (by omega) (by omega)]; omega
      have e4 : ¬ (((64 - s : Nat) : Int) < 0) := by omega
      have hh2 : h / 2 ^ s < 2 ^ 64 := Nat.lt_of_le_of_lt (Nat.div_le_self _ _) hh
      have hl2 : ((l / 2 ^ s) ||| (h * 2 ^ (64 - s) % 2 ^ 64)) < 2 ^ 64 := Nat.or_lt_two_pow (Nat.lt_of_le_of_lt (Nat.div_le_self _ _) hl) (Nat.mod_lt _ (by decide))
      obtain ⟨h3, l3, a1, a2, a3, a4⟩ := Shl_spec (R := R) k hh2 hl2 hn
      refine ⟨h / 2 ^ s, (l / 2 ^ s) ||| (h * 2 ^ (64 - s) % 2 ^ 64), hh2, hl2, shr_mid hh hl (by omega) h1, fun K => ?_⟩
      unfold wide_Shr wide_ShrT
      rw [e3]
      simp only [h0, e1, e2, e2', e4, decide_false, cond_false]
      rw [shr_nat h s (by omega), shr_nat l s (by omega), shl_nat h (64 - s) (by omega), bOr_nat (Nat.lt_of_le_of_lt (Nat.div_le_self _ _) hl) (Nat.mod_lt _ (by decide)), a4]
      rw [pair_beq a2 hl, a3, shr_mid hh hl (by omega) h1]
      simp only [Int.toNat_natCast]
      rw [lost_eq hV]
    · have hd : V h l / 2 ^ s = h / 2 ^ (s - 64) := by
        have hp : 2 ^ s = 2 ^ 64 * 2 ^ (s - 64) := by rw [← Nat.pow_add]; congr 1; omega
        rw [hp, ← Nat.div_div_eq_div_mul]
        congr 1
        unfold V; omega
      by_cases h2 : s < 128
      · have e1 : ¬ ((s : Int) ≥ 128) := by omega
        have e2 : ((s : Int) ≥ 64) := by omega
        have e3 : Wi64 ((s : Int) - 64) = ((s - 64 : Nat) : Int) := by rw [wrap_i64 (by omega) (by omega)]; omega
        have e4 : ¬ (((s - 64 : Nat) : Int) < 0) := by omega
        have hl2 : h / 2 ^ (s - 64) < 2 ^ 64 := Nat.lt_of_le_of_lt (Nat.div_le_self _ _) hh
        obtain ⟨h3, l3, a1, a2, a3, a4⟩ := Shl_spec (R := R) k (h := 0) (by decide) hl2 hn
        have hv0 : V 0 (h / 2 ^ (s - 64)) = V h l / 2 ^ s := by rw [hd]; unfold V; omega
        refine ⟨0, h / 2 ^ (s - 64), by decide, hl2, hv0, fun K => ?_⟩
        unfold wide_Shr wide_ShrT
        rw [e3]
        simp only [h0, e1, e2, e4, decide_false, decide_true, cond_false, cond_true]
        rw [shr_nat h (s - 64) (by omega)]
        show wide_Shl k ((0 : Nat) : Int) _ _ _ = _
        rw [a4, pair_beq a2 hl, a3, hv0]
        simp only [Int.toNat_natCast]
        rw [lost_eq hV]; rfl
      · have e1 : ((s : Int) ≥ 128) := by omega
        obtain ⟨h3, l3, a1, a2, a3, a4⟩ := Shl_spec (R := R) k (h := 0) (l := 0) (by decide) (by decide) hn
        have hz : V h l / 2 ^ s = 0 := Nat.div_eq_of_lt (Nat.lt_of_lt_of_le hV (Nat.pow_le_pow_right (by decide) (by omega)))
        have hv0 : V 0 0 = V h l / 2 ^ s := by rw [hz]; rfl
        refine ⟨0, 0, by decide, by decide, hv0, fun K => ?_⟩
        unfold wide_Shr wide_ShrT
        simp only [h0, e1, decide_false, decide_true, cond_false, cond_true]
        show wide_Shl k ((0 : Nat) : Int) ((0 : Nat) : Int) _ _ = _
        rw [a4, pair_beq a2 hl, a3, hv0]
        simp only [Int.toNat_natCast]
        rw [lost_eq hV]; rfl

end Go.Proofs.Ytbnmnkofekcodaa.N

/- The bits of a number of 128 bits, by the reference. Conditions: none. -/
namespace Go.Proofs.Ytbnmnkofekcodaa.N
set_option linter.unusedVariables false
set_option linter.unusedSimpArgs false
open Go Go.Ab

/-- 128 bits told by a function. -/
def row (f : Nat → Bool) : List Bool := (List.range 128).map f

theorem row_length (f : Nat → Bool) : (row f).length = 128 := by simp [row]

theorem row_get (f : Nat → Bool) (i : Nat) : (row f)[i]? = if i < 128 then some (f i) else none := by
  unfold row
  rw [List.getElem?_map]
  by_cases h : i < 128
  · rw [List.getElem?_range h, if_pos h]; rfl
  · rw [List.getElem?_eq_none (by simp; omega), if_neg h]; rfl

theorem row_set (f : Nat → Bool) (i : Nat) (b : Bool) : (row f).set i b = row (fun j => if j = i then b else f j) := by
  apply List.ext_getElem?
  intro j
  rw [List.getElem?_set, row_get, row_length, row_get]
  by_cases hj : i = j
  · subst hj
    simp
  · rw [if_neg hj]
    have : ¬ j = i := fun h => hj h.symm
    simp [this]

theorem row_congr {f g : Nat → Bool} (h : ∀ i, i < 128 → f i = g i) : row f = row g := by
  apply List.ext_getElem?
  intro i
  rw [row_get, row_get]
  split
  · rename_i hi; rw [h i hi]
  · rfl

theorem row_false : List.replicate 128 false = row (fun _ => false) := by
  apply List.ext_getElem?
  intro i
  rw [row_get, List.getElem?_replicate]

theorem bit_eq {n i : Nat} (hn : n < 2 ^ 64) (hi : i ≤ 64) : (bAnd .u64 (shr .u64 (n : Int) (i : Int)) 1 == 1) = n.testBit i := by
  rw [shr_nat n i hi]
  have := bAnd_nat (n := n / 2 ^ i) (m := 1) (Nat.lt_of_le_of_lt (Nat.div_le_self _ _) hn) (by decide)
  rw [show (1 : Int) = ((1 : Nat) : Int) from rfl, this]
  have h1 : (n / 2 ^ i &&& 1) = n / 2 ^ i % 2 := Nat.and_one_is_mod _
  rw [h1, Nat.testBit_eq_decide_div_mod_eq]
  rw [Bool.eq_iff_iff]
  simp only [beq_iff_eq, decide_eq_true_eq]
  omega

theorem V_testBit {h l : Nat} (hl : l < 2 ^ 64) (i : Nat) : (V h l).testBit i = if i < 64 then l.testBit i else h.testBit (i - 64) := by
  unfold V
  rw [Nat.mul_comm, Nat.testBit_two_pow_mul_add _ hl]

theorem Bits_loop {R : Type} (k : Nat) {h l : Nat} (hh : h < 2 ^ 64) (hl : l < 2 ^ 64) (K : List Bool → Option R) : ∀ (m n i : Nat), i + m = 64 → m < n →
    plumblineref01_Bits_l0 k n (i : Int) (h : Int) (l : Int) (row fun j => if j < i then l.testBit j else if 64 ≤ j ∧ j < 64 + i then h.testBit (j - 64) else false) K = K (row (V h l).testBit)
  | m, 0, i, h1, h2 => by omega
  | 0, n + 1, i, h1, h2 => by
    have : i = 64 := by omega
    subst this
    rw [plumblineref01_Bits_l0, plumblineref01_Bits_l0B]
    have e0 : ¬ (((64 : Nat) : Int) < 64) := by decide
    simp only [e0, decide_false, cond_false]
    congr 1
    refine row_congr fun j hj => ?_
    rw [V_testBit hl]
    by_cases h1 : j < 64
    · simp [h1]
    · have : 64 ≤ j ∧ j < 64 + 64 := by omega
      simp [h1, this]
  | m + 1, n + 1, i, h1, h2 => by
    rw [plumblineref01_Bits_l0, plumblineref01_Bits_l0B]
    have e0 : ((i : Int) < 64) := by omega
    have e1 : ¬ ((i : Int) < 0) := by omega
    have e2 : (0 : Int) ≤ (i : Int) := by omega
    have e3 : Wi64 (64 + (i : Int)) = ((64 + i : Nat) : Int) := by rw [wrap_i64 (by omega) (by omega)]; omega
    have e4 : Wi64 ((i : Int) + 1) = ((i + 1 : Nat) : Int) := by rw [wrap_i64 (by omega) (by omega)]; omega
    have e5 : (0 : Int) ≤ ((64 + i : Nat) : Int) := by omega
    have e6 : ((i : Int) < ((128 : Nat) : Int)) := by omega
    have e7 : (((64 + i : Nat) : Int) < ((128 : Nat) : Int)) := by omega
    rw [e3, e4]
    simp only [Int.toNat_natCast, row_set, row_length, row_get, e0, e1, e2, e5, e6, e7, decide_true, decide_false, cond_true, cond_false, bit_eq hl (by omega : i ≤ 64), bit_eq hh (by omega : i ≤ 64)]
    have e8 : i < 128 := by omega
    have e9 : 64 + i < 128 := by omega
    simp only [e8, e9, if_true, Option.bind_some]
    refine Eq.trans ?_ (Bits_loop k hh hl K m n (i + 1) (by omega) (by omega))
    congr 1
    refine row_congr fun j hj => ?_
    by_cases c1 : j = 64 + i
    · subst c1; simp; omega
    · by_cases c2 : j = i
      · subst c2; simp [c1]
      · have d1 : (j < i + 1) ↔ (j < i) := by omega
        have d2 : (64 ≤ j ∧ j < 64 + (i + 1)) ↔ (64 ≤ j ∧ j < 64 + i) := by omega
        simp only [c1, c2, if_false, d1, d2]

theorem Bits_spec {R : Type} {k h l : Nat} (hk : 65 ≤ k) (hh : h < 2 ^ 64) (hl : l < 2 ^ 64) (K : List Bool → Option R) : plumblineref01_Bits k (h : Int) (l : Int) K = K (row (V h l).testBit) := by
  unfold plumblineref01_Bits plumblineref01_BitsT
  rw [row_false]
  have := Bits_loop k hh hl K 64 k 0 (by omega) (by omega)
  refine Eq.trans ?_ this
  have e : (row fun _ => false) = row (fun j => if j < 0 then l.testBit j else if 64 ≤ j ∧ j < 64 + 0 then h.testBit (j - 64) else false) := row_congr fun j hj => by
    have d : ¬ (64 ≤ j ∧ j < 64 + 0) := by omega
    simp [d]
  rw [e]; rfl

end Go.Proofs.Ytbnmnkofekcodaa.N

/- Rows of bits as numbers; numbers of 128 bits in two halves; moves by the reference. Conditions: none. -/
namespace Go.Proofs.Ytbnmnkofekcodaa.N
set_option linter.unusedVariables false
set_option linter.unusedSimpArgs false
open Go Go.Ab

/-! ### Halves -/

def hi (A : Nat) : Int := ((A / 2 ^ 64 : Nat) : Int)
def lo (A : Nat) : Int := ((A % 2 ^ 64 : Nat) : Int)

theorem V_hl (A : Nat) : V (A / 2 ^ 64) (A % 2 ^ 64) = A := by
  unfold V; rw [Nat.mul_comm]; exact Nat.div_add_mod _ _
theorem hi_lt {A : Nat} (h : A < 2 ^ 128) : A / 2 ^ 64 < 2 ^ 64 := by
  rw [Nat.div_lt_iff_lt_mul (by decide), ← Nat.pow_add]; exact h
theorem lo_lt (A : Nat) : A % 2 ^ 64 < 2 ^ 64 := Nat.mod_lt _ (by decide)
theorem hi_V {h l : Nat} (hl : l < 2 ^ 64) : hi (V h l) = (h : Int) := by
  unfold hi V
  congr 1
  rw [Nat.mul_comm, Nat.mul_add_div (by decide), Nat.div_eq_of_lt hl, Nat.add_zero]
theorem lo_V {h l : Nat} (hl : l < 2 ^ 64) : lo (V h l) = (l : Int) := by
  unfold lo V
  congr 1
  rw [Nat.mul_comm, Nat.mul_add_mod, Nat.mod_eq_of_lt hl]
theorem hl_of {h l A : Nat} (hl : l < 2 ^ 64) (hV : V h l = A) : (h : Int) = hi A ∧ (l : Int) = lo A := by
  subst hV; exact ⟨(hi_V hl).symm, (lo_V hl).symm⟩
theorem hi_small {l : Nat} (hl : l < 2 ^ 64) : hi l = 0 := by unfold hi; rw [Nat.div_eq_of_lt hl]; rfl
theorem lo_small {l : Nat} (hl : l < 2 ^ 64) : lo l = (l : Int) := by unfold lo; rw [Nat.mod_eq_of_lt hl]
theorem hl_beq {A B : Nat} : ((hi A == hi B) && (lo A == lo B)) = (A == B) := by
  unfold hi lo
  rw [pair_beq (lo_lt A) (lo_lt B), V_hl, V_hl]

theorem Shl_hl {R : Type} (k : Nat) {A : Nat} {n : Int} (hA : A < 2 ^ 128) (hn : (Lit.int .i64 n).wf = true) (K : Int → Int → Option R) :
    wide_Shl k (hi A) (lo A) n K = K (hi (A * 2 ^ n.toNat % 2 ^ 128)) (lo (A * 2 ^ n.toNat % 2 ^ 128)) := by
  obtain ⟨h', l', h1, h2, h3, h4⟩ := Shl_spec (R := R) k (hi_lt hA) (lo_lt A) hn
  rw [V_hl] at h3
  obtain ⟨e1, e2⟩ := hl_of h2 h3
  rw [← e1, ← e2]; exact h4 K

theorem Shr_hl {R : Type} (k : Nat) {A : Nat} {n : Int} (hA : A < 2 ^ 128) (hn : (Lit.int .i64 n).wf = true) (K : Int → Int → Bool → Option R) :
    wide_Shr k (hi A) (lo A) n K = K (hi (A / 2 ^ n.toNat)) (lo (A / 2 ^ n.toNat)) (decide (A % 2 ^ n.toNat ≠ 0)) := by
  obtain ⟨h', l', h1, h2, h3, h4⟩ := Shr_spec (R := R) k (hi_lt hA) (lo_lt A) hn
  rw [V_hl] at h3
  obtain ⟨e1, e2⟩ := hl_of h2 h3
  rw [← e1, ← e2]
  have := h4 K
  rw [V_hl] at this
  exact this

/-! ### Rows -/

def rowN (n : Nat) (f : Nat → Bool) : List Bool := (List.range n).map f
theorem row_eq (f : Nat → Bool) : row f = rowN 128 f := rfl
@[simp] theorem rowN_length (n : Nat) (f : Nat → Bool) : (rowN n f).length = n := by simp [rowN]
theorem rowN_get (n : Nat) (f : Nat → Bool) (i : Nat) : (rowN n f)[i]? = if i < n then some (f i) else none := by
  unfold rowN
  rw [List.getElem?_map]
  by_cases h : i < n
  · rw [List.getElem?_range h, if_pos h]; rfl
  · rw [List.getElem?_eq_none (by simp; omega), if_neg h]; rfl
theorem rowN_set (n : Nat) (f : Nat → Bool) (i : Nat) (b : Bool) : (rowN n f).set i b = rowN n (fun j => if j = i then b else f j) := by
  apply List.ext_getElem?
  intro j
  rw [List.getElem?_set, rowN_get, rowN_length, rowN_get]
  by_cases hj : i = j
  · subst hj; simp
  · rw [if_neg hj]
    have : ¬ j = i := fun h => hj h.symm
    simp [this]
theorem rowN_congr {n : Nat} {f g : Nat → Bool} (h : ∀ i, i < n → f i = g i) : rowN n f = rowN n g := by
  apply List.ext_getElem?
  intro i
  rw [rowN_get, rowN_get]
  split
  · rename_i hi; rw [h i hi]
  · rfl
theorem rowN_false (n : Nat) : List.replicate n false = rowN n (fun _ => false) := by
  apply List.ext_getElem?
  intro i
  rw [rowN_get, List.getElem?_replicate]
theorem rowN_of (l : List Bool) : l = rowN l.length (fun i => l.getD i false) := by
  apply List.ext_getElem?
  intro i
  rw [rowN_get]
  split
  · rename_i h; rw [List.getElem?_eq_getElem h, List.getD_eq_getElem?_getD, List.getElem?_eq_getElem h]; rfl
  · rename_i h; exact List.getElem?_eq_none (by omega)

/-- The number of the first n bits. -/
def nOf (f : Nat → Bool) : Nat → Nat
  | 0 => 0
  | n + 1 => nOf f n + (f n).toNat * 2 ^ n

theorem nOf_lt (f : Nat → Bool) : ∀ n, nOf f n < 2 ^ n
  | 0 => by simp [nOf]
  | n + 1 => by
    have h := nOf_lt f n
    have : (f n).toNat ≤ 1 := Bool.toNat_le _
    rw [nOf, Nat.pow_succ]
    have := Nat.mul_le_mul_right (2 ^ n) this
    omega

theorem nOf_congr {f g : Nat → Bool} : ∀ {n : Nat}, (∀ i, i < n → f i = g i) → nOf f n = nOf g n
  | 0, _ => rfl
  | n + 1, h => by rw [nOf, nOf, nOf_congr (fun i hi => h i (by omega)), h n (by omega)]

theorem nOf_bits (x : Nat) : ∀ n, nOf x.testBit n = x % 2 ^ n
  | 0 => by simp [nOf, Nat.mod_one]
  | n + 1 => by
    rw [nOf, nOf_bits x n, Nat.toNat_testBit, Nat.mul_comm, Nat.pow_succ, Nat.mod_mul]

theorem nOf_testBit (f : Nat → Bool) : ∀ n i, (nOf f n).testBit i = (decide (i < n) && f i)
  | 0, i => by simp [nOf]
  | n + 1, i => by
    have h := nOf_lt f n
    rw [nOf, Nat.add_comm, Nat.mul_comm]
    by_cases hi : i < n
    · rw [Nat.testBit_two_pow_mul_add _ h, if_pos hi, nOf_testBit f n i]
      simp [hi, Nat.lt_succ_of_lt hi]
    · rw [Nat.testBit_two_pow_mul_add _ h, if_neg hi]
      by_cases h2 : i = n
      · subst h2
        cases f i <;> simp
      · have h3 : ¬ i < n + 1 := by omega
        have h4 : i - n ≠ 0 := by omega
        have h5 : Nat.testBit 1 (i - n) = false := by
          cases hb : Nat.testBit 1 (i - n) with
          | false => rfl
          | true => exact absurd (Nat.testBit_one_eq_true_iff_self_eq_zero.1 hb) h4
        cases f n <;> simp [h3, h5]

theorem nOf_eq {f : Nat → Bool} {n x : Nat} (hx : x < 2 ^ n) (h : ∀ i, i < n → f i = x.testBit i) : nOf f n = x := by
  rw [nOf_congr h, nOf_bits, Nat.mod_eq_of_lt hx]

/-! ### Bits, From -/

theorem Bits_hl {R : Type} {k A : Nat} (hk : 5000 ≤ k) (hA : A < 2 ^ 128) (K : List Bool → Option R) :
    plumblineref01_Bits k (hi A) (lo A) K = K (rowN 128 A.testBit) := by
  have := Bits_spec (k := k) (by omega) (hi_lt hA) (lo_lt A) K
  rw [V_hl] at this
  exact this

theorem bit_or {l i : Nat} (hl : l < 2 ^ i) (hi : i < 64) : bOr .u64 (l : Int) (shl .u64 1 (i : Int)) = ((l + 2 ^ i : Nat) : Int) := by
  have hp : 2 ^ i < 2 ^ 64 := Nat.pow_lt_pow_right (by decide) hi
  rw [show (1 : Int) = ((1 : Nat) : Int) from rfl, shl_nat 1 i (by omega), Nat.one_mul, Nat.mod_eq_of_lt hp,
    bOr_nat (Nat.lt_of_lt_of_le hl (Nat.pow_le_pow_right (by decide) (by omega))) hp]
  have : l ||| 2 ^ i = l + 2 ^ i := by
    rw [Nat.or_comm, or_add (s := i) (by simp) hl, Nat.add_comm]
  rw [this]

theorem Wi64_nat {i : Nat} (h : i < 2 ^ 62) : Wi64 (i : Int) = (i : Int) := wrap_i64 (by omega) (by omega)
theorem Wi64_succ {i : Nat} (h : i < 2 ^ 62) : Wi64 ((i : Int) + 1) = ((i + 1 : Nat) : Int) := by rw [wrap_i64 (by omega) (by omega)]; rfl
theorem Wi64_sub {i j : Nat} (h : i < 2 ^ 62) (hj : j ≤ i) : Wi64 ((i : Int) - (j : Int)) = ((i - j : Nat) : Int) := by rw [wrap_i64 (by omega) (by omega)]; omega

theorem From_loop {R : Type} (k : Nat) (N : Nat) (hN : N < 2 ^ 60) (f : Nat → Bool) (a b : Int) (K : Int → Int → Option R) : ∀ (m n i : Nat), i + m = 128 → m < n → i ≤ N →
    plumblineref01_From_l0 k n (i : Int) (rowN N f) a b (hi (nOf f i)) (lo (nOf f i)) K = K (hi (nOf f (min N 128))) (lo (nOf f (min N 128)))
  | m, 0, i, h1, h2, _ => by omega
  | 0, n + 1, i, h1, h2, h3 => by
    have : i = 128 := by omega
    subst this
    rw [plumblineref01_From_l0, plumblineref01_From_l0B]
    have e0 : ¬ (((128 : Nat) : Int) < 128) := by decide
    simp only [e0, decide_false, cond_false, rowN_length]
    have : min N 128 = 128 := by omega
    rw [this]
    cases decide (((128 : Nat) : Int) < (N : Int)) <;> rfl
  | m + 1, n + 1, i, h1, h2, h3 => by
    rw [plumblineref01_From_l0, plumblineref01_From_l0B]
    simp only [rowN_length]
    by_cases hN2 : i = N
    · subst hN2
      have e0 : ¬ ((i : Int) < (i : Int)) := by omega
      have : min i 128 = i := by omega
      simp only [e0, decide_false, cond_false, this]
    · have e0 : ((i : Int) < (N : Int)) := by omega
      have e1 : ((i : Int) < 128) := by omega
      have e2 : ((0 : Int) ≤ (i : Int)) := by omega
      have e3 : ¬ ((i : Int) < 0) := by omega
      have e4 : i < N := by omega
      rw [Wi64_succ (by omega)]
      simp only [e0, e1, e2, e3, decide_true, decide_false, cond_true, cond_false, Int.toNat_natCast, rowN_get, if_pos e4, Option.bind_some]
      have ih := From_loop k N hN f a b K m n (i + 1) (by omega) (by omega) (by omega)
      refine Eq.trans ?_ ih
      have hlt := nOf_lt f i
      cases hf : f i with
      | false =>
        simp only [Bool.not_false, cond_true, nOf, hf, Bool.toNat_false, Nat.zero_mul, Nat.add_zero]
      | true =>
        simp only [Bool.not_true, cond_false, nOf, hf, Bool.toNat_true, Nat.one_mul]
        by_cases h64 : i < 64
        · have c1 : ((i : Int) < 64) := by omega
          have hp : 2 ^ i ≤ 2 ^ 63 := Nat.pow_le_pow_right (by decide) (by omega)
          have hl2 : nOf f i < 2 ^ 64 := by omega
          have hl3 : nOf f i + 2 ^ i < 2 ^ 64 := by omega
          simp only [c1, decide_true, cond_true, hi_small hl2, lo_small hl2, hi_small hl3, lo_small hl3, bit_or hlt h64]
        · have c1 : ¬ ((i : Int) < 64) := by omega
          have c2 : Wi64 ((i : Int) - 64) = ((i - 64 : Nat) : Int) := by rw [wrap_i64 (by omega) (by omega)]; omega
          have c3 : ¬ (((i - 64 : Nat) : Int) < 0) := by omega
          simp only [c1, c2, c3, decide_false, cond_false]
          have hp : 2 ^ i = 2 ^ (i - 64) * 2 ^ 64 := by rw [← Nat.pow_add]; congr 1; omega
          have hd : nOf f i / 2 ^ 64 < 2 ^ (i - 64) := by rw [Nat.div_lt_iff_lt_mul (by decide), ← hp]; exact hlt
          have e5 : hi (nOf f i + 2 ^ i) = bOr .u64 (hi (nOf f i)) (shl .u64 1 ((i - 64 : Nat) : Int)) := by
            unfold hi
            rw [bit_or hd (by omega), hp, Nat.add_mul_div_right _ _ (by decide)]
          have e6 : lo (nOf f i + 2 ^ i) = lo (nOf f i) := by
            unfold lo
            rw [hp, Nat.add_mul_mod_self_right]
          rw [e5, e6]

theorem From_row {R : Type} {k N : Nat} (hk : 5000 ≤ k) (hN : N < 2 ^ 60) (f : Nat → Bool) (K : Int → Int → Option R) :
    plumblineref01_From k (rowN N f) K = K (hi (nOf f (min N 128))) (lo (nOf f (min N 128))) := by
  unfold plumblineref01_From plumblineref01_FromT
  have := From_loop k N hN f 0 0 K 128 k 0 (by omega) (by omega) (by omega)
  rw [show nOf f 0 = 0 from rfl, hi_small (by decide), lo_small (by decide)] at this
  exact this

theorem From_num {R : Type} {k A : Nat} (hk : 5000 ≤ k) (hA : A < 2 ^ 128) {f : Nat → Bool} (hf : ∀ i, i < 128 → f i = A.testBit i) (K : Int → Int → Option R) :
    plumblineref01_From k (rowN 128 f) K = K (hi A) (lo A) := by
  rw [From_row hk (by decide)]
  have : nOf f (min 128 128) = A := nOf_eq hA hf
  rw [this]

/-! ### Moves by the reference -/

theorem refShl_loop {R : Type} (k : Nat) (A : Nat) (s : Nat) (hs : s < 2 ^ 63) (a b : Int) (K : List Bool → Option R) : ∀ (m n i : Nat), m = i → m < n → i ≤ 128 →
    plumblineref01_Shl_l0 k n (s : Int) ((i : Int) - 1) a b (rowN 128 A.testBit) (rowN 128 fun j => if i ≤ j ∧ s ≤ j then A.testBit (j - s) else false) K = K (rowN 128 fun j => if s ≤ j then A.testBit (j - s) else false)
  | m, 0, i, h1, h2, _ => by omega
  | 0, n + 1, i, h1, h2, h3 => by
    subst h1
    rw [plumblineref01_Shl_l0, plumblineref01_Shl_l0B]
    have e0 : ¬ ((((0 : Nat) : Int) - 1) ≥ 0) := by decide
    simp only [e0, decide_false, cond_false, Nat.zero_le, true_and]
  | m + 1, n + 1, i, h1, h2, h3 => by
    subst h1
    rw [plumblineref01_Shl_l0, plumblineref01_Shl_l0B]
    have e : (((m + 1 : Nat) : Int) - 1) = (m : Int) := by omega
    have e0 : ((m : Int) ≥ 0) := by omega
    rw [e]
    by_cases hsm : s ≤ m
    · have e1 : ((m : Int) ≥ (s : Int)) := by omega
      have e2 : ((0 : Int) ≤ ((m - s : Nat) : Int)) := by omega
      have e3 : ((0 : Int) ≤ (m : Int)) := by omega
      have e4 : (((m - s : Nat) : Int) < ((128 : Nat) : Int)) := by omega
      have e5 : ((m : Int) < ((128 : Nat) : Int)) := by omega
      have e6 : m - s < 128 := by omega
      have e7 : m < 128 := by omega
      have e8 : Wi64 ((m : Int) - 1) = ((m : Int) - 1) := wrap_i64 (by omega) (by omega)
      rw [Wi64_sub (by omega) hsm, e8]
      simp only [e0, e1, e2, e3, e4, e5, rowN_length, decide_true, cond_true, Int.toNat_natCast, rowN_get, if_pos e6, if_pos e7, Option.bind_some, rowN_set]
      refine Eq.trans ?_ (refShl_loop k A s hs a b K m n m rfl (by omega) (by omega))
      congr 1
      refine rowN_congr fun j hj => ?_
      by_cases c : j = m
      · subst c; simp [hsm]
      · have d : (m + 1 ≤ j) ↔ (m ≤ j) := by omega
        simp only [c, if_false, d]
    · have e1 : ¬ ((m : Int) ≥ (s : Int)) := by omega
      simp only [e0, e1, decide_true, decide_false, cond_true, cond_false]
      congr 1
      refine rowN_congr fun j hj => ?_
      have d : (m + 1 ≤ j ∧ s ≤ j) ↔ (s ≤ j) := by omega
      simp only [d]

theorem refShl_hl {R : Type} {k A : Nat} {n : Int} (hk : 5000 ≤ k) (hA : A < 2 ^ 128) (hn : (Lit.int .i64 n).wf = true) (K : Int → Int → Option R) :
    plumblineref01_Shl k (hi A) (lo A) n K = K (hi (A * 2 ^ n.toNat % 2 ^ 128)) (lo (A * 2 ^ n.toNat % 2 ^ 128)) := by
  have hb := i64_wf hn
  have key : ∀ s : Nat, s < 2 ^ 63 → (plumblineref01_Bits k (hi A) (lo A) (fun r5 =>
      plumblineref01_Shl_l0 k k (s : Int) 127 0 0 r5 (List.replicate 128 false) (fun r6 => plumblineref01_From k r6 (fun r7 r8 => K r7 r8)))) = K (hi (A * 2 ^ s % 2 ^ 128)) (lo (A * 2 ^ s % 2 ^ 128)) := by
    intro s hs
    rw [Bits_hl hk hA, rowN_false]
    have h := refShl_loop k A s hs 0 0 (fun r6 => plumblineref01_From k r6 (fun r7 r8 => K r7 r8)) 128 k 128 rfl (by omega) (by omega)
    have e : (rowN 128 fun j => if 128 ≤ j ∧ s ≤ j then A.testBit (j - s) else false) = rowN 128 (fun _ => false) := rowN_congr fun j hj => by
      have : ¬ (128 ≤ j ∧ s ≤ j) := by omega
      simp only [this, if_false]
    rw [e] at h
    refine h.trans ?_
    refine From_num hk (Nat.mod_lt _ (by decide)) (fun i hi => ?_) K
    rw [Nat.testBit_mod_two_pow, Nat.testBit_mul_two_pow]
    by_cases c : s ≤ i <;> simp [c, hi]
  unfold plumblineref01_Shl plumblineref01_ShlT
  by_cases h0 : n < 0
  · have : n.toNat = 0 := by omega
    simp only [h0, decide_true, cond_true, this]
    exact key 0 (by decide)
  · obtain ⟨s, rfl⟩ : ∃ s : Nat, n = (s : Int) := ⟨n.toNat, by omega⟩
    simp only [h0, decide_false, cond_false, Int.toNat_natCast]
    exact key s (by omega)

end Go.Proofs.Ytbnmnkofekcodaa.N

/- Sums, differences, sizes by the reference and by the program: what they come to. Conditions: none. -/
namespace Go.Proofs.Ytbnmnkofekcodaa.N
set_option linter.unusedVariables false
set_option linter.unusedSimpArgs false
open Go Go.Ab

/-! ### add -/

def carryAt (A B : Nat) (c : Bool) (i : Nat) : Bool := decide (2 ^ i ≤ A % 2 ^ i + B % 2 ^ i + c.toNat)

theorem carry_zero (A B : Nat) (c : Bool) : carryAt A B c 0 = c := by cases c <;> simp [carryAt, Nat.mod_one]

theorem add_bit (A B : Nat) (c : Bool) (i : Nat) : (A + B + c.toNat).testBit i = Bool.xor (Bool.xor (A.testBit i) (B.testBit i)) (carryAt A B c i) ∧
    carryAt A B c (i + 1) = decide (2 ≤ (A.testBit i).toNat + (B.testBit i).toNat + (carryAt A B c i).toNat) := by
  have hp : 0 < 2 ^ i := Nat.two_pow_pos i
  have hA := Nat.div_add_mod A (2 ^ i)
  have hB := Nat.div_add_mod B (2 ^ i)
  have ha := Nat.mod_lt A hp
  have hb := Nat.mod_lt B hp
  have hc : c.toNat ≤ 1 := Bool.toNat_le _
  have e1 : (A + B + c.toNat) / 2 ^ i = A / 2 ^ i + B / 2 ^ i + (carryAt A B c i).toNat := by
    have : A + B + c.toNat = 2 ^ i * (A / 2 ^ i + B / 2 ^ i) + (A % 2 ^ i + B % 2 ^ i + c.toNat) := by
      rw [Nat.mul_add]; omega
    rw [this, Nat.mul_add_div hp]
    congr 1
    unfold carryAt
    by_cases h : 2 ^ i ≤ A % 2 ^ i + B % 2 ^ i + c.toNat
    · simp only [h, decide_true, Bool.toNat_true]
      rw [Nat.div_eq_of_lt_le] <;> omega
    · simp only [h, decide_false, Bool.toNat_false]
      exact Nat.div_eq_of_lt (by omega)
  constructor
  · rw [Nat.testBit_eq_decide_div_mod_eq, e1, Nat.testBit_eq_decide_div_mod_eq, Nat.testBit_eq_decide_div_mod_eq]
    have := Nat.mod_two_eq_zero_or_one (A / 2 ^ i)
    have := Nat.mod_two_eq_zero_or_one (B / 2 ^ i)
    cases carryAt A B c i <;> by_cases p : A / 2 ^ i % 2 = 1 <;> by_cases q : B / 2 ^ i % 2 = 1 <;> simp [p, q] <;> omega
  · have mA : A % 2 ^ (i + 1) = A % 2 ^ i + 2 ^ i * (A.testBit i).toNat := by rw [Nat.pow_succ, Nat.mod_mul, Nat.toNat_testBit]
    have mB : B % 2 ^ (i + 1) = B % 2 ^ i + 2 ^ i * (B.testBit i).toNat := by rw [Nat.pow_succ, Nat.mod_mul, Nat.toNat_testBit]
    unfold carryAt
    rw [mA, mB, Nat.pow_succ]
    cases A.testBit i <;> cases B.testBit i <;> by_cases h : 2 ^ i ≤ A % 2 ^ i + B % 2 ^ i + c.toNat <;> simp [h] <;> omega

theorem add_loop {R : Type} (k : Nat) (A B : Nat) (c : Bool) (K : Bool → List Bool → Option R) : ∀ (m n i : Nat), m + i = 128 → m < n →
    plumblineref01_add_l0 k n (carryAt A B c i) 128 (i : Int) (rowN 128 A.testBit) (rowN 128 B.testBit) (rowN 129 fun j => if j < i then (A + B + c.toNat).testBit j else false) K =
      K (carryAt A B c 128) (rowN 129 fun j => if j < 128 then (A + B + c.toNat).testBit j else false)
  | m, 0, i, h1, h2 => by omega
  | 0, n + 1, i, h1, h2 => by
    have : i = 128 := by omega
    subst this
    rw [plumblineref01_add_l0, plumblineref01_add_l0B]
    have e0 : ¬ (((128 : Nat) : Int) < 128) := by decide
    simp only [e0, decide_false, cond_false]
  | m + 1, n + 1, i, h1, h2 => by
    rw [plumblineref01_add_l0, plumblineref01_add_l0B]
    have e0 : ((i : Int) < 128) := by omega
    have e1 : ((0 : Int) ≤ (i : Int)) := by omega
    have e2 : ((i : Int) < ((128 : Nat) : Int)) := by omega
    have e2' : ((i : Int) < ((129 : Nat) : Int)) := by omega
    have e3 : i < 128 := by omega
    have e3' : i < 129 := by omega
    have ih := add_loop k A B c K m n (i + 1) (by omega) (by omega)
    rw [Wi64_succ (by omega)]
    obtain ⟨hb, hc⟩ := add_bit A B c i
    have hrow : ∀ b : Bool, b = (A + B + c.toNat).testBit i → (rowN 129 fun j => if j = i then b else if j < i then (A + B + c.toNat).testBit j else false) = rowN 129 fun j => if j < i + 1 then (A + B + c.toNat).testBit j else false := by
      intro b hb
      refine rowN_congr fun j hj => ?_
      by_cases cc : j = i
      · subst cc; simp [hb]
      · have a1 : (j < i + 1) ↔ (j < i) := by omega
        simp only [cc, a1, if_false]
    rw [hc] at ih
    simp only [e0, e1, e2, e2', decide_true, cond_true, rowN_length, Int.toNat_natCast, rowN_get, if_pos e3, if_pos e3', Option.bind_some, rowN_set]
    rw [hb] at hrow
    cases hx : A.testBit i <;> cases hy : B.testBit i <;> cases hz : carryAt A B c i <;> rw [hx, hy, hz] at ih hrow <;> simp only [cond_true, cond_false] <;> first | (rw [hrow true rfl]; exact ih) | (rw [hrow false rfl]; exact ih)

theorem add_row {R : Type} {k A B : Nat} (hk : 5000 ≤ k) (hA : A < 2 ^ 128) (hB : B < 2 ^ 128) (c : Bool) (K : List Bool → Option R) :
    plumblineref01_add k c (rowN 128 A.testBit) (rowN 128 B.testBit) K = K (rowN 129 (A + B + c.toNat).testBit) := by
  unfold plumblineref01_add plumblineref01_addT
  simp only [rowN_length]
  have e0 : ¬ (((128 : Nat) : Int) > ((128 : Nat) : Int)) := by decide
  have e1 : Wi64 (((128 : Nat) : Int) + 1) = ((129 : Nat) : Int) := Wi64_succ (by decide)
  rw [e1, rowN_false]
  have e2 : (0 : Int) ≤ ((129 : Nat) : Int) := by decide
  have e3 : ((129 : Nat) : Int) ≤ ((129 : Nat) : Int) := by decide
  have e4 : (((129 : Nat) : Int) * 1) ≤ 140737488355328 := by decide
  have e5 : (0 : Int) ≤ ((128 : Nat) : Int) := by decide
  simp only [e0, e2, e3, e4, e5, decide_false, decide_true, cond_false, cond_true, Int.toNat_natCast]
  have h := add_loop k A B c (fun r4 r5 =>
            cond (decide (((128 : Nat) : Int) < (((List.length r5) : Nat) : Int))) (
                Option.bind (r5[128]?) fun e6 =>
                K (List.set r5 128 r4)) (
                none)) 128 k 0 (by omega) (by omega)
  rw [carry_zero] at h
  have e : (rowN 129 fun j => if j < 0 then (A + B + c.toNat).testBit j else false) = rowN 129 (fun _ => false) := rowN_congr fun j hj => by simp
  rw [e] at h
  refine h.trans ?_
  have e6 : ((128 : Nat) : Int) < ((129 : Nat) : Int) := by decide
  have e7 : 128 < 129 := by decide
  simp only [rowN_length, e6, decide_true, cond_true, rowN_get, if_pos e7, Option.bind_some, rowN_set]
  congr 1
  refine rowN_congr fun j hj => ?_
  by_cases cc : j = 128
  · subst cc
    obtain ⟨hb, _⟩ := add_bit A B c 128
    rw [hb, Nat.testBit_lt_two_pow hA, Nat.testBit_lt_two_pow hB]
    simp
  · have : j < 128 := by omega
    simp only [cc, this, if_false, if_true]

theorem refAdd_hl {R : Type} {k A B : Nat} (hk : 5000 ≤ k) (hA : A < 2 ^ 128) (hB : B < 2 ^ 128) (K : Int → Int → Bool → Option R) :
    plumblineref01_Add k (hi A) (lo A) (hi B) (lo B) K = K (hi ((A + B) % 2 ^ 128)) (lo ((A + B) % 2 ^ 128)) (decide (2 ^ 128 ≤ A + B)) := by
  unfold plumblineref01_Add plumblineref01_AddT
  rw [Bits_hl hk hA, Bits_hl hk hB, add_row hk hA hB]
  have e0 : ((128 : Nat) : Int) < ((129 : Nat) : Int) := by decide
  have e1 : (128 : Nat) < 129 := by decide
  rw [From_row hk (by decide)]
  simp only [rowN_length, Bool.toNat_false, Nat.add_zero]
  have e2 : (128 : Int) < ((129 : Nat) : Int) := by decide
  simp only [e2, decide_true, cond_true, rowN_get, if_pos e1, Option.bind_some]
  have e3 : min 129 128 = 128 := by decide
  rw [e3, nOf_bits]
  congr 1
  rw [Nat.testBit_eq_decide_div_mod_eq]
  rw [e128] at *
  rw [Bool.eq_iff_iff]
  simp only [decide_eq_true_eq]
  omega

theorem refSub_loop {R : Type} (k : Nat) (B : Nat) (a b c d : Int) (K : List Bool → Option R) : ∀ (m n i : Nat), m + i = 128 → m < n →
    plumblineref01_Sub_l0 k n (i : Int) a b c d (rowN 128 fun j => if j < i then !B.testBit j else B.testBit j) K = K (rowN 128 fun j => !B.testBit j)
  | m, 0, i, h1, h2 => by omega
  | 0, n + 1, i, h1, h2 => by
    have : i = 128 := by omega
    subst this
    rw [plumblineref01_Sub_l0, plumblineref01_Sub_l0B]
    have e0 : ¬ (((128 : Nat) : Int) < 128) := by decide
    simp only [e0, decide_false, cond_false]
    exact congrArg K (rowN_congr fun j hj => by simp [hj])
  | m + 1, n + 1, i, h1, h2 => by
    rw [plumblineref01_Sub_l0, plumblineref01_Sub_l0B]
    have e0 : ((i : Int) < 128) := by omega
    have e1 : ((0 : Int) ≤ (i : Int)) := by omega
    have e2 : ((i : Int) < ((128 : Nat) : Int)) := by omega
    have e3 : i < 128 := by omega
    rw [Wi64_succ (by omega)]
    simp only [e0, e1, e2, decide_true, cond_true, rowN_length, Int.toNat_natCast, rowN_get, if_pos e3, Option.bind_some, rowN_set]
    refine Eq.trans ?_ (refSub_loop k B a b c d K m n (i + 1) (by omega) (by omega))
    congr 1
    refine rowN_congr fun j hj => ?_
    by_cases cc : j = i
    · subst cc; simp
    · have a1 : (j < i + 1) ↔ (j < i) := by omega
      simp only [cc, a1, if_false]

theorem refSub_hl {R : Type} {k A B : Nat} (hk : 5000 ≤ k) (hA : A < 2 ^ 128) (hB : B < 2 ^ 128) (K : Int → Int → Bool → Option R) :
    plumblineref01_Sub k (hi A) (lo A) (hi B) (lo B) K = K (hi ((A + 2 ^ 128 - B) % 2 ^ 128)) (lo ((A + 2 ^ 128 - B) % 2 ^ 128)) (decide (A < B)) := by
  unfold plumblineref01_Sub plumblineref01_SubT
  rw [Bits_hl hk hB]
  have h := refSub_loop k B (hi A) (lo A) 0 0 (fun r2 =>
      plumblineref01_Bits k (hi A) (lo A) (fun r3 =>
        plumblineref01_add k true r3 r2 (fun r4 =>
          plumblineref01_From k r4 (fun r5 r6 =>
            cond (decide (128 < (((List.length r4) : Nat) : Int))) (
              Option.bind (r4[128]?) fun e7 =>
              K r5 r6 (!e7)) (
              none))))) 128 k 0 (by omega) (by omega)
  have e : (rowN 128 fun j => if j < 0 then !B.testBit j else B.testBit j) = rowN 128 B.testBit := rowN_congr fun j hj => by simp
  rw [e] at h
  refine h.trans ?_
  rw [Bits_hl hk hA]
  have hN : 2 ^ 128 - (B + 1) < 2 ^ 128 := by omega
  have e2 : (rowN 128 fun j => !B.testBit j) = rowN 128 (2 ^ 128 - (B + 1)).testBit := rowN_congr fun j hj => by
    rw [Nat.testBit_two_pow_sub_succ hB]; simp [hj]
  rw [e2, add_row hk hA hN, From_row hk (by decide)]
  have e1 : (128 : Nat) < 129 := by decide
  have e3 : (128 : Int) < ((129 : Nat) : Int) := by decide
  simp only [rowN_length, Bool.toNat_true, e3, decide_true, cond_true, rowN_get, if_pos e1, Option.bind_some]
  have e4 : min 129 128 = 128 := by decide
  have e5 : A + (2 ^ 128 - (B + 1)) + 1 = A + 2 ^ 128 - B := by omega
  rw [e4, nOf_bits, e5]
  congr 1
  rw [Nat.testBit_eq_decide_div_mod_eq]
  rw [e128] at *
  rw [Bool.eq_iff_iff]
  simp only [Bool.not_eq_true', decide_eq_false_iff_not, decide_eq_true_eq]
  omega

/-! ### Add, Sub, by the program -/

theorem Add_hl {R : Type} (k : Nat) {A B : Nat} (hA : A < 2 ^ 128) (hB : B < 2 ^ 128) (K : Int → Int → Bool → Option R) :
    wide_Add k (hi A) (lo A) (hi B) (lo B) K = K (hi ((A + B) % 2 ^ 128)) (lo ((A + B) % 2 ^ 128)) (decide (2 ^ 128 ≤ A + B)) := by
  unfold wide_Add wide_AddT add64 carry64 hi lo
  have h1 := lo_lt A
  have h2 := lo_lt B
  have h3 := hi_lt hA
  have h4 := hi_lt hB
  have eA := V_hl A
  have eB := V_hl B
  unfold V at eA eB
  simp only [Int.toNat_natCast, Int.toNat_zero, Nat.add_zero, Int.ofNat_eq_natCast]
  generalize A / 2 ^ 64 = a at *
  generalize A % 2 ^ 64 = b at *
  generalize B / 2 ^ 64 = c at *
  generalize B % 2 ^ 64 = d at *
  subst eA eB
  rw [e128, e64] at *
  have c1 : (((b + d) / 18446744073709551616 : Nat) : Int) ≤ 1 := by omega
  simp only [c1, decide_true, cond_true]
  have k1 : (a + c + (b + d) / 18446744073709551616) % 18446744073709551616 = (a * 18446744073709551616 + b + (c * 18446744073709551616 + d)) % 340282366920938463463374607431768211456 / 18446744073709551616 := by omega
  have k2 : (b + d) % 18446744073709551616 = (a * 18446744073709551616 + b + (c * 18446744073709551616 + d)) % 340282366920938463463374607431768211456 % 18446744073709551616 := by omega
  rw [← k1, ← k2]
  congr 1
  rw [Bool.eq_iff_iff]
  simp only [beq_iff_eq, decide_eq_true_eq]
  omega

theorem Sub_hl {R : Type} (k : Nat) {A B : Nat} (hA : A < 2 ^ 128) (hB : B < 2 ^ 128) (K : Int → Int → Bool → Option R) :
    wide_Sub k (hi A) (lo A) (hi B) (lo B) K = K (hi ((A + 2 ^ 128 - B) % 2 ^ 128)) (lo ((A + 2 ^ 128 - B) % 2 ^ 128)) (decide (A < B)) := by
  unfold wide_Sub wide_SubT sub64 borrow64 hi lo
  have h1 := lo_lt A
  have h2 := lo_lt B
  have h3 := hi_lt hA
  have h4 := hi_lt hB
  have eA := V_hl A
  have eB := V_hl B
  unfold V at eA eB
  simp only [Int.toNat_natCast, Int.toNat_zero, Nat.add_zero, Nat.sub_zero, Int.ofNat_eq_natCast]
  generalize A / 2 ^ 64 = a at *
  generalize A % 2 ^ 64 = b at *
  generalize B / 2 ^ 64 = c at *
  generalize B % 2 ^ 64 = d at *
  subst eA eB
  rw [e128, e64] at *
  have c1 : (((if b < d then 1 else 0) : Nat) : Int) ≤ 1 := by split <;> omega
  simp only [c1, decide_true, cond_true]
  have k1 : (a + 18446744073709551616 - c - if b < d then 1 else 0) % 18446744073709551616 = (a * 18446744073709551616 + b + 340282366920938463463374607431768211456 - (c * 18446744073709551616 + d)) % 340282366920938463463374607431768211456 / 18446744073709551616 := by split <;> omega
  have k2 : (b + 18446744073709551616 - d) % 18446744073709551616 = (a * 18446744073709551616 + b + 340282366920938463463374607431768211456 - (c * 18446744073709551616 + d)) % 340282366920938463463374607431768211456 % 18446744073709551616 := by omega
  rw [← k1, ← k2]
  congr 1
  rw [Bool.eq_iff_iff]
  simp only [beq_iff_eq, decide_eq_true_eq]
  split <;> split <;> omega

/-! ### Compare -/

def sgn (A B : Nat) : Int := if A < B then -1 else if B < A then 1 else 0

theorem Compare_hl {R : Type} {k A B : Nat} (hk : 5000 ≤ k) (K : Int → Option R) : wide_Compare k (hi A) (lo A) (hi B) (lo B) K = K (sgn A B) := by
  obtain ⟨k, rfl⟩ : ∃ j, k = j + 3 := ⟨k - 3, by omega⟩
  have hs : ∀ x y : Nat, ∀ L : Int → Option R, cmp_Compare_uint64 (k + 3) (x : Int) (y : Int) L = L (sgn x y) := by
    intro x y L
    unfold cmp_Compare_uint64 cmp_Compare_uint64T cmp_isNaN_uint64 cmp_isNaN_uint64T sgn
    simp only [bne_self_eq_false, cond_false]
    by_cases h1 : x < y
    · have : (x : Int) < (y : Int) := by omega
      simp only [this, h1, decide_true, cond_true, if_true]
    · by_cases h2 : y < x
      · have a1 : ¬ (x : Int) < (y : Int) := by omega
        have a2 : (x : Int) > (y : Int) := by omega
        simp only [a1, a2, h1, h2, decide_true, decide_false, cond_true, cond_false, if_true, if_false]
      · have a1 : ¬ (x : Int) < (y : Int) := by omega
        have a2 : ¬ (x : Int) > (y : Int) := by omega
        simp only [a1, a2, h1, h2, decide_true, decide_false, cond_true, cond_false, if_true, if_false]
  unfold wide_Compare wide_CompareT wide_words wide_wordsT hi lo
  rw [hs, hs]
  unfold cmp_Or_int cmp_Or_intT
  rw [cmp_Or_int_l0, cmp_Or_int_l0B]
  have d1 : A = 2 ^ 64 * (A / 2 ^ 64) + A % 2 ^ 64 := (Nat.div_add_mod _ _).symm
  have d2 : B = 2 ^ 64 * (B / 2 ^ 64) + B % 2 ^ 64 := (Nat.div_add_mod _ _).symm
  have l1 := lo_lt A
  have l2 := lo_lt B
  have e1 : Wi64 (0 + 1) = 1 := by decide
  have e2 : Wi64 (1 + 1) = 2 := by decide
  have c1 : ((0 : Int) < ((List.length [sgn (A / 2 ^ 64) (B / 2 ^ 64), sgn (A % 2 ^ 64) (B % 2 ^ 64)] : Nat) : Int)) := by simp
  have c2 : ((1 : Int) < ((List.length [sgn (A / 2 ^ 64) (B / 2 ^ 64), sgn (A % 2 ^ 64) (B % 2 ^ 64)] : Nat) : Int)) := by simp
  have c3 : ¬ ((2 : Int) < ((List.length [sgn (A / 2 ^ 64) (B / 2 ^ 64), sgn (A % 2 ^ 64) (B % 2 ^ 64)] : Nat) : Int)) := by simp
  have z0 : (0 : Int) ≤ 0 := by decide
  have z1 : (0 : Int) ≤ 1 := by decide
  rw [e1, cmp_Or_int_l0, cmp_Or_int_l0B, e2, cmp_Or_int_l0, cmp_Or_int_l0B]
  simp only [c1, c2, c3, z0, z1, decide_true, decide_false, cond_true, cond_false, Int.toNat_zero, Int.toNat_one, List.getElem?_cons_zero, List.getElem?_cons_succ, Option.bind_some]
  rw [e64] at *
  generalize A / 18446744073709551616 = a at *
  generalize A % 18446744073709551616 = b at *
  generalize B / 18446744073709551616 = c at *
  generalize B % 18446744073709551616 = d at *
  subst d1 d2
  unfold sgn
  by_cases h1 : a < c
  · have : 18446744073709551616 * a + b < 18446744073709551616 * c + d := by omega
    simp only [h1, this, if_true]; rfl
  · by_cases h2 : c < a
    · have x1 : ¬ 18446744073709551616 * a + b < 18446744073709551616 * c + d := by omega
      have x2 : 18446744073709551616 * c + d < 18446744073709551616 * a + b := by omega
      simp only [h1, h2, x1, x2, if_true, if_false]; rfl
    · have : a = c := by omega
      subst this
      have x1 : (18446744073709551616 * a + b < 18446744073709551616 * a + d) ↔ b < d := by omega
      have x2 : (18446744073709551616 * a + d < 18446744073709551616 * a + b) ↔ d < b := by omega
      simp only [h1, x1, x2, if_false]
      by_cases h3 : b < d
      · simp only [h3, if_true]; rfl
      · by_cases h4 : d < b
        · simp only [h3, h4, if_true, if_false]; rfl
        · simp only [h3, h4, if_false]; rfl

theorem div_lt_of_bits {A B i : Nat} (h : A / 2 ^ (i + 1) = B / 2 ^ (i + 1)) (h1 : A.testBit i = true) (h2 : B.testBit i = false) : B < A := by
  have eA : A / 2 ^ i = 2 * (A / 2 ^ (i + 1)) + 1 := by
    have := Nat.toNat_testBit A i
    rw [h1] at this
    have hd : A / 2 ^ (i + 1) = A / 2 ^ i / 2 := by rw [Nat.pow_succ, Nat.div_div_eq_div_mul]
    rw [hd]
    simp at this
    omega
  have eB : B / 2 ^ i = 2 * (B / 2 ^ (i + 1)) := by
    have := Nat.toNat_testBit B i
    rw [h2] at this
    have hd : B / 2 ^ (i + 1) = B / 2 ^ i / 2 := by rw [Nat.pow_succ, Nat.div_div_eq_div_mul]
    rw [hd]
    simp at this
    omega
  have hlt : B / 2 ^ i < A / 2 ^ i := by omega
  exact Nat.lt_of_not_le fun hle => by
    have := Nat.div_le_div_right (c := 2 ^ i) hle
    omega

theorem div_eq_of_bits {A B i : Nat} (h : A / 2 ^ (i + 1) = B / 2 ^ (i + 1)) (h1 : A.testBit i = B.testBit i) : A / 2 ^ i = B / 2 ^ i := by
  have a1 := Nat.toNat_testBit A i
  have b1 := Nat.toNat_testBit B i
  have hd : A / 2 ^ (i + 1) = A / 2 ^ i / 2 := by rw [Nat.pow_succ, Nat.div_div_eq_div_mul]
  have hd2 : B / 2 ^ (i + 1) = B / 2 ^ i / 2 := by rw [Nat.pow_succ, Nat.div_div_eq_div_mul]
  rw [hd, hd2] at h
  rw [h1] at a1
  omega

theorem refCompare_loop {R : Type} (k : Nat) (A B : Nat) (K : Int → Option R) : ∀ (i n : Nat), i ≤ 128 → i < n → A / 2 ^ i = B / 2 ^ i →
    plumblineref01_Compare_l0 k n ((i : Int) - 1) (rowN 128 A.testBit) (rowN 128 B.testBit) K (K 0) = K (sgn A B)
  | i, 0, h1, h2, _ => by omega
  | 0, n + 1, h1, h2, h3 => by
    rw [plumblineref01_Compare_l0, plumblineref01_Compare_l0B]
    have e0 : ¬ ((((0 : Nat) : Int) - 1) ≥ 0) := by decide
    simp only [e0, decide_false, cond_false]
    simp only [Nat.pow_zero, Nat.div_one] at h3
    subst h3
    simp [sgn]
  | i + 1, n + 1, h1, h2, h3 => by
    rw [plumblineref01_Compare_l0, plumblineref01_Compare_l0B]
    have e : (((i + 1 : Nat) : Int) - 1) = (i : Int) := by omega
    have e0 : ((i : Int) ≥ 0) := by omega
    have e1 : ((0 : Int) ≤ (i : Int)) := by omega
    have e2 : ((i : Int) < ((128 : Nat) : Int)) := by omega
    have e3 : i < 128 := by omega
    have e8 : Wi64 ((i : Int) - 1) = ((i : Int) - 1) := wrap_i64 (by omega) (by omega)
    rw [e, e8]
    simp only [e0, e1, e2, decide_true, cond_true, rowN_length, Int.toNat_natCast, rowN_get, if_pos e3, Option.bind_some]
    by_cases hb : A.testBit i = B.testBit i
    · have : (!(A.testBit i == B.testBit i)) = false := by simp [hb]
      rw [this]
      simp only [cond_false]
      exact refCompare_loop k A B K i n (by omega) (by omega) (div_eq_of_bits h3 hb)
    · have : (!(A.testBit i == B.testBit i)) = true := by simp [hb]
      rw [this]
      simp only [cond_true]
      cases hx : A.testBit i with
      | true =>
        have hy : B.testBit i = false := by rw [hx] at hb; cases hq : B.testBit i with | true => exact absurd hq.symm hb | false => rfl
        have h9 := div_lt_of_bits h3 hx hy
        have : ¬ A < B := by omega
        simp [sgn, this, h9]
      | false =>
        have hy : B.testBit i = true := by rw [hx] at hb; cases hq : B.testBit i with | true => rfl | false => exact absurd hq.symm hb
        have := div_lt_of_bits h3.symm hy hx
        simp [sgn, this]

theorem refCompare_hl {R : Type} {k A B : Nat} (hk : 5000 ≤ k) (hA : A < 2 ^ 128) (hB : B < 2 ^ 128) (K : Int → Option R) : plumblineref01_Compare k (hi A) (lo A) (hi B) (lo B) K = K (sgn A B) := by
  unfold plumblineref01_Compare plumblineref01_CompareT
  rw [Bits_hl hk hA, Bits_hl hk hB]
  exact refCompare_loop k A B K 128 k (by omega) (by omega) (by rw [Nat.div_eq_of_lt hA, Nat.div_eq_of_lt hB])

end Go.Proofs.Ytbnmnkofekcodaa.N

/- Products, lengths, quotients of numbers of 128 bits: what they come to. Conditions: none. -/
namespace Go.Proofs.Ytbnmnkofekcodaa.N
set_option linter.unusedVariables false
set_option linter.unusedSimpArgs false
open Go Go.Ab

theorem zero_hi {l : Nat} (hl : l < 2 ^ 64) : (0 : Int) = hi l := (hi_small hl).symm

/-! ### Mul -/

theorem refMul_loop {R : Type} {k : Nat} (hk : 5000 ≤ k) (A B : Nat) (hA : A < 2 ^ 64) (hB : B < 2 ^ 64) (c d : Int) (K : Int → Int → Option R) : ∀ (m n i : Nat), m + i = 64 → m < n →
    plumblineref01_Mul_l0 k n (A : Int) (B : Int) (i : Int) c d (hi (A * (B % 2 ^ i))) (lo (A * (B % 2 ^ i))) K = K (hi (A * B)) (lo (A * B))
  | m, 0, i, h1, h2 => by omega
  | 0, n + 1, i, h1, h2 => by
    have : i = 64 := by omega
    subst this
    rw [plumblineref01_Mul_l0, plumblineref01_Mul_l0B]
    have e0 : ¬ (((64 : Nat) : Int) < 64) := by decide
    simp only [e0, decide_false, cond_false, Nat.mod_eq_of_lt hB]
  | m + 1, n + 1, i, h1, h2 => by
    rw [plumblineref01_Mul_l0, plumblineref01_Mul_l0B]
    have e0 : ((i : Int) < 64) := by omega
    have e1 : ¬ ((i : Int) < 0) := by omega
    rw [Wi64_succ (by omega)]
    simp only [e0, e1, decide_true, decide_false, cond_true, cond_false, bit_eq hB (by omega : i ≤ 64)]
    have ih := refMul_loop hk A B hA hB c d K m n (i + 1) (by omega) (by omega)
    have hp : 2 ^ (i + 1) ≤ 2 ^ 64 := Nat.pow_le_pow_right (by decide) (by omega)
    have hpp : 0 < 2 ^ i := Nat.two_pow_pos i
    rw [Nat.pow_succ, Nat.mod_mul, ← Nat.toNat_testBit] at ih
    rw [Nat.pow_succ] at hp
    have hm := Nat.mod_lt B hpp
    cases hb : B.testBit i with
    | false =>
      rw [hb] at ih
      simp only [cond_false]
      simpa using ih
    | true =>
      rw [hb] at ih
      simp only [Bool.toNat_true, Nat.mul_one] at ih
      simp only [cond_true]
      rw [zero_hi hA, ← lo_small hA]
      have hA' : A < 2 ^ 128 := Nat.lt_trans hA (by decide)
      have hwf : (Lit.int .i64 (i : Int)).wf = true := by
        simp only [Lit.wf, Bool.and_eq_true, decide_eq_true_eq]
        have e1 : IntKind.i64.min = -9223372036854775808 := by decide
        have e2 : IntKind.i64.max = 9223372036854775807 := by decide
        rw [e1, e2]; omega
      rw [refShl_hl hk hA' hwf, Int.toNat_natCast]
      have b1 : A * 2 ^ i < 2 ^ 64 * 2 ^ 63 := by
        have : 2 ^ i ≤ 2 ^ 63 := Nat.pow_le_pow_right (by decide) (by omega)
        exact Nat.mul_lt_mul_of_lt_of_le hA this (by decide)
      have b2 : A * (B % 2 ^ i) ≤ 2 ^ 64 * 2 ^ 63 := by
        have : B % 2 ^ i ≤ 2 ^ 63 := by
          have : 2 ^ i ≤ 2 ^ 63 := Nat.pow_le_pow_right (by decide) (by omega)
          omega
        exact Nat.mul_le_mul (by omega) this
      have b3 : A * 2 ^ i % 2 ^ 128 = A * 2 ^ i := Nat.mod_eq_of_lt (by omega)
      rw [b3, refAdd_hl hk (by omega) (by omega)]
      have b4 : (A * (B % 2 ^ i) + A * 2 ^ i) % 2 ^ 128 = A * (B % 2 ^ i + 2 ^ i) := by
        rw [Nat.mul_add]; exact Nat.mod_eq_of_lt (by omega)
      rw [b4, lo_small hA]
      exact ih

theorem refMul_hl {R : Type} {k A B : Nat} (hk : 5000 ≤ k) (hA : A < 2 ^ 64) (hB : B < 2 ^ 64) (K : Int → Int → Option R) :
    plumblineref01_Mul k (A : Int) (B : Int) K = K (hi (A * B)) (lo (A * B)) := by
  unfold plumblineref01_Mul plumblineref01_MulT
  have h := refMul_loop hk A B hA hB 0 0 K 64 k 0 (by omega) (by omega)
  have e : A * (B % 2 ^ 0) = 0 := by rw [Nat.pow_zero, Nat.mod_one, Nat.mul_zero]
  rw [e, hi_small (by decide), lo_small (by decide)] at h
  exact h

theorem Wu64_nat (x : Nat) : Wu64 (x : Int) = ((x % 2 ^ 64 : Nat) : Int) := by
  unfold Wu64; rw [wrap_u64, e64]; omega

theorem and32 {x : Nat} (hx : x < 2 ^ 64) : bAnd .u64 (x : Int) 4294967295 = ((x % 2 ^ 32 : Nat) : Int) := by
  rw [show (4294967295 : Int) = ((2 ^ 32 - 1 : Nat) : Int) from by decide, bAnd_nat hx (by decide), Nat.and_two_pow_sub_one_eq_mod]
theorem and32m (x : Nat) : bAnd .u64 ((x % 2 ^ 64 : Nat) : Int) 4294967295 = ((x % 2 ^ 64 % 2 ^ 32 : Nat) : Int) := and32 (lo_lt x)
theorem shr32 (x : Nat) : shr .u64 (x : Int) 32 = ((x / 2 ^ 32 : Nat) : Int) := shr_nat x 32 (by decide)

theorem Mul_hl {R : Type} (k : Nat) {A B : Nat} (hA : A < 2 ^ 64) (hB : B < 2 ^ 64) (K : Int → Int → Option R) :
    wide_Mul k (A : Int) (B : Int) K = K (hi (A * B)) (lo (A * B)) := by
  unfold wide_Mul wide_MulT bits_Mul64 bits_Mul64T
  simp only [shr32, and32 hA, and32 hB, and32m, ← Int.natCast_mul, ← Int.natCast_add, Wu64_nat]
  have a1 : A / 2 ^ 32 ≤ 4294967295 := by omega
  have a0 : A % 2 ^ 32 ≤ 4294967295 := by omega
  have b1 : B / 2 ^ 32 ≤ 4294967295 := by omega
  have b0 : B % 2 ^ 32 ≤ 4294967295 := by omega
  have dA : A = A / 2 ^ 32 * 2 ^ 32 + A % 2 ^ 32 := by rw [Nat.mul_comm]; exact (Nat.div_add_mod _ _).symm
  have dB : B = B / 2 ^ 32 * 2 ^ 32 + B % 2 ^ 32 := by rw [Nat.mul_comm]; exact (Nat.div_add_mod _ _).symm
  have hAB : A * B = (A / 2 ^ 32 * (B / 2 ^ 32)) * 2 ^ 64 + (A / 2 ^ 32 * (B % 2 ^ 32) + A % 2 ^ 32 * (B / 2 ^ 32)) * 2 ^ 32 + A % 2 ^ 32 * (B % 2 ^ 32) := by
    conv => lhs; rw [dA, dB]
    generalize A / 2 ^ 32 = p
    generalize A % 2 ^ 32 = q
    generalize B / 2 ^ 32 = r
    generalize B % 2 ^ 32 = s
    rw [show (2 ^ 64 : Nat) = 2 ^ 32 * 2 ^ 32 from by decide]
    simp only [Nat.mul_add, Nat.add_mul]
    have e1 : p * 2 ^ 32 * (r * 2 ^ 32) = p * r * (2 ^ 32 * 2 ^ 32) := by rw [Nat.mul_mul_mul_comm]
    have e2 : p * 2 ^ 32 * s = p * s * 2 ^ 32 := by rw [Nat.mul_right_comm]
    have e3 : q * (r * 2 ^ 32) = q * r * 2 ^ 32 := by rw [Nat.mul_assoc]
    rw [e1, e2, e3]; omega
  have m11 : A / 2 ^ 32 * (B / 2 ^ 32) ≤ 4294967295 * 4294967295 := Nat.mul_le_mul a1 b1
  have m10 : A / 2 ^ 32 * (B % 2 ^ 32) ≤ 4294967295 * 4294967295 := Nat.mul_le_mul a1 b0
  have m01 : A % 2 ^ 32 * (B / 2 ^ 32) ≤ 4294967295 * 4294967295 := Nat.mul_le_mul a0 b1
  have m00 : A % 2 ^ 32 * (B % 2 ^ 32) ≤ 4294967295 * 4294967295 := Nat.mul_le_mul a0 b0
  rw [hAB]
  generalize A / 2 ^ 32 * (B / 2 ^ 32) = p at *
  generalize A / 2 ^ 32 * (B % 2 ^ 32) = q at *
  generalize A % 2 ^ 32 * (B / 2 ^ 32) = r at *
  generalize A % 2 ^ 32 * (B % 2 ^ 32) = s at *
  clear hAB dA dB a1 a0 b1 b0 hA hB
  unfold hi lo
  congr 2 <;> omega

/-! ### Len -/

/-- How many bits a number has. -/
def bl (n : Nat) : Nat := if n = 0 then 0 else n.log2 + 1

theorem bl_le_iff {n i : Nat} : bl n ≤ i ↔ n < 2 ^ i := by
  unfold bl
  by_cases h : n = 0
  · subst h; simp [Nat.two_pow_pos]
  · rw [if_neg h, Nat.succ_le_iff, Nat.log2_lt h]

theorem bl_eq {n i : Nat} (h1 : 2 ^ i ≤ n) (h2 : n < 2 ^ (i + 1)) : bl n = i + 1 := by
  have a : bl n ≤ i + 1 := bl_le_iff.2 h2
  have b : ¬ bl n ≤ i := fun h => by have := bl_le_iff.1 h; omega
  omega

theorem bl_div {n s : Nat} (h : 2 ^ s ≤ n) : bl n = s + bl (n / 2 ^ s) := by
  have hq : 0 < n / 2 ^ s := Nat.div_pos h (Nat.two_pow_pos s)
  have ha : bl n ≤ s + bl (n / 2 ^ s) := by
    rw [bl_le_iff, Nat.pow_add]
    have := (bl_le_iff (n := n / 2 ^ s)).1 (Nat.le_refl _)
    rw [Nat.div_lt_iff_lt_mul (Nat.two_pow_pos s)] at this
    rw [Nat.mul_comm]; exact this
  have hb : bl (n / 2 ^ s) ≤ bl n - s := by
    rw [bl_le_iff, Nat.div_lt_iff_lt_mul (Nat.two_pow_pos s), ← Nat.pow_add]
    have h1 := (bl_le_iff (n := n)).1 (Nat.le_refl _)
    exact Nat.lt_of_lt_of_le h1 (Nat.pow_le_pow_right (by decide) (by omega))
  have hc : s ≤ bl n := by
    have : ¬ bl n < s := fun hh => by
      have := bl_le_iff.1 (Nat.le_refl (bl n))
      have h3 : 2 ^ bl n ≤ 2 ^ s := Nat.pow_le_pow_right (by decide) (by omega)
      omega
    omega
  omega

theorem len8 : ∀ n : Fin 256, strAt str_bits_Len64_0 ((n.val : Nat) : Int) = some ((bl n.val : Nat) : Int) := by decide +kernel

theorem len8_nat {n : Nat} (h : n < 256) : strAt str_bits_Len64_0 (n : Int) = some ((bl n : Nat) : Int) := len8 ⟨n, h⟩

theorem Wu8_nat {n : Nat} (h : n < 256) : Wu8 (n : Int) = (n : Int) := by
  unfold Wu8 IntKind.wrap
  simp only [IntKind.bits, IntKind.signed]
  have e1 : (2 ^ 8 : Int) = 256 := by decide
  simp only [e1]
  show (n : Int) % 256 = n
  omega

theorem Len64_nat {R : Type} (k : Nat) {n : Nat} (hn : n < 2 ^ 64) (K : Int → Option R) : bits_Len64 k (n : Int) K = K ((bl n : Nat) : Int) := by
  have key : ∀ s : Nat, (s = 0 ∨ 2 ^ s ≤ n) → n / 2 ^ s < 256 → s < 64 → (Option.bind (strAt str_bits_Len64_0 (Wu8 ((n / 2 ^ s : Nat) : Int))) fun c => K (Wi64 ((s : Int) + Wi64 c))) = K ((bl n : Nat) : Int) := by
    intro s h1 h2 h3
    rw [Wu8_nat h2, len8_nat h2, Option.bind_some]
    have hb : bl (n / 2 ^ s) ≤ 8 := bl_le_iff.2 h2
    rw [Wi64_nat (by omega), show (s : Int) + ((bl (n / 2 ^ s) : Nat) : Int) = ((s + bl (n / 2 ^ s) : Nat) : Int) from by omega, Wi64_nat (by omega)]
    congr 2
    rcases h1 with h1 | h1
    · subst h1; simp
    · exact (bl_div h1).symm
  unfold bits_Len64 bits_Len64T
  have s8 : ∀ x : Nat, shr .u64 (x : Int) 8 = ((x / 2 ^ 8 : Nat) : Int) := fun x => shr_nat x 8 (by decide)
  have s16 : ∀ x : Nat, shr .u64 (x : Int) 16 = ((x / 2 ^ 16 : Nat) : Int) := fun x => shr_nat x 16 (by decide)
  simp only [shr32, s8, s16, Nat.div_div_eq_div_mul, ← Nat.pow_add]
  have k56 := key 56; have k48 := key 48; have k40 := key 40; have k32 := key 32; have k24 := key 24; have k16 := key 16; have k8 := key 8; have k0 := key 0
  simp only [Nat.pow_zero, Nat.div_one] at k0
  rw [e64] at hn
  by_cases c1 : ((n : Int) ≥ 4294967296)
  · simp only [c1, decide_true, cond_true]
    by_cases c2 : (((n / 2 ^ 32 : Nat) : Int) ≥ 65536)
    · simp only [c2, decide_true, cond_true]
      by_cases c3 : (((n / 2 ^ (32 + 16) : Nat) : Int) ≥ 256)
      · simp only [c3, decide_true, cond_true]; exact k56 (.inr (by omega)) (by omega) (by decide)
      · simp only [c3, decide_false, cond_false]; exact k48 (.inr (by omega)) (by omega) (by decide)
    · simp only [c2, decide_false, cond_false]
      by_cases c3 : (((n / 2 ^ 32 : Nat) : Int) ≥ 256)
      · simp only [c3, decide_true, cond_true]; exact k40 (.inr (by omega)) (by omega) (by decide)
      · simp only [c3, decide_false, cond_false]; exact k32 (.inr (by omega)) (by omega) (by decide)
  · simp only [c1, decide_false, cond_false]
    by_cases c2 : ((n : Int) ≥ 65536)
    · simp only [c2, decide_true, cond_true]
      by_cases c3 : (((n / 2 ^ 16 : Nat) : Int) ≥ 256)
      · simp only [c3, decide_true, cond_true]; exact k24 (.inr (by omega)) (by omega) (by decide)
      · simp only [c3, decide_false, cond_false]; exact k16 (.inr (by omega)) (by omega) (by decide)
    · simp only [c2, decide_false, cond_false]
      by_cases c3 : ((n : Int) ≥ 256)
      · simp only [c3, decide_true, cond_true]; exact k8 (.inr (by omega)) (by omega) (by decide)
      · simp only [c3, decide_false, cond_false]; exact k0 (.inl trivial) (by omega) (by decide)

theorem Len_hl {R : Type} (k : Nat) {A : Nat} (hA : A < 2 ^ 128) (K : Int → Option R) : wide_Len k (hi A) (lo A) K = K ((bl A : Nat) : Int) := by
  unfold wide_Len wide_LenT
  by_cases h : A / 2 ^ 64 = 0
  · have e1 : hi A = 0 := by unfold hi; rw [h]; rfl
    have e2 : A < 2 ^ 64 := by omega
    have : (hi A != 0) = false := by rw [e1]; rfl
    rw [this, cond_false, lo_small e2, Len64_nat k e2]
  · have : (hi A != 0) = true := by
      unfold hi
      rw [bne_iff_ne]
      omega
    rw [this, cond_true]
    unfold hi
    rw [Len64_nat k (hi_lt hA)]
    have hb : bl (A / 2 ^ 64) ≤ 64 := bl_le_iff.2 (hi_lt hA)
    rw [show (64 : Int) + ((bl (A / 2 ^ 64) : Nat) : Int) = ((64 + bl (A / 2 ^ 64) : Nat) : Int) from by omega, Wi64_nat (by omega)]
    rw [bl_div (n := A) (s := 64) (by omega)]

theorem bl_mod_succ (A i : Nat) : bl (A % 2 ^ (i + 1)) = if A.testBit i then i + 1 else bl (A % 2 ^ i) := by
  rw [Nat.pow_succ, Nat.mod_mul, ← Nat.toNat_testBit]
  have hp : 0 < 2 ^ i := Nat.two_pow_pos i
  have hm := Nat.mod_lt A hp
  cases A.testBit i with
  | false => simp
  | true =>
    simp only [Bool.toNat_true, Nat.mul_one, if_true]
    exact bl_eq (by omega) (by rw [Nat.pow_succ]; omega)

theorem refLen_loop {R : Type} (k : Nat) (A : Nat) (hA : A < 2 ^ 128) (K : Int → Option R) : ∀ (m n i : Nat), m + i = 128 → m < n →
    plumblineref01_Len_l0 k n ((bl (A % 2 ^ i) : Nat) : Int) (i : Int) (rowN 128 A.testBit) K = K ((bl A : Nat) : Int)
  | m, 0, i, h1, h2 => by omega
  | 0, n + 1, i, h1, h2 => by
    have : i = 128 := by omega
    subst this
    rw [plumblineref01_Len_l0, plumblineref01_Len_l0B]
    have e0 : ¬ (((128 : Nat) : Int) < 128) := by decide
    simp only [e0, decide_false, cond_false, Nat.mod_eq_of_lt hA]
  | m + 1, n + 1, i, h1, h2 => by
    rw [plumblineref01_Len_l0, plumblineref01_Len_l0B]
    have e0 : ((i : Int) < 128) := by omega
    have e1 : ((0 : Int) ≤ (i : Int)) := by omega
    have e2 : ((i : Int) < ((128 : Nat) : Int)) := by omega
    have e3 : i < 128 := by omega
    have ih := refLen_loop k A hA K m n (i + 1) (by omega) (by omega)
    rw [bl_mod_succ] at ih
    rw [Wi64_succ (by omega)]
    simp only [e0, e1, e2, decide_true, cond_true, rowN_length, Int.toNat_natCast, rowN_get, if_pos e3, Option.bind_some]
    cases hb : A.testBit i with
    | true => rw [hb] at ih; exact ih
    | false => rw [hb] at ih; exact ih

theorem refLen_hl {R : Type} {k A : Nat} (hk : 5000 ≤ k) (hA : A < 2 ^ 128) (K : Int → Option R) : plumblineref01_Len k (hi A) (lo A) K = K ((bl A : Nat) : Int) := by
  unfold plumblineref01_Len plumblineref01_LenT
  rw [Bits_hl hk hA]
  have h := refLen_loop k A hA K 128 k 0 (by omega) (by omega)
  have e : bl (A % 2 ^ 0) = 0 := by rw [Nat.pow_zero, Nat.mod_one]; rfl
  rw [e] at h
  exact h

end Go.Proofs.Ytbnmnkofekcodaa.N

/- Quotients of numbers of 128 bits: what they come to. Conditions: none. -/
namespace Go.Proofs.Ytbnmnkofekcodaa.N
set_option linter.unusedVariables false
set_option linter.unusedSimpArgs false
open Go Go.Ab

theorem Wu64_sub {x y : Nat} (h : y ≤ x) : Wu64 ((x : Int) - (y : Int)) = (((x - y) % 2 ^ 64 : Nat) : Int) := by
  rw [← Int.natCast_sub h, Wu64_nat]
theorem Wu64_lt {x : Nat} (h : x < 2 ^ 64) : Wu64 (x : Int) = (x : Int) := by rw [Wu64_nat, Nat.mod_eq_of_lt h]
/-- What is subtracted round and round is the true difference, if that is a word. -/
theorem Wu64_diff {x y r : Nat} (h : x = y + r) (hr : r < 2 ^ 64) : Wu64 (Wu64 (x : Int) - Wu64 (y : Int)) = (r : Int) := by
  rw [Wu64_nat, Wu64_nat]
  unfold Wu64
  rw [wrap_u64]
  subst h
  rw [e64] at *
  omega

/-! ### One digit -/

/-- A digit that is guessed by the upper half is put right by the two loops alike. -/
theorem digit_step {u d Y yn1 yn0 q r : Nat} (hY : Y = yn1 * 2 ^ 32 + yn0) (hu : u < Y) (hd : d < 2 ^ 32) (h0 : yn0 < 2 ^ 32) (h1 : 2 ^ 31 ≤ yn1) (hq : q * yn1 + r = u) (hge : (u * 2 ^ 32 + d) / Y ≤ q) :
    (2 ^ 32 ≤ q → (u * 2 ^ 32 + d) / Y < q) ∧ (q * yn0 > 2 ^ 32 * r + d → (u * 2 ^ 32 + d) / Y < q) ∧ (q * yn0 ≤ 2 ^ 32 * r + d → (u * 2 ^ 32 + d) / Y = q) := by
  have hYpos : 0 < Y := by omega
  have hlt : (u * 2 ^ 32 + d) / Y < 2 ^ 32 := by
    rw [Nat.div_lt_iff_lt_mul hYpos]
    have : (u + 1) * 2 ^ 32 ≤ Y * 2 ^ 32 := Nat.mul_le_mul_right _ hu
    rw [Nat.mul_comm (2 ^ 32) Y]
    omega
  have eq : q * Y = q * yn1 * 2 ^ 32 + q * yn0 := by rw [hY, Nat.mul_add, Nat.mul_assoc]
  refine ⟨fun h => Nat.lt_of_lt_of_le hlt h, fun h => ?_, fun h => ?_⟩
  · rw [Nat.div_lt_iff_lt_mul hYpos, eq]
    generalize q * yn1 = a at *
    generalize q * yn0 = b at *
    omega
  · refine Nat.le_antisymm hge ?_
    rw [Nat.le_div_iff_mul_le hYpos, eq]
    generalize q * yn1 = a at *
    generalize q * yn0 = b at *
    omega

theorem guess_ge {u d Y yn1 yn0 : Nat} (hY : Y = yn1 * 2 ^ 32 + yn0) (hd : d < 2 ^ 32) (h1 : 2 ^ 31 ≤ yn1) : (u * 2 ^ 32 + d) / Y ≤ u / yn1 := by
  have hYpos : 0 < Y := by omega
  have h : (u * 2 ^ 32 + d) / Y ≤ (u * 2 ^ 32 + d) / (yn1 * 2 ^ 32) := by
    refine Nat.div_le_div_left ?_ ?_ <;> omega
  refine Nat.le_trans h ?_
  rw [Nat.mul_comm yn1, ← Nat.div_div_eq_div_mul]
  have : (u * 2 ^ 32 + d) / 2 ^ 32 = u := by omega
  rw [this]
  exact Nat.le_refl _

theorem guess_le {u Y yn1 yn0 q r : Nat} (hY : Y = yn1 * 2 ^ 32 + yn0) (hu : u < Y) (h0 : yn0 < 2 ^ 32) (h1 : 2 ^ 31 ≤ yn1) (hq : q * yn1 + r = u) : q ≤ 2 ^ 32 + 1 := by
  refine Nat.le_of_not_lt fun h => ?_
  have : (2 ^ 32 + 2) * yn1 ≤ q * yn1 := Nat.mul_le_mul_right _ h
  omega

theorem Div64_l0 {R : Type} (k : Nat) {Y yn1 yn0 u d : Nat} (hY : Y = yn1 * 2 ^ 32 + yn0) (hYl : Y < 2 ^ 64) (hu : u < Y) (hd : d < 2 ^ 32) (h0 : yn0 < 2 ^ 32) (h1 : 2 ^ 31 ≤ yn1) (x1 x2 x5 x7 : Int) (K : Int → Option R) :
    ∀ (m n q r : Nat), q * yn1 + r = u → (u * 2 ^ 32 + d) / Y ≤ q → r < 2 ^ 32 → 2 ^ 32 ≤ r + m * yn1 → m < n →
    bits_Div64_l0 k n x1 x2 (yn1 : Int) (yn0 : Int) x5 (d : Int) x7 (q : Int) (r : Int) K = K (((u * 2 ^ 32 + d) / Y : Nat) : Int)
  | m, 0, q, r, _, _, _, _, hn => by omega
  | 0, n + 1, q, r, hq, hge, hr, hm, hn => by omega
  | m + 1, n + 1, q, r, hq, hge, hr, hm, hn => by
    rw [bits_Div64_l0, bits_Div64_l0B]
    obtain ⟨s1, s2, s3⟩ := digit_step hY hu hd h0 h1 hq hge
    have hle := guess_le hY hu h0 h1 hq
    have hy1 : yn1 < 2 ^ 32 := by omega
    have w1 : Wu64 ((r : Int) + (yn1 : Int)) = ((r + yn1 : Nat) : Int) := by rw [← Int.natCast_add]; exact Wu64_lt (by omega)
    have hdec : (u * 2 ^ 32 + d) / Y < q → (cond (decide ((((r + yn1 : Nat) : Int)) ≥ 4294967296)) (K (Wu64 ((q : Int) - 1))) (bits_Div64_l0 k n x1 x2 (yn1 : Int) (yn0 : Int) x5 (d : Int) x7 (Wu64 ((q : Int) - 1)) (((r + yn1 : Nat) : Int)) K)) = K (((u * 2 ^ 32 + d) / Y : Nat) : Int) := by
      intro hlt
      have hqpos : 1 ≤ q := Nat.lt_of_le_of_lt (Nat.zero_le _) hlt
      have w2 : Wu64 ((q : Int) - 1) = ((q - 1 : Nat) : Int) := by
        rw [show (1 : Int) = ((1 : Nat) : Int) from rfl, Wu64_sub (by omega), Nat.mod_eq_of_lt (by omega)]
      rw [w2]
      have hq' : (q - 1) * yn1 + (r + yn1) = u := by
        obtain ⟨q', rfl⟩ : ∃ q', q = q' + 1 := ⟨q - 1, by omega⟩
        rw [Nat.add_sub_cancel, ← hq, Nat.add_mul, Nat.one_mul]; omega
      have hge' : (u * 2 ^ 32 + d) / Y ≤ q - 1 := Nat.le_sub_one_of_lt hlt
      by_cases c : ((((r + yn1 : Nat) : Int)) ≥ 4294967296)
      · simp only [c, decide_true, cond_true]
        obtain ⟨_, _, s3'⟩ := digit_step hY hu hd h0 h1 hq' hge'
        have : (q - 1) * yn0 ≤ 2 ^ 32 * (r + yn1) + d := by
          have a1 : (q - 1) * yn0 ≤ 2 ^ 32 * (2 ^ 32 - 1) := Nat.mul_le_mul (by omega) (by omega)
          omega
        rw [s3' this]
      · simp only [c, decide_false, cond_false]
        have e : m * yn1 + yn1 = (m + 1) * yn1 := by rw [Nat.add_mul, Nat.one_mul]
        exact Div64_l0 k hY hYl hu hd h0 h1 x1 x2 x5 x7 K m n (q - 1) (r + yn1) hq' hge' (by omega) (by omega) (by omega)
    rw [w1]
    by_cases c1 : ((q : Int) ≥ 4294967296)
    · simp only [c1, decide_true, cond_true]
      exact hdec (s1 (by omega))
    · simp only [c1, decide_false, cond_false]
      have hqy : q * yn0 < 2 ^ 64 := by
        have a1 : q * yn0 ≤ (2 ^ 32 - 1) * (2 ^ 32 - 1) := Nat.mul_le_mul (by omega) (by omega)
        omega
      have w3 : Wu64 ((q : Int) * (yn0 : Int)) = ((q * yn0 : Nat) : Int) := by rw [← Int.natCast_mul]; exact Wu64_lt hqy
      have w4 : Wu64 (Wu64 (4294967296 * (r : Int)) + (d : Int)) = ((2 ^ 32 * r + d : Nat) : Int) := by
        rw [show (4294967296 : Int) * (r : Int) = ((2 ^ 32 * r : Nat) : Int) from by omega, Wu64_lt (by omega), ← Int.natCast_add, Wu64_lt (by omega)]
      rw [w3, w4]
      by_cases c2 : (((q * yn0 : Nat) : Int) > ((2 ^ 32 * r + d : Nat) : Int))
      · simp only [c2, decide_true, cond_true]
        exact hdec (s2 (Int.ofNat_lt.1 c2))
      · simp only [c2, decide_false, cond_false]
        rw [s3 (Nat.le_of_not_lt fun h => c2 (Int.ofNat_lt.2 h))]

theorem Div64_l1 {R : Type} (k : Nat) {Y yn1 yn0 u d : Nat} (hY : Y = yn1 * 2 ^ 32 + yn0) (hYl : Y < 2 ^ 64) (hu : u < Y) (hd : d < 2 ^ 32) (h0 : yn0 < 2 ^ 32) (h1 : 2 ^ 31 ≤ yn1) (x1 x2 x6 x8 : Int) (K : Int → Option R) :
    ∀ (m n q r : Nat), q * yn1 + r = u → (u * 2 ^ 32 + d) / Y ≤ q → r < 2 ^ 32 → 2 ^ 32 ≤ r + m * yn1 → m < n →
    bits_Div64_l1 k n x1 x2 (yn1 : Int) (yn0 : Int) (d : Int) x6 (r : Int) x8 (q : Int) K = K (((u * 2 ^ 32 + d) / Y : Nat) : Int)
  | m, 0, q, r, _, _, _, _, hn => by omega
  | 0, n + 1, q, r, hq, hge, hr, hm, hn => by omega
  | m + 1, n + 1, q, r, hq, hge, hr, hm, hn => by
    rw [bits_Div64_l1, bits_Div64_l1B]
    obtain ⟨s1, s2, s3⟩ := digit_step hY hu hd h0 h1 hq hge
    have hle := guess_le hY hu h0 h1 hq
    have hy1 : yn1 < 2 ^ 32 := by omega
    have w1 : Wu64 ((r : Int) + (yn1 : Int)) = ((r + yn1 : Nat) : Int) := by rw [← Int.natCast_add]; exact Wu64_lt (by omega)
    have hdec : (u * 2 ^ 32 + d) / Y < q → (cond (decide ((((r + yn1 : Nat) : Int)) ≥ 4294967296)) (K (Wu64 ((q : Int) - 1))) (bits_Div64_l1 k n x1 x2 (yn1 : Int) (yn0 : Int) (d : Int) x6 (((r + yn1 : Nat) : Int)) x8 (Wu64 ((q : Int) - 1)) K)) = K (((u * 2 ^ 32 + d) / Y : Nat) : Int) := by
      intro hlt
      have hqpos : 1 ≤ q := Nat.lt_of_le_of_lt (Nat.zero_le _) hlt
      have w2 : Wu64 ((q : Int) - 1) = ((q - 1 : Nat) : Int) := by
        rw [show (1 : Int) = ((1 : Nat) : Int) from rfl, Wu64_sub (by omega), Nat.mod_eq_of_lt (by omega)]
      rw [w2]
      have hq' : (q - 1) * yn1 + (r + yn1) = u := by
        obtain ⟨q', rfl⟩ : ∃ q', q = q' + 1 := ⟨q - 1, by omega⟩
        rw [Nat.add_sub_cancel, ← hq, Nat.add_mul, Nat.one_mul]; omega
      have hge' : (u * 2 ^ 32 + d) / Y ≤ q - 1 := Nat.le_sub_one_of_lt hlt
      by_cases c : ((((r + yn1 : Nat) : Int)) ≥ 4294967296)
      · simp only [c, decide_true, cond_true]
        obtain ⟨_, _, s3'⟩ := digit_step hY hu hd h0 h1 hq' hge'
        have : (q - 1) * yn0 ≤ 2 ^ 32 * (r + yn1) + d := by
          have a1 : (q - 1) * yn0 ≤ 2 ^ 32 * (2 ^ 32 - 1) := Nat.mul_le_mul (by omega) (by omega)
          omega
        rw [s3' this]
      · simp only [c, decide_false, cond_false]
        have e : m * yn1 + yn1 = (m + 1) * yn1 := by rw [Nat.add_mul, Nat.one_mul]
        exact Div64_l1 k hY hYl hu hd h0 h1 x1 x2 x6 x8 K m n (q - 1) (r + yn1) hq' hge' (by omega) (by omega) (by omega)
    rw [w1]
    by_cases c1 : ((q : Int) ≥ 4294967296)
    · simp only [c1, decide_true, cond_true]
      exact hdec (s1 (by omega))
    · simp only [c1, decide_false, cond_false]
      have hqy : q * yn0 < 2 ^ 64 := by
        have a1 : q * yn0 ≤ (2 ^ 32 - 1) * (2 ^ 32 - 1) := Nat.mul_le_mul (by omega) (by omega)
        omega
      have w3 : Wu64 ((q : Int) * (yn0 : Int)) = ((q * yn0 : Nat) : Int) := by rw [← Int.natCast_mul]; exact Wu64_lt hqy
      have w4 : Wu64 (Wu64 (4294967296 * (r : Int)) + (d : Int)) = ((2 ^ 32 * r + d : Nat) : Int) := by
        rw [show (4294967296 : Int) * (r : Int) = ((2 ^ 32 * r : Nat) : Int) from by omega, Wu64_lt (by omega), ← Int.natCast_add, Wu64_lt (by omega)]
      rw [w3, w4]
      by_cases c2 : (((q * yn0 : Nat) : Int) > ((2 ^ 32 * r + d : Nat) : Int))
      · simp only [c2, decide_true, cond_true]
        exact hdec (s2 (Int.ofNat_lt.1 c2))
      · simp only [c2, decide_false, cond_false]
        rw [s3 (Nat.le_of_not_lt fun h => c2 (Int.ofNat_lt.2 h))]

/-! ### Div64 -/

theorem tdiv_nat (x y : Nat) : Int.tdiv (x : Int) (y : Int) = ((x / y : Nat) : Int) := rfl
theorem tmod_nat (x y : Nat) : Int.tmod (x : Int) (y : Int) = ((x % y : Nat) : Int) := rfl

theorem Div64_nat {R : Type} {k : Nat} (hk : 5000 ≤ k) {h l y : Nat} (hl : l < 2 ^ 64) (hy : y < 2 ^ 64) (hh : h < y) (K : Int → Int → Option R) :
    bits_Div64 k (h : Int) (l : Int) (y : Int) K = K (((h * 2 ^ 64 + l) / y : Nat) : Int) (((h * 2 ^ 64 + l) % y : Nat) : Int) := by
  have hypos : 0 < y := by omega
  unfold bits_Div64 bits_Div64T
  have c1 : ((y : Int) == 0) = false := by rw [beq_eq_false_iff_ne]; omega
  have c2 : ¬ ((y : Int) ≤ (h : Int)) := by omega
  have c3 : ¬ ((y : Int) = 0) := by omega
  rw [c1]
  simp only [c2, decide_false, cond_false]
  by_cases hz : h = 0
  · subst hz
    have : (((0 : Nat) : Int) == 0) = true := rfl
    rw [this]
    simp only [c3, decide_false, cond_true, cond_false, tdiv_nat, tmod_nat]
    rw [Wu64_lt (Nat.lt_of_le_of_lt (Nat.div_le_self _ _) hl), Nat.zero_mul, Nat.zero_add]
  have c4 : ((h : Int) == 0) = false := by rw [beq_eq_false_iff_ne]; omega
  rw [c4]
  simp only [cond_false]
  unfold bits_LeadingZeros64 bits_LeadingZeros64T
  rw [Len64_nat k hy]
  have hb64 : bl y ≤ 64 := bl_le_iff.2 hy
  obtain ⟨s, hs⟩ : ∃ s, s = 64 - bl y := ⟨_, rfl⟩
  have w1 : Wi64 (64 - ((bl y : Nat) : Int)) = (s : Int) := by rw [wrap_i64 (by omega) (by omega)]; omega
  have hs64 : s < 64 := by
    have : 0 < bl y := by unfold bl; rw [if_neg (by omega)]; omega
    omega
  have w2 : Wu64 (s : Int) = (s : Int) := Wu64_lt (by omega)
  have w3 : Wu64 (64 - (s : Int)) = ((64 - s : Nat) : Int) := by
    rw [show (64 : Int) = ((64 : Nat) : Int) from rfl, Wu64_sub (by omega), Nat.mod_eq_of_lt (by omega)]
  rw [w1]
  simp only [w2, w3]
  have c5 : ¬ ((s : Int) < 0) := by omega
  have c6 : ¬ (((64 - s : Nat) : Int) < 0) := by omega
  simp only [c5, c6, decide_false, cond_false]
  -- the divisor moved up
  have hys : y * 2 ^ s < 2 ^ 64 := by
    have := (bl_le_iff (n := y)).1 (Nat.le_refl _)
    have h2 : 2 ^ 64 = 2 ^ bl y * 2 ^ s := by rw [← Nat.pow_add]; congr 1; omega
    rw [h2]; exact Nat.mul_lt_mul_of_pos_right this (Nat.two_pow_pos s)
  have hys2 : 2 ^ 63 ≤ y * 2 ^ s := by
    have hlow : 2 ^ (bl y - 1) ≤ y := by
      refine Nat.le_of_not_lt fun h => ?_
      have := bl_le_iff.2 h
      have : 0 < bl y := by unfold bl; rw [if_neg (by omega)]; omega
      omega
    have h2 : 2 ^ 63 = 2 ^ (bl y - 1) * 2 ^ s := by rw [← Nat.pow_add]; congr 1; omega
    rw [h2]; exact Nat.mul_le_mul_right _ hlow
  have eY : shl .u64 (y : Int) (s : Int) = ((y * 2 ^ s : Nat) : Int) := by rw [shl_nat y s (by omega), Nat.mod_eq_of_lt hys]
  -- the number moved up
  have hle : l / 2 ^ (64 - s) < 2 ^ s := by
    rw [Nat.div_lt_iff_lt_mul (Nat.two_pow_pos _), ← Nat.pow_add]
    have : s + (64 - s) = 64 := by omega
    rw [this]; exact hl
  have hhs : h * 2 ^ s + l / 2 ^ (64 - s) < y * 2 ^ s := by
    have : (h + 1) * 2 ^ s ≤ y * 2 ^ s := Nat.mul_le_mul_right _ hh
    rw [Nat.add_mul, Nat.one_mul] at this
    omega
  have eU : bOr .u64 (shl .u64 (h : Int) (s : Int)) (shr .u64 (l : Int) ((64 - s : Nat) : Int)) = ((h * 2 ^ s + l / 2 ^ (64 - s) : Nat) : Int) := by
    have h1 : h * 2 ^ s < 2 ^ 64 := Nat.lt_of_le_of_lt (Nat.le_add_right _ _) (Nat.lt_trans hhs hys)
    rw [shl_nat h s (by omega), Nat.mod_eq_of_lt h1, shr_nat l (64 - s) (by omega), bOr_nat h1 (Nat.lt_of_le_of_lt (Nat.div_le_self _ _) hl)]
    rw [or_add (s := s) (by simp) hle]
  have eL : shl .u64 (l : Int) (s : Int) = ((l * 2 ^ s % 2 ^ 64 : Nat) : Int) := shl_nat l s (by omega)
  have eN : (h * 2 ^ 64 + l) * 2 ^ s = (h * 2 ^ s + l / 2 ^ (64 - s)) * 2 ^ 64 + l * 2 ^ s % 2 ^ 64 := by
    have hp : 2 ^ 64 = 2 ^ s * 2 ^ (64 - s) := by rw [← Nat.pow_add]; congr 1; omega
    have e3 : l * 2 ^ s / 2 ^ 64 = l / 2 ^ (64 - s) := by
      rw [hp, Nat.mul_comm l, Nat.mul_div_mul_left _ _ (Nat.two_pow_pos s)]
    rw [← e3, Nat.add_mul, Nat.add_mul]
    have := Nat.div_add_mod (l * 2 ^ s) (2 ^ 64)
    rw [Nat.mul_right_comm h]
    omega
  rw [eU, eY, eL]
  have hNq : (h * 2 ^ 64 + l) / y = (h * 2 ^ 64 + l) * 2 ^ s / (y * 2 ^ s) := (Nat.mul_div_mul_right _ _ (Nat.two_pow_pos s)).symm
  have hNr : ((h * 2 ^ 64 + l) * 2 ^ s % (y * 2 ^ s)) / 2 ^ s = (h * 2 ^ 64 + l) % y := by
    rw [Nat.mul_mod_mul_right, Nat.mul_div_cancel _ (Nat.two_pow_pos s)]
  rw [hNq, ← hNr, eN]
  have hLlt : l * 2 ^ s % 2 ^ 64 < 2 ^ 64 := lo_lt _
  clear hNq hNr eN eL eU eY hle w1 w2 w3 c1 c2 c3 c4 c5 c6
  generalize hY : y * 2 ^ s = Y at *
  generalize h * 2 ^ s + l / 2 ^ (64 - s) = U at *
  generalize l * 2 ^ s % 2 ^ 64 = L at *
  simp only [shr32, and32 hLlt, and32 hys]
  have hyn1 : 2 ^ 31 ≤ Y / 2 ^ 32 := by omega
  have hyn1' : Y / 2 ^ 32 < 2 ^ 32 := by omega
  have hyn0 : Y % 2 ^ 32 < 2 ^ 32 := by omega
  have hYe : Y = Y / 2 ^ 32 * 2 ^ 32 + Y % 2 ^ 32 := by omega
  have cy : ¬ (((Y / 2 ^ 32 : Nat) : Int) = 0) := by omega
  simp only [cy, decide_false, cond_false, tdiv_nat]
  have hL1 : L / 2 ^ 32 < 2 ^ 32 := by omega
  have hL0 : L % 2 ^ 32 < 2 ^ 32 := by omega
  have first : ∀ u : Nat, u < Y → Wu64 ((u / (Y / 2 ^ 32) : Nat) : Int) = ((u / (Y / 2 ^ 32) : Nat) : Int) ∧ Wu64 ((u : Int) - Wu64 (((u / (Y / 2 ^ 32) : Nat) : Int) * ((Y / 2 ^ 32 : Nat) : Int))) = ((u % (Y / 2 ^ 32) : Nat) : Int) := by
    intro u hu
    have hle := Nat.div_le_self u (Y / 2 ^ 32)
    have hm := Nat.div_add_mod u (Y / 2 ^ 32)
    have hp : u / (Y / 2 ^ 32) * (Y / 2 ^ 32) ≤ u := Nat.div_mul_le_self _ _
    refine ⟨Wu64_lt (by omega), ?_⟩
    rw [← Int.natCast_mul, Wu64_lt (by omega), Wu64_sub hp]
    rw [Nat.mul_comm] at hm
    rw [Nat.mod_eq_of_lt (by omega)]
    omega
  have pre : ∀ u : Nat, u < Y → u / (Y / 2 ^ 32) * (Y / 2 ^ 32) + u % (Y / 2 ^ 32) = u ∧ u % (Y / 2 ^ 32) < 2 ^ 32 ∧ 2 ^ 32 ≤ u % (Y / 2 ^ 32) + 4 * (Y / 2 ^ 32) := by
    intro u hu
    have hm := Nat.div_add_mod u (Y / 2 ^ 32)
    have hr := Nat.mod_lt u (show 0 < Y / 2 ^ 32 by omega)
    rw [Nat.mul_comm]
    exact ⟨hm, by omega, by omega⟩
  obtain ⟨f1, f2⟩ := first U hhs
  obtain ⟨g1, g2, g3⟩ := pre U hhs
  rw [f1, f2, Div64_l0 k hYe hys hhs hL1 hyn0 hyn1 _ _ _ _ _ 4 k _ _ g1 (guess_ge hYe hL1 hyn1) g2 g3 (by omega)]
  -- the second digit
  have hYpos : 0 < Y := by omega
  have hdm := Nat.div_add_mod (U * 2 ^ 32 + L / 2 ^ 32) Y
  have hr1 := Nat.mod_lt (U * 2 ^ 32 + L / 2 ^ 32) hYpos
  have hq1 : (U * 2 ^ 32 + L / 2 ^ 32) / Y < 2 ^ 32 := by
    rw [Nat.div_lt_iff_lt_mul hYpos]
    have : (U + 1) * 2 ^ 32 ≤ Y * 2 ^ 32 := Nat.mul_le_mul_right _ hhs
    rw [Nat.mul_comm (2 ^ 32) Y]
    omega
  have e21 : Wu64 (Wu64 (Wu64 ((U : Int) * 4294967296) + ((L / 2 ^ 32 : Nat) : Int)) - Wu64 ((((U * 2 ^ 32 + L / 2 ^ 32) / Y : Nat) : Int) * (Y : Int))) = (((U * 2 ^ 32 + L / 2 ^ 32) % Y : Nat) : Int) := by
    have a1 : Wu64 (Wu64 ((U : Int) * 4294967296) + ((L / 2 ^ 32 : Nat) : Int)) = Wu64 ((U * 2 ^ 32 + L / 2 ^ 32 : Nat) : Int) := by
      rw [show (U : Int) * 4294967296 = ((U * 2 ^ 32 : Nat) : Int) from by omega, Wu64_nat, ← Int.natCast_add, Wu64_nat, Wu64_nat]
      omega
    rw [a1, ← Int.natCast_mul]
    refine Wu64_diff ?_ (by omega)
    rw [Nat.mul_comm (_ / Y)]; exact hdm.symm
  simp only [e21]
  obtain ⟨U1, hU1⟩ : ∃ x, x = (U * 2 ^ 32 + L / 2 ^ 32) % Y := ⟨_, rfl⟩
  obtain ⟨Q1, hQ1⟩ : ∃ x, x = (U * 2 ^ 32 + L / 2 ^ 32) / Y := ⟨_, rfl⟩
  simp only [← hU1, ← hQ1] at hdm hr1 hq1 ⊢
  obtain ⟨f1', f2'⟩ := first U1 hr1
  obtain ⟨g1', g2', g3'⟩ := pre U1 hr1
  simp only [tdiv_nat]
  rw [f1', f2', Div64_l1 k hYe hys hr1 hL0 hyn0 hyn1 _ _ _ _ _ 4 k _ _ g1' (guess_ge hYe hL0 hyn1) g2' g3' (by omega)]
  have c5 : ¬ ((s : Int) < 0) := by omega
  have hdm2 := Nat.div_add_mod (U1 * 2 ^ 32 + L % 2 ^ 32) Y
  have hr2 := Nat.mod_lt (U1 * 2 ^ 32 + L % 2 ^ 32) hYpos
  have hq2 : (U1 * 2 ^ 32 + L % 2 ^ 32) / Y < 2 ^ 32 := by
    rw [Nat.div_lt_iff_lt_mul hYpos]
    have : (U1 + 1) * 2 ^ 32 ≤ Y * 2 ^ 32 := Nat.mul_le_mul_right _ hr1
    rw [Nat.mul_comm (2 ^ 32) Y]
    omega
  have e22 : Wu64 (Wu64 (Wu64 ((U1 : Int) * 4294967296) + ((L % 2 ^ 32 : Nat) : Int)) - Wu64 ((((U1 * 2 ^ 32 + L % 2 ^ 32) / Y : Nat) : Int) * (Y : Int))) = (((U1 * 2 ^ 32 + L % 2 ^ 32) % Y : Nat) : Int) := by
    have a1 : Wu64 (Wu64 ((U1 : Int) * 4294967296) + ((L % 2 ^ 32 : Nat) : Int)) = Wu64 ((U1 * 2 ^ 32 + L % 2 ^ 32 : Nat) : Int) := by
      rw [show (U1 : Int) * 4294967296 = ((U1 * 2 ^ 32 : Nat) : Int) from by omega, Wu64_nat, ← Int.natCast_add, Wu64_nat, Wu64_nat]
      omega
    rw [a1, ← Int.natCast_mul]
    refine Wu64_diff ?_ (by omega)
    rw [Nat.mul_comm (_ / Y)]; exact hdm2.symm
  rw [e22]
  obtain ⟨U2, hU2⟩ : ∃ x, x = (U1 * 2 ^ 32 + L % 2 ^ 32) % Y := ⟨_, rfl⟩
  obtain ⟨Q2, hQ2⟩ : ∃ x, x = (U1 * 2 ^ 32 + L % 2 ^ 32) / Y := ⟨_, rfl⟩
  simp only [← hU2, ← hQ2] at hdm2 hr2 hq2 ⊢
  have hN : U * 2 ^ 64 + L = Y * (Q1 * 2 ^ 32 + Q2) + U2 := by
    have a2 : Y * (Q1 * 2 ^ 32 + Q2) = Y * Q1 * 2 ^ 32 + Y * Q2 := by rw [Nat.mul_add, Nat.mul_assoc]
    rw [a2]
    generalize Y * Q1 = p at *
    generalize Y * Q2 = q at *
    omega
  have eQ : (U * 2 ^ 64 + L) / Y = Q1 * 2 ^ 32 + Q2 := by
    rw [hN, Nat.mul_add_div hYpos, Nat.div_eq_of_lt hr2, Nat.add_zero]
  have eR : (U * 2 ^ 64 + L) % Y = U2 := by
    rw [hN, Nat.mul_add_mod, Nat.mod_eq_of_lt hr2]
  rw [eQ, eR]
  have w5 : Wu64 (Wu64 ((Q1 : Int) * 4294967296) + (Q2 : Int)) = ((Q1 * 2 ^ 32 + Q2 : Nat) : Int) := by
    rw [show (Q1 : Int) * 4294967296 = ((Q1 * 2 ^ 32 : Nat) : Int) from by omega, Wu64_lt (by omega), ← Int.natCast_add, Wu64_lt (by omega)]
  rw [w5, shr_nat U2 s (by omega)]

end Go.Proofs.Ytbnmnkofekcodaa.N

/- Quotients and roots of numbers of 128 bits: what they come to. Conditions: none. -/
namespace Go.Proofs.Ytbnmnkofekcodaa.N
set_option linter.unusedVariables false
set_option linter.unusedSimpArgs false
open Go Go.Ab

theorem Div_hl {R : Type} {k : Nat} (hk : 5000 ≤ k) {A b : Nat} (hA : A < 2 ^ 128) (hb : b < 2 ^ 64) (h0 : b ≠ 0) (K : Int → Int → Int → Option R) :
    wide_Div k (hi A) (lo A) (b : Int) K = K (hi (A / b)) (lo (A / b)) ((A % b : Nat) : Int) := by
  unfold wide_Div wide_DivT
  have c1 : ((b : Int) == 0) = false := by rw [beq_eq_false_iff_ne]; omega
  have c2 : ¬ ((b : Int) = 0) := by omega
  rw [c1]
  simp only [c2, decide_false, cond_false]
  have hb0 : 0 < b := by omega
  unfold hi lo
  simp only [tdiv_nat, tmod_nat]
  rw [Div64_nat hk (lo_lt A) hb (Nat.mod_lt _ hb0), Wu64_lt (Nat.lt_of_le_of_lt (Nat.div_le_self _ _) (hi_lt hA))]
  have hV := V_hl A
  unfold V at hV
  have hdm := Nat.div_add_mod (A / 2 ^ 64) b
  have e : A = b * (A / 2 ^ 64 / b * 2 ^ 64) + (A / 2 ^ 64 % b * 2 ^ 64 + A % 2 ^ 64) := by
    rw [← Nat.mul_assoc]
    conv => lhs; rw [← hV, ← hdm]
    rw [Nat.add_mul, Nat.add_assoc]
  have eq : A / b = A / 2 ^ 64 / b * 2 ^ 64 + (A / 2 ^ 64 % b * 2 ^ 64 + A % 2 ^ 64) / b := by
    conv => lhs; rw [e]
    rw [Nat.mul_add_div hb0]
  have er : A % b = (A / 2 ^ 64 % b * 2 ^ 64 + A % 2 ^ 64) % b := by
    conv => lhs; rw [e]
    rw [Nat.mul_add_mod]
  have hlt : (A / 2 ^ 64 % b * 2 ^ 64 + A % 2 ^ 64) / b < 2 ^ 64 := by
    rw [Nat.div_lt_iff_lt_mul hb0]
    have h1 : A / 2 ^ 64 % b < b := Nat.mod_lt _ hb0
    have h2 : (A / 2 ^ 64 % b + 1) * 2 ^ 64 ≤ b * 2 ^ 64 := Nat.mul_le_mul_right _ h1
    have h3 := lo_lt A
    rw [Nat.mul_comm (2 ^ 64) b]
    omega
  rw [eq, ← er]
  obtain ⟨q, hq⟩ : ∃ q, q = A / 2 ^ 64 / b := ⟨_, rfl⟩
  obtain ⟨r, hr⟩ : ∃ r, r = (A / 2 ^ 64 % b * 2 ^ 64 + A % 2 ^ 64) / b := ⟨_, rfl⟩
  rw [← hq, ← hr]
  rw [← hr] at hlt
  have e1 : (q * 2 ^ 64 + r) / 2 ^ 64 = q := by omega
  have e2 : (q * 2 ^ 64 + r) % 2 ^ 64 = r := by omega
  rw [e1, e2]

theorem half_step (A i : Nat) : A / 2 ^ i = 2 * (A / 2 ^ (i + 1)) + (A.testBit i).toNat := by
  have hd : A / 2 ^ (i + 1) = A / 2 ^ i / 2 := by rw [Nat.pow_succ, Nat.div_div_eq_div_mul]
  rw [hd, Nat.toNat_testBit]; omega

/-- One digit of a quotient. -/
theorem quot_step {P b t : Nat} (hb : 0 < b) : (2 * P + t) % b = (2 * (P % b) + t) % b ∧ (2 * P + t) / b = 2 * (P / b) + (2 * (P % b) + t) / b := by
  have hdm := Nat.div_add_mod P b
  have e : 2 * P + t = b * (2 * (P / b)) + (2 * (P % b) + t) := by
    have : b * (2 * (P / b)) = 2 * (b * (P / b)) := by rw [Nat.mul_left_comm]
    rw [this]; omega
  constructor
  · conv => lhs; rw [e]
    rw [Nat.mul_add_mod]
  · conv => lhs; rw [e]
    rw [Nat.mul_add_div hb]

theorem quot_bit {P b t : Nat} (hb : 0 < b) (ht : t ≤ 1) : (2 * (P % b) + t < b → (2 * P + t) % b = 2 * (P % b) + t ∧ (2 * P + t) / b % 2 = 0) ∧
    (b ≤ 2 * (P % b) + t → (2 * P + t) % b = 2 * (P % b) + t - b ∧ (2 * P + t) / b % 2 = 1) := by
  obtain ⟨h1, h2⟩ := quot_step (P := P) (t := t) hb
  have hm := Nat.mod_lt P hb
  constructor
  · intro h
    rw [h1, h2, Nat.mod_eq_of_lt h, Nat.div_eq_of_lt h]
    exact ⟨rfl, by omega⟩
  · intro h
    have : (2 * (P % b) + t) / b = 1 := Nat.div_eq_of_lt_le (by omega) (by omega)
    rw [h1, h2, this, Nat.mod_eq_sub_mod h, Nat.mod_eq_of_lt (by omega)]
    exact ⟨rfl, by omega⟩

theorem lo_or_one {X : Nat} (hX : X < 2 ^ 64) : bOr .u64 (lo (2 * X)) 1 = lo (2 * X + 1) := by
  unfold lo
  rw [show (1 : Int) = ((1 : Nat) : Int) from rfl, bOr_nat (lo_lt _) (by decide)]
  have : (2 * X % 2 ^ 64) ||| 1 = 2 * X % 2 ^ 64 + 1 := or_add (s := 1) (by omega) (by decide)
  rw [this]; congr 1; omega

theorem hi_or_one (X : Nat) : hi (2 * X + 1) = hi (2 * X) := by
  unfold hi; congr 1; omega

/-! ### Roots -/

def IsRoot (A r : Nat) : Prop := r * r ≤ A ∧ A < (r + 1) * (r + 1)

theorem sq_succ (r : Nat) : (r + 1) * (r + 1) = r * r + 2 * r + 1 := by
  rw [Nat.add_mul, Nat.mul_add]; omega

theorem IsRoot.unique {A r s : Nat} (h : IsRoot A r) (h' : IsRoot A s) : r = s := by
  refine Nat.le_antisymm ?_ ?_
  · refine Nat.le_of_not_lt fun hlt => ?_
    have := Nat.mul_le_mul (Nat.succ_le_of_lt hlt) (Nat.succ_le_of_lt hlt)
    have h1 := h.1; have h2 := h'.2
    exact absurd (Nat.lt_of_lt_of_le h2 this) (Nat.not_lt.2 h1)
  · refine Nat.le_of_not_lt fun hlt => ?_
    have := Nat.mul_le_mul (Nat.succ_le_of_lt hlt) (Nat.succ_le_of_lt hlt)
    have h1 := h'.1; have h2 := h.2
    exact absurd (Nat.lt_of_lt_of_le h2 this) (Nat.not_lt.2 h1)

theorem IsRoot.lt {A r n : Nat} (h : IsRoot A r) (hA : A < n * n) : r < n := by
  refine Nat.lt_of_not_le fun hle => ?_
  have := Nat.mul_le_mul hle hle
  have := h.1
  omega

theorem root_step {P r t : Nat} (h : IsRoot P r) (ht : t < 4) :
    (4 * r + 1 ≤ 4 * (P - r * r) + t → IsRoot (4 * P + t) (2 * r + 1) ∧ 4 * P + t - (2 * r + 1) * (2 * r + 1) = 4 * (P - r * r) + t - (4 * r + 1)) ∧
    (4 * (P - r * r) + t < 4 * r + 1 → IsRoot (4 * P + t) (2 * r) ∧ 4 * P + t - (2 * r) * (2 * r) = 4 * (P - r * r) + t) := by
  obtain ⟨h1, h2⟩ := h
  rw [sq_succ] at h2
  have e1 : (2 * r) * (2 * r) = 4 * (r * r) := by rw [Nat.mul_mul_mul_comm]
  have e2 : (2 * r + 1) * (2 * r + 1) = 4 * (r * r) + 4 * r + 1 := by rw [sq_succ, e1]; omega
  have e3 : (2 * r + 1 + 1) * (2 * r + 1 + 1) = 4 * (r * r) + 8 * r + 4 := by rw [sq_succ, e2]; omega
  unfold IsRoot
  rw [e1, e2, e3]
  generalize r * r = q at *
  refine ⟨fun h => ⟨⟨by omega, by omega⟩, by omega⟩, fun h => ⟨⟨by omega, by omega⟩, by omega⟩⟩

theorem quarter_step (A i : Nat) : A / 2 ^ i = 4 * (A / 2 ^ (i + 2)) + A / 2 ^ i % 4 := by
  have hd : A / 2 ^ (i + 2) = A / 2 ^ i / 4 := by rw [Nat.pow_add, Nat.div_div_eq_div_mul]
  rw [hd]; omega

theorem or_three {X t : Nat} (ht : t < 4) : bOr .u64 (lo (4 * X)) (t : Int) = lo (4 * X + t) := by
  unfold lo
  rw [bOr_nat (lo_lt _) (by omega)]
  have : (4 * X % 2 ^ 64) ||| t = 4 * X % 2 ^ 64 + t := or_add (s := 2) (by omega) ht
  rw [this]; congr 1; omega

theorem hi_three {X t : Nat} (ht : t < 4) : hi (4 * X + t) = hi (4 * X) := by
  unfold hi; congr 1; omega

end Go.Proofs.Ytbnmnkofekcodaa.N

/- Roots of numbers of 128 bits: what they come to. Conditions: none. -/
namespace Go.Proofs.Ytbnmnkofekcodaa.N
set_option linter.unusedVariables false
set_option linter.unusedSimpArgs false
open Go Go.Ab

theorem wf_nat {i : Nat} (h : i < 2 ^ 63) : (Lit.int .i64 (i : Int)).wf = true := by
  simp only [Lit.wf, Bool.and_eq_true, decide_eq_true_eq]
  have e1 : IntKind.i64.min = -9223372036854775808 := by decide
  have e2 : IntKind.i64.max = 9223372036854775807 := by decide
  rw [e1, e2]; omega

theorem and_three (X : Nat) : bAnd .u64 (lo X) 3 = ((X % 4 : Nat) : Int) := by
  unfold lo
  rw [show (3 : Int) = ((2 ^ 2 - 1 : Nat) : Int) from by decide, bAnd_nat (lo_lt _) (by decide), Nat.and_two_pow_sub_one_eq_mod]
  congr 1; omega

theorem hi_try {r : Nat} (hr : r < 2 ^ 63) : shr .u64 (r : Int) 62 = hi (4 * r + 1) := by
  rw [show (62 : Int) = ((62 : Nat) : Int) from rfl, shr_nat r 62 (by decide)]
  unfold hi; congr 1; omega

theorem lo_try {r : Nat} (hr : r < 2 ^ 63) : bOr .u64 (shl .u64 (r : Int) 2) 1 = lo (4 * r + 1) := by
  rw [show (2 : Int) = ((2 : Nat) : Int) from rfl, shl_nat r 2 (by decide), show (1 : Int) = ((1 : Nat) : Int) from rfl, bOr_nat (lo_lt _) (by decide)]
  have : (r * 2 ^ 2 % 2 ^ 64) ||| 1 = r * 2 ^ 2 % 2 ^ 64 + 1 := or_add (s := 1) (by omega) (by decide)
  rw [this]; unfold lo; congr 1; omega

theorem shl_one {r : Nat} (hr : r < 2 ^ 63) : shl .u64 (r : Int) 1 = ((2 * r : Nat) : Int) := by
  rw [show (1 : Int) = ((1 : Nat) : Int) from rfl, shl_nat r 1 (by decide)]
  congr 1; omega

theorem shl_one_or {r : Nat} (hr : r < 2 ^ 63) : bOr .u64 (shl .u64 (r : Int) 1) 1 = ((2 * r + 1 : Nat) : Int) := by
  rw [shl_one hr, show (1 : Int) = ((1 : Nat) : Int) from rfl, bOr_nat (by omega) (by decide)]
  have : (2 * r) ||| 1 = 2 * r + 1 := or_add (s := 1) (by omega) (by decide)
  rw [this]

theorem sqrt_body {R : Type} {k : Nat} (hk : 5000 ≤ k) {A r i : Nat} (hA : A < 2 ^ 128) (hi126 : i ≤ 126) (hr : IsRoot (A / 2 ^ (i + 2)) r) (hr63 : r < 2 ^ 63) {s : Nat} (hs : IsRoot (A / 2 ^ i) s) (J : Int → Int → Int → Option R) :
    (wide_Shr k (hi A) (lo A) (i : Int) (fun yr1 yr2 yr3 =>
    wide_Shl k (hi (A / 2 ^ (i + 2) - r * r)) (lo (A / 2 ^ (i + 2) - r * r)) 2 (fun yr4 yr5 =>
      wide_Compare k yr4 (bOr .u64 yr5 (bAnd .u64 yr2 3)) (shr .u64 (r : Int) 62) (bOr .u64 (shl .u64 (r : Int) 2) 1) (fun yr6 =>
        cond (decide (yr6 ≥ 0)) (
          wide_Sub k yr4 (bOr .u64 yr5 (bAnd .u64 yr2 3)) (shr .u64 (r : Int) 62) (bOr .u64 (shl .u64 (r : Int) 2) 1) (fun yr7 yr8 yr9 =>
            J (bOr .u64 (shl .u64 (r : Int) 1) 1) yr7 yr8)) (
          J (shl .u64 (r : Int) 1) yr4 (bOr .u64 yr5 (bAnd .u64 yr2 3))))))) =
    J (s : Int) (hi (A / 2 ^ i - s * s)) (lo (A / 2 ^ i - s * s)) := by
  have hL : A / 2 ^ (i + 2) - r * r ≤ 2 * r := by
    have := hr.2; rw [sq_succ] at this; omega
  have ht : A / 2 ^ i % 4 < 4 := Nat.mod_lt _ (by decide)
  obtain ⟨st1, st2⟩ := root_step hr ht
  rw [← quarter_step] at st1 st2
  obtain ⟨L, hLe⟩ : ∃ L, L = A / 2 ^ (i + 2) - r * r := ⟨_, rfl⟩
  obtain ⟨X, hX⟩ : ∃ X, X = A / 2 ^ i := ⟨_, rfl⟩
  rw [← hLe] at hL st1 st2 ⊢
  rw [← hX] at st1 st2 ht hs ⊢
  rw [Shr_hl k hA (wf_nat (by omega)), Int.toNat_natCast, ← hX, and_three, Shl_hl k (A := L) (by omega) (by decide)]
  have e4 : L * 2 ^ (2 : Int).toNat % 2 ^ 128 = 4 * L := by
    have : (2 : Int).toNat = 2 := rfl
    rw [this]; omega
  simp only [e4]
  rw [or_three ht, ← hi_three ht, hi_try hr63, lo_try hr63, Compare_hl hk]
  have b1 : 4 * L + X % 4 < 2 ^ 128 := by omega
  have b2 : 4 * r + 1 < 2 ^ 128 := by omega
  by_cases hc : 4 * r + 1 ≤ 4 * L + X % 4
  · have : sgn (4 * L + X % 4) (4 * r + 1) ≥ 0 := by unfold sgn; rw [if_neg (by omega)]; split <;> decide
    simp only [this, decide_true, cond_true]
    obtain ⟨a1, a2⟩ := st1 hc
    have := hs.unique a1
    subst this
    rw [Sub_hl k b1 b2, shl_one_or hr63, a2]
    have : (4 * L + X % 4 + 2 ^ 128 - (4 * r + 1)) % 2 ^ 128 = 4 * L + X % 4 - (4 * r + 1) := by omega
    rw [this]
  · have : ¬ (sgn (4 * L + X % 4) (4 * r + 1) ≥ 0) := by unfold sgn; rw [if_pos (by omega)]; decide
    simp only [this, decide_false, cond_false]
    obtain ⟨a1, a2⟩ := st2 (by omega)
    have := hs.unique a1
    subst this
    rw [shl_one hr63, a2]

theorem root_exists : ∀ A : Nat, ∃ r, IsRoot A r
  | 0 => ⟨0, by decide, by decide⟩
  | A + 1 => by
    obtain ⟨r, h1, h2⟩ := root_exists A
    by_cases h : (r + 1) * (r + 1) ≤ A + 1
    · refine ⟨r + 1, h, ?_⟩
      rw [sq_succ (r + 1)]
      omega
    · exact ⟨r, by omega, by omega⟩

theorem root_up {A i r : Nat} (hA : A < 2 ^ 128) (hi126 : i ≤ 126) (hi : i % 2 = 0) (hr : IsRoot (A / 2 ^ (i + 2)) r) : r < 2 ^ 63 := by
  refine hr.lt ?_
  rw [Nat.div_lt_iff_lt_mul (Nat.two_pow_pos _)]
  refine Nat.lt_of_lt_of_le hA ?_
  have : (2 ^ 63 * 2 ^ 63 : Nat) = 2 ^ 126 := by decide
  rw [this, ← Nat.pow_add]
  exact Nat.pow_le_pow_right (by decide) (by omega)

theorem Sqrt_loop {R : Type} {k : Nat} (hk : 5000 ≤ k) {A s : Nat} (hA : A < 2 ^ 128) (hs : IsRoot A s) (a b : Int) (K : Int → Int → Int → Option R) : ∀ (m n r : Nat), m ≤ 62 → m < n → IsRoot (A / 2 ^ (2 * m + 2)) r →
    wide_Sqrt_l0 k n (r : Int) ((2 * m : Nat) : Int) (hi A) (lo A) a b (hi (A / 2 ^ (2 * m + 2) - r * r)) (lo (A / 2 ^ (2 * m + 2) - r * r)) K = K (s : Int) (hi (A - s * s)) (lo (A - s * s))
  | m, 0, r, h1, h2, _ => by omega
  | m, n + 1, r, h1, h2, hr => by
    rw [wide_Sqrt_l0, wide_Sqrt_l0B]
    obtain ⟨r', hr'⟩ := root_exists (A / 2 ^ (2 * m))
    refine (sqrt_body hk hA (by omega) hr (root_up hA (by omega) (by omega) hr) hr' (fun a1 b1 c1 => cond (decide ((Wi64 (((2 * m : Nat) : Int) - 2)) ≥ 0))
      (wide_Sqrt_l0 k n a1 (Wi64 (((2 * m : Nat) : Int) - 2)) (hi A) (lo A) a b b1 c1 K) (K a1 b1 c1))).trans ?_
    match m, h1, h2, hr, hr' with
    | 0, h1, h2, hr, hr' =>
      have : ¬ (Wi64 (((2 * 0 : Nat) : Int) - 2) ≥ 0) := by decide
      simp only [this, decide_false, cond_false]
      rw [show A / 2 ^ (2 * 0) = A by simp] at hr' ⊢
      rw [hr'.unique hs]
    | m + 1, h1, h2, hr, hr' =>
      have e : Wi64 (((2 * (m + 1) : Nat) : Int) - 2) = ((2 * m : Nat) : Int) := by rw [wrap_i64 (by omega) (by omega)]; omega
      have : (((2 * m : Nat) : Int) ≥ 0) := by omega
      simp only [e, this, decide_true, cond_true]
      exact Sqrt_loop hk hA hs a b K m n r' (by omega) (by omega) hr'

theorem Sqrt_hl {R : Type} {k : Nat} (hk : 5000 ≤ k) {A s : Nat} (hA : A < 2 ^ 128) (hs : IsRoot A s) (K : Int → Int → Int → Option R) :
    wide_Sqrt k (hi A) (lo A) K = K (s : Int) (hi (A - s * s)) (lo (A - s * s)) := by
  unfold wide_Sqrt wide_SqrtT
  have h0 : A / 2 ^ (126 + 2) = 0 := Nat.div_eq_of_lt hA
  have hr0 : IsRoot (A / 2 ^ (126 + 2)) 0 := by rw [h0]; exact ⟨by decide, by decide⟩
  obtain ⟨r', hr'⟩ := root_exists (A / 2 ^ 126)
  have h := sqrt_body (R := R) (i := 126) hk hA (by decide) hr0 (by decide) hr' (fun a1 b1 c1 => wide_Sqrt_l0 k k a1 124 (hi A) (lo A) 0 0 b1 c1 K)
  rw [h0] at h
  have z1 : hi (0 - 0 * 0) = 0 := by decide
  have z2 : lo (0 - 0 * 0) = 0 := by decide
  have z3 : shr .u64 ((0 : Nat) : Int) 62 = 0 := by decide
  have z4 : bOr .u64 (shl .u64 ((0 : Nat) : Int) 2) 1 = 1 := by decide
  have z5 : bOr .u64 (shl .u64 ((0 : Nat) : Int) 1) 1 = 1 := by decide
  have z6 : shl .u64 ((0 : Nat) : Int) 1 = 0 := by decide
  rw [z1, z2, z3, z4, z5, z6] at h
  refine h.trans ?_
  exact Sqrt_loop hk hA hs 0 0 K 62 k r' (by decide) (by omega) hr'

/-! ### By the reference -/

theorem or_bit {r i : Nat} (hr : r % 2 ^ (i + 1) = 0) (hrl : r < 2 ^ 64) (hi64 : i < 64) : bOr .u64 (r : Int) (shl .u64 1 (i : Int)) = ((r + 2 ^ i : Nat) : Int) := by
  have hp : 2 ^ i < 2 ^ 64 := Nat.pow_lt_pow_right (by decide) hi64
  rw [show (1 : Int) = ((1 : Nat) : Int) from rfl, shl_nat 1 i (by omega), Nat.one_mul, Nat.mod_eq_of_lt hp, bOr_nat hrl hp]
  rw [or_add (s := i + 1) hr (by rw [Nat.pow_succ]; have := Nat.two_pow_pos i; omega)]

theorem lt_of_mul {r i n : Nat} (hr : r % 2 ^ i = 0) (hlt : r < 2 ^ n) (hi : i ≤ n) : r + 2 ^ i ≤ 2 ^ n := by
  have h1 : r = 2 ^ i * (r / 2 ^ i) := by have := Nat.div_add_mod r (2 ^ i); omega
  have h2 : 2 ^ n = 2 ^ i * 2 ^ (n - i) := by rw [← Nat.pow_add]; congr 1; omega
  have h3 : r / 2 ^ i < 2 ^ (n - i) := by rw [Nat.div_lt_iff_lt_mul (Nat.two_pow_pos i), Nat.mul_comm, ← h2]; exact hlt
  have := Nat.mul_le_mul_left (2 ^ i) h3
  rw [← h2, Nat.succ_eq_add_one, Nat.mul_add, Nat.mul_one, ← h1] at this
  exact this

theorem refSqrt_loop {R : Type} {k : Nat} (hk : 5000 ≤ k) {A s : Nat} (hA : A < 2 ^ 128) (hs : IsRoot A s) (a b : Int) (K : Int → Option R) : ∀ (i n r : Nat), i ≤ 64 → i < n → r % 2 ^ i = 0 → r < 2 ^ 64 → r * r ≤ A → A < (r + 2 ^ i) * (r + 2 ^ i) →
    plumblineref01_Sqrt_l0 k n (r : Int) ((i : Int) - 1) (hi A) (lo A) a b K = K (s : Int)
  | i, 0, r, h1, h2, _, _, _, _ => by omega
  | 0, n + 1, r, h1, h2, h3, h4, h5, h6 => by
    rw [plumblineref01_Sqrt_l0, plumblineref01_Sqrt_l0B]
    have e0 : ¬ ((((0 : Nat) : Int) - 1) ≥ 0) := by decide
    simp only [e0, decide_false, cond_false]
    have : IsRoot A r := ⟨h5, h6⟩
    rw [this.unique hs]
  | i + 1, n + 1, r, h1, h2, h3, h4, h5, h6 => by
    rw [plumblineref01_Sqrt_l0, plumblineref01_Sqrt_l0B]
    have e : (((i + 1 : Nat) : Int) - 1) = (i : Int) := by omega
    have e0 : ((i : Int) ≥ 0) := by omega
    have e1 : ¬ ((i : Int) < 0) := by omega
    have e8 : Wi64 ((i : Int) - 1) = ((i : Int) - 1) := wrap_i64 (by omega) (by omega)
    have hp : 2 ^ (i + 1) = 2 ^ i + 2 ^ i := by rw [Nat.pow_succ]; omega
    have hx : r + 2 ^ i < 2 ^ 64 := by
      have := lt_of_mul h3 h4 h1
      have := Nat.two_pow_pos i
      omega
    have h3' : r % 2 ^ i = 0 := by
      have hd : 2 ^ i ∣ 2 ^ (i + 1) := ⟨2, by rw [Nat.pow_succ]⟩
      exact Nat.mod_eq_zero_of_dvd (Nat.dvd_trans hd (Nat.dvd_of_mod_eq_zero h3))
    rw [e, e8]
    simp only [e0, e1, decide_true, decide_false, cond_true, cond_false]
    rw [or_bit h3 h4 (by omega), refMul_hl hk hx hx]
    have hsq : (r + 2 ^ i) * (r + 2 ^ i) < 2 ^ 128 := by
      have := Nat.mul_lt_mul'' hx hx
      rw [← Nat.pow_add] at this
      exact this
    rw [refCompare_hl hk hsq hA]
    by_cases hc : (r + 2 ^ i) * (r + 2 ^ i) ≤ A
    · have : sgn ((r + 2 ^ i) * (r + 2 ^ i)) A ≤ 0 := by unfold sgn; split; decide; rw [if_neg (by omega)]; decide
      simp only [this, decide_true, cond_true]
      refine refSqrt_loop hk hA hs a b K i n (r + 2 ^ i) (by omega) (by omega) ?_ hx hc ?_
      · rw [Nat.add_mod, h3', Nat.mod_self]; rfl
      · rw [hp, ← Nat.add_assoc] at h6; exact h6
    · have : ¬ sgn ((r + 2 ^ i) * (r + 2 ^ i)) A ≤ 0 := by unfold sgn; rw [if_neg (by omega), if_pos (by omega)]; decide
      simp only [this, decide_false, cond_false]
      exact refSqrt_loop hk hA hs a b K i n r (by omega) (by omega) h3' h4 h5 (by omega)

theorem refSqrt_hl {R : Type} {k : Nat} (hk : 5000 ≤ k) {A s : Nat} (hA : A < 2 ^ 128) (hs : IsRoot A s) (K : Int → Int → Int → Option R) :
    plumblineref01_Sqrt k (hi A) (lo A) K = K (s : Int) (hi (A - s * s)) (lo (A - s * s)) := by
  unfold plumblineref01_Sqrt plumblineref01_SqrtT
  have h := refSqrt_loop hk hA hs 0 0 (fun r1 =>
    plumblineref01_Mul k r1 r1 (fun r2 r3 =>
      plumblineref01_Sub k (hi A) (lo A) r2 r3 (fun r4 r5 r6 =>
        K r1 r4 r5))) 64 k 0 (by decide) (by omega) (by decide) (by decide) (by omega) (by rw [Nat.zero_add, ← Nat.pow_add]; exact hA)
  refine h.trans ?_
  have hs64 : s < 2 ^ 64 := hs.lt (by rw [← Nat.pow_add]; exact hA)
  have hsq : s * s < 2 ^ 128 := Nat.lt_of_le_of_lt hs.1 hA
  rw [refMul_hl hk hs64 hs64, refSub_hl hk hA hsq]
  have : (A + 2 ^ 128 - s * s) % 2 ^ 128 = A - s * s := by
    have := hs.1
    generalize s * s = q at *
    omega
  rw [this]

end Go.Proofs.Ytbnmnkofekcodaa.N

/- Floats as numbers: formats, rounding of a whole number times a power of 2: definitions and first laws. Conditions: none. -/
namespace Go.Proofs.Ytbnmnkofekcodaa.N
set_option linter.unusedVariables false
set_option linter.unusedSimpArgs false
open Go Go.Ab

/-! ### Formats: bits of the fraction, of the exponent, the least power -/
def fP (f : Int) : Nat := if f = 1 then 23 else 52
def fE (f : Int) : Nat := if f = 1 then 8 else 11
def fL (f : Int) : Int := if f = 1 then -149 else -1074
def fB (f : Int) : Nat := 2 ^ (fP f + fE f)
def fI (f : Int) : Nat := (2 ^ fE f - 1) * 2 ^ fP f
def sg (f : Int) (b : Bool) : Nat := if b then fB f else 0

theorem fmt (f : Int) : (f = 1 ∧ fP f = 23 ∧ fE f = 8 ∧ fL f = -149) ∨ (f ≠ 1 ∧ fP f = 52 ∧ fE f = 11 ∧ fL f = -1074) := by
  by_cases h : f = 1
  · subst h; exact .inl ⟨rfl, rfl, rfl, rfl⟩
  · refine .inr ⟨h, ?_, ?_, ?_⟩ <;> simp [fP, fE, fL, h]

theorem fmt_le (f : Int) : 23 ≤ fP f ∧ fP f ≤ 52 ∧ 8 ≤ fE f ∧ fE f ≤ 11 ∧ fP f + fE f ≤ 63 ∧ -1074 ≤ fL f ∧ fL f ≤ -149 := by
  rcases fmt f with ⟨_, h1, h2, h3⟩ | ⟨_, h1, h2, h3⟩ <;> rw [h1, h2, h3] <;> decide

theorem fI_lt (f : Int) : fI f + 2 ^ fP f = fB f := by
  unfold fI fB
  have h1 : 2 ^ (fP f + fE f) = 2 ^ fE f * 2 ^ fP f := by rw [Nat.add_comm, Nat.pow_add]
  have h2 : 0 < 2 ^ fE f := Nat.two_pow_pos _
  rw [h1, Nat.sub_mul, Nat.one_mul]
  have : 1 * 2 ^ fP f ≤ 2 ^ fE f * 2 ^ fP f := Nat.mul_le_mul_right _ h2
  omega

theorem fB_le (f : Int) : fB f ≤ 2 ^ 63 := Nat.pow_le_pow_right (by decide) (fmt_le f).2.2.2.2.1
theorem sg_le (f : Int) (b : Bool) : sg f b ≤ fB f := by unfold sg; split <;> omega
theorem fP_pos (f : Int) : 0 < 2 ^ fP f := Nat.two_pow_pos _
theorem fI_pos (f : Int) : 2 ^ fP f < fI f := by
  rcases fmt f with ⟨_, h1, h2, h3⟩ | ⟨_, h1, h2, h3⟩ <;> unfold fI <;> rw [h1, h2] <;> decide

/-! ### Digits of a number at a place d above its lowest one -/
def qd (N : Nat) (d : Int) : Nat := if 0 < d then N / 2 ^ d.toNat else N * 2 ^ (-d).toNat
def hd (N : Nat) (d : Int) : Bool := decide (0 < d) && N.testBit (d.toNat - 1)
def rs (N : Nat) (d : Int) : Bool := decide (0 < d) && decide (N % 2 ^ (d.toNat - 1) ≠ 0)

/-- Whether a number goes on to the next one, away from 0. -/
def more (m : Int) (below odd half rest : Bool) : Bool :=
  if m = 1 then !below && (half || rest) else if m = 2 then below && (half || rest) else if m = 3 then false else half && (rest || odd)

def lastOf (f : Int) (N : Nat) (e : Int) : Int := max (e + (bl N : Nat) - 1 - (fP f : Nat)) (fL f)

/-- What is put together: the place, the number of places, what is below. -/
def gOf (f m : Int) (below : Bool) (last : Int) (q : Nat) (half rest : Bool) : Nat := (last - fL f).toNat * 2 ^ fP f + q + (more m below (q % 2 == 1) half rest).toNat
/-- Too great ones. -/
def clip (f m : Int) (below : Bool) (g : Nat) : Nat := if g < fI f then g else if more m below true true true then fI f else fI f - 1
def enc (f m : Int) (below : Bool) (last : Int) (q : Nat) (half rest : Bool) : Nat := sg f below + clip f m below (gOf f m below last q half rest)

/-- N times 2 to the e, and a little more, if so, rounded. -/
def Rd (f m : Int) (below : Bool) (N : Nat) (e : Int) (rest : Bool) : Nat :=
  if N = 0 ∧ rest = false then sg f below else enc f m below (lastOf f N e) (qd N (lastOf f N e - e)) (hd N (lastOf f N e - e)) (rest || rs N (lastOf f N e - e))

theorem bl_pos {N : Nat} (h : 0 < N) : 0 < bl N := by unfold bl; rw [if_neg (by omega)]; omega
theorem bl_low {N : Nat} (h : 0 < N) : 2 ^ (bl N - 1) ≤ N := by
  refine Nat.le_of_not_lt fun hh => ?_
  have := bl_le_iff.2 hh
  have := bl_pos h
  omega
theorem bl_up (N : Nat) : N < 2 ^ bl N := bl_le_iff.1 (Nat.le_refl _)
theorem bl_mul {N : Nat} (h : 0 < N) (j : Nat) : bl (N * 2 ^ j) = bl N + j := by
  have h1 := bl_low h
  have h2 := bl_up N
  have h3 := bl_pos h
  have : bl (N * 2 ^ j) = (bl N + j - 1) + 1 := by
    refine bl_eq ?_ ?_
    · have : bl N + j - 1 = (bl N - 1) + j := by omega
      rw [this, Nat.pow_add]; exact Nat.mul_le_mul_right _ h1
    · have : bl N + j - 1 + 1 = bl N + j := by omega
      rw [this, Nat.pow_add]; exact Nat.mul_lt_mul_of_pos_right h2 (Nat.two_pow_pos _)
  omega
theorem bl_mul_add {N : Nat} (h : 0 < N) (j t : Nat) (ht : t < 2 ^ j) : bl (N * 2 ^ j + t) = bl N + j := by
  have h1 := bl_low h
  have h2 := bl_up N
  have h3 := bl_pos h
  have : bl (N * 2 ^ j + t) = (bl N + j - 1) + 1 := by
    refine bl_eq ?_ ?_
    · have : bl N + j - 1 = (bl N - 1) + j := by omega
      rw [this, Nat.pow_add]; exact Nat.le_trans (Nat.mul_le_mul_right _ h1) (Nat.le_add_right _ _)
    · have : bl N + j - 1 + 1 = bl N + j := by omega
      rw [this, Nat.pow_add]
      have := Nat.mul_le_mul_right (2 ^ j) (Nat.succ_le_of_lt h2)
      rw [Nat.succ_eq_add_one, Nat.add_mul, Nat.one_mul] at this
      omega
  rw [this]; omega

/-- The number of places is one more than the fraction has bits, at most; just that, if the place is not the least one. -/
theorem qd_lt {f : Int} {N : Nat} {e : Int} (h : 0 < N) : qd N (lastOf f N e - e) < 2 ^ (fP f + 1) := by
  have h2 := bl_up N
  have h3 := bl_pos h
  unfold qd
  have hl : e + (bl N : Nat) - 1 - (fP f : Nat) ≤ lastOf f N e := Int.le_max_left _ _
  generalize lastOf f N e = last at *
  split
  · rename_i hd
    rw [Nat.div_lt_iff_lt_mul (Nat.two_pow_pos _), ← Nat.pow_add]
    exact Nat.lt_of_lt_of_le h2 (Nat.pow_le_pow_right (by decide) (by omega))
  · rename_i hd
    refine Nat.lt_of_lt_of_le (Nat.mul_lt_mul_of_pos_right h2 (Nat.two_pow_pos _)) ?_
    rw [← Nat.pow_add]
    exact Nat.pow_le_pow_right (by decide) (by omega)

theorem qd_ge {f : Int} {N : Nat} {e : Int} (h : 0 < N) (hl : lastOf f N e ≠ fL f) : 2 ^ fP f ≤ qd N (lastOf f N e - e) := by
  have h2 := bl_low h
  have h3 := bl_pos h
  unfold qd
  have hl : lastOf f N e = e + (bl N : Nat) - 1 - (fP f : Nat) := by unfold lastOf at hl ⊢; omega
  rw [hl]
  split
  · rename_i hd
    rw [Nat.le_div_iff_mul_le (Nat.two_pow_pos _), ← Nat.pow_add]
    refine Nat.le_trans (Nat.pow_le_pow_right (by decide) ?_) h2
    omega
  · rename_i hd
    refine Nat.le_trans ?_ (Nat.mul_le_mul_right _ h2)
    rw [← Nat.pow_add]
    exact Nat.pow_le_pow_right (by decide) (by omega)

/-! ### The same number, told otherwise -/

theorem pow_split {a b : Nat} (h : a ≤ b) : 2 ^ b = 2 ^ a * 2 ^ (b - a) := by rw [← Nat.pow_add]; congr 1; omega

theorem qd_scale (N : Nat) (d : Int) (j : Nat) : qd (N * 2 ^ j) (d + j) = qd N d := by
  unfold qd
  by_cases h : 0 < d
  · have h1 : 0 < d + (j : Int) := by omega
    rw [if_pos h, if_pos h1]
    have : (d + (j : Int)).toNat = d.toNat + j := by omega
    rw [this, Nat.pow_add, Nat.mul_div_mul_right _ _ (Nat.two_pow_pos j)]
  · rw [if_neg h]
    by_cases h1 : 0 < d + (j : Int)
    · rw [if_pos h1]
      have e1 : j = (d + (j : Int)).toNat + (-d).toNat := by omega
      conv => lhs; rw [show 2 ^ j = 2 ^ ((d + (j : Int)).toNat + (-d).toNat) from by rw [← e1]]
      rw [Nat.pow_add, Nat.mul_comm (2 ^ (d + (j : Int)).toNat), ← Nat.mul_assoc, Nat.mul_div_cancel _ (Nat.two_pow_pos _)]
    · rw [if_neg h1, Nat.mul_assoc, ← Nat.pow_add]
      congr 2; omega

theorem hd_scale (N : Nat) (d : Int) (j : Nat) : hd (N * 2 ^ j) (d + j) = hd N d := by
  unfold hd
  by_cases h : 0 < d
  · have h1 : 0 < d + (j : Int) := by omega
    have e1 : (d + (j : Int)).toNat - 1 = (d.toNat - 1) + j := by omega
    rw [e1, Nat.testBit_mul_two_pow]
    simp [h, h1]
  · by_cases h1 : 0 < d + (j : Int)
    · have : ¬ j ≤ (d + (j : Int)).toNat - 1 := by omega
      rw [Nat.testBit_mul_two_pow]
      simp [h, this]
    · simp [h, h1]

theorem rs_scale (N : Nat) (d : Int) (j : Nat) : rs (N * 2 ^ j) (d + j) = rs N d := by
  unfold rs
  by_cases h : 0 < d
  · have h1 : 0 < d + (j : Int) := by omega
    have e1 : (d + (j : Int)).toNat - 1 = (d.toNat - 1) + j := by omega
    rw [e1, Nat.pow_add, Nat.mul_mod_mul_right]
    have : (N % 2 ^ (d.toNat - 1) * 2 ^ j ≠ 0) ↔ (N % 2 ^ (d.toNat - 1) ≠ 0) := by
      have := Nat.two_pow_pos j
      constructor
      · intro hh h2; exact hh (by rw [h2, Nat.zero_mul])
      · intro hh h2
        rcases Nat.mul_eq_zero.1 h2 with h3 | h3
        · exact hh h3
        · omega
    simp only [h, h1, decide_true, Bool.true_and, this]
  · by_cases h1 : 0 < d + (j : Int)
    · have hle : (d + (j : Int)).toNat - 1 ≤ j := by omega
      have : N * 2 ^ j % 2 ^ ((d + (j : Int)).toNat - 1) = 0 := by
        rw [pow_split hle, Nat.mul_left_comm]
        exact Nat.mul_mod_right _ _
      simp [h, this]
    · simp [h, h1]

theorem lastOf_scale (f : Int) {N : Nat} (h : 0 < N) (e : Int) (j : Nat) : lastOf f (N * 2 ^ j) (e - j) = lastOf f N e := by
  unfold lastOf
  rw [bl_mul h]
  congr 1
  omega

theorem Rd_scale (f m : Int) (below : Bool) (N : Nat) (e : Int) (j : Nat) : Rd f m below (N * 2 ^ j) (e - j) false = Rd f m below N e false := by
  by_cases h : N = 0
  · subst h; simp [Rd]
  · have hp : 0 < N := by omega
    have hn : N * 2 ^ j ≠ 0 := by
      have := Nat.mul_pos hp (Nat.two_pow_pos j); omega
    unfold Rd
    simp only [h, hn, false_and, if_false]
    rw [lastOf_scale f hp]
    have e1 : lastOf f N e - (e - (j : Int)) = (lastOf f N e - e) + (j : Int) := by omega
    rw [e1, qd_scale, hd_scale, rs_scale]

/-- A little more is a bit below. -/
theorem Rd_stick (f m : Int) (below : Bool) {N : Nat} (e : Int) {j t : Nat} (hb : fP f + 2 ≤ bl N) (h0 : 0 < t) (ht : t < 2 ^ j) : Rd f m below (N * 2 ^ j + t) (e - j) false = Rd f m below N e true := by
  have hp : 0 < N := by
    refine Nat.pos_of_ne_zero fun h => ?_
    subst h
    rw [show bl 0 = 0 from rfl] at hb; omega
  have hn : N * 2 ^ j + t ≠ 0 := by omega
  have hlast : lastOf f (N * 2 ^ j + t) (e - j) = lastOf f N e := by
    unfold lastOf
    rw [bl_mul_add hp j t ht]
    congr 1
    omega
  unfold Rd
  simp only [hn, false_and, if_false, and_false, Bool.true_eq_false]
  rw [hlast]
  have hl : e + (bl N : Nat) - 1 - (fP f : Nat) ≤ lastOf f N e := Int.le_max_left _ _
  generalize lastOf f N e = last at *
  have d0 : 0 < last - e := by omega
  have d2 : 0 < last - (e - (j : Int)) := by omega
  have e1 : (last - (e - (j : Int))).toNat = (last - e).toNat + j := by omega
  have q1 : qd (N * 2 ^ j + t) (last - (e - j)) = qd N (last - e) := by
    unfold qd
    rw [if_pos d0, if_pos d2, e1, Nat.pow_add, Nat.mul_comm (2 ^ (last - e).toNat), ← Nat.div_div_eq_div_mul]
    congr 1
    rw [Nat.mul_comm, Nat.mul_add_div (Nat.two_pow_pos _), Nat.div_eq_of_lt ht, Nat.add_zero]
  have h1 : hd (N * 2 ^ j + t) (last - (e - j)) = hd N (last - e) := by
    unfold hd
    rw [e1]
    have : (last - e).toNat + j - 1 = ((last - e).toNat - 1) + j := by omega
    rw [this, Nat.mul_comm, Nat.testBit_two_pow_mul_add _ ht, if_neg (by omega), Nat.add_sub_cancel]
    simp only [d0, d2, decide_true]
  have r1 : rs (N * 2 ^ j + t) (last - (e - j)) = true := by
    unfold rs
    rw [e1]
    have : (last - e).toNat + j - 1 = j + ((last - e).toNat - 1) := by omega
    rw [this, Nat.pow_add, Nat.mod_mul, Nat.mul_comm N, Nat.mul_add_mod, Nat.mod_eq_of_lt ht]
    simp only [d2, decide_true, Bool.true_and, decide_eq_true_eq]
    omega
  rw [q1, h1, r1]
  rfl

end Go.Proofs.Ytbnmnkofekcodaa.N

/- What package soft's inner functions come to: shapes, rounding. Conditions: none. -/
namespace Go.Proofs.Ytbnmnkofekcodaa.N
set_option linter.unusedVariables false
set_option linter.unusedSimpArgs false
open Go Go.Ab

theorem shapeOf_k {R : Type} (k : Nat) (f : Int) (K : Int → Int → Int → Option R) : soft_shapeOf k f K = K ((fP f : Nat) : Int) ((fE f : Nat) : Int) (fL f) := by
  unfold soft_shapeOf soft_shapeOfT fP fE fL
  by_cases h : f = 1
  · subst h; rfl
  · have : (f == 1) = false := by rw [beq_eq_false_iff_ne]; exact h
    rw [this]; simp [h]

theorem shl_pow {x n : Nat} (hn : n ≤ 63) (h : x * 2 ^ n < 2 ^ 64) : shl .u64 (x : Int) (n : Int) = ((x * 2 ^ n : Nat) : Int) := by
  rw [shl_nat x n (by omega), Nat.mod_eq_of_lt h]
theorem shl_1 {n : Nat} (hn : n ≤ 63) : shl .u64 1 (n : Int) = ((2 ^ n : Nat) : Int) := by
  have := shl_pow (x := 1) hn (by rw [Nat.one_mul]; exact Nat.pow_lt_pow_right (by decide) (by omega))
  rw [Nat.one_mul] at this
  exact this
theorem Wu64_pred {n : Nat} (h : 0 < n) (h2 : n ≤ 2 ^ 64) : Wu64 ((n : Int) - 1) = ((n - 1 : Nat) : Int) := by
  rw [show (1 : Int) = ((1 : Nat) : Int) from rfl, Wu64_sub (by omega), Nat.mod_eq_of_lt (by omega)]

theorem full_k {R : Type} (k : Nat) (f p L : Int) (K : Int → Option R) : soft_shape_full k p ((fE f : Nat) : Int) L K = K ((2 ^ fE f - 1 : Nat) : Int) := by
  unfold soft_shape_full soft_shape_fullT
  have := fmt_le f
  have c : ¬ (((fE f : Nat) : Int) < 0) := by omega
  have hp : 2 ^ fE f < 2 ^ 64 := Nat.pow_lt_pow_right (by decide) (by omega)
  rw [shl_1 (by omega), Wu64_pred (Nat.two_pow_pos _) (by omega)]
  simp only [c, decide_false, cond_false]

theorem sign_k {R : Type} (k : Nat) (f L : Int) (b : Bool) (K : Int → Option R) : soft_shape_sign k ((fP f : Nat) : Int) ((fE f : Nat) : Int) L b K = K ((sg f b : Nat) : Int) := by
  unfold soft_shape_sign soft_shape_signT sg fB
  have := fmt_le f
  have e : Wi64 (((fP f : Nat) : Int) + ((fE f : Nat) : Int)) = ((fP f + fE f : Nat) : Int) := by rw [wrap_i64 (by omega) (by omega)]; omega
  have c : ¬ (((fP f + fE f : Nat) : Int) < 0) := by omega
  rw [e, shl_1 (by omega)]
  cases b
  · simp
  · simp only [cond_true, c, decide_false, cond_false, if_true]

theorem or_add2 {a b s : Nat} (ha : a % 2 ^ s = 0) (hb : b < 2 ^ s) (h : a + b < 2 ^ 64) : bOr .u64 (a : Int) (b : Int) = ((a + b : Nat) : Int) := by
  rw [bOr_nat (by omega) (by omega), or_add ha hb]

theorem sg_mod (f : Int) (b : Bool) : sg f b % 2 ^ (fP f + fE f) = 0 := by unfold sg fB; cases b <;> simp

theorem fI_lt2 (f : Int) : fI f < 2 ^ (fP f + fE f) := by
  have := fI_lt f; have := fP_pos f; unfold fB at *; omega

theorem inf_k {R : Type} (k : Nat) (f L : Int) (b : Bool) (K : Int → Option R) : soft_shape_inf k ((fP f : Nat) : Int) ((fE f : Nat) : Int) L b K = K ((sg f b + fI f : Nat) : Int) := by
  unfold soft_shape_inf soft_shape_infT
  have := fmt_le f
  have c : ¬ (((fP f : Nat) : Int) < 0) := by omega
  have h1 := fI_lt f; have h2 := fB_le f; have h3 := sg_le f b; have h4 := fP_pos f
  rw [sign_k, full_k, shl_pow (by omega) (by unfold fI at h1; omega)]
  simp only [c, decide_false, cond_false]
  have h5 := fI_lt2 f
  show K (bOr .u64 _ ((fI f : Nat) : Int)) = _
  have h6 : fI f < 2 ^ 63 := by omega
  have h7 : sg f b ≤ 2 ^ 63 := by omega
  rw [or_add2 (sg_mod f b) h5 (by omega)]

theorem most_k {R : Type} (k : Nat) (f L : Int) (b : Bool) (K : Int → Option R) : soft_shape_most k ((fP f : Nat) : Int) ((fE f : Nat) : Int) L b K = K ((sg f b + (fI f - 1) : Nat) : Int) := by
  unfold soft_shape_most soft_shape_mostT
  have h1 := fI_lt f; have h2 := fB_le f; have h3 := sg_le f b; have h4 := fI_pos f; have h5 := fP_pos f
  have h6 : fI f ≤ 2 ^ 63 := by omega
  have h7 : sg f b ≤ 2 ^ 63 := by omega
  rw [inf_k, Wu64_pred (by omega) (by omega)]
  congr 2 <;> omega

theorem nan_k {R : Type} (k : Nat) (f L : Int) (K : Int → Option R) : soft_shape_nan k ((fP f : Nat) : Int) ((fE f : Nat) : Int) L K = K ((fI f + 2 ^ (fP f - 1) : Nat) : Int) := by
  unfold soft_shape_nan soft_shape_nanT
  have := fmt_le f
  have c : ¬ (((fP f : Nat) : Int) < 0) := by omega
  have e : Wi64 (((fP f : Nat) : Int) - 1) = ((fP f - 1 : Nat) : Int) := by rw [wrap_i64 (by omega) (by omega)]; omega
  have c2 : ¬ (((fP f - 1 : Nat) : Int) < 0) := by omega
  have h1 := fI_lt f; have h2 := fB_le f; have h4 := fP_pos f
  have h5 : 2 ^ (fP f - 1) < 2 ^ fP f := Nat.pow_lt_pow_right (by decide) (by omega)
  rw [full_k, shl_pow (by omega) (by unfold fI at h1; omega), e, shl_1 (by omega)]
  simp only [c, c2, decide_false, cond_false]
  rw [or_add2 (s := fP f) (Nat.mul_mod_left _ _) h5 (by unfold fI at h1; omega)]
  rfl

/-! ### Rounding: the last step -/

/-- A float put together. -/
theorem pack_k {f : Int} {b : Bool} {x y : Nat} (hx : x < 2 ^ fE f - 1) (hy : y < 2 ^ fP f) :
    bOr .u64 (bOr .u64 ((sg f b : Nat) : Int) (shl .u64 (x : Int) ((fP f : Nat) : Int))) (y : Int) = ((sg f b + x * 2 ^ fP f + y : Nat) : Int) := by
  have := fmt_le f
  have h1 := fI_lt f; have h2 := fB_le f; have h3 := sg_le f b
  have h4 : (x + 1) * 2 ^ fP f ≤ fI f := Nat.mul_le_mul_right _ hx
  rw [Nat.add_mul, Nat.one_mul] at h4
  have h5 := fI_lt2 f
  rw [shl_pow (by omega) (by omega), or_add2 (sg_mod f b) (by omega) (by omega), or_add2 (s := fP f) ?_ hy (by omega)]
  rw [Nat.add_mul_mod_self_right]
  unfold sg fB
  cases b
  · simp
  · simp only [if_true]
    rw [pow_split (Nat.le_add_right (fP f) (fE f))]; exact Nat.mul_mod_right _ _

theorem c1_k {R : Type} (rnd : Nat → Bool → Bool → Bool → (Bool → Option R) → Option R) (k : Nat) (f m : Int) (b : Bool) {last : Int} {q : Nat} (hr : ∀ K : Bool → Option R, rnd k true true true K = K (more m b true true true))
    (hl : fL f ≤ last) (hl2 : last < 1000000) (hq : q ≤ 2 ^ (fP f + 1)) (hq2 : q < 2 ^ fP f → last = fL f) (K : Int → Option R) :
    soft_shape_round_c1T soft_shape_inf soft_shape_sign soft_shape_most soft_shape_full rnd k b last (q : Int) ((fP f : Nat) : Int) ((fE f : Nat) : Int) (fL f) K =
      K ((sg f b + clip f m b ((last - fL f).toNat * 2 ^ fP f + q) : Nat) : Int) := by
  have hf := fmt_le f
  have h1 := fI_lt f; have h2 := fB_le f; have h4 := fI_pos f
  have hpp := fP_pos f
  have hp2 : 2 ^ (fP f + 1) = 2 * 2 ^ fP f := by rw [Nat.pow_succ, Nat.mul_comm]
  have e1 : Wi64 (((fP f : Nat) : Int) + 1) = ((fP f + 1 : Nat) : Int) := by rw [wrap_i64 (by omega) (by omega)]; omega
  have c1 : ¬ (((fP f + 1 : Nat) : Int) < 0) := by omega
  have c2 : ¬ (((fP f : Nat) : Int) < 0) := by omega
  have sh : ∀ (x : Nat) (s : Nat), s ≤ 64 → shr .u64 (x : Int) (s : Int) = ((x / 2 ^ s : Nat) : Int) := fun x s hs => shr_nat x s hs
  have w1 : Wi64 (Wi64 (last - fL f) + 1) = (((last - fL f).toNat + 1 : Nat) : Int) := by
    rw [wrap_i64 (x := last - fL f) (by omega) (by omega), wrap_i64 (by omega) (by omega)]; omega
  have w2 : Wi64 (Wi64 (Wi64 (last + 1) - fL f) + 1) = (((last - fL f).toNat + 2 : Nat) : Int) := by
    rw [wrap_i64 (x := last + 1) (by omega) (by omega), wrap_i64 (x := last + 1 - fL f) (by omega) (by omega), wrap_i64 (by omega) (by omega)]; omega
  have hm : ∀ y : Nat, y < 2 ^ 64 → bAnd .u64 (y : Int) (Wu64 (shl .u64 1 ((fP f : Nat) : Int) - 1)) = ((y % 2 ^ fP f : Nat) : Int) := by
    intro y hy
    have : 2 ^ fP f ≤ 2 ^ 52 := Nat.pow_le_pow_right (by decide) (by omega)
    rw [shl_1 (by omega), Wu64_pred hpp (by omega), bAnd_nat hy (by omega), Nat.and_two_pow_sub_one_eq_mod]
  have hq64 : q < 2 ^ 64 := by
    have : 2 ^ (fP f + 1) ≤ 2 ^ 53 := Nat.pow_le_pow_right (by decide) (by omega)
    omega
  unfold soft_shape_round_c1T
  rw [e1]
  simp only [c1, c2, decide_false, cond_false, w1, w2]
  obtain ⟨D, hD⟩ : ∃ D, D = (last - fL f).toNat := ⟨_, rfl⟩
  rw [← hD]
  have hD6 : D < 2000000 := by omega
  have hexp : 255 ≤ 2 ^ fE f - 1 := by
    have : 2 ^ 8 ≤ 2 ^ fE f := Nat.pow_le_pow_right (by decide) (by omega)
    omega
  -- too great
  have top : ∀ x : Nat, 2 ^ fE f - 1 ≤ x → D * 2 ^ fP f + q = (x - 1) * 2 ^ fP f + 2 ^ fP f ∨ D * 2 ^ fP f + q ≥ x * 2 ^ fP f →
      (rnd k true true true fun yyyr4 => cond yyyr4 (soft_shape_inf k ((fP f : Nat) : Int) ((fE f : Nat) : Int) (fL f) b (fun yyyr5 => K yyyr5)) (soft_shape_most k ((fP f : Nat) : Int) ((fE f : Nat) : Int) (fL f) b (fun yyyr6 => K yyyr6))) =
      K ((sg f b + clip f m b (D * 2 ^ fP f + q) : Nat) : Int) := by
    intro x hx hg
    have hge : fI f ≤ D * 2 ^ fP f + q := by
      have hx1 : 1 ≤ x := by omega
      have hxx : x * 2 ^ fP f = (x - 1) * 2 ^ fP f + 2 ^ fP f := by
        conv => lhs; rw [show x = (x - 1) + 1 by omega]
        rw [Nat.add_mul, Nat.one_mul]
      have : fI f ≤ x * 2 ^ fP f := Nat.mul_le_mul_right _ hx
      omega
    rw [hr]
    unfold clip
    rw [if_neg (by omega)]
    cases more m b true true true
    · simp only [cond_false]
      rw [most_k]; simp
    · simp only [cond_true]
      rw [inf_k]; simp
  by_cases hc : q = 2 ^ (fP f + 1)
  · have d1 : q / 2 ^ (fP f + 1) = 1 := by rw [hc]; exact Nat.div_self (Nat.two_pow_pos _)
    have d2 : q / 2 ^ 1 = 2 ^ fP f := by rw [hc, hp2]; omega
    have d3 : q / 2 ^ 1 / 2 ^ fP f = 1 := by rw [d2]; exact Nat.div_self hpp
    have n1 : (((1 : Nat) : Int) != 0) = true := rfl
    have n2 : (((1 : Nat) : Int) == 0) = false := rfl
    rw [sh q _ (by omega), d1, n1, cond_true, show shr .u64 (q : Int) 1 = ((q / 2 ^ 1 : Nat) : Int) from shr_nat q 1 (by decide), sh _ _ (by omega), d3, n2, cond_false, full_k]
    rw [Wu64_lt (by omega)]
    by_cases hx : D + 2 < 2 ^ fE f - 1
    · have : (((D + 2 : Nat) : Int) < ((2 ^ fE f - 1 : Nat) : Int)) := by omega
      simp only [this, decide_true, cond_true, sign_k]
      have hlow : q / 2 ^ 1 < 2 ^ 64 := by omega
      rw [hm _ hlow, d2, Nat.mod_self, pack_k hx hpp]
      have hlt : D * 2 ^ fP f + q < fI f := by
        have : (D + 3) * 2 ^ fP f ≤ fI f := Nat.mul_le_mul_right _ (by omega)
        rw [Nat.add_mul] at this
        omega
      unfold clip
      rw [if_pos hlt, hc, hp2, Nat.add_mul]
      congr 2 <;> omega
    · have : ¬ (((D + 2 : Nat) : Int) < ((2 ^ fE f - 1 : Nat) : Int)) := by omega
      simp only [this, decide_false, cond_false]
      refine top (D + 2) (by omega) (.inr ?_)
      rw [hc, hp2, Nat.add_mul]; omega
  · have d1 : q / 2 ^ (fP f + 1) = 0 := Nat.div_eq_of_lt (by omega)
    have n1 : (((0 : Nat) : Int) != 0) = false := rfl
    rw [sh q _ (by omega), d1, n1, cond_false, sh q _ (by omega)]
    by_cases hlow : q < 2 ^ fP f
    · have hlast := hq2 hlow
      have hD0 : D = 0 := by rw [hD, hlast]; omega
      have n2 : (((q / 2 ^ fP f : Nat) : Int) == 0) = true := by rw [Nat.div_eq_of_lt hlow]; rfl
      rw [n2, cond_true, sign_k]
      have hB : 2 ^ fP f ≤ 2 ^ (fP f + fE f) := Nat.pow_le_pow_right (by decide) (by omega)
      have h3 := sg_le f b
      rw [or_add2 (sg_mod f b) (by omega) (by omega)]
      unfold clip
      rw [if_pos (by rw [hD0]; omega), hD0, Nat.zero_mul, Nat.zero_add]
    · have n2 : (((q / 2 ^ fP f : Nat) : Int) == 0) = false := by
        have : 0 < q / 2 ^ fP f := Nat.div_pos (by omega) hpp
        rw [beq_eq_false_iff_ne]; omega
      rw [n2, cond_false, full_k, Wu64_lt (by omega)]
      have hmod : q % 2 ^ fP f = q - 2 ^ fP f := by
        rw [Nat.mod_eq_sub_mod (by omega), Nat.mod_eq_of_lt (by omega)]
      by_cases hx : D + 1 < 2 ^ fE f - 1
      · have : (((D + 1 : Nat) : Int) < ((2 ^ fE f - 1 : Nat) : Int)) := by omega
        simp only [this, decide_true, cond_true, sign_k]
        rw [hm _ hq64, hmod, pack_k hx (by omega)]
        have hlt : D * 2 ^ fP f + q < fI f := by
          have : (D + 2) * 2 ^ fP f ≤ fI f := Nat.mul_le_mul_right _ (by omega)
          rw [Nat.add_mul] at this
          omega
        unfold clip
        rw [if_pos hlt, Nat.add_mul]
        congr 2 <;> omega
      · have : ¬ (((D + 1 : Nat) : Int) < ((2 ^ fE f - 1 : Nat) : Int)) := by omega
        simp only [this, decide_false, cond_false]
        refine top (D + 1) (by omega) (.inr ?_)
        rw [Nat.add_mul]; omega

end Go.Proofs.Ytbnmnkofekcodaa.N

/- What package soft's rounding comes to. Conditions: none. -/
namespace Go.Proofs.Ytbnmnkofekcodaa.N
set_option linter.unusedVariables false
set_option linter.unusedSimpArgs false
open Go Go.Ab

theorem lost_far {N d : Nat} (hN : N < 2 ^ 128) (h0 : 0 < N) (hd : 129 < d) : N % 2 ^ (d - 1) ≠ 0 := by
  rw [Nat.mod_eq_of_lt (Nat.lt_of_lt_of_le hN (Nat.pow_le_pow_right (by decide) (by omega)))]
  omega

theorem c0_k {R : Type} (k : Nat) {N d : Nat} (hN : N < 2 ^ 128) (h0 : 0 < N) (hd : d < 2 ^ 62) (x1 rest half : Bool) (last p eb L : Int) (K : Bool → Int → Int → Option R) :
    soft_shape_round_c0 k x1 rest last half (d : Int) (decide (N % 2 ^ (d - 1) ≠ 0)) p eb L (hi N) (lo N) K = K (rest || decide (N % 2 ^ (d - 1) ≠ 0)) (hi (N / 2 ^ d)) (lo (N / 2 ^ d)) := by
  unfold soft_shape_round_c0 soft_shape_round_c0T
  have hs : ∀ J : Int → Int → Bool → Option R, wide_Shr k (hi N) (lo N) (d : Int) J = J (hi (N / 2 ^ d)) (lo (N / 2 ^ d)) (decide (N % 2 ^ d ≠ 0)) := fun J => by
    have := Shr_hl k hN (wf_nat (i := d) (by omega)) J
    rw [Int.toNat_natCast] at this
    exact this
  simp only [hs]
  by_cases c : (d : Int) > 129
  · have := lost_far hN h0 (d := d) (by omega)
    simp only [c, decide_true, cond_true, this, ne_eq, not_false_eq_true, Bool.or_true]
    cases rest <;> rfl
  · simp only [c, decide_false, cond_false]
    cases rest <;> rfl

theorem rounderOf_k {R : Type} (k : Nat) (m : Int) (b : Bool) (K0 K1 K2 : Option R) : soft_rounderOf k m b K0 K1 K2 =
    if (m = 1 ∧ b = false) ∨ (m = 2 ∧ b = true) then K0 else if m = 1 ∨ m = 2 ∨ m = 3 then K1 else K2 := by
  unfold soft_rounderOf soft_rounderOfT
  by_cases h1 : m = 1
  · subst h1; cases b <;> rfl
  · have e1 : (m == 1) = false := by rw [beq_eq_false_iff_ne]; exact h1
    by_cases h2 : m = 2
    · subst h2; cases b <;> rfl
    · have e2 : (m == 2) = false := by rw [beq_eq_false_iff_ne]; exact h2
      by_cases h3 : m = 3
      · subst h3; cases b <;> rfl
      · have e3 : (m == 3) = false := by rw [beq_eq_false_iff_ne]; exact h3
        simp [e1, e2, e3, h1, h2, h3]

/-- What is behind the rounder, for one of them. -/
noncomputable def brT {R : Type} (c0 : soft_shape_round_c0Y R) (c2 : soft_shape_round_c2Y R) (k : Nat) (x2 : Bool) (x3 : Int) (x4 : Bool) (x5 : Int) (x6 : Int) (x7 : Int) (x8 : Int) (x9 : Int) (K0 : Int → Option R) : Option R :=
    wide_Len k x8 x9 (fun yr1 =>
      cond (decide ((Wi64 ((if x7 > (Wi64 ((Wi64 ((Wi64 (x3 + yr1)) - 1)) - x5)) then x7 else (Wi64 ((Wi64 ((Wi64 (x3 + yr1)) - 1)) - x5))) - x3)) > 0)) (
        wide_Shr k x8 x9 (Wi64 ((Wi64 ((if x7 > (Wi64 ((Wi64 ((Wi64 (x3 + yr1)) - 1)) - x5)) then x7 else (Wi64 ((Wi64 ((Wi64 (x3 + yr1)) - 1)) - x5))) - x3)) - 1)) (fun yr2 yr3 yr4 =>
          cond ((bAnd .u64 yr3 1) == 1) (
            c0 k x2 x4 (if x7 > (Wi64 ((Wi64 ((Wi64 (x3 + yr1)) - 1)) - x5)) then x7 else (Wi64 ((Wi64 ((Wi64 (x3 + yr1)) - 1)) - x5))) (decide ((Wi64 ((if x7 > (Wi64 ((Wi64 ((Wi64 (x3 + yr1)) - 1)) - x5)) then x7 else (Wi64 ((Wi64 ((Wi64 (x3 + yr1)) - 1)) - x5))) - x3)) ≤ 129)) (Wi64 ((if x7 > (Wi64 ((Wi64 ((Wi64 (x3 + yr1)) - 1)) - x5)) then x7 else (Wi64 ((Wi64 ((Wi64 (x3 + yr1)) - 1)) - x5))) - x3)) yr4 x5 x6 x7 x8 x9 (fun yr5 yr6 yr7 =>
              c2 k x2 yr5 (if x7 > (Wi64 ((Wi64 ((Wi64 (x3 + yr1)) - 1)) - x5)) then x7 else (Wi64 ((Wi64 ((Wi64 (x3 + yr1)) - 1)) - x5))) (decide ((Wi64 ((if x7 > (Wi64 ((Wi64 ((Wi64 (x3 + yr1)) - 1)) - x5)) then x7 else (Wi64 ((Wi64 ((Wi64 (x3 + yr1)) - 1)) - x5))) - x3)) ≤ 129)) x5 x6 x7 yr6 yr7 (fun yr8 =>
                K0 yr8))) (
            c0 k x2 x4 (if x7 > (Wi64 ((Wi64 ((Wi64 (x3 + yr1)) - 1)) - x5)) then x7 else (Wi64 ((Wi64 ((Wi64 (x3 + yr1)) - 1)) - x5))) false (Wi64 ((if x7 > (Wi64 ((Wi64 ((Wi64 (x3 + yr1)) - 1)) - x5)) then x7 else (Wi64 ((Wi64 ((Wi64 (x3 + yr1)) - 1)) - x5))) - x3)) yr4 x5 x6 x7 x8 x9 (fun yr9 yr10 yr11 =>
              c2 k x2 yr9 (if x7 > (Wi64 ((Wi64 ((Wi64 (x3 + yr1)) - 1)) - x5)) then x7 else (Wi64 ((Wi64 ((Wi64 (x3 + yr1)) - 1)) - x5))) false x5 x6 x7 yr10 yr11 (fun yr12 =>
                K0 yr12))))) (
        wide_Shl k x8 x9 (Wi64 (0 - (Wi64 ((if x7 > (Wi64 ((Wi64 ((Wi64 (x3 + yr1)) - 1)) - x5)) then x7 else (Wi64 ((Wi64 ((Wi64 (x3 + yr1)) - 1)) - x5))) - x3)))) (fun yr13 yr14 =>
          c2 k x2 x4 (if x7 > (Wi64 ((Wi64 ((Wi64 (x3 + yr1)) - 1)) - x5)) then x7 else (Wi64 ((Wi64 ((Wi64 (x3 + yr1)) - 1)) - x5))) false x5 x6 x7 yr13 yr14 (fun yr15 =>
            K0 yr15))))

theorem c9_br {R : Type} (k : Nat) (x1 : Int) (x2 : Bool) (x3 : Int) (x4 : Bool) (x5 : Int) (x6 : Int) (x7 : Int) (x8 : Int) (x9 : Int) (K0 : Int → Option R) :
    soft_shape_round_c9 k x1 x2 x3 x4 x5 x6 x7 x8 x9 K0 = soft_rounderOf k x1 x2 (brT soft_shape_round_c0 soft_shape_round_c2 k x2 x3 x4 x5 x6 x7 x8 x9 K0)
      (brT soft_shape_round_c0 soft_shape_round_c5 k x2 x3 x4 x5 x6 x7 x8 x9 K0) (brT soft_shape_round_c0 soft_shape_round_c8 k x2 x3 x4 x5 x6 x7 x8 x9 K0) := rfl

/-- What the digits are rounded to. -/
def Rounds {R : Type} (c2 : soft_shape_round_c2Y R) (k : Nat) (f m : Int) (b : Bool) : Prop :=
  ∀ (last : Int) (q : Nat) (half rest : Bool) (K : Int → Option R), fL f ≤ last → last < 1000000 → q < 2 ^ (fP f + 1) → (q < 2 ^ fP f → last = fL f) →
    c2 k b rest last half ((fP f : Nat) : Int) ((fE f : Nat) : Int) (fL f) (hi q) (lo q) K = K ((enc f m b last q half rest : Nat) : Int)

theorem odd_eq {q : Nat} (hq : q < 2 ^ 64) : (bAnd .u64 (q : Int) 1 == 1) = (q % 2 == 1) := by
  rw [show (1 : Int) = ((1 : Nat) : Int) from rfl, bAnd_nat hq (by decide), Nat.and_one_is_mod]
  rw [Bool.eq_iff_iff]
  simp only [beq_iff_eq]
  omega

theorem rounds_of {R : Type} (rnd : Nat → Bool → Bool → Bool → (Bool → Option R) → Option R) (k : Nat) (f m : Int) (b : Bool) (hr : ∀ o h r (K : Bool → Option R), rnd k o h r K = K (more m b o h r)) :
    Rounds (fun k x1 x2 x3 x4 x5 x6 x7 x8 x9 K0 =>
      rnd k ((bAnd .u64 x9 1) == 1) x4 x2 (fun yyr1 =>
    cond yyr1 (
      soft_shape_round_c1T soft_shape_inf soft_shape_sign soft_shape_most soft_shape_full rnd k x1 x3 (Wu64 (x9 + 1)) x5 x6 x7 (fun yyr2 =>
        K0 yyr2)) (
      soft_shape_round_c1T soft_shape_inf soft_shape_sign soft_shape_most soft_shape_full rnd k x1 x3 x9 x5 x6 x7 (fun yyr3 =>
        K0 yyr3)))) k f m b := by
  intro last q half rest K hl hl2 hq hq2
  have hf := fmt_le f
  have hq64 : q < 2 ^ 53 := Nat.lt_of_lt_of_le hq (Nat.pow_le_pow_right (by decide) (by omega))
  simp only [lo_small (show q < 2 ^ 64 by omega), odd_eq (show q < 2 ^ 64 by omega), hr]
  unfold enc gOf
  cases hm : more m b (q % 2 == 1) half rest
  · simp only [cond_false, Bool.toNat_false, Nat.add_zero]
    exact c1_k rnd k f m b (fun K => hr _ _ _ K) hl hl2 (by omega) hq2 K
  · simp only [cond_true, Bool.toNat_true]
    rw [show (q : Int) + 1 = ((q + 1 : Nat) : Int) from rfl, Wu64_lt (by omega)]
    rw [Nat.add_assoc]
    exact c1_k rnd k f m b (fun K => hr _ _ _ K) hl hl2 (by omega) (fun h => hq2 (by omega)) K

theorem c2_rounds {R : Type} (k : Nat) (f m : Int) (b : Bool) (h : (m = 1 ∧ b = false) ∨ (m = 2 ∧ b = true)) : Rounds (R := R) soft_shape_round_c2 k f m b := by
  refine rounds_of soft_rounderOf_1 k f m b fun o h' r K => ?_
  unfold soft_rounderOf_1 soft_rounderOf_1T more
  rcases h with ⟨rfl, rfl⟩ | ⟨rfl, rfl⟩ <;> cases h' <;> cases r <;> rfl
theorem c5_rounds {R : Type} (k : Nat) (f m : Int) (b : Bool) (h : ¬ ((m = 1 ∧ b = false) ∨ (m = 2 ∧ b = true))) (h2 : m = 1 ∨ m = 2 ∨ m = 3) : Rounds (R := R) soft_shape_round_c5 k f m b := by
  refine rounds_of soft_rounderOf_2 k f m b fun o h' r K => ?_
  unfold soft_rounderOf_2 soft_rounderOf_2T more
  rcases h2 with rfl | rfl | rfl
  · cases b
    · exact absurd (.inl ⟨rfl, rfl⟩) h
    · rfl
  · cases b
    · rfl
    · exact absurd (.inr ⟨rfl, rfl⟩) h
  · rfl
theorem c8_rounds {R : Type} (k : Nat) (f m : Int) (b : Bool) (h2 : ¬ (m = 1 ∨ m = 2 ∨ m = 3)) : Rounds (R := R) soft_shape_round_c8 k f m b := by
  refine rounds_of soft_rounderOf_3 k f m b fun o h' r K => ?_
  unfold soft_rounderOf_3 soft_rounderOf_3T more
  have a1 : ¬ m = 1 := fun h => h2 (.inl h)
  have a2 : ¬ m = 2 := fun h => h2 (.inr (.inl h))
  have a3 : ¬ m = 3 := fun h => h2 (.inr (.inr h))
  simp only [a1, a2, a3, if_false]
  cases h' <;> cases r <;> cases o <;> rfl

theorem br_k {R : Type} {c2 : soft_shape_round_c2Y R} {k : Nat} {f m : Int} {b : Bool} (hc : Rounds c2 k f m b) {N : Nat} {e : Int} (hN : N < 2 ^ 128) (h0 : 0 < N) (he : -100000 ≤ e) (he2 : e ≤ 100000) (rest : Bool) (K : Int → Option R) :
    brT soft_shape_round_c0 c2 k b e rest ((fP f : Nat) : Int) ((fE f : Nat) : Int) (fL f) (hi N) (lo N) K = K ((Rd f m b N e rest : Nat) : Int) := by
  have hf := fmt_le f
  have hb1 : bl N ≤ 128 := bl_le_iff.2 hN
  have hb0 := bl_pos h0
  unfold brT
  rw [Len_hl k hN]
  have w : Wi64 (Wi64 (Wi64 (e + ((bl N : Nat) : Int)) - 1) - ((fP f : Nat) : Int)) = e + ((bl N : Nat) : Int) - 1 - ((fP f : Nat) : Int) := by
    rw [wrap_i64 (x := e + ((bl N : Nat) : Int)) (by omega) (by omega), wrap_i64 (x := e + ((bl N : Nat) : Int) - 1) (by omega) (by omega), wrap_i64 (by omega) (by omega)]
  have wl : (if fL f > e + ((bl N : Nat) : Int) - 1 - ((fP f : Nat) : Int) then fL f else e + ((bl N : Nat) : Int) - 1 - ((fP f : Nat) : Int)) = lastOf f N e := by
    unfold lastOf
    split <;> omega
  simp only [w, wl]
  have hl1 : fL f ≤ lastOf f N e := Int.le_max_right _ _
  have hl2 : lastOf f N e ≤ 200000 := by unfold lastOf; omega
  have wd : Wi64 (lastOf f N e - e) = lastOf f N e - e := wrap_i64 (by omega) (by omega)
  simp only [wd]
  have hq := qd_lt (f := f) (N := N) (e := e) h0
  have hq2 : qd N (lastOf f N e - e) < 2 ^ fP f → lastOf f N e = fL f := by
    intro h
    by_cases h' : lastOf f N e = fL f
    · exact h'
    · have := qd_ge h0 h'; omega
  have hRd : Rd f m b N e rest = enc f m b (lastOf f N e) (qd N (lastOf f N e - e)) (hd N (lastOf f N e - e)) (rest || rs N (lastOf f N e - e)) := by
    unfold Rd; rw [if_neg (by omega)]
  rw [hRd]
  generalize lastOf f N e = last at *
  clear w wl
  by_cases c : last - e > 0
  · simp only [c, decide_true, cond_true]
    obtain ⟨d, hde⟩ : ∃ d : Nat, last - e = (d : Int) := ⟨(last - e).toNat, by omega⟩
    have hdb : d ≤ 400000 := by omega
    rw [hde] at hq hq2 c ⊢
    have wd1 : Wi64 ((d : Int) - 1) = ((d - 1 : Nat) : Int) := by rw [wrap_i64 (by omega) (by omega)]; omega
    rw [wd1, Shr_hl k hN (wf_nat (by omega)), Int.toNat_natCast]
    have eq : qd N (d : Int) = N / 2 ^ d := by unfold qd; rw [if_pos (by omega), Int.toNat_natCast]
    have er : rs N (d : Int) = decide (N % 2 ^ (d - 1) ≠ 0) := by unfold rs; rw [Int.toNat_natCast]; simp only [show (0 < (d : Int)) from c, decide_true, Bool.true_and]
    have eh : hd N (d : Int) = N.testBit (d - 1) := by unfold hd; rw [Int.toNat_natCast]; simp only [show (0 < (d : Int)) from c, decide_true, Bool.true_and]
    have hbit : (bAnd .u64 (lo (N / 2 ^ (d - 1))) 1 == 1) = N.testBit (d - 1) := by
      unfold lo
      rw [odd_eq (lo_lt _), Nat.testBit_eq_decide_div_mod_eq, Bool.eq_iff_iff]
      simp only [beq_iff_eq, decide_eq_true_eq]
      omega
    have hhalf : N.testBit (d - 1) = true → ((d : Int) ≤ 129) := by
      intro h
      have := Nat.ge_two_pow_of_testBit h
      have : 2 ^ (d - 1) < 2 ^ 128 := by omega
      have := (Nat.pow_lt_pow_iff_right (by decide : 1 < 2)).1 this
      omega
    rw [hbit]
    rw [eq] at hq hq2 ⊢
    rw [er, eh]
    have hc0 : ∀ (h' : Bool) (J : Bool → Int → Int → Option R), soft_shape_round_c0 k b rest last h' (d : Int) (decide (N % 2 ^ (d - 1) ≠ 0)) ((fP f : Nat) : Int) ((fE f : Nat) : Int) (fL f) (hi N) (lo N) J = J (rest || decide (N % 2 ^ (d - 1) ≠ 0)) (hi (N / 2 ^ d)) (lo (N / 2 ^ d)) :=
      fun h' J => c0_k k hN h0 (by omega) b rest h' last _ _ _ J
    cases htb : N.testBit (d - 1) with
    | true =>
      simp only [cond_true, hhalf htb, decide_true]
      rw [hc0]
      exact hc last _ true _ K hl1 (by omega) hq hq2
    | false =>
      simp only [cond_false]
      rw [hc0]
      exact hc last _ false _ K hl1 (by omega) hq hq2
  · simp only [c, decide_false, cond_false]
    obtain ⟨d, hde⟩ : ∃ d : Nat, last - e = -(d : Int) := ⟨(e - last).toNat, by omega⟩
    have hdb : d ≤ 400000 := by omega
    rw [hde] at hq hq2 ⊢
    have c' : ¬ (0 < -(d : Int)) := by omega
    have eq : qd N (-(d : Int)) = N * 2 ^ d := by unfold qd; rw [if_neg c']; simp
    have er : rs N (-(d : Int)) = false := by unfold rs; simp only [c', decide_false, Bool.false_and]
    have eh : hd N (-(d : Int)) = false := by unfold hd; simp only [c', decide_false, Bool.false_and]
    have wd1 : Wi64 (0 - -(d : Int)) = (d : Int) := by rw [wrap_i64 (by omega) (by omega)]; omega
    rw [eq] at hq hq2 ⊢
    have hlt : N * 2 ^ d < 2 ^ 128 := Nat.lt_of_lt_of_le hq (Nat.pow_le_pow_right (by decide) (by omega))
    rw [wd1, Shl_hl k hN (wf_nat (by omega)), Int.toNat_natCast, Nat.mod_eq_of_lt hlt, er, eh, Bool.or_false]
    exact hc last _ false rest K hl1 (by omega) hq hq2

/-- Rounding: a number that is not 0, or 0 and no more. -/
theorem round_k {R : Type} (k : Nat) (f m : Int) (b : Bool) {N : Nat} {e : Int} (hN : N < 2 ^ 128) (he : -100000 ≤ e) (he2 : e ≤ 100000) {rest : Bool} (h0 : 0 < N ∨ rest = false) (K : Int → Option R) :
    soft_shape_round k ((fP f : Nat) : Int) ((fE f : Nat) : Int) (fL f) m b (hi N) (lo N) e rest K = K ((Rd f m b N e rest : Nat) : Int) := by
  have hz : ((hi N == 0) && (lo N == 0)) = (N == 0) := by
    have := hl_beq (A := N) (B := 0)
    rw [show hi 0 = 0 from by decide, show lo 0 = 0 from by decide] at this
    exact this
  unfold soft_shape_round soft_shape_roundT
  rw [hz]
  by_cases hN0 : N = 0
  · subst hN0
    have hr : rest = false := by rcases h0 with h0 | h0; omega; exact h0
    subst hr
    simp only [beq_self_eq_true, cond_true, Bool.not_false, sign_k]
    rfl
  · have : (N == 0) = false := by rw [beq_eq_false_iff_ne]; exact hN0
    rw [this, cond_false, c9_br, rounderOf_k]
    have hp : 0 < N := by omega
    split
    · rename_i h; exact br_k (c2_rounds k f m b h) hN hp he he2 rest K
    · rename_i h
      split
      · rename_i h2; exact br_k (c5_rounds k f m b h h2) hN hp he he2 rest K
      · rename_i h2; exact br_k (c8_rounds k f m b h2) hN hp he he2 rest K

end Go.Proofs.Ytbnmnkofekcodaa.N

/- Floats taken apart: kind, sign, number and power. Conditions: none. -/
namespace Go.Proofs.Ytbnmnkofekcodaa.N
set_option linter.unusedVariables false
set_option linter.unusedSimpArgs false
open Go Go.Ab

/-- Bits that are none of the format. -/
def bad (f : Int) (a : Nat) : Bool := decide (f = 1 ∧ 2 ^ 32 ≤ a)
/-- A float without its sign. -/
def gg (f : Int) (a : Nat) : Nat := a % fB f
def kd (f : Int) (a : Nat) : Int := if bad f a then 0 else if fI f < gg f a then 0 else if gg f a = fI f then 1 else if gg f a = 0 then 2 else 3
def bw (f : Int) (a : Nat) : Bool := if bad f a then false else decide (fB f ≤ a)
def nG (f : Int) (g : Nat) : Nat := if g < 2 ^ fP f then g else 2 ^ fP f + g % 2 ^ fP f
def eG (f : Int) (g : Nat) : Int := if g < 2 ^ fP f then fL f else ((g / 2 ^ fP f : Nat) : Int) - 1 + fL f
def nn (f : Int) (a : Nat) : Nat := if kd f a = 3 then nG f (gg f a) else 0
def ee (f : Int) (a : Nat) : Int := if kd f a = 3 then eG f (gg f a) else 0

theorem lt_2B {f : Int} {a : Nat} (ha : a < 2 ^ 64) (hb : bad f a = false) : a < 2 * fB f := by
  unfold fB
  rcases fmt f with ⟨h0, h1, h2, h3⟩ | ⟨h0, h1, h2, h3⟩
  · rw [h1, h2]
    simp only [bad, h0, true_and, decide_eq_false_iff_not] at hb
    omega
  · rw [h1, h2]; omega

theorem kd_vals (f : Int) (a : Nat) : kd f a = 0 ∨ kd f a = 1 ∨ kd f a = 2 ∨ kd f a = 3 := by
  unfold kd
  split
  · exact .inl rfl
  · split
    · exact .inl rfl
    · split
      · exact .inr (.inl rfl)
      · split
        · exact .inr (.inr (.inl rfl))
        · exact .inr (.inr (.inr rfl))

theorem gg_lt (f : Int) (a : Nat) : gg f a < fB f := Nat.mod_lt _ (Nat.two_pow_pos _)

theorem kd3 {f : Int} {a : Nat} (h : kd f a = 3) : bad f a = false ∧ 0 < gg f a ∧ gg f a < fI f := by
  unfold kd at h
  split at h
  · cases h
  · rename_i h1
    split at h
    · cases h
    · split at h
      · cases h
      · split at h
        · cases h
        · exact ⟨by simpa using h1, by omega, by omega⟩

theorem nG_bounds (f : Int) {g : Nat} (h0 : 0 < g) (hI : g < fI f) : 0 < nG f g ∧ nG f g < 2 ^ (fP f + 1) ∧ fL f ≤ eG f g ∧ eG f g ≤ 2046 + fL f := by
  have hp := fP_pos f
  have hf := fmt_le f
  have hp2 : 2 ^ (fP f + 1) = 2 * 2 ^ fP f := by rw [Nat.pow_succ, Nat.mul_comm]
  unfold nG eG
  have hm := Nat.mod_lt g hp
  split
  · exact ⟨h0, by omega, Int.le_refl _, by omega⟩
  · rename_i h
    have h1 : 0 < g / 2 ^ fP f := Nat.div_pos (by omega) hp
    have h2 : g / 2 ^ fP f < 2 ^ fE f - 1 := by
      rw [Nat.div_lt_iff_lt_mul hp]; exact hI
    have h3 : 2 ^ fE f ≤ 2 ^ 11 := Nat.pow_le_pow_right (by decide) (by omega)
    exact ⟨by omega, by omega, by omega, by omega⟩

theorem nn_bounds {f : Int} {a : Nat} (h : kd f a = 3) : 0 < nn f a ∧ nn f a < 2 ^ (fP f + 1) ∧ fL f ≤ ee f a ∧ ee f a ≤ 2046 + fL f := by
  obtain ⟨_, h1, h2⟩ := kd3 h
  unfold nn ee
  rw [if_pos h, if_pos h]
  exact nG_bounds f h1 h2

theorem nn_zero {f : Int} {a : Nat} (h : kd f a ≠ 3) : nn f a = 0 ∧ ee f a = 0 := by unfold nn ee; simp [h]
theorem nn_lt64 (f : Int) (a : Nat) : nn f a < 2 ^ 53 := by
  have hf := fmt_le f
  have : 2 ^ (fP f + 1) ≤ 2 ^ 53 := Nat.pow_le_pow_right (by decide) (by omega)
  by_cases h : kd f a = 3
  · have := nn_bounds h; omega
  · rw [(nn_zero h).1]; decide
theorem ee_bounds (f : Int) (a : Nat) : -1074 ≤ ee f a ∧ ee f a ≤ 1897 := by
  have hf := fmt_le f
  by_cases h : kd f a = 3
  · have := nn_bounds h; omega
  · rw [(nn_zero h).2]; decide

theorem gg_parts (f : Int) (a : Nat) : gg f a = (a / 2 ^ fP f % 2 ^ fE f) * 2 ^ fP f + a % 2 ^ fP f := by
  unfold gg fB
  rw [Nat.pow_add, Nat.mod_mul, Nat.mul_comm]; omega

theorem fI_eq (f : Int) : fI f = (2 ^ fE f - 1) * 2 ^ fP f := rfl

/-- The same by parts: exponent and fraction. -/
theorem parts_gg (f : Int) (a : Nat) : (a / 2 ^ fP f % 2 ^ fE f) = gg f a / 2 ^ fP f ∧ a % 2 ^ fP f = gg f a % 2 ^ fP f := by
  have hp := fP_pos f
  have hm := Nat.mod_lt a hp
  have h := gg_parts f a
  constructor
  · rw [h, Nat.mul_comm, Nat.mul_add_div hp, Nat.div_eq_of_lt hm, Nat.add_zero]
  · rw [h, Nat.mul_comm, Nat.mul_add_mod, Nat.mod_mod]

theorem cls (f : Int) (a : Nat) : (a / 2 ^ fP f % 2 ^ fE f = 2 ^ fE f - 1 ↔ fI f ≤ gg f a) ∧ (a / 2 ^ fP f % 2 ^ fE f = 2 ^ fE f - 1 → (a % 2 ^ fP f = 0 ↔ gg f a = fI f)) ∧
    (a / 2 ^ fP f % 2 ^ fE f = 0 ↔ gg f a < 2 ^ fP f) ∧ (a / 2 ^ fP f % 2 ^ fE f = 0 → a % 2 ^ fP f = gg f a) ∧
    (¬ gg f a < 2 ^ fP f → a % 2 ^ fP f + 2 ^ fP f = nG f (gg f a)) := by
  have hp := fP_pos f
  have hm := Nat.mod_lt a hp
  have h := gg_parts f a
  have hx : a / 2 ^ fP f % 2 ^ fE f < 2 ^ fE f := Nat.mod_lt _ (Nat.two_pow_pos _)
  obtain ⟨p1, p2⟩ := parts_gg f a
  have hI := fI_eq f
  generalize hX : a / 2 ^ fP f % 2 ^ fE f = X at *
  generalize hM : a % 2 ^ fP f = M at *
  refine ⟨?_, ?_, ?_, ?_, ?_⟩
  · constructor
    · intro h2; rw [h, h2, hI]; exact Nat.le_add_right _ _
    · intro h2
      refine Nat.le_antisymm (by omega) (Nat.le_of_not_lt fun h3 => ?_)
      have : (X + 1) * 2 ^ fP f ≤ (2 ^ fE f - 1) * 2 ^ fP f := Nat.mul_le_mul_right _ h3
      rw [Nat.add_mul, Nat.one_mul] at this
      omega
  · intro h2; rw [h, h2, hI]; omega
  · constructor
    · intro h2; rw [h, h2]; omega
    · intro h2
      refine Nat.eq_zero_of_not_pos fun h3 => ?_
      have : 1 * 2 ^ fP f ≤ X * 2 ^ fP f := Nat.mul_le_mul_right _ h3
      omega
  · intro h2; rw [h, h2]; omega
  · intro h2
    unfold nG
    rw [if_neg h2, p2]; omega

end Go.Proofs.Ytbnmnkofekcodaa.N

/- What package soft's functions of one float come to. Conditions: none. -/
namespace Go.Proofs.Ytbnmnkofekcodaa.N
set_option linter.unusedVariables false
set_option linter.unusedSimpArgs false
open Go Go.Ab

/-! ### Single bits -/

theorem and_pow2 (a n : Nat) : a &&& 2 ^ n = (a.testBit n).toNat * 2 ^ n := by
  apply Nat.eq_of_testBit_eq
  intro i
  rw [Nat.testBit_and, Nat.testBit_two_pow]
  by_cases h : n = i
  · subst h
    cases a.testBit n <;> simp [Nat.testBit_two_pow_self]
  · cases hb : a.testBit n
    · simp [h]
    · rw [Bool.toNat_true, Nat.one_mul, Nat.testBit_two_pow_of_ne h]; simp [h]

theorem top_bit {a n : Nat} (h : a < 2 ^ (n + 1)) : a.testBit n = decide (2 ^ n ≤ a) := by
  rw [Nat.testBit_eq_decide_div_mod_eq]
  have hp := Nat.two_pow_pos n
  rw [Nat.pow_succ] at h
  by_cases c : 2 ^ n ≤ a
  · have : a / 2 ^ n = 1 := Nat.div_eq_of_lt_le (by omega) (by omega)
    simp [this, c]
  · have : a / 2 ^ n = 0 := Nat.div_eq_of_lt (by omega)
    simp [this, c]

theorem nat_bne00 (x : Nat) : (((x : Nat) : Int) != 0) = (x != 0) := by
  rw [Bool.eq_iff_iff]; simp only [bne_iff_ne]; omega

theorem sign_test {f : Int} {a : Nat} (ha : a < 2 * fB f) : (bAnd .u64 (a : Int) ((fB f : Nat) : Int) != 0) = decide (fB f ≤ a) := by
  have h2 := fB_le f
  rw [bAnd_nat (by omega) (by omega)]
  unfold fB at *
  rw [and_pow2, top_bit (by rw [Nat.pow_succ]; omega)]
  have hp := Nat.two_pow_pos (fP f + fE f)
  by_cases c : 2 ^ (fP f + fE f) ≤ a
  · simp only [c, decide_true, Bool.toNat_true, Nat.one_mul, nat_bne00]; rw [bne_iff_ne]; omega
  · simp only [c, decide_false, Bool.toNat_false, Nat.zero_mul]; rfl

theorem xor_top {g n : Nat} (h : g < 2 ^ n) : g ^^^ 2 ^ n = g + 2 ^ n ∧ (g + 2 ^ n) ^^^ 2 ^ n = g := by
  have e : g ^^^ 2 ^ n = g + 2 ^ n := by
    rw [← Nat.or_two_pow_eq_add_of_lt h]
    apply Nat.eq_of_testBit_eq
    intro i
    rw [Nat.testBit_xor, Nat.testBit_or, Nat.testBit_two_pow]
    by_cases c : n = i
    · subst c
      rw [Nat.testBit_lt_two_pow h]; simp
    · simp [c]
  refine ⟨e, ?_⟩
  rw [← e, Nat.xor_assoc, Nat.xor_self, Nat.xor_zero]

theorem bXor_nat {n m : Nat} (hn : n < 2 ^ 64) (hm : m < 2 ^ 64) : bXor .u64 (n : Int) (m : Int) = ((n ^^^ m : Nat) : Int) := by
  show orInt .u64 _ _ _ = _
  refine (orInt_nat (· ^^^ ·) n m).trans ?_
  simp [BitVec.toNat_xor, Nat.mod_eq_of_lt hn, Nat.mod_eq_of_lt hm]

theorem bAndNot_nat {n m : Nat} (hn : n < 2 ^ 64) (hm : m < 2 ^ 64) : bAndNot .u64 (n : Int) (m : Int) = ((n &&& (2 ^ 64 - (m + 1)) : Nat) : Int) := by
  show orInt .u64 _ _ _ = _
  refine (orInt_nat (fun a b => a &&& ~~~b) n m).trans ?_
  simp only [BitVec.toNat_and, BitVec.toNat_not, BitVec.toNat_ofNat, Nat.mod_eq_of_lt hn, Nat.mod_eq_of_lt hm]
  have e : 2 ^ 64 - 1 - m = 2 ^ 64 - (m + 1) := by omega
  rw [e]

/-- The sign turned, and taken away. -/
theorem sign_turn {f : Int} {a : Nat} (ha : a < 2 * fB f) : bXor .u64 (a : Int) ((fB f : Nat) : Int) = ((if fB f ≤ a then a - fB f else a + fB f : Nat) : Int) := by
  have h2 := fB_le f
  rw [bXor_nat (by omega) (by omega)]
  unfold fB at *
  congr 1
  split
  · rename_i h
    have := (xor_top (g := a - 2 ^ (fP f + fE f)) (n := fP f + fE f) (by omega)).2
    rw [Nat.sub_add_cancel h] at this
    exact this
  · exact (xor_top (by omega)).1

theorem sign_off {f : Int} {a : Nat} (ha : a < 2 * fB f) : bAndNot .u64 (a : Int) ((fB f : Nat) : Int) = ((gg f a : Nat) : Int) := by
  have h2 := fB_le f
  have hf := fmt_le f
  rw [bAndNot_nat (by omega) (by omega)]
  unfold gg fB at *
  congr 1
  apply Nat.eq_of_testBit_eq
  intro i
  rw [Nat.testBit_and, Nat.testBit_two_pow_sub_succ (by omega), Nat.testBit_mod_two_pow, Nat.testBit_two_pow]
  by_cases c : i < fP f + fE f
  · have d : ¬ (fP f + fE f = i) := by omega
    have d2 : i < 64 := by omega
    simp [c, d, d2]
  · by_cases d : fP f + fE f = i
    · simp [d]
    · have : a.testBit i = false := Nat.testBit_lt_two_pow (Nat.lt_of_lt_of_le ha (by rw [Nat.mul_comm, ← Nat.pow_succ]; exact Nat.pow_le_pow_right (by decide) (by omega)))
      rw [this]; simp [c]

/-! ### apart -/

theorem sg_true (f : Int) : sg f true = fB f := by unfold sg; simp

theorem shr_pow {x s : Nat} (hs : s ≤ 64) : shr .u64 (x : Int) (s : Int) = ((x / 2 ^ s : Nat) : Int) := shr_nat x s hs

theorem low_bits {x s : Nat} (hs : s ≤ 63) (hx : x < 2 ^ 64) : bAnd .u64 (x : Int) (Wu64 (shl .u64 1 ((s : Nat) : Int) - 1)) = ((x % 2 ^ s : Nat) : Int) := by
  have : 2 ^ s ≤ 2 ^ 63 := Nat.pow_le_pow_right (by decide) hs
  rw [shl_1 hs, Wu64_pred (Nat.two_pow_pos _) (by omega), bAnd_nat hx (by omega), Nat.and_two_pow_sub_one_eq_mod]
theorem low_bits2 {x s : Nat} (hs : s ≤ 63) (hx : x < 2 ^ 64) : bAnd .u64 (x : Int) ((2 ^ s - 1 : Nat) : Int) = ((x % 2 ^ s : Nat) : Int) := by
  have : 2 ^ s ≤ 2 ^ 63 := Nat.pow_le_pow_right (by decide) hs
  rw [bAnd_nat hx (by omega), Nat.and_two_pow_sub_one_eq_mod]

theorem nat_beq (x y : Nat) : (((x : Nat) : Int) == ((y : Nat) : Int)) = (x == y) := by
  rw [Bool.eq_iff_iff]; simp only [beq_iff_eq]; omega
theorem nat_beq0 (x : Nat) : (((x : Nat) : Int) == 0) = (x == 0) := nat_beq x 0
theorem nat_bne0 (x : Nat) : (((x : Nat) : Int) != 0) = (x != 0) := by unfold bne; rw [nat_beq0]

theorem apart_k {R : Type} (k : Nat) (f : Int) {a : Nat} (ha : a < 2 ^ 64) (K : Int → Int → Int → Int → Bool → Int → Int → Option R) :
    soft_apart k f (a : Int) K = K ((fP f : Nat) : Int) ((fE f : Nat) : Int) (fL f) (kd f a) (bw f a) ((nn f a : Nat) : Int) (ee f a) := by
  have hf := fmt_le f
  have hp := fP_pos f
  unfold soft_apart soft_apartT
  rw [shapeOf_k]
  -- what is common to both formats
  have key : bad f a = false → (cond (decide (((fP f : Nat) : Int) < 0)) (
          none) (
          soft_shape_full k ((fP f : Nat) : Int) ((fE f : Nat) : Int) (fL f) (fun r4 =>
            cond (decide (((fP f : Nat) : Int) < 0)) (
              none) (
              soft_shape_sign k ((fP f : Nat) : Int) ((fE f : Nat) : Int) (fL f) true (fun r5 =>
                soft_shape_full k ((fP f : Nat) : Int) ((fE f : Nat) : Int) (fL f) (fun r6 =>
                  cond ((bAnd .u64 (shr .u64 a ((fP f : Nat) : Int)) r4) == r6) (
                    cond ((bAnd .u64 a (Wu64 ((shl .u64 1 ((fP f : Nat) : Int)) - 1))) != 0) (
                      K ((fP f : Nat) : Int) ((fE f : Nat) : Int) (fL f) 0 ((bAnd .u64 a r5) != 0) 0 0) (
                      soft_shape_full k ((fP f : Nat) : Int) ((fE f : Nat) : Int) (fL f) (fun r7 =>
                        cond ((bAnd .u64 (shr .u64 a ((fP f : Nat) : Int)) r4) == r7) (
                          K ((fP f : Nat) : Int) ((fE f : Nat) : Int) (fL f) 1 ((bAnd .u64 a r5) != 0) 0 0) (
                          cond ((bAnd .u64 (shr .u64 a ((fP f : Nat) : Int)) r4) == 0) (
                            cond ((bAnd .u64 a (Wu64 ((shl .u64 1 ((fP f : Nat) : Int)) - 1))) == 0) (
                              K ((fP f : Nat) : Int) ((fE f : Nat) : Int) (fL f) 2 ((bAnd .u64 a r5) != 0) 0 0) (
                              cond ((bAnd .u64 (shr .u64 a ((fP f : Nat) : Int)) r4) == 0) (
                                K ((fP f : Nat) : Int) ((fE f : Nat) : Int) (fL f) 3 ((bAnd .u64 a r5) != 0) (bAnd .u64 a (Wu64 ((shl .u64 1 ((fP f : Nat) : Int)) - 1))) (fL f)) (
                                cond (decide (((fP f : Nat) : Int) < 0)) (
                                  none) (
                                  K ((fP f : Nat) : Int) ((fE f : Nat) : Int) (fL f) 3 ((bAnd .u64 a r5) != 0) (bOr .u64 (bAnd .u64 a (Wu64 ((shl .u64 1 ((fP f : Nat) : Int)) - 1))) (shl .u64 1 ((fP f : Nat) : Int))) (Wi64 ((Wi64 ((Wi64 (bAnd .u64 (shr .u64 a ((fP f : Nat) : Int)) r4)) - 1)) + (fL f))))))) (
                            cond ((bAnd .u64 (shr .u64 a ((fP f : Nat) : Int)) r4) == 0) (
                              K ((fP f : Nat) : Int) ((fE f : Nat) : Int) (fL f) 3 ((bAnd .u64 a r5) != 0) (bAnd .u64 a (Wu64 ((shl .u64 1 ((fP f : Nat) : Int)) - 1))) (fL f)) (
                              cond (decide (((fP f : Nat) : Int) < 0)) (
                                none) (
                                K ((fP f : Nat) : Int) ((fE f : Nat) : Int) (fL f) 3 ((bAnd .u64 a r5) != 0) (bOr .u64 (bAnd .u64 a (Wu64 ((shl .u64 1 ((fP f : Nat) : Int)) - 1))) (shl .u64 1 ((fP f : Nat) : Int))) (Wi64 ((Wi64 ((Wi64 (bAnd .u64 (shr .u64 a ((fP f : Nat) : Int)) r4)) - 1)) + (fL f)))))))))) (
                    soft_shape_full k ((fP f : Nat) : Int) ((fE f : Nat) : Int) (fL f) (fun r8 =>
                      cond ((bAnd .u64 (shr .u64 a ((fP f : Nat) : Int)) r4) == r8) (
                        K ((fP f : Nat) : Int) ((fE f : Nat) : Int) (fL f) 1 ((bAnd .u64 a r5) != 0) 0 0) (
                        cond ((bAnd .u64 (shr .u64 a ((fP f : Nat) : Int)) r4) == 0) (
                          cond ((bAnd .u64 a (Wu64 ((shl .u64 1 ((fP f : Nat) : Int)) - 1))) == 0) (
                            K ((fP f : Nat) : Int) ((fE f : Nat) : Int) (fL f) 2 ((bAnd .u64 a r5) != 0) 0 0) (
                            cond ((bAnd .u64 (shr .u64 a ((fP f : Nat) : Int)) r4) == 0) (
                              K ((fP f : Nat) : Int) ((fE f : Nat) : Int) (fL f) 3 ((bAnd .u64 a r5) != 0) (bAnd .u64 a (Wu64 ((shl .u64 1 ((fP f : Nat) : Int)) - 1))) (fL f)) (
                              cond (decide (((fP f : Nat) : Int) < 0)) (
                                none) (
                                K ((fP f : Nat) : Int) ((fE f : Nat) : Int) (fL f) 3 ((bAnd .u64 a r5) != 0) (bOr .u64 (bAnd .u64 a (Wu64 ((shl .u64 1 ((fP f : Nat) : Int)) - 1))) (shl .u64 1 ((fP f : Nat) : Int))) (Wi64 ((Wi64 ((Wi64 (bAnd .u64 (shr .u64 a ((fP f : Nat) : Int)) r4)) - 1)) + (fL f))))))) (
                          cond ((bAnd .u64 (shr .u64 a ((fP f : Nat) : Int)) r4) == 0) (
                            K ((fP f : Nat) : Int) ((fE f : Nat) : Int) (fL f) 3 ((bAnd .u64 a r5) != 0) (bAnd .u64 a (Wu64 ((shl .u64 1 ((fP f : Nat) : Int)) - 1))) (fL f)) (
                            cond (decide (((fP f : Nat) : Int) < 0)) (
                              none) (
                              K ((fP f : Nat) : Int) ((fE f : Nat) : Int) (fL f) 3 ((bAnd .u64 a r5) != 0) (bOr .u64 (bAnd .u64 a (Wu64 ((shl .u64 1 ((fP f : Nat) : Int)) - 1))) (shl .u64 1 ((fP f : Nat) : Int))) (Wi64 ((Wi64 ((Wi64 (bAnd .u64 (shr .u64 a ((fP f : Nat) : Int)) r4)) - 1)) + (fL f))))))))))))))) =
      K ((fP f : Nat) : Int) ((fE f : Nat) : Int) (fL f) (kd f a) (bw f a) ((nn f a : Nat) : Int) (ee f a) := by
    intro hb
    have c0 : ¬ (((fP f : Nat) : Int) < 0) := by omega
    have hq : a / 2 ^ fP f < 2 ^ 64 := Nat.lt_of_le_of_lt (Nat.div_le_self _ _) ha
    have hbw : (bAnd .u64 (a : Int) ((fB f : Nat) : Int) != 0) = bw f a := by
      rw [sign_test (lt_2B ha hb)]; unfold bw; rw [hb]; rfl
    simp only [c0, decide_false, cond_false, full_k, sign_k, sg_true, hbw, shr_pow (show fP f ≤ 64 by omega), low_bits (show fP f ≤ 63 by omega) ha, low_bits2 (show fE f ≤ 63 by omega) hq, nat_beq, nat_beq0, nat_bne0]
    obtain ⟨k1, k2, k3, k4, k5⟩ := cls f a
    have hX : a / 2 ^ fP f % 2 ^ fE f < 2 ^ fE f := Nat.mod_lt _ (Nat.two_pow_pos _)
    have hM : a % 2 ^ fP f < 2 ^ fP f := Nat.mod_lt _ hp
    have hexp : 255 ≤ 2 ^ fE f - 1 := by
      have : 2 ^ 8 ≤ 2 ^ fE f := Nat.pow_le_pow_right (by decide) (by omega)
      omega
    have hexp2 : 2 ^ fE f ≤ 2 ^ 11 := Nat.pow_le_pow_right (by decide) (by omega)
    have hpI := fI_pos f
    by_cases cX : a / 2 ^ fP f % 2 ^ fE f = 2 ^ fE f - 1
    · have cX' : (a / 2 ^ fP f % 2 ^ fE f == 2 ^ fE f - 1) = true := by rw [beq_iff_eq]; exact cX
      simp only [cX', cond_true]
      have hge := k1.1 cX
      by_cases cM : a % 2 ^ fP f = 0
      · have cM' : (a % 2 ^ fP f != 0) = false := by rw [cM]; rfl
        have hg := (k2 cX).1 cM
        have hk : kd f a = 1 := by unfold kd; rw [hb]; simp [hg]
        have h3 : kd f a ≠ 3 := by rw [hk]; decide
        rw [cM', hk, (nn_zero h3).1, (nn_zero h3).2]; rfl
      · have cM' : (a % 2 ^ fP f != 0) = true := by rw [bne_iff_ne]; exact cM
        have hg : fI f < gg f a := Nat.lt_of_le_of_ne hge (fun h => cM ((k2 cX).2 h.symm))
        have hk : kd f a = 0 := by unfold kd; rw [hb]; simp [hg]
        have h3 : kd f a ≠ 3 := by rw [hk]; decide
        rw [cM', hk, (nn_zero h3).1, (nn_zero h3).2]; rfl
    · have cX' : (a / 2 ^ fP f % 2 ^ fE f == 2 ^ fE f - 1) = false := by rw [beq_eq_false_iff_ne]; exact cX
      have hlt : gg f a < fI f := Nat.lt_of_not_le fun h => cX (k1.2 h)
      simp only [cX', cond_false]
      by_cases c0' : a / 2 ^ fP f % 2 ^ fE f = 0
      · have d0 : (a / 2 ^ fP f % 2 ^ fE f == 0) = true := by rw [beq_iff_eq]; exact c0'
        simp only [d0, cond_true]
        have hg := k4 c0'
        have hg2 := k3.1 c0'
        rw [hg]
        by_cases cz : gg f a = 0
        · have hk : kd f a = 2 := by
            unfold kd; rw [hb]
            simp only [Bool.false_eq_true, if_false]
            rw [if_neg (by omega), if_neg (by omega), if_pos cz]
          have h3 : kd f a ≠ 3 := by rw [hk]; decide
          have : (gg f a == 0) = true := by rw [beq_iff_eq]; exact cz
          rw [this, hk, (nn_zero h3).1, (nn_zero h3).2]; rfl
        · have hk : kd f a = 3 := by
            unfold kd; rw [hb]
            simp only [Bool.false_eq_true, if_false]
            rw [if_neg (by omega), if_neg (by omega), if_neg cz]
          have : (gg f a == 0) = false := by rw [beq_eq_false_iff_ne]; exact cz
          have hn : nn f a = gg f a := by unfold nn nG; rw [if_pos hk, if_pos hg2]
          have he : ee f a = fL f := by unfold ee eG; rw [if_pos hk, if_pos hg2]
          rw [this, hk, hn, he]; rfl
      · have d0 : (a / 2 ^ fP f % 2 ^ fE f == 0) = false := by rw [beq_eq_false_iff_ne]; exact c0'
        simp only [d0, cond_false]
        have hg2 : ¬ gg f a < 2 ^ fP f := fun h => c0' (k3.2 h)
        have hk : kd f a = 3 := by
          unfold kd; rw [hb]
          simp only [Bool.false_eq_true, if_false]
          rw [if_neg (by omega), if_neg (by omega), if_neg (by omega)]
        have hn : nn f a = a % 2 ^ fP f + 2 ^ fP f := by
          unfold nn; rw [if_pos hk]; exact (k5 hg2).symm
        have he : ee f a = ((a / 2 ^ fP f % 2 ^ fE f : Nat) : Int) - 1 + fL f := by
          unfold ee eG; rw [if_pos hk, if_neg hg2, (parts_gg f a).1]
        have e1 : bOr .u64 ((a % 2 ^ fP f : Nat) : Int) (shl .u64 1 ((fP f : Nat) : Int)) = ((a % 2 ^ fP f + 2 ^ fP f : Nat) : Int) := bit_or hM (by omega)
        have e2 : Wi64 (Wi64 (Wi64 ((a / 2 ^ fP f % 2 ^ fE f : Nat) : Int) - 1) + fL f) = ((a / 2 ^ fP f % 2 ^ fE f : Nat) : Int) - 1 + fL f := by
          rw [Wi64_nat (by omega), wrap_i64 (x := ((a / 2 ^ fP f % 2 ^ fE f : Nat) : Int) - 1) (by omega) (by omega), wrap_i64 (by omega) (by omega)]
        rw [e1, e2, hk, hn, he]
  by_cases hf1 : f = 1
  · have e : (f == 1) = true := by rw [beq_iff_eq]; exact hf1
    rw [e, cond_true]
    rw [show shr .u64 (a : Int) 32 = ((a / 2 ^ 32 : Nat) : Int) from shr_nat a 32 (by decide), nat_bne0]
    by_cases hb : 2 ^ 32 ≤ a
    · have : (a / 2 ^ 32 != 0) = true := by rw [bne_iff_ne]; omega
      have hbd : bad f a = true := by unfold bad; rw [decide_eq_true_iff]; exact ⟨hf1, hb⟩
      have hk : kd f a = 0 := by unfold kd; rw [hbd]; rfl
      have h3 : kd f a ≠ 3 := by rw [hk]; decide
      have hw : bw f a = false := by unfold bw; rw [hbd]; rfl
      rw [this, cond_true, hk, hw, (nn_zero h3).1, (nn_zero h3).2]; rfl
    · have : (a / 2 ^ 32 != 0) = false := by
        have : a / 2 ^ 32 = 0 := Nat.div_eq_of_lt (by omega)
        rw [this]; rfl
      rw [this, cond_false]
      refine key ?_
      unfold bad; rw [decide_eq_false_iff_not]; exact fun h => hb h.2
  · have e : (f == 1) = false := by rw [beq_eq_false_iff_ne]; exact hf1
    rw [e, cond_false]
    refine key ?_
    unfold bad; rw [decide_eq_false_iff_not]; exact fun h => hf1 h.1

end Go.Proofs.Ytbnmnkofekcodaa.N

/- Floats reckoned with, as the document says it: sums, products, quotients, roots by whole numbers. Conditions: none. -/
namespace Go.Proofs.Ytbnmnkofekcodaa.N
set_option linter.unusedVariables false
set_option linter.unusedSimpArgs false
open Go Go.Ab

def NAN (f : Int) : Nat := fI f + 2 ^ (fP f - 1)
def NegS (f : Int) (a : Nat) : Nat := if kd f a = 0 then NAN f else if fB f ≤ a then a - fB f else a + fB f
def AbsS (f : Int) (a : Nat) : Nat := if kd f a = 0 then NAN f else gg f a
def FinS (f : Int) (a : Nat) : Bool := decide (2 ≤ kd f a)
def ClassS (f : Int) (a : Nat) : Int := if bad f a then 0 else if kd f a = 0 then 5 else if kd f a = 1 then 4 else if kd f a = 2 then 1 else if gg f a < 2 ^ fP f then 2 else 3
def rank (f : Int) (a : Nat) : Int := if bw f a then -((gg f a : Nat) : Int) else ((gg f a : Nat) : Int)
def sgnI (x y : Int) : Int := if x < y then -1 else if y < x then 1 else 0
def CmpS (f : Int) (a b : Nat) : Int × Bool := if kd f a = 0 ∨ kd f b = 0 then (0, false) else (sgnI (rank f a) (rank f b), true)

/-- Two numbers of a sign each, added, and rounded. -/
def AddX (f m : Int) (bx : Bool) (X : Nat) (ex : Int) (by' : Bool) (Y : Nat) (ey : Int) : Nat :=
  let l := min ex ey
  let u := X * 2 ^ (ex - l).toNat
  let v := Y * 2 ^ (ey - l).toNat
  if bx = by' then Rd f m bx (u + v) l false
  else if u = v then sg f (m == 2) else if v < u then Rd f m bx (u - v) l false else Rd f m by' (v - u) l false

def AddS (f m : Int) (a b : Nat) : Nat :=
  if kd f a = 0 ∨ kd f b = 0 ∨ (kd f a = 1 ∧ kd f b = 1 ∧ bw f a ≠ bw f b) then NAN f
  else if kd f a = 1 then a else if kd f b = 1 then b
  else AddX f m (bw f a) (nn f a) (ee f a) (bw f b) (nn f b) (ee f b)

def MulS (f m : Int) (a b : Nat) : Nat :=
  if kd f a = 0 ∨ kd f b = 0 then NAN f
  else if kd f a = 1 ∨ kd f b = 1 then (if kd f a = 2 ∨ kd f b = 2 then NAN f else sg f (bw f a != bw f b) + fI f)
  else Rd f m (bw f a != bw f b) (nn f a * nn f b) (ee f a + ee f b) false

/-- A quotient to so many places, and whether there is a rest. -/
def DivX (f m : Int) (s : Bool) (X : Nat) (Y : Nat) (e : Int) (up : Nat) : Nat := Rd f m s (X * 2 ^ up / Y) (e - up) (decide (X * 2 ^ up % Y ≠ 0))

def DivS (f m : Int) (a b : Nat) : Nat :=
  if kd f a = 0 ∨ kd f b = 0 ∨ (kd f a = kd f b ∧ kd f a < 3) then NAN f
  else if kd f a = 1 ∨ kd f b = 2 then sg f (bw f a != bw f b) + fI f
  else if kd f b = 1 ∨ kd f a = 2 then sg f (bw f a != bw f b)
  else DivX f m (bw f a != bw f b) (nn f a) (nn f b) (ee f a - ee f b) (127 - bl (nn f a))

/-- The sign and the rest are the float. -/
theorem parts_of {f : Int} {a : Nat} (ha : a < 2 ^ 64) (hb : bad f a = false) : a = sg f (bw f a) + gg f a := by
  have h := lt_2B ha hb
  have hB : 0 < fB f := Nat.two_pow_pos _
  unfold sg bw gg
  rw [hb]
  simp only [Bool.false_eq_true, if_false]
  by_cases c : fB f ≤ a
  · simp only [c, decide_true, if_true]
    rw [Nat.mod_eq_sub_mod c, Nat.mod_eq_of_lt (by omega)]; omega
  · simp only [c, decide_false, Bool.false_eq_true, if_false]
    rw [Nat.mod_eq_of_lt (by omega)]; omega

theorem more_none (m : Int) (b o : Bool) : more m b o false false = false := by
  unfold more
  split
  · simp
  · split
    · simp
    · split <;> simp

theorem bl_range {N p : Nat} (h1 : 2 ^ p ≤ N) (h2 : N < 2 ^ (p + 1)) : bl N = p + 1 := bl_eq h1 h2

/-- What is a float is itself, rounded. -/
theorem Rd_G (f m : Int) (s : Bool) {g : Nat} (h0 : 0 < g) (hI : g < fI f) : Rd f m s (nG f g) (eG f g) false = sg f s + g := by
  have hp := fP_pos f
  obtain ⟨n0, n1, n2, n3⟩ := nG_bounds f h0 hI
  have hm := Nat.mod_lt g hp
  have hlast : lastOf f (nG f g) (eG f g) = eG f g := by
    unfold lastOf nG eG
    by_cases c : g < 2 ^ fP f
    · rw [if_pos c, if_pos c]
      have : bl g ≤ fP f := bl_le_iff.2 c
      omega
    · rw [if_neg c, if_neg c]
      have : bl (2 ^ fP f + g % 2 ^ fP f) = fP f + 1 := bl_range (by omega) (by rw [Nat.pow_succ]; omega)
      rw [this]
      have h1 : 0 < g / 2 ^ fP f := Nat.div_pos (by omega) hp
      omega
  unfold Rd
  rw [if_neg (by omega), hlast]
  have e0 : eG f g - eG f g = 0 := by omega
  rw [e0]
  have q : qd (nG f g) 0 = nG f g := by unfold qd; simp
  have h : hd (nG f g) 0 = false := by unfold hd; simp
  have r : rs (nG f g) 0 = false := by unfold rs; simp
  rw [q, h, r]
  unfold enc gOf
  rw [Bool.or_false, more_none, Bool.toNat_false, Nat.add_zero]
  have : (eG f g - fL f).toNat * 2 ^ fP f + nG f g = g := by
    unfold nG eG
    by_cases c : g < 2 ^ fP f
    · rw [if_pos c, if_pos c]
      have : (fL f - fL f).toNat = 0 := by omega
      rw [this]; omega
    · rw [if_neg c, if_neg c]
      have h1 : 0 < g / 2 ^ fP f := Nat.div_pos (by omega) hp
      have : (((g / 2 ^ fP f : Nat) : Int) - 1 + fL f - fL f).toNat = g / 2 ^ fP f - 1 := by omega
      rw [this, Nat.sub_mul, Nat.one_mul]
      have h2 : 1 * 2 ^ fP f ≤ g / 2 ^ fP f * 2 ^ fP f := Nat.mul_le_mul_right _ h1
      have h3 := Nat.div_add_mod g (2 ^ fP f)
      rw [Nat.mul_comm] at h3
      omega
  rw [this]
  unfold clip
  rw [if_pos hI]

theorem Rd_self {f : Int} (m : Int) {a : Nat} (ha : a < 2 ^ 64) (h : kd f a = 3) : Rd f m (bw f a) (nn f a) (ee f a) false = a := by
  obtain ⟨h1, h2, h3⟩ := kd3 h
  unfold nn ee
  rw [if_pos h, if_pos h, Rd_G f m _ h2 h3]
  exact (parts_of ha h1).symm

/-- Zeros play no part but by their signs. -/
theorem AddX_zero (f m : Int) (bx by' : Bool) (ex : Int) (Y : Nat) (ey : Int) (h0 : 0 < Y) : AddX f m bx 0 ex by' Y ey = Rd f m by' Y ey false := by
  unfold AddX
  simp only [Nat.zero_mul, Nat.zero_add, Nat.sub_zero, Nat.not_lt_zero, if_false]
  have hpos : 0 < Y * 2 ^ (ey - min ex ey).toNat := Nat.mul_pos h0 (Nat.two_pow_pos _)
  have hr : ∀ s, Rd f m s (Y * 2 ^ (ey - min ex ey).toNat) (min ex ey) false = Rd f m s Y ey false := by
    intro s
    have := Rd_scale f m s Y ey (ey - min ex ey).toNat
    have e : ey - ((ey - min ex ey).toNat : Int) = min ex ey := by omega
    rw [e] at this
    exact this
  rw [hr, hr]
  split
  · rename_i h; rw [h]
  · rw [if_neg (by omega)]

theorem AddX_comm (f m : Int) (bx : Bool) (X : Nat) (ex : Int) (by' : Bool) (Y : Nat) (ey : Int) : AddX f m bx X ex by' Y ey = AddX f m by' Y ey bx X ex := by
  unfold AddX
  rw [Int.min_comm ey ex]
  simp only
  generalize X * 2 ^ (ex - min ex ey).toNat = u
  generalize Y * 2 ^ (ey - min ex ey).toNat = v
  by_cases h : bx = by'
  · subst h
    simp only [if_true]
    rw [Nat.add_comm]
  · have h' : ¬ by' = bx := fun hh => h hh.symm
    simp only [h, h', if_false]
    by_cases c : u = v
    · subst c; simp
    · have c' : ¬ v = u := fun hh => c hh.symm
      simp only [c, c', if_false]
      by_cases d : v < u
      · have : ¬ u < v := by omega
        simp only [d, this, if_true, if_false]
      · have : u < v := by omega
        simp only [d, this, if_true, if_false]

/-! ### The program's way: 60 places below the greater one -/

def SumS (f m : Int) (bx : Bool) (X : Nat) (ex : Int) (by' : Bool) (Y : Nat) (ey : Int) : Nat :=
  let d := (min (ex - ey) 128).toNat
  let u := X * 2 ^ 60
  let v := Y * 2 ^ 60 / 2 ^ d
  let rest := decide (Y * 2 ^ 60 % 2 ^ d ≠ 0)
  if bx = by' then Rd f m bx (u + v) (ex - 60) rest
  else
    let w := v + rest.toNat
    if u < w then Rd f m by' (w - u) (ex - 60) rest
    else Rd f m (if u = w ∧ rest = false then m == 2 else bx) (u - w) (ex - 60) rest

theorem SumS_eq {f : Int} (m : Int) (bx : Bool) {X : Nat} {ex : Int} (by' : Bool) {Y : Nat} {ey : Int} (hX : X < 2 ^ (fP f + 1)) (hY : Y < 2 ^ (fP f + 1)) (hY0 : 0 < Y) (hle : ey ≤ ex) (hn : ey < ex → 2 ^ fP f ≤ X) :
    SumS f m bx X ex by' Y ey = AddX f m bx X ex by' Y ey := by
  have hf := fmt_le f
  have hY53 : Y < 2 ^ 53 := Nat.lt_of_lt_of_le hY (Nat.pow_le_pow_right (by decide) (by omega))
  obtain ⟨D, hD⟩ : ∃ D : Nat, ex - ey = (D : Int) := ⟨(ex - ey).toNat, by omega⟩
  have hmin : min ex ey = ey := by omega
  have eD : (ex - ey).toNat = D := by omega
  unfold SumS AddX
  simp only [hmin, eD, Int.sub_self, Int.toNat_zero, Nat.pow_zero, Nat.mul_one]
  rw [hD]
  have hd : (min (D : Int) 128).toNat = min D 128 := by omega
  rw [hd]
  by_cases c60 : D ≤ 60
  · -- no bit is lost
    have em : min D 128 = D := by omega
    have e2 : (2 : Nat) ^ 60 = 2 ^ (60 - D) * 2 ^ D := by rw [← Nat.pow_add]; congr 1; omega
    have hv : Y * 2 ^ 60 / 2 ^ D = Y * 2 ^ (60 - D) := by rw [e2, ← Nat.mul_assoc, Nat.mul_div_cancel _ (Nat.two_pow_pos D)]
    have hr : Y * 2 ^ 60 % 2 ^ D = 0 := by rw [e2, ← Nat.mul_assoc, Nat.mul_mod_left]
    have hu : X * 2 ^ 60 = X * 2 ^ D * 2 ^ (60 - D) := by rw [e2, Nat.mul_comm (2 ^ (60 - D)), ← Nat.mul_assoc]
    have ee' : ex - 60 = ey - ((60 - D : Nat) : Int) := by omega
    have hpos := Nat.two_pow_pos (60 - D)
    rw [em, hv, hr, hu, ee']
    simp only [ne_eq, not_true_eq_false, decide_false, Bool.toNat_false, Nat.add_zero]
    generalize hU : X * 2 ^ D = U at *
    rw [← Nat.add_mul, Rd_scale]
    split
    · rfl
    · by_cases c1 : U = Y
      · subst c1
        rw [if_neg (by omega), Nat.sub_self]
        simp [Rd]
      · by_cases c2 : Y < U
        · have k1 : ¬ U * 2 ^ (60 - D) < Y * 2 ^ (60 - D) := by
            have := Nat.mul_le_mul_right (2 ^ (60 - D)) (Nat.le_of_lt c2); omega
          have k2 : ¬ (U * 2 ^ (60 - D) = Y * 2 ^ (60 - D)) := fun h => c1 (Nat.eq_of_mul_eq_mul_right hpos h)
          rw [if_neg k1, if_neg c1, if_pos c2]
          simp only [k2, false_and, if_false]
          rw [← Nat.sub_mul, Rd_scale]
        · have k1 : U * 2 ^ (60 - D) < Y * 2 ^ (60 - D) := Nat.mul_lt_mul_of_pos_right (by omega) hpos
          rw [if_pos k1, if_neg c1, if_neg c2, ← Nat.sub_mul, Rd_scale]
  · have hXn : 2 ^ fP f ≤ X := hn (by omega)
    obtain ⟨j, hj⟩ : ∃ j, D = 60 + j := ⟨D - 60, by omega⟩
    have hj0 : 0 < j := by omega
    have hjp := Nat.two_pow_pos j
    have hlt113 : Y * 2 ^ 60 < 2 ^ 113 := by
      have := Nat.mul_lt_mul_of_pos_right hY53 (Nat.two_pow_pos 60)
      rw [← Nat.pow_add] at this
      exact this
    have hv : Y * 2 ^ 60 / 2 ^ (min D 128) = Y / 2 ^ j := by
      have h1 : Y * 2 ^ 60 / 2 ^ D = Y / 2 ^ j := by rw [hj, Nat.pow_add, Nat.mul_comm (2 ^ 60), Nat.mul_div_mul_right _ _ (Nat.two_pow_pos 60)]
      by_cases c : D ≤ 128
      · rw [Nat.min_eq_left c]; exact h1
      · rw [Nat.min_eq_right (by omega), ← h1, Nat.div_eq_of_lt (Nat.lt_of_lt_of_le hlt113 (Nat.pow_le_pow_right (by decide) (by omega))), Nat.div_eq_of_lt (Nat.lt_of_lt_of_le hlt113 (Nat.pow_le_pow_right (by decide) (by omega)))]
    have hr : decide (Y * 2 ^ 60 % 2 ^ (min D 128) ≠ 0) = decide (Y % 2 ^ j ≠ 0) := by
      have h1 : Y * 2 ^ 60 % 2 ^ D = Y % 2 ^ j * 2 ^ 60 := by rw [hj, Nat.pow_add, Nat.mul_comm (2 ^ 60), Nat.mul_mod_mul_right]
      have h2 : (Y * 2 ^ 60 % 2 ^ D ≠ 0) ↔ (Y % 2 ^ j ≠ 0) := by rw [h1]; omega
      by_cases c : D ≤ 128
      · rw [Nat.min_eq_left c]; simp only [h2]
      · have l1 : Y * 2 ^ 60 < 2 ^ 128 := Nat.lt_of_lt_of_le hlt113 (Nat.pow_le_pow_right (by decide) (by omega))
        have l2 : Y * 2 ^ 60 < 2 ^ D := Nat.lt_of_lt_of_le hlt113 (Nat.pow_le_pow_right (by decide) (by omega))
        rw [Nat.mod_eq_of_lt l2] at h2
        rw [Nat.min_eq_right (by omega), Nat.mod_eq_of_lt l1]
        simp only [h2]
    rw [hv, hr]
    have hdm := Nat.div_add_mod Y (2 ^ j)
    have htl := Nat.mod_lt Y hjp
    have hvle := Nat.div_le_self Y (2 ^ j)
    obtain ⟨v, hve⟩ : ∃ v, v = Y / 2 ^ j := ⟨_, rfl⟩
    obtain ⟨t, hte⟩ : ∃ t, t = Y % 2 ^ j := ⟨_, rfl⟩
    rw [← hve, ← hte] at hdm ⊢
    rw [← hte] at htl
    rw [← hve] at hvle
    have hXu : X * 2 ^ D = X * 2 ^ 60 * 2 ^ j := by rw [hj, Nat.pow_add, Nat.mul_assoc]
    obtain ⟨u, hu⟩ : ∃ u, u = X * 2 ^ 60 := ⟨_, rfl⟩
    have hub : 2 ^ (fP f + 60) ≤ u := by rw [hu, Nat.pow_add]; exact Nat.mul_le_mul_right _ hXn
    have hvb : v < 2 ^ (fP f + 1) := by omega
    have hpow : 2 ^ (fP f + 60) = 2 ^ (fP f + 1) * 2 ^ 59 := by rw [← Nat.pow_add]
    have hp1 := Nat.two_pow_pos (fP f + 1)
    rw [hXu, ← hu]
    have ee' : ex - 60 = ey + (j : Int) := by omega
    have es : ey = ex - 60 - (j : Int) := by omega
    have hY' : Y = v * 2 ^ j + t := by rw [Nat.mul_comm]; exact hdm.symm
    have big : ∀ n, 2 ^ (fP f + 58) ≤ n → fP f + 2 ≤ bl n := by
      intro n hn'
      refine Nat.le_of_not_lt fun h => ?_
      have := bl_le_iff.1 (show bl n ≤ fP f + 1 by omega)
      have : 2 ^ (fP f + 1) ≤ 2 ^ (fP f + 58) := Nat.pow_le_pow_right (by decide) (by omega)
      omega
    have hp58 : 2 ^ (fP f + 58) = 2 ^ (fP f + 1) * 2 ^ 57 := by rw [← Nat.pow_add]
    split
    · -- one sign
      have e1 : u * 2 ^ j + Y = (u + v) * 2 ^ j + t := by rw [hY', Nat.add_mul]; omega
      rw [e1]
      by_cases ct : t = 0
      · rw [ct]
        simp only [ne_eq, not_true_eq_false, decide_false, Nat.add_zero]
        rw [es, Rd_scale]
      · have : decide (t ≠ 0) = true := by simp [ct]
        rw [this, es, Rd_stick f m bx (ex - 60) (big _ (by omega)) (by omega) htl]
    · -- two signs
      have hgt : Y < u * 2 ^ j := by
        have h1 : (v + 1) * 2 ^ j ≤ u * 2 ^ j := Nat.mul_le_mul_right _ (by omega)
        rw [Nat.add_mul, Nat.one_mul] at h1
        omega
      rw [if_neg (show ¬ u * 2 ^ j = Y by omega), if_pos hgt]
      by_cases ct : t = 0
      · rw [ct]
        simp only [ne_eq, not_true_eq_false, decide_false, Bool.toNat_false, Nat.add_zero]
        rw [if_neg (by omega), if_neg (by omega)]
        have e1 : u * 2 ^ j - Y = (u - v) * 2 ^ j := by rw [hY', Nat.sub_mul]; omega
        rw [e1, es, Rd_scale]
      · have hd1 : decide (t ≠ 0) = true := by simp [ct]
        rw [hd1]
        simp only [Bool.toNat_true, Bool.true_eq_false, and_false, if_false]
        rw [if_neg (by omega)]
        have e1 : u * 2 ^ j - Y = (u - (v + 1)) * 2 ^ j + (2 ^ j - t) := by
          have h1 : (v + 1) * 2 ^ j ≤ u * 2 ^ j := Nat.mul_le_mul_right _ (by omega)
          rw [hY', Nat.sub_mul]
          rw [Nat.add_mul, Nat.one_mul] at h1 ⊢
          omega
        rw [e1, es, Rd_stick f m bx (ex - 60) (big _ (by omega)) (by omega) (by omega)]

end Go.Proofs.Ytbnmnkofekcodaa.N

/- What package soft's functions come to. Conditions: none. -/
namespace Go.Proofs.Ytbnmnkofekcodaa.N
set_option linter.unusedVariables false
set_option linter.unusedSimpArgs false
open Go Go.Ab

theorem bad_of_kd {f : Int} {a : Nat} (h : kd f a ≠ 0) : bad f a = false := by
  cases hb : bad f a with
  | false => rfl
  | true => exact absurd (by unfold kd; rw [hb]; rfl) h

theorem kd_beq0 (f : Int) (a : Nat) : (kd f a == 0) = decide (kd f a = 0) := by
  rw [Bool.eq_iff_iff]; simp

theorem Neg_k {R : Type} (k : Nat) (f : Int) {a : Nat} (ha : a < 2 ^ 64) (K : Int → Option R) : soft_Neg k f (a : Int) K = K ((NegS f a : Nat) : Int) := by
  unfold soft_Neg soft_NegT NegS
  rw [apart_k k f ha]
  by_cases h : kd f a = 0
  · have : (kd f a == 0) = true := by rw [h]; rfl
    rw [this, cond_true, nan_k, if_pos h]; rfl
  · have : (kd f a == 0) = false := by rw [beq_eq_false_iff_ne]; exact h
    rw [this, cond_false, sign_k, sg_true, sign_turn (lt_2B ha (bad_of_kd h)), if_neg h]

theorem Abs_k {R : Type} (k : Nat) (f : Int) {a : Nat} (ha : a < 2 ^ 64) (K : Int → Option R) : soft_Abs k f (a : Int) K = K ((AbsS f a : Nat) : Int) := by
  unfold soft_Abs soft_AbsT AbsS
  rw [apart_k k f ha]
  by_cases h : kd f a = 0
  · have : (kd f a == 0) = true := by rw [h]; rfl
    rw [this, cond_true, nan_k, if_pos h]; rfl
  · have : (kd f a == 0) = false := by rw [beq_eq_false_iff_ne]; exact h
    rw [this, cond_false, sign_k, sg_true, sign_off (lt_2B ha (bad_of_kd h)), if_neg h]

theorem Finite_k {R : Type} (k : Nat) (f : Int) {a : Nat} (ha : a < 2 ^ 64) (K : Bool → Option R) : soft_Finite k f (a : Int) K = K (FinS f a) := by
  unfold soft_Finite soft_FiniteT FinS
  rw [apart_k k f ha]

theorem Most_k {R : Type} (k : Nat) (f : Int) (K : Int → Option R) : soft_Most k f K = K ((fI f - 1 : Nat) : Int) := by
  unfold soft_Most soft_MostT
  rw [shapeOf_k, most_k]
  have : sg f false = 0 := rfl
  rw [this, Nat.zero_add]

theorem Nan_k {R : Type} (k : Nat) (f : Int) (K : Int → Option R) : soft_Nan k f K = K ((NAN f : Nat) : Int) := by
  unfold soft_Nan soft_NanT
  rw [shapeOf_k, nan_k]; rfl

theorem nn_sub {f : Int} {a : Nat} (h : kd f a = 3) : (nn f a / 2 ^ fP f = 0) ↔ gg f a < 2 ^ fP f := by
  have hp := fP_pos f
  have hm := Nat.mod_lt (gg f a) hp
  unfold nn nG
  rw [if_pos h]
  split
  · rename_i c
    simp [Nat.div_eq_of_lt c, c]
  · rename_i c
    constructor
    · intro h0
      have : 0 < (2 ^ fP f + gg f a % 2 ^ fP f) / 2 ^ fP f := Nat.div_pos (by omega) hp
      omega
    · intro h0; exact absurd h0 c

theorem Class_k {R : Type} (k : Nat) (f : Int) {a : Nat} (ha : a < 2 ^ 64) (K : Int → Option R) : soft_Class k f (a : Int) K = K (ClassS f a) := by
  unfold soft_Class soft_ClassT ClassS
  have hf := fmt_le f
  rw [apart_k k f ha]
  have c0 : ¬ (((fP f : Nat) : Int) < 0) := by omega
  have tail : bad f a = false → (cond (kd f a == 0) (K 5) (cond (kd f a == 1) (K 4) (cond (kd f a == 2) (K 1) (cond (decide (((fP f : Nat) : Int) < 0)) none (cond ((shr .u64 ((nn f a : Nat) : Int) ((fP f : Nat) : Int)) == 0) (K 2) (K 3)))))) =
      K (if bad f a = true then 0 else if kd f a = 0 then 5 else if kd f a = 1 then 4 else if kd f a = 2 then 1 else if gg f a < 2 ^ fP f then 2 else 3) := by
    intro hb
    rw [hb, shr_pow (by omega), nat_beq0]
    rcases kd_vals f a with h | h | h | h
    · rw [h]; rfl
    · rw [h]; rfl
    · rw [h]; rfl
    · have hs := nn_sub h
      rw [h]
      simp only [c0, decide_false, cond_false, Bool.false_eq_true, if_false, show ((3 : Int) == 0) = false from rfl, show ((3 : Int) == 1) = false from rfl, show ((3 : Int) == 2) = false from rfl, show ¬ ((3 : Int) = 0) from by decide, show ¬ ((3 : Int) = 1) from by decide, show ¬ ((3 : Int) = 2) from by decide]
      by_cases c : gg f a < 2 ^ fP f
      · have : (nn f a / 2 ^ fP f == 0) = true := by rw [beq_iff_eq]; exact hs.2 c
        rw [this, if_pos c]; rfl
      · have : (nn f a / 2 ^ fP f == 0) = false := by rw [beq_eq_false_iff_ne]; exact fun h => c (hs.1 h)
        rw [this, if_neg c]; rfl
  by_cases hf1 : f = 1
  · have e : (f == 1) = true := by rw [beq_iff_eq]; exact hf1
    rw [e, cond_true, show shr .u64 (a : Int) 32 = ((a / 2 ^ 32 : Nat) : Int) from shr_nat a 32 (by decide), nat_bne0]
    by_cases hb : 2 ^ 32 ≤ a
    · have : (a / 2 ^ 32 != 0) = true := by rw [bne_iff_ne]; omega
      have hbd : bad f a = true := by unfold bad; rw [decide_eq_true_iff]; exact ⟨hf1, hb⟩
      rw [this, hbd]; rfl
    · have : (a / 2 ^ 32 != 0) = false := by
        have : a / 2 ^ 32 = 0 := Nat.div_eq_of_lt (by omega)
        rw [this]; rfl
      rw [this, cond_false]
      refine tail ?_
      unfold bad; rw [decide_eq_false_iff_not]; exact fun h => hb h.2
  · have e : (f == 1) = false := by rw [beq_eq_false_iff_ne]; exact hf1
    rw [e, cond_false]
    refine tail ?_
    unfold bad; rw [decide_eq_false_iff_not]; exact fun h => hf1 h.1

/-! ### Compare -/

theorem cmpI {R : Type} (k : Nat) (x y : Int) (K : Int → Option R) : cmp_Compare_int64 k x y K = K (sgnI x y) := by
  unfold cmp_Compare_int64 cmp_Compare_int64T cmp_isNaN_int64 cmp_isNaN_int64T sgnI
  simp only [bne_self_eq_false, cond_false]
  by_cases h1 : x < y
  · simp only [h1, decide_true, cond_true, if_true]
  · by_cases h2 : y < x
    · have : x > y := h2
      simp only [h1, this, h2, decide_true, decide_false, cond_true, cond_false, if_true, if_false]
    · have : ¬ x > y := h2
      simp only [h1, this, h2, decide_false, cond_false, if_false]

theorem rank_k {R : Type} (k : Nat) (f : Int) {a : Nat} (ha : a < 2 ^ 64) (hk : kd f a ≠ 0) (x4 x6 x7 : Int) (K : Int → Option R) :
    soft_float_rank k ((fP f : Nat) : Int) ((fE f : Nat) : Int) (fL f) x4 (bw f a) x6 x7 (a : Int) K = K (rank f a) := by
  unfold soft_float_rank soft_float_rankT rank
  have hg := gg_lt f a
  have hB := fB_le f
  have e1 : Wi64 ((gg f a : Nat) : Int) = ((gg f a : Nat) : Int) := wrap_i64 (by omega) (by omega)
  have e2 : Wi64 (0 - ((gg f a : Nat) : Int)) = -((gg f a : Nat) : Int) := by rw [wrap_i64 (by omega) (by omega)]; omega
  rw [sign_k, sg_true, sign_off (lt_2B ha (bad_of_kd hk)), e1, e2]
  cases bw f a <;> rfl

theorem Compare_k {R : Type} (k : Nat) (f : Int) {a b : Nat} (ha : a < 2 ^ 64) (hb : b < 2 ^ 64) (K : Int → Bool → Option R) : soft_Compare k f (a : Int) (b : Int) K = K (CmpS f a b).1 (CmpS f a b).2 := by
  unfold soft_Compare soft_CompareT CmpS
  rw [apart_k k f ha, apart_k k f hb]
  by_cases h1 : kd f a = 0
  · have : (kd f a == 0) = true := by rw [h1]; rfl
    rw [this, if_pos (.inl h1)]; rfl
  · have e1 : (kd f a == 0) = false := by rw [beq_eq_false_iff_ne]; exact h1
    by_cases h2 : kd f b = 0
    · have : (kd f b == 0) = true := by rw [h2]; rfl
      rw [e1, this, if_pos (.inr h2)]; rfl
    · have e2 : (kd f b == 0) = false := by rw [beq_eq_false_iff_ne]; exact h2
      rw [e1, e2, if_neg (by simp [h1, h2])]
      simp only [cond_false]
      rw [rank_k k f ha h1, rank_k k f hb h2, cmpI]


end Go.Proofs.Ytbnmnkofekcodaa.N

/- Products and quotients of package soft. Conditions: none. -/
namespace Go.Proofs.Ytbnmnkofekcodaa.N
set_option linter.unusedVariables false
set_option linter.unusedSimpArgs false
open Go Go.Ab

/-! ### Products, quotients -/

theorem xor_bw (x y : Bool) : (!(x == y)) = (x != y) := rfl

theorem hl0 {x : Nat} (h : x < 2 ^ 64) : (0 : Int) = hi x ∧ (x : Int) = lo x := ⟨zero_hi h, (lo_small h).symm⟩

theorem Len_64 {R : Type} (k : Nat) {X : Nat} (h : X < 2 ^ 64) (J : Int → Option R) : wide_Len k 0 (X : Int) J = J ((bl X : Nat) : Int) := by
  have := Len_hl k (A := X) (by omega) J
  rw [hi_small h, lo_small h] at this; exact this
theorem Shl_64 {R : Type} (k : Nat) {X : Nat} {n : Int} (h : X < 2 ^ 64) (hn : (Lit.int .i64 n).wf = true) (J : Int → Int → Option R) : wide_Shl k 0 (X : Int) n J = J (hi (X * 2 ^ n.toNat % 2 ^ 128)) (lo (X * 2 ^ n.toNat % 2 ^ 128)) := by
  have := Shl_hl k (A := X) (by omega) hn J
  rw [hi_small h, lo_small h] at this; exact this

theorem Mul_k {R : Type} (k : Nat) (f m : Int) {a b : Nat} (ha : a < 2 ^ 64) (hb : b < 2 ^ 64) (K : Int → Option R) : soft_Mul k f m (a : Int) (b : Int) K = K ((MulS f m a b : Nat) : Int) := by
  unfold soft_Mul soft_MulT
  rw [apart_k k f ha, apart_k k f hb]
  have n1 := nn_lt64 f a; have n2 := nn_lt64 f b
  have b1 := ee_bounds f a; have b2 := ee_bounds f b
  have hprod : nn f a * nn f b < 2 ^ 128 := by
    have := Nat.mul_lt_mul'' n1 n2
    rw [← Nat.pow_add] at this
    exact Nat.lt_of_lt_of_le this (Nat.pow_le_pow_right (by decide) (by decide))
  have w : Wi64 (ee f a + ee f b) = ee f a + ee f b := wrap_i64 (by omega) (by omega)
  have hr : ∀ J : Int → Option R, (wide_Mul k ((nn f a : Nat) : Int) ((nn f b : Nat) : Int) (fun r18 r19 => soft_shape_round k ((fP f : Nat) : Int) ((fE f : Nat) : Int) (fL f) m (!(bw f a == bw f b)) r18 r19 (Wi64 (ee f a + ee f b)) false J)) =
      J ((Rd f m (bw f a != bw f b) (nn f a * nn f b) (ee f a + ee f b) false : Nat) : Int) := by
    intro J
    rw [Mul_hl k (by omega) (by omega), w, round_k k f m _ hprod (by omega) (by omega) (.inr rfl)]
    rfl
  unfold MulS
  rcases kd_vals f a with h | h | h | h <;> rcases kd_vals f b with h' | h' | h' | h'
  case inr.inr.inl.inr.inr.inl | inr.inr.inl.inr.inr.inr | inr.inr.inr.inr.inr.inl | inr.inr.inr.inr.inr.inr => rw [h, h']; simp only [Int.reduceLT, Int.reduceGT, Int.reduceBEq, Int.reduceEq, Int.reduceBNe, reduceIte, cond_true, cond_false, or_true, true_or, or_false, or_self, and_true, true_and, and_false, false_and, and_self, decide_true, decide_false, ne_eq]; exact hr K
  all_goals rw [h, h']; simp only [Int.reduceLT, Int.reduceGT, Int.reduceBEq, Int.reduceEq, Int.reduceBNe, reduceIte, cond_true, cond_false, or_true, true_or, or_false, or_self, and_true, true_and, and_false, false_and, and_self, decide_true, decide_false, ne_eq, nan_k, inf_k, sign_k, xor_bw, NAN]

theorem Div_k {R : Type} {k : Nat} (hk : 5000 ≤ k) (f m : Int) {a b : Nat} (ha : a < 2 ^ 64) (hb : b < 2 ^ 64) (K : Int → Option R) : soft_Div k f m (a : Int) (b : Int) K = K ((DivS f m a b : Nat) : Int) := by
  unfold soft_Div soft_DivT
  rw [apart_k k f ha, apart_k k f hb]
  have n1 := nn_lt64 f a; have n2 := nn_lt64 f b
  have b1 := ee_bounds f a; have b2 := ee_bounds f b
  have hbl : bl (nn f a) ≤ 53 := bl_le_iff.2 n1
  have w1 : Wi64 (127 - ((bl (nn f a) : Nat) : Int)) = ((127 - bl (nn f a) : Nat) : Int) := by rw [wrap_i64 (by omega) (by omega)]; omega
  have w2 : Wi64 (Wi64 (ee f a - ee f b) - ((127 - bl (nn f a) : Nat) : Int)) = ee f a - ee f b - ((127 - bl (nn f a) : Nat) : Int) := by
    rw [wrap_i64 (x := ee f a - ee f b) (by omega) (by omega), wrap_i64 (by omega) (by omega)]
  have hr : kd f a = 3 → kd f b = 3 → ∀ J : Int → Option R, (wide_Len k 0 ((nn f a : Nat) : Int) (fun r21 =>
                      wide_Shl k 0 ((nn f a : Nat) : Int) (Wi64 (127 - r21)) (fun r22 r23 =>
                        wide_Div k r22 r23 ((nn f b : Nat) : Int) (fun r24 r25 r26 =>
                          soft_shape_round k ((fP f : Nat) : Int) ((fE f : Nat) : Int) (fL f) m (!(bw f a == bw f b)) r24 r25 (Wi64 ((Wi64 (ee f a - ee f b)) - (Wi64 (127 - r21)))) (r26 != 0) J)))) =
      J ((DivX f m (bw f a != bw f b) (nn f a) (nn f b) (ee f a - ee f b) (127 - bl (nn f a)) : Nat) : Int) := by
    intro h h' J
    have hn1 := nn_bounds h; have hn2 := nn_bounds h'
    rw [Len_64 k (by omega)]
    simp only [w1]
    rw [Shl_64 k (by omega) (wf_nat (by omega)), Int.toNat_natCast]
    have hsh : nn f a * 2 ^ (127 - bl (nn f a)) < 2 ^ 127 := by
      have h1 := bl_up (nn f a)
      have := Nat.mul_lt_mul_of_pos_right h1 (Nat.two_pow_pos (127 - bl (nn f a)))
      rw [← Nat.pow_add] at this
      have e : bl (nn f a) + (127 - bl (nn f a)) = 127 := by omega
      rw [e] at this; exact this
    have hsh2 : 2 ^ 126 ≤ nn f a * 2 ^ (127 - bl (nn f a)) := by
      have h1 := bl_low hn1.1
      have h2 := bl_pos hn1.1
      have := Nat.mul_le_mul_right (2 ^ (127 - bl (nn f a))) h1
      rw [← Nat.pow_add] at this
      have e : bl (nn f a) - 1 + (127 - bl (nn f a)) = 126 := by omega
      rw [e] at this; exact this
    rw [Nat.mod_eq_of_lt (by omega), Div_hl hk (by omega) (by omega) (by omega), w2]
    rw [nat_bne0]
    have hq : nn f a * 2 ^ (127 - bl (nn f a)) / nn f b < 2 ^ 128 := Nat.lt_of_le_of_lt (Nat.div_le_self _ _) (by omega)
    have hqp : 0 < nn f a * 2 ^ (127 - bl (nn f a)) / nn f b := Nat.div_pos (by omega) hn2.1
    rw [round_k k f m _ hq (by omega) (by omega) (.inl hqp)]
    unfold DivX
    congr 3
    rw [Bool.eq_iff_iff]; simp
  unfold DivS
  rcases kd_vals f a with h | h | h | h <;> rcases kd_vals f b with h' | h' | h' | h'
  case inr.inr.inr.inr.inr.inr =>
    have hr' := hr h h' K
    rw [h, h']; simp only [Int.reduceLT, Int.reduceGT, Int.reduceBEq, Int.reduceEq, Int.reduceBNe, reduceIte, cond_true, cond_false, or_true, true_or, or_false, or_self, and_true, true_and, and_false, false_and, and_self, decide_true, decide_false, ne_eq]; exact hr'
  all_goals rw [h, h']; simp only [Int.reduceLT, Int.reduceGT, Int.reduceBEq, Int.reduceEq, Int.reduceBNe, reduceIte, cond_true, cond_false, or_true, true_or, or_false, or_self, and_true, true_and, and_false, false_and, and_self, decide_true, decide_false, ne_eq, nan_k, inf_k, sign_k, xor_bw, NAN]

end Go.Proofs.Ytbnmnkofekcodaa.N

/- Sums of package soft: two numbers. Conditions: none. -/
namespace Go.Proofs.Ytbnmnkofekcodaa.N
set_option linter.unusedVariables false
set_option linter.unusedSimpArgs false
open Go Go.Ab

/-! ### Sums -/

theorem x60 {X : Nat} (h : X < 2 ^ 53) : X * 2 ^ 60 < 2 ^ 113 := Nat.lt_of_lt_of_eq (Nat.mul_lt_mul_of_pos_right h (Nat.two_pow_pos 60)) (Nat.pow_add 2 53 60).symm
theorem x128 {u : Nat} (h : u < 2 ^ 113) : u < 2 ^ 128 := Nat.lt_of_lt_of_le h (Nat.pow_le_pow_right (by decide) (by decide))
theorem x83 {X p : Nat} (hp : 23 ≤ p) (h : 2 ^ p ≤ X) : 2 ^ 83 ≤ X * 2 ^ 60 := by
  have h3 : 2 ^ 23 ≤ 2 ^ p := Nat.pow_le_pow_right (by decide) hp
  have := Nat.mul_le_mul_right (2 ^ 60) (Nat.le_trans h3 h)
  rw [← Nat.pow_add] at this
  exact this
theorem x_shl {R : Type} (k : Nat) {X : Nat} (h : X < 2 ^ 53) (J : Int → Int → Option R) : wide_Shl k 0 (X : Int) 60 J = J (hi (X * 2 ^ 60)) (lo (X * 2 ^ 60)) := by
  have := Shl_64 k (X := X) (n := 60) (Nat.lt_trans h (by decide)) (by decide) J
  have e : X * 2 ^ (60 : Int).toNat % 2 ^ 128 = X * 2 ^ 60 := Nat.mod_eq_of_lt (x128 (x60 h))
  rw [e] at this; exact this

theorem hl_zero (n : Nat) : ((hi n == 0) && (lo n == 0)) = (n == 0) := by
  have := hl_beq (A := n) (B := 0)
  rw [show hi 0 = 0 from by decide, show lo 0 = 0 from by decide] at this
  exact this

theorem diff_k {R : Type} (k : Nat) (f m : Int) (bx by' : Bool) {u w : Nat} (hu : u < 2 ^ 113) (hw : w < 2 ^ 114) {ex : Int} (b1 : -1074 ≤ ex) (b2 : ex ≤ 1897) {rest : Bool} (hpos : 0 < u - w ∨ 0 < w - u ∨ rest = false) (K : Int → Option R) :
    (wide_Sub k (hi u) (lo u) (hi w) (lo w) (fun r15 r16 r17 =>
                cond r17 (
                  wide_Sub k (hi w) (lo w) (hi u) (lo u) (fun r18 r19 r20 =>
                    cond ((r18 == 0) && (r19 == 0)) (
                      cond (!rest) (
                        soft_shape_round k ((fP f : Nat) : Int) ((fE f : Nat) : Int) (fL f) m (m == 2) r18 r19 (ex - 60) rest K) (
                        soft_shape_round k ((fP f : Nat) : Int) ((fE f : Nat) : Int) (fL f) m by' r18 r19 (ex - 60) rest K)) (
                      soft_shape_round k ((fP f : Nat) : Int) ((fE f : Nat) : Int) (fL f) m by' r18 r19 (ex - 60) rest K))) (
                  cond ((r15 == 0) && (r16 == 0)) (
                    cond (!rest) (
                      soft_shape_round k ((fP f : Nat) : Int) ((fE f : Nat) : Int) (fL f) m (m == 2) r15 r16 (ex - 60) rest K) (
                      soft_shape_round k ((fP f : Nat) : Int) ((fE f : Nat) : Int) (fL f) m bx r15 r16 (ex - 60) rest K)) (
                    soft_shape_round k ((fP f : Nat) : Int) ((fE f : Nat) : Int) (fL f) m bx r15 r16 (ex - 60) rest K)))) =
        K ((if u < w then Rd f m by' (w - u) (ex - 60) rest else Rd f m (if u = w ∧ rest = false then m == 2 else bx) (u - w) (ex - 60) rest : Nat) : Int) := by
  rw [Sub_hl k (by omega) (by omega)]
  by_cases c : u < w
  · have e1 : (w + 2 ^ 128 - u) % 2 ^ 128 = w - u := by omega
    have hc : decide (u < w) = true := decide_eq_true c
    have hb : (w - u == 0) = false := by rw [beq_eq_false_iff_ne]; omega
    rw [if_pos c, hc, cond_true, Sub_hl k (by omega) (by omega), e1, hl_zero, hb, cond_false]
    exact round_k k f m by' (by omega) (by omega) (by omega) (.inl (by omega)) K
  · have e1 : (u + 2 ^ 128 - w) % 2 ^ 128 = u - w := by omega
    have hc : decide (u < w) = false := decide_eq_false c
    rw [if_neg c, hc, cond_false, e1, hl_zero]
    by_cases ce : u = w
    · have hr : rest = false := by
        rcases hpos with h | h | h
        · omega
        · omega
        · exact h
      have h0 : u - w = 0 := by omega
      have hb0 : ((0 : Nat) == 0) = true := rfl
      rw [if_pos ⟨ce, hr⟩, h0, hr, hb0, cond_true, Bool.not_false, cond_true]
      exact round_k k f m (m == 2) (N := 0) (Nat.two_pow_pos _) (by omega) (by omega) (.inr rfl) K
    · have hb : (u - w == 0) = false := by rw [beq_eq_false_iff_ne]; omega
      have hn : ¬ (u = w ∧ rest = false) := fun h => ce h.1
      rw [if_neg hn, hb, cond_false]
      exact round_k k f m bx (by omega) (by omega) (by omega) (.inl (by omega)) K

theorem sum_k {R : Type} {k : Nat} (f m : Int) {X Y : Nat} {ex ey : Int} (bx by' : Bool) (hX : X < 2 ^ (fP f + 1)) (hY : Y < 2 ^ (fP f + 1)) (hX0 : 0 < X) (hY0 : 0 < Y) (hle : ey ≤ ex) (hn : ey < ex → 2 ^ fP f ≤ X)
    (b1 : -1074 ≤ ey) (b2 : ex ≤ 1897) (p4 p9 p10 p11 p12 : Int) (K : Int → Option R) :
    soft_sum k m ((fP f : Nat) : Int) ((fE f : Nat) : Int) (fL f) p4 bx (X : Int) ex p9 p10 p11 p12 by' (Y : Int) ey K = K ((AddX f m bx X ex by' Y ey : Nat) : Int) := by
  have hf := fmt_le f
  have hX53 : X < 2 ^ 53 := Nat.lt_of_lt_of_le hX (Nat.pow_le_pow_right (by decide) (by omega))
  have hY53 : Y < 2 ^ 53 := Nat.lt_of_lt_of_le hY (Nat.pow_le_pow_right (by decide) (by omega))
  rw [← SumS_eq m bx by' hX hY hY0 hle hn]
  unfold soft_sum soft_sumT SumS
  obtain ⟨d, hd⟩ : ∃ d : Nat, d = (min (ex - ey) 128).toNat := ⟨_, rfl⟩
  have hd128 : d ≤ 128 := by omega
  have w1 : (if 128 < Wi64 (ex - ey) then 128 else Wi64 (ex - ey)) = (d : Int) := by
    rw [wrap_i64 (by omega) (by omega)]; split <;> omega
  have w2 : Wi64 (ex - 60) = ex - 60 := wrap_i64 (by omega) (by omega)
  simp only [w1, w2, ← hd]
  have sX := fun J => x_shl (R := R) k hX53 J
  have sY := fun J => x_shl (R := R) k hY53 J
  rw [sX, sY]
  have hY128 : Y * 2 ^ 60 < 2 ^ 128 := x128 (x60 hY53)
  have hwd : (Lit.int .i64 (d : Int)).wf = true := wf_nat (by omega)
  rw [Shr_hl k hY128 hwd, Int.toNat_natCast]
  have hu : X * 2 ^ 60 < 2 ^ 113 := x60 hX53
  have hu0 : 0 < X * 2 ^ 60 := Nat.mul_pos hX0 (Nat.two_pow_pos 60)
  have hvY : Y * 2 ^ 60 < 2 ^ 113 := x60 hY53
  have hv := Nat.div_le_self (Y * 2 ^ 60) (2 ^ d)
  have hX23 : 2 ^ fP f ≤ X → 2 ^ 83 ≤ X * 2 ^ 60 := fun h => x83 hf.1 h
  obtain ⟨u, hue⟩ : ∃ u, u = X * 2 ^ 60 := ⟨_, rfl⟩
  obtain ⟨v, hvv⟩ : ∃ v, v = Y * 2 ^ 60 / 2 ^ d := ⟨_, rfl⟩
  obtain ⟨rest, hrr⟩ : ∃ r, r = decide (Y * 2 ^ 60 % 2 ^ d ≠ 0) := ⟨_, rfl⟩
  rw [← hue, ← hvv, ← hrr]
  rw [← hue] at hu hu0 hX23
  rw [← hvv] at hv
  clear hue sX sY hY128
  have hv113 : v < 2 ^ 113 := Nat.lt_of_le_of_lt hv hvY
  clear hv
  cases hs : (bx == by') with
  | true =>
    have hsb : bx = by' := by simpa using hs
    rw [cond_true, Add_hl k (by omega) (by omega), Nat.mod_eq_of_lt (by omega), if_pos hsb]
    exact round_k k f m bx (by omega) (by omega) (by omega) (.inl (by omega)) K
  | false =>
    have hsb : ¬ bx = by' := by simpa using hs
    rw [cond_false, if_neg hsb]
    cases hrest : rest with
    | true =>
      rw [cond_true, Bool.toNat_true]
      have hone : (0 : Int) = hi 1 ∧ (1 : Int) = lo 1 := by decide
      have ha1 := Add_hl (R := R) k (A := v) (B := 1) (by omega) (by decide)
      rw [← hone.1, ← hone.2] at ha1
      rw [ha1, Nat.mod_eq_of_lt (by omega)]
      refine diff_k k f m bx by' hu (by omega) (by omega) b2 ?_ K
      -- a rest means that the other one is much greater
      have hD : 60 < d := by
        refine Nat.lt_of_not_le fun hle => ?_
        have e2 : (2 : Nat) ^ 60 = 2 ^ (60 - d) * 2 ^ d := by rw [← Nat.pow_add]; congr 1; omega
        have : Y * 2 ^ 60 % 2 ^ d = 0 := by rw [e2, ← Nat.mul_assoc, Nat.mul_mod_left]
        rw [this, hrest] at hrr
        simp at hrr
      have hXn := hX23 (hn (by omega))
      refine .inl ?_
      have h1 : 2 ^ 61 ≤ 2 ^ d := Nat.pow_le_pow_right (by decide) hD
      have h2 : v < 2 ^ 52 := by
        have h3 : v ≤ Y * 2 ^ 60 / 2 ^ 61 := by rw [hvv]; exact Nat.div_le_div_left h1 (Nat.two_pow_pos _)
        refine Nat.lt_of_le_of_lt h3 ?_
        rw [Nat.div_lt_iff_lt_mul (Nat.two_pow_pos _), ← Nat.pow_add]
        exact hvY
      clear hvv hvY hrr
      omega
    | false =>
      rw [cond_false, Bool.toNat_false, Nat.add_zero]
      exact diff_k k f m bx by' (w := v) hu (by omega) (ex := ex) (by omega) b2 (.inr (.inr rfl)) K


end Go.Proofs.Ytbnmnkofekcodaa.N

/- Sums of package soft. Conditions: none. -/
namespace Go.Proofs.Ytbnmnkofekcodaa.N
set_option linter.unusedVariables false
set_option linter.unusedSimpArgs false
open Go Go.Ab

theorem ee_norm {f : Int} {a : Nat} (h : kd f a = 3) {e : Int} (he : fL f ≤ e) (hlt : e < ee f a) : 2 ^ fP f ≤ nn f a := by
  unfold ee at hlt; unfold nn
  rw [if_pos h] at hlt ⊢
  unfold eG at hlt; unfold nG
  split at hlt
  · omega
  · rename_i c; rw [if_neg c]; omega

theorem c0_sum {R : Type} (k : Nat) (f m : Int) {a b : Nat} (h : kd f a = 3) (h' : kd f b = 3) (K : Int → Option R) : (cond (decide (ee f a < ee f b))
      (soft_Add_c0 k m ((fP f : Nat) : Int) ((fE f : Nat) : Int) (fL f) 3 (bw f b) ((nn f b : Nat) : Int) (ee f b) ((fP f : Nat) : Int) ((fE f : Nat) : Int) (fL f) 3 (bw f a) ((nn f a : Nat) : Int) (ee f a) K)
      (soft_Add_c0 k m ((fP f : Nat) : Int) ((fE f : Nat) : Int) (fL f) 3 (bw f a) ((nn f a : Nat) : Int) (ee f a) ((fP f : Nat) : Int) ((fE f : Nat) : Int) (fL f) 3 (bw f b) ((nn f b : Nat) : Int) (ee f b) K)) =
      K ((AddX f m (bw f a) (nn f a) (ee f a) (bw f b) (nn f b) (ee f b) : Nat) : Int) := by
  have hf := fmt_le f
  have h1 := nn_bounds h; have h2 := nn_bounds h'
  unfold soft_Add_c0 soft_Add_c0T
  by_cases c : ee f a < ee f b
  · have hc : decide (ee f a < ee f b) = true := decide_eq_true c
    rw [hc, cond_true, AddX_comm]
    exact sum_k f m _ _ h2.2.1 h1.2.1 h2.1 h1.1 (by omega) (fun h3 => ee_norm h' h1.2.2.1 h3) (by omega) (by omega) _ _ _ _ _ K
  · have hc : decide (ee f a < ee f b) = false := decide_eq_false c
    rw [hc, cond_false]
    exact sum_k f m _ _ h1.2.1 h2.2.1 h1.1 h2.1 (by omega) (fun h3 => ee_norm h h2.2.2.1 h3) (by omega) (by omega) _ _ _ _ _ K

theorem AddX_zz (f m : Int) (bx by' : Bool) (ex ey : Int) : AddX f m bx 0 ex by' 0 ey = if bx = by' then sg f bx else sg f (m == 2) := by
  unfold AddX
  simp only [Nat.zero_mul, Nat.add_zero]
  by_cases h : bx = by'
  · rw [if_pos h, if_pos h]; unfold Rd; rw [if_pos ⟨rfl, rfl⟩]
  · rw [if_neg h, if_neg h, if_pos trivial]

theorem kd2 {f : Int} {c : Nat} (h : kd f c = 2) : gg f c = 0 := by
  unfold kd at h
  split at h
  · cases h
  · split at h
    · cases h
    · split at h
      · cases h
      · split at h
        · assumption
        · cases h

theorem zero_is {f : Int} {c : Nat} (hc : c < 2 ^ 64) (h : kd f c = 2) : c = sg f (bw f c) := by
  have hp := parts_of hc (bad_of_kd (by rw [h]; decide))
  rw [kd2 h] at hp; exact hp

end Go.Proofs.Ytbnmnkofekcodaa.N

/- Sums of package soft. Conditions: none. -/
namespace Go.Proofs.Ytbnmnkofekcodaa.N
set_option linter.unusedVariables false
set_option linter.unusedSimpArgs false
open Go Go.Ab

theorem Add_k {R : Type} {k : Nat} (f m : Int) {a b : Nat} (ha : a < 2 ^ 64) (hb : b < 2 ^ 64) (K : Int → Option R) : soft_Add k f m (a : Int) (b : Int) K = K ((AddS f m a b : Nat) : Int) := by
  unfold soft_Add soft_AddT
  rw [apart_k k f ha, apart_k k f hb]
  unfold AddS
  rcases kd_vals f a with h | h | h | h <;> rcases kd_vals f b with h' | h' | h' | h'
  case inl.inl | inl.inr.inl | inl.inr.inr.inl | inl.inr.inr.inr | inr.inl.inl | inr.inr.inl.inl | inr.inr.inr.inl => rw [h, h']; simp only [Int.reduceLT, Int.reduceGT, Int.reduceBEq, Int.reduceEq, Int.reduceBNe, reduceIte, cond_true, cond_false, or_true, true_or, or_false, or_self, and_true, true_and, and_false, false_and, and_self, decide_true, decide_false, ne_eq]; exact nan_k k f _ K
  case inr.inl.inr.inl =>
    have hbx : (!(bw f a == bw f b)) = decide (bw f a ≠ bw f b) := by cases bw f a <;> cases bw f b <;> rfl
    rw [h, h', hbx]
    by_cases c : bw f a = bw f b
    · have hc : decide (bw f a ≠ bw f b) = false := decide_eq_false (fun h => h c)
      rw [hc, if_neg (by simp [c]), if_pos rfl]
      simp only [Int.reduceBEq, cond_true, cond_false]
    · have hc : decide (bw f a ≠ bw f b) = true := decide_eq_true c
      rw [hc, if_pos (.inr (.inr ⟨rfl, rfl, c⟩))]
      simp only [Int.reduceBEq, cond_true, cond_false]
      exact nan_k k f _ K
  case inr.inl.inr.inr.inl | inr.inl.inr.inr.inr | inr.inr.inl.inr.inl | inr.inr.inr.inr.inl => rw [h, h']; simp only [Int.reduceLT, Int.reduceGT, Int.reduceBEq, Int.reduceEq, Int.reduceBNe, reduceIte, cond_true, cond_false, or_true, true_or, or_false, or_self, and_true, true_and, and_false, false_and, and_self, decide_true, decide_false, ne_eq]
  case inr.inr.inl.inr.inr.inl =>
    have hz := AddX_zz f m (bw f a) (bw f b) (ee f a) (ee f b)
    have hb' := zero_is hb h'
    have ha' := zero_is ha h
    have e : (if kd f a = 0 ∨ kd f b = 0 ∨ (kd f a = 1 ∧ kd f b = 1 ∧ bw f a ≠ bw f b) then NAN f else if kd f a = 1 then a else if kd f b = 1 then b else AddX f m (bw f a) (nn f a) (ee f a) (bw f b) (nn f b) (ee f b)) =
        if bw f a = bw f b then sg f (bw f a) else sg f (m == 2) := by
      rw [if_neg (by simp [h, h']), if_neg (by simp [h]), if_neg (by simp [h']), (nn_zero (by rw [h]; decide)).1, (nn_zero (by rw [h']; decide)).1]
      exact hz
    rw [e]
    have hbx : (!(bw f a == bw f b)) = decide (bw f a ≠ bw f b) := by cases bw f a <;> cases bw f b <;> rfl
    rw [h, h', hbx]
    by_cases c : bw f a = bw f b
    · simp only [c, ne_eq, not_true_eq_false, decide_false, if_true, cond_true, Int.reduceBEq, cond_false]
      rw [← hb']
    · simp only [c, ne_eq, not_false_eq_true, decide_true, if_false, cond_true, Int.reduceBEq, cond_false]
      exact sign_k k f _ _ K
  case inr.inr.inl.inr.inr.inr =>
    have hb' := nn_bounds h'
    have e : (if kd f a = 0 ∨ kd f b = 0 ∨ (kd f a = 1 ∧ kd f b = 1 ∧ bw f a ≠ bw f b) then NAN f else if kd f a = 1 then a else if kd f b = 1 then b else AddX f m (bw f a) (nn f a) (ee f a) (bw f b) (nn f b) (ee f b)) = b := by
      rw [if_neg (by simp [h, h']), if_neg (by simp [h]), if_neg (by simp [h']), (nn_zero (a := a) (by rw [h]; decide)).1, AddX_zero f m _ _ _ _ _ hb'.1, Rd_self m hb h']
    rw [e, h, h']; rfl
  case inr.inr.inr.inr.inr.inl =>
    have ha' := nn_bounds h
    have e : (if kd f a = 0 ∨ kd f b = 0 ∨ (kd f a = 1 ∧ kd f b = 1 ∧ bw f a ≠ bw f b) then NAN f else if kd f a = 1 then a else if kd f b = 1 then b else AddX f m (bw f a) (nn f a) (ee f a) (bw f b) (nn f b) (ee f b)) = a := by
      rw [if_neg (by simp [h, h']), if_neg (by simp [h]), if_neg (by simp [h']), (nn_zero (a := b) (by rw [h']; decide)).1, AddX_comm, AddX_zero f m _ _ _ _ _ ha'.1, Rd_self m ha h]
    rw [e, h, h']; rfl
  case inr.inr.inr.inr.inr.inr =>
    rw [if_neg (by simp [h, h']), if_neg (by simp [h]), if_neg (by simp [h'])]
    have := c0_sum k f m h h' K
    rw [h, h', show ((3 : Int) == 0) = false from rfl, show ((3 : Int) == 1) = false from rfl, show ((3 : Int) == 2) = false from rfl]
    repeat rw [cond_false]
    exact this

theorem Sub_k {R : Type} {k : Nat} (f m : Int) {a b : Nat} (ha : a < 2 ^ 64) (hb : b < 2 ^ 64) (hn : NegS f b < 2 ^ 64) (K : Int → Option R) : soft_Sub k f m (a : Int) (b : Int) K = K ((AddS f m a (NegS f b) : Nat) : Int) := by
  unfold soft_Sub soft_SubT
  rw [Neg_k k f hb, Add_k f m ha hn]


end Go.Proofs.Ytbnmnkofekcodaa.N

/- Floats: bounds, the order of two, the other sign. Conditions: none. -/
namespace Go.Proofs.Ytbnmnkofekcodaa.N
set_option linter.unusedVariables false
set_option linter.unusedSimpArgs false
open Go Go.Ab

theorem clip_le (f m : Int) (b : Bool) (g : Nat) : clip f m b g ≤ fI f := by
  unfold clip; split
  · omega
  · split <;> omega
/-- A rounded number: its sign, and at most the infinite one. -/
theorem Rd_form (f m : Int) (b : Bool) (N : Nat) (e : Int) (r : Bool) : ∃ x, x ≤ fI f ∧ Rd f m b N e r = sg f b + x := by
  unfold Rd
  split
  · exact ⟨0, Nat.zero_le _, rfl⟩
  · exact ⟨_, clip_le _ _ _ _, rfl⟩

theorem fB_double (f : Int) : 2 * fB f ≤ 2 ^ 64 ∧ fI f < fB f := by
  have := fB_le f; have := fI_lt f; have := fP_pos f; omega
theorem sgx_lt {f : Int} {b : Bool} {x : Nat} (h : x ≤ fI f) : sg f b + x < 2 * fB f := by
  have := (fB_double f).2; have := sg_le f b; omega
theorem NAN_lt (f : Int) : fI f < NAN f ∧ NAN f < fB f := by
  have h1 := fI_lt f
  have h2 : 2 ^ (fP f - 1) < 2 ^ fP f := Nat.pow_lt_pow_right (by decide) (by have := fmt_le f; omega)
  have h3 := Nat.two_pow_pos (fP f - 1)
  unfold NAN; omega

/-- A float put together out of its sign and its rest. -/
theorem bad_small {f : Int} {a : Nat} (h : a < 2 * fB f) : bad f a = false := by
  unfold bad
  rw [decide_eq_false_iff_not]
  rintro ⟨h1, h2⟩
  subst h1
  have : fB 1 = 2 ^ 31 := by decide
  omega
theorem gg_sg {f : Int} (b : Bool) {x : Nat} (h : x < fB f) : gg f (sg f b + x) = x ∧ bw f (sg f b + x) = b ∧ bad f (sg f b + x) = false := by
  have hb : bad f (sg f b + x) = false := bad_small (by have := sg_le f b; omega)
  refine ⟨?_, ?_, hb⟩
  · unfold gg sg
    cases b
    · simp [Nat.mod_eq_of_lt h]
    · simp [Nat.mod_eq_of_lt h]
  · unfold bw sg
    rw [show bad f ((if b = true then fB f else 0) + x) = false from hb]
    cases b
    · simp; omega
    · simp

theorem kd_sg {f : Int} (b : Bool) {x : Nat} (h : x < fB f) : kd f (sg f b + x) = if fI f < x then 0 else if x = fI f then 1 else if x = 0 then 2 else 3 := by
  obtain ⟨h1, h2, h3⟩ := gg_sg b h
  unfold kd
  rw [h3, h1]; rfl

theorem kd_congr {f : Int} {a b : Nat} (h1 : bad f a = bad f b) (h2 : gg f a = gg f b) : kd f a = kd f b ∧ nn f a = nn f b ∧ ee f a = ee f b := by
  have hk : kd f a = kd f b := by unfold kd; rw [h1, h2]
  refine ⟨hk, ?_, ?_⟩
  · unfold nn; rw [hk, h2]
  · unfold ee; rw [hk, h2]

theorem kd_NAN (f : Int) : kd f (NAN f) = 0 := by
  have h := NAN_lt f
  have := kd_sg (f := f) false (x := NAN f) h.2
  rw [show sg f false + NAN f = NAN f from Nat.zero_add _, if_pos h.1] at this
  exact this

theorem gg_le_of_kd {f : Int} {a : Nat} (h : kd f a ≠ 0) : gg f a ≤ fI f := by
  refine Nat.le_of_not_lt fun h2 => h ?_
  unfold kd
  by_cases hb : bad f a = true
  · rw [if_pos hb]
  · rw [if_neg hb, if_pos h2]

theorem Neg_form {f : Int} {a : Nat} (ha : a < 2 ^ 64) (h : kd f a ≠ 0) : NegS f a = sg f (!bw f a) + gg f a := by
  have hb : bad f a = false := by
    cases hb : bad f a with
    | false => rfl
    | true => exact absurd (by unfold kd; rw [hb]; rfl) h
  have h2 := lt_2B ha hb
  have hp := parts_of ha hb
  unfold NegS
  rw [if_neg h]
  unfold bw at hp ⊢
  rw [hb] at hp ⊢
  by_cases c : fB f ≤ a
  · simp only [c, decide_true, Bool.false_eq_true, if_false, if_true, Bool.not_true] at hp ⊢
    unfold sg at *
    simp at hp ⊢
    omega
  · simp only [c, decide_false, Bool.false_eq_true, if_false, Bool.not_false] at hp ⊢
    unfold sg at *
    simp at hp ⊢
    omega

/-- What the other sign changes. -/
theorem Neg_parts {f : Int} {a : Nat} (ha : a < 2 ^ 64) (h : kd f a ≠ 0) : kd f (NegS f a) = kd f a ∧ nn f (NegS f a) = nn f a ∧ ee f (NegS f a) = ee f a ∧ bw f (NegS f a) = !bw f a := by
  have hg := gg_lt f a
  obtain ⟨h1, h2, h3⟩ := gg_sg (f := f) (!bw f a) hg
  have hb : bad f a = false := by
    cases hb : bad f a with
    | false => rfl
    | true => exact absurd (by unfold kd; rw [hb]; rfl) h
  rw [Neg_form ha h]
  obtain ⟨k1, k2, k3⟩ := kd_congr (f := f) (a := sg f (!bw f a) + gg f a) (b := a) (by rw [h3, hb]) h1
  exact ⟨k1, k2, k3, h2⟩

theorem Neg_lt (f : Int) {a : Nat} (ha : a < 2 ^ 64) : NegS f a < 2 ^ 64 := by
  have h0 := fB_double f
  by_cases h : kd f a = 0
  · unfold NegS; rw [if_pos h]; have := NAN_lt f; omega
  · rw [Neg_form ha h]; have := gg_lt f a; have := sg_le f (!bw f a); omega

theorem AddX_form (f m : Int) (bx : Bool) (X : Nat) (ex : Int) (by' : Bool) (Y : Nat) (ey : Int) : ∃ b x, x ≤ fI f ∧ AddX f m bx X ex by' Y ey = sg f b + x := by
  unfold AddX
  simp only
  split
  · exact ⟨_, Rd_form ..⟩
  · split
    · exact ⟨_, 0, Nat.zero_le _, rfl⟩
    · split
      · exact ⟨_, Rd_form ..⟩
      · exact ⟨_, Rd_form ..⟩

theorem form_lt {f : Int} {y : Nat} (h : ∃ b x, x ≤ fI f ∧ y = sg f b + x) : y < 2 ^ 64 := by
  obtain ⟨b, x, h1, rfl⟩ := h
  have := sgx_lt (b := b) h1; have := (fB_double f).1; omega

theorem NAN_lt64 (f : Int) : NAN f < 2 ^ 64 := by have := NAN_lt f; have := (fB_double f).1; omega

theorem AddS_lt (f m : Int) {a b : Nat} (ha : a < 2 ^ 64) (hb : b < 2 ^ 64) : AddS f m a b < 2 ^ 64 := by
  unfold AddS
  split
  · exact NAN_lt64 f
  · split
    · exact ha
    · split
      · exact hb
      · exact form_lt (AddX_form ..)
theorem MulS_lt (f m : Int) (a b : Nat) : MulS f m a b < 2 ^ 64 := by
  unfold MulS
  split
  · exact NAN_lt64 f
  · split
    · split
      · exact NAN_lt64 f
      · exact form_lt ⟨_, _, Nat.le_refl _, rfl⟩
    · exact form_lt ⟨_, Rd_form ..⟩
theorem DivS_lt (f m : Int) (a b : Nat) : DivS f m a b < 2 ^ 64 := by
  unfold DivS DivX
  split
  · exact NAN_lt64 f
  · split
    · exact form_lt ⟨_, _, Nat.le_refl _, rfl⟩
    · split
      · exact form_lt ⟨_, 0, Nat.zero_le _, rfl⟩
      · exact form_lt ⟨_, Rd_form ..⟩

theorem zero_kd2 {f : Int} {c : Nat} (h : kd f c = 2) : nn f c = 0 := (nn_zero (by rw [h]; decide)).1

theorem AddS_comm (f m : Int) (a b : Nat) (ha : a < 2 ^ 64) (hb : b < 2 ^ 64) : AddS f m a b = AddS f m b a := by
  unfold AddS
  by_cases h1 : kd f a = 0
  · rw [if_pos (.inl h1), if_pos (.inr (.inl h1))]
  by_cases h2 : kd f b = 0
  · rw [if_pos (.inr (.inl h2)), if_pos (.inl h2)]
  by_cases h3 : kd f a = 1
  · by_cases h4 : kd f b = 1
    · by_cases h5 : bw f a = bw f b
      · have e1 : ¬ (kd f a = 0 ∨ kd f b = 0 ∨ (kd f a = 1 ∧ kd f b = 1 ∧ bw f a ≠ bw f b)) := by simp [h1, h2, h5]
        have e2 : ¬ (kd f b = 0 ∨ kd f a = 0 ∨ (kd f b = 1 ∧ kd f a = 1 ∧ bw f b ≠ bw f a)) := by simp [h1, h2, h5]
        rw [if_neg e1, if_neg e2, if_pos h3, if_pos h4]
        -- both are the infinite one of a sign
        have inf : ∀ {c : Nat}, c < 2 ^ 64 → kd f c = 1 → c = sg f (bw f c) + fI f := by
          intro c hc h
          have hb : bad f c = false := by
            cases hb : bad f c with
            | false => rfl
            | true => rw [show kd f c = 0 from by unfold kd; rw [hb]; rfl] at h; cases h
          have hp := parts_of hc hb
          have hg : gg f c = fI f := by
            unfold kd at h
            rw [hb] at h
            simp only [Bool.false_eq_true, if_false] at h
            split at h
            · cases h
            · split at h
              · assumption
              · split at h <;> cases h
          rw [hg] at hp; exact hp
        rw [inf ha h3, inf hb h4, h5]
      · rw [if_pos (.inr (.inr ⟨h3, h4, h5⟩)), if_pos (.inr (.inr ⟨h4, h3, fun h => h5 h.symm⟩))]
    · have e1 : ¬ (kd f a = 0 ∨ kd f b = 0 ∨ (kd f a = 1 ∧ kd f b = 1 ∧ bw f a ≠ bw f b)) := by simp [h1, h2, h4]
      have e2 : ¬ (kd f b = 0 ∨ kd f a = 0 ∨ (kd f b = 1 ∧ kd f a = 1 ∧ bw f b ≠ bw f a)) := by simp [h1, h2, h4]
      rw [if_neg e1, if_neg e2, if_pos h3, if_neg h4, if_pos h3]
  · have e1 : ¬ (kd f a = 0 ∨ kd f b = 0 ∨ (kd f a = 1 ∧ kd f b = 1 ∧ bw f a ≠ bw f b)) := by simp [h1, h2, h3]
    have e2 : ¬ (kd f b = 0 ∨ kd f a = 0 ∨ (kd f b = 1 ∧ kd f a = 1 ∧ bw f b ≠ bw f a)) := by simp [h1, h2, h3]
    rw [if_neg e1, if_neg e2, if_neg h3, if_neg h3]
    by_cases h4 : kd f b = 1
    · rw [if_pos h4, if_pos h4]
    · rw [if_neg h4, if_neg h4, AddX_comm]

theorem MulS_comm (f m : Int) (a b : Nat) : MulS f m a b = MulS f m b a := by
  unfold MulS
  have e1 : (kd f a = 0 ∨ kd f b = 0) = (kd f b = 0 ∨ kd f a = 0) := by rw [Or.comm]
  have e2 : (kd f a = 1 ∨ kd f b = 1) = (kd f b = 1 ∨ kd f a = 1) := by rw [Or.comm]
  have e3 : (kd f a = 2 ∨ kd f b = 2) = (kd f b = 2 ∨ kd f a = 2) := by rw [Or.comm]
  have e4 : (bw f a != bw f b) = (bw f b != bw f a) := by cases bw f a <;> cases bw f b <;> rfl
  rw [e4, Nat.mul_comm, Int.add_comm]
  simp only [e1, e2, e3]

/-! ### The other sign, the other mode -/

theorem more_flip (b o h r : Bool) : more 1 b o h r = more 2 (!b) o h r := by unfold more; cases b <;> cases h <;> cases r <;> rfl

/-- A number's two roundings: up of one sign is down of the other. -/
theorem Rd_flip (f : Int) (b : Bool) (N : Nat) (e : Int) (r : Bool) : ∃ x, x ≤ fI f ∧ Rd f 1 b N e r = sg f b + x ∧ Rd f 2 (!b) N e r = sg f (!b) + x := by
  unfold Rd
  split
  · exact ⟨0, Nat.zero_le _, rfl, rfl⟩
  · refine ⟨_, clip_le f 1 b _, rfl, ?_⟩
    unfold enc clip gOf
    rw [← more_flip, ← more_flip]

theorem Neg_sg {f : Int} (b : Bool) {x : Nat} (h : x ≤ fI f) : NegS f (sg f b + x) = sg f (!b) + x := by
  have hB := (fB_double f).2
  have hx : x < fB f := by omega
  obtain ⟨h1, h2, h3⟩ := gg_sg (f := f) b hx
  have hk : kd f (sg f b + x) ≠ 0 := by
    rw [kd_sg b hx, if_neg (by omega)]
    split
    · decide
    · split <;> decide
  have hlt : sg f b + x < 2 ^ 64 := by have := sgx_lt (b := b) h; have := (fB_double f).1; omega
  rw [Neg_form hlt hk, h1, h2]

theorem Neg_Rd (f : Int) (b : Bool) (N : Nat) (e : Int) (r : Bool) : NegS f (Rd f 1 b N e r) = Rd f 2 (!b) N e r := by
  obtain ⟨x, h1, h2, h3⟩ := Rd_flip f b N e r
  rw [h2, h3, Neg_sg b h1]

theorem Neg_AddX (f : Int) (bx : Bool) (X : Nat) (ex : Int) (by' : Bool) (Y : Nat) (ey : Int) : NegS f (AddX f 1 bx X ex by' Y ey) = AddX f 2 (!bx) X ex (!by') Y ey := by
  unfold AddX
  simp only
  generalize X * 2 ^ (ex - min ex ey).toNat = u
  generalize Y * 2 ^ (ey - min ex ey).toNat = v
  by_cases h : bx = by'
  · subst h
    rw [if_pos rfl, if_pos rfl, Neg_Rd]
  · have h' : ¬ (!bx) = (!by') := by cases bx <;> cases by' <;> simp_all
    rw [if_neg h, if_neg h']
    by_cases c : u = v
    · rw [if_pos c, if_pos c]
      have h0 := Neg_sg (f := f) false (x := 0) (Nat.zero_le _)
      exact h0
    · rw [if_neg c, if_neg c]
      split
      · exact Neg_Rd ..
      · exact Neg_Rd ..

theorem Neg_NAN (f : Int) : NegS f (NAN f) = NAN f := by unfold NegS; rw [if_pos (kd_NAN f)]

theorem Neg_kd0 {f : Int} {a : Nat} (h : kd f a = 0) : NegS f a = NAN f := by unfold NegS; rw [if_pos h]

theorem xor_not (x y : Bool) : ((!x) != y) = !(x != y) := by cases x <;> cases y <;> rfl

theorem Neg_AddS (f : Int) {a b : Nat} (ha : a < 2 ^ 64) (hb : b < 2 ^ 64) : NegS f (AddS f 1 a b) = AddS f 2 (NegS f a) (NegS f b) := by
  by_cases h1 : kd f a = 0
  · unfold AddS
    rw [if_pos (.inl h1), Neg_NAN, Neg_kd0 h1, if_pos (.inl (kd_NAN f))]
  by_cases h2 : kd f b = 0
  · unfold AddS
    rw [if_pos (.inr (.inl h2)), Neg_NAN, Neg_kd0 h2, if_pos (.inr (.inl (kd_NAN f)))]
  obtain ⟨a1, a2, a3, a4⟩ := Neg_parts ha h1
  obtain ⟨b1, b2, b3, b4⟩ := Neg_parts hb h2
  unfold AddS
  rw [a1, a2, a3, a4, b1, b2, b3, b4]
  have e : ((!bw f a) ≠ (!bw f b)) ↔ (bw f a ≠ bw f b) := by cases bw f a <;> cases bw f b <;> simp
  by_cases c : kd f a = 0 ∨ kd f b = 0 ∨ (kd f a = 1 ∧ kd f b = 1 ∧ bw f a ≠ bw f b)
  · have c' : kd f a = 0 ∨ kd f b = 0 ∨ (kd f a = 1 ∧ kd f b = 1 ∧ (!bw f a) ≠ (!bw f b)) := by rw [e]; exact c
    rw [if_pos c, if_pos c', Neg_NAN]
  · have c' : ¬ (kd f a = 0 ∨ kd f b = 0 ∨ (kd f a = 1 ∧ kd f b = 1 ∧ (!bw f a) ≠ (!bw f b))) := by rw [e]; exact c
    rw [if_neg c, if_neg c']
    split
    · rfl
    · split
      · rfl
      · exact Neg_AddX ..

theorem Neg_MulS (f : Int) {a b : Nat} (ha : a < 2 ^ 64) : NegS f (MulS f 1 a b) = MulS f 2 (NegS f a) b := by
  by_cases h1 : kd f a = 0
  · unfold MulS
    rw [if_pos (.inl h1), Neg_NAN, Neg_kd0 h1, if_pos (.inl (kd_NAN f))]
  obtain ⟨a1, a2, a3, a4⟩ := Neg_parts ha h1
  unfold MulS
  rw [a1, a2, a3, a4, xor_not]
  split
  · exact Neg_NAN f
  · split
    · split
      · exact Neg_NAN f
      · exact Neg_sg _ (Nat.le_refl _)
    · exact Neg_Rd ..

theorem Neg_DivS (f : Int) {a b : Nat} (ha : a < 2 ^ 64) : NegS f (DivS f 1 a b) = DivS f 2 (NegS f a) b := by
  by_cases h1 : kd f a = 0
  · unfold DivS
    rw [if_pos (.inl h1), Neg_NAN, Neg_kd0 h1, if_pos (.inl (kd_NAN f))]
  obtain ⟨a1, a2, a3, a4⟩ := Neg_parts ha h1
  unfold DivS DivX
  rw [a1, a2, a3, a4, xor_not]
  split
  · exact Neg_NAN f
  · split
    · exact Neg_sg _ (Nat.le_refl _)
    · split
      · have := Neg_sg (f := f) (bw f a != bw f b) (x := 0) (Nat.zero_le _)
        rw [Nat.add_zero, Nat.add_zero] at this
        exact this
      · exact Neg_Rd ..

theorem Neg_Neg {f : Int} {a : Nat} (ha : a < 2 ^ 64) (h : kd f a ≠ 0) : NegS f (NegS f a) = a := by
  have hb : bad f a = false := by
    cases hb : bad f a with
    | false => rfl
    | true => exact absurd (by unfold kd; rw [hb]; rfl) h
  rw [Neg_form ha h, Neg_sg _ (gg_le_of_kd h), Bool.not_not]
  exact (parts_of ha hb).symm

end Go.Proofs.Ytbnmnkofekcodaa.N

/- What the laws of package soft share. Conditions: none. -/
namespace Go.Proofs.Ytbnmnkofekcodaa.N
set_option linter.unusedVariables false
set_option linter.unusedSimpArgs false
open Go Go.Ab

theorem live_k {R : Type} {k : Nat} (hk : 5000 ≤ k) (K : Bool → Option R) : plumblinelaw02_live k K = K true := by
  unfold plumblinelaw02_live plumblinelaw02_liveT
  have d1 : DivS 0 0 4607182418800017408 4613937818241073152 = 4599676419421066581 := by decide +kernel
  have d2 : DivS 0 1 4607182418800017408 4613937818241073152 = 4599676419421066582 := by decide +kernel
  have d3 : AddS 0 0 4607182418800017408 4607182418800017408 = 4611686018427387904 := by decide +kernel
  have l1 : (4607182418800017408 : Int) = ((4607182418800017408 : Nat) : Int) := rfl
  have l2 : (4613937818241073152 : Int) = ((4613937818241073152 : Nat) : Int) := rfl
  have q1 : (((4599676419421066581 : Nat) : Int) == 4599676419421066581) = true := by decide
  have q2 : (((4599676419421066582 : Nat) : Int) == 4599676419421066582) = true := by decide
  have q3 : (((4611686018427387904 : Nat) : Int) == 4611686018427387904) = true := by decide
  rw [l1, l2, Div_k hk 0 0 (by decide) (by decide), d1, q1, cond_true, Div_k hk 0 1 (by decide) (by decide), d2, q2, cond_true, Add_k 0 0 (by decide) (by decide), d3, q3]

end Go.Proofs.Ytbnmnkofekcodaa.N
