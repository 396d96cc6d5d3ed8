/- Whole numbers of 64 bits as the evaluator has them, told in naturals. Conditions: none. -/
import Derived.Test.YtbnmnkofekcodaaEng1
import GoSem.Claim
import Derived.Test.YtbnmnkofekcodaaNwide
import Derived.Test.YtbnmnkofekcodaaNr01
namespace Go.Ab
set_option linter.unusedVariables false
set_option linter.unusedSimpArgs false
open Go

theorem wrap_u64 (x : Int) : IntKind.wrap .u64 x = x % 18446744073709551616 := by
  unfold IntKind.wrap
  simp only [IntKind.bits, IntKind.signed]
  have e1 : (2 ^ 64 : Int) = 18446744073709551616 := by decide
  simp only [e1]
  rfl

theorem wrap_i64 {x : Int} (h0 : -9223372036854775808 ≤ x) (h1 : x < 9223372036854775808) : Wi64 x = x := by
  unfold Wi64 IntKind.wrap
  simp only [IntKind.bits, IntKind.signed]
  have e1 : (2 ^ 64 : Int) = 18446744073709551616 := by decide
  have e2 : (2 ^ (64 - 1) : Int) = 9223372036854775808 := by decide
  simp only [e1, e2, Bool.true_and, decide_eq_true_eq]
  split <;> omega

theorem shl_nat (n s : Nat) (hs : s ≤ 64) : shl .u64 (n : Int) (s : Int) = ((n * 2 ^ s % 2 ^ 64 : Nat) : Int) := by
  unfold shl
  rw [wrap_u64]
  have : min ((s : Int).toNat) IntKind.u64.bits = s := by simp [IntKind.bits]; omega
  rw [this]
  have e : ((n : Int) * 2 ^ s) = ((n * 2 ^ s : Nat) : Int) := by rw [Int.natCast_mul, Int.natCast_pow]; rfl
  rw [e]
  have e2 : (18446744073709551616 : Int) = ((2 ^ 64 : Nat) : Int) := by decide
  rw [e2, ← Int.natCast_emod]

theorem shr_nat (n s : Nat) (hs : s ≤ 64) : shr .u64 (n : Int) (s : Int) = ((n / 2 ^ s : Nat) : Int) := by
  unfold shr
  have : min ((s : Int).toNat) IntKind.u64.bits = s := by simp [IntKind.bits]; omega
  rw [this]
  have e : (2 ^ s : Int) = ((2 ^ s : Nat) : Int) := by rw [Int.natCast_pow]; rfl
  rw [e, Int.fdiv_eq_ediv_of_nonneg _ (Int.natCast_nonneg _)]
  rfl

theorem orInt_nat (f : BitVec 64 → BitVec 64 → BitVec 64) (n m : Nat) : orInt .u64 f (n : Int) (m : Int) = ((f (BitVec.ofNat 64 n) (BitVec.ofNat 64 m)).toNat : Int) := by
  unfold orInt
  rw [wrap_u64]
  have h := (f (BitVec.ofNat 64 n) (BitVec.ofNat 64 m)).isLt
  show (((f (BitVec.ofInt 64 (n : Int)) (BitVec.ofInt 64 (m : Int))).toNat : Int)) % 18446744073709551616 = _
  rw [show BitVec.ofInt 64 (n : Int) = BitVec.ofNat 64 n by simp, show BitVec.ofInt 64 (m : Int) = BitVec.ofNat 64 m by simp]
  have h2 : (f (BitVec.ofNat 64 n) (BitVec.ofNat 64 m)).toNat < 18446744073709551616 := h
  omega

theorem bOr_nat {n m : Nat} (hn : n < 2 ^ 64) (hm : m < 2 ^ 64) : bOr .u64 (n : Int) (m : Int) = ((n ||| m : Nat) : Int) := by
  show orInt .u64 _ _ _ = _
  refine (orInt_nat (· ||| ·) n m).trans ?_
  simp [BitVec.toNat_or, Nat.mod_eq_of_lt hn, Nat.mod_eq_of_lt hm]

theorem bAnd_nat {n m : Nat} (hn : n < 2 ^ 64) (hm : m < 2 ^ 64) : bAnd .u64 (n : Int) (m : Int) = ((n &&& m : Nat) : Int) := by
  show orInt .u64 _ _ _ = _
  refine (orInt_nat (· &&& ·) n m).trans ?_
  simp [BitVec.toNat_and, Nat.mod_eq_of_lt hn, Nat.mod_eq_of_lt hm]

theorem u64_nat {x : Int} (h : (Lit.int .u64 x).wf = true) : ∃ n : Nat, x = (n : Int) ∧ n < 2 ^ 64 := by
  have h' : 0 ≤ x ∧ x ≤ 18446744073709551615 := by
    simp only [Lit.wf, Bool.and_eq_true, decide_eq_true_eq] at h
    have e1 : IntKind.u64.min = 0 := by decide
    have e2 : IntKind.u64.max = 18446744073709551615 := by decide
    rw [e1, e2] at h
    exact h
  exact ⟨x.toNat, by omega, by omega⟩

end Go.Ab

/- Moves of numbers of 128 bits: what wide.Shl and wide.Shr come to. Conditions: none. -/
namespace Go.Proofs.Ytbnmnkofekcodaa.N
set_option linter.unusedVariables false
set_option linter.unusedSimpArgs false
open Go Go.Ab

def V (h l : Nat) : Nat := h * 2 ^ 64 + l

theorem V_inj {h l h' l' : Nat} (hl : l < 2 ^ 64) (hl' : l' < 2 ^ 64) (h1 : V h l = V h' l') : h = h' ∧ l = l' := by
  unfold V at h1
  omega

theorem or_add {a b s : Nat} (ha : a % 2 ^ s = 0) (hb : b < 2 ^ s) : a ||| b = a + b := by
  have h1 : a = 2 ^ s * (a / 2 ^ s) := by
    have := Nat.div_add_mod a (2 ^ s); omega
  rw [h1, ← Nat.two_pow_add_eq_or_of_lt hb]

/-- wide.Shl: up by n bits, modulo 2^128. -/
theorem shl_mid {h l s : Nat} (hh : h < 2 ^ 64) (hl : l < 2 ^ 64) (h0 : 0 < s) (hs : s < 64) :
    V ((h * 2 ^ s % 2 ^ 64) ||| (l / 2 ^ (64 - s))) (l * 2 ^ s % 2 ^ 64) = V h l * 2 ^ s % 2 ^ 128 := by
  have hp : 2 ^ 64 = 2 ^ s * 2 ^ (64 - s) := by rw [← Nat.pow_add]; congr 1; omega
  have hpos : 0 < 2 ^ s := Nat.two_pow_pos s
  have hpos2 : 0 < 2 ^ (64 - s) := Nat.two_pow_pos _
  have e1 : l / 2 ^ (64 - s) < 2 ^ s := by
    rw [Nat.div_lt_iff_lt_mul hpos2, ← hp]; exact hl
  have e2 : (h * 2 ^ s % 2 ^ 64) % 2 ^ s = 0 := by
    rw [hp, Nat.mod_mul_right_mod, Nat.mul_mod_left]
  rw [or_add e2 e1]
  have e3 : l * 2 ^ s / 2 ^ 64 = l / 2 ^ (64 - s) := by
    rw [hp, Nat.mul_comm l, Nat.mul_div_mul_left _ _ hpos]
  have e4 : h * 2 ^ s % 2 ^ 64 + 2 ^ s ≤ 2 ^ 64 := by
    have hlt : h * 2 ^ s % 2 ^ 64 < 2 ^ 64 := Nat.mod_lt _ (by decide)
    generalize h * 2 ^ s % 2 ^ 64 = r at e2 hlt ⊢
    have hr : r = 2 ^ s * (r / 2 ^ s) := by have := Nat.div_add_mod r (2 ^ s); omega
    have hlt2 : r / 2 ^ s < 2 ^ (64 - s) := by rw [Nat.div_lt_iff_lt_mul hpos, Nat.mul_comm, ← hp]; exact hlt
    have := Nat.mul_le_mul_left (2 ^ s) hlt2
    rw [← hp] at this
    rw [Nat.succ_eq_add_one, Nat.mul_add, Nat.mul_one, ← hr] at this
    exact this
  have e5 : V h l * 2 ^ s = (h * 2 ^ s) * 2 ^ 64 + l * 2 ^ s := by
    unfold V; rw [Nat.add_mul, Nat.mul_right_comm]
  rw [e5]
  unfold V
  rw [← e3] at e1 ⊢
  generalize h * 2 ^ s = X at *
  generalize l * 2 ^ s = Y at *
  generalize 2 ^ s = A at *
  omega

theorem Shl_spec {R : Type} (k : Nat) {h l : Nat} {n : Int} (hh : h < 2 ^ 64) (hl : l < 2 ^ 64) (hn : (Lit.int .i64 n).wf = true) :
    ∃ h' l' : Nat, h' < 2 ^ 64 ∧ l' < 2 ^ 64 ∧ V h' l' = V h l * 2 ^ n.toNat % 2 ^ 128 ∧ ∀ K : Int → Int → Option R, wide_Shl k (h : Int) (l : Int) n K = K (h' : Int) (l' : Int) := by
  have hb : -9223372036854775808 ≤ n ∧ n ≤ 9223372036854775807 := by
    simp only [Lit.wf, Bool.and_eq_true, decide_eq_true_eq] at hn
    have e1 : IntKind.i64.min = -9223372036854775808 := by decide
    have e2 : IntKind.i64.max = 9223372036854775807 := by decide
    rw [e1, e2] at hn
    exact hn
  by_cases h0 : n ≤ 0
  · refine ⟨h, l, hh, hl, ?_, fun K => ?_⟩
    · have : n.toNat = 0 := by omega
      rw [this]; unfold V; omega
    · unfold wide_Shl wide_ShlT; simp [h0]
  · obtain ⟨s, rfl⟩ : ∃ s : Nat, n = (s : Int) := ⟨n.toNat, by omega⟩
    simp only [Int.toNat_natCast]
    by_cases h1 : s < 64
    · refine ⟨(h * 2 ^ s % 2 ^ 64) ||| (l / 2 ^ (64 - s)), l * 2 ^ s % 2 ^ 64, ?_, Nat.mod_lt _ (by decide), shl_mid hh hl (by omega) h1, fun K => ?_⟩
      · exact Nat.or_lt_two_pow (Nat.mod_lt _ (by decide)) (Nat.lt_of_le_of_lt (Nat.div_le_self _ _) hl)
      · have e0 : ¬ ((s : Int) ≤ 0) := h0
        have e1 : ¬ ((s : Int) ≥ 64) := by omega
        have e2 : ¬ ((s : Int) < 0) := by omega
        have e3 : Wi64 (64 - (s : Int)) = ((64 - s : Nat) : Int) := by rw [wrap_i64 (by omega) (by omega)]; omega
        have e4 : ¬ (((64 - s : Nat) : Int) < 0) := by omega
        unfold wide_Shl wide_ShlT
        rw [e3]
        simp only [e0, e1, e2, e4, decide_false, cond_false]
        rw [shl_nat h s (by omega), shl_nat l s (by omega), shr_nat l (64 - s) (by omega), bOr_nat (Nat.mod_lt _ (by decide)) (Nat.lt_of_le_of_lt (Nat.div_le_self _ _) hl)]
    · have e0 : ¬ ((s : Int) ≤ 0) := h0
      have e1 : ((s : Int) ≥ 64) := by omega
      have e3 : Wi64 ((s : Int) - 64) = ((s - 64 : Nat) : Int) := by rw [wrap_i64 (by omega) (by omega)]; omega
      have e4 : ¬ (((s - 64 : Nat) : Int) < 0) := by omega
      refine ⟨l * 2 ^ (min (s - 64) 64) % 2 ^ 64, 0, Nat.mod_lt _ (by decide), by decide, ?_, fun K => ?_⟩
      · unfold V
        by_cases hs : s - 64 ≤ 64
        · have hp : 2 ^ s = 2 ^ (s - 64) * 2 ^ 64 := by rw [← Nat.pow_add]; congr 1; omega
          rw [Nat.min_eq_left hs, hp, ← Nat.mul_assoc, Nat.add_mul, Nat.add_mul]
          have : h * 2 ^ 64 * 2 ^ (s - 64) * 2 ^ 64 = (h * 2 ^ (s - 64)) * 2 ^ 128 := by
            rw [Nat.mul_right_comm h, Nat.mul_assoc (h * 2 ^ (s - 64))]
          rw [this]
          generalize h * 2 ^ (s - 64) = X
          generalize l * 2 ^ (s - 64) = Y
          clear this hp
          have e128 : (2 ^ 128 : Nat) = 340282366920938463463374607431768211456 := by decide
          have e64 : (2 ^ 64 : Nat) = 18446744073709551616 := by decide
          rw [e128, e64]
          omega
        · have hp : 2 ^ s = 2 ^ (s - 128) * 2 ^ 128 := by rw [← Nat.pow_add]; congr 1; omega
          rw [Nat.min_eq_right (by omega), hp, ← Nat.mul_assoc, Nat.mul_mod_left, Nat.mul_mod_left]
      · unfold wide_Shl wide_ShlT
        rw [e3]
        simp only [e0, e1, e4, decide_false, decide_true, cond_false, cond_true]
        by_cases hs : s - 64 ≤ 64
        · rw [shl_nat l _ hs, Nat.min_eq_left hs]; rfl
        · have : shl .u64 (l : Int) ((s - 64 : Nat) : Int) = shl .u64 (l : Int) ((64 : Nat) : Int) := by
            unfold shl; congr 3; simp [IntKind.bits]; omega
          rw [this, shl_nat l 64 (by omega), Nat.min_eq_right (by omega)]; rfl

end Go.Proofs.Ytbnmnkofekcodaa.N

/- wide.Shr. Conditions: none. -/
namespace Go.Proofs.Ytbnmnkofekcodaa.N
set_option linter.unusedVariables false
set_option linter.unusedSimpArgs false
open Go Go.Ab

theorem i64_wf {n : Int} (hn : (Lit.int .i64 n).wf = true) : -9223372036854775808 ≤ n ∧ n ≤ 9223372036854775807 := by
  simp only [Lit.wf, Bool.and_eq_true, decide_eq_true_eq] at hn
  have e1 : IntKind.i64.min = -9223372036854775808 := by decide
  have e2 : IntKind.i64.max = 9223372036854775807 := by decide
  rw [e1, e2] at hn
  exact hn

theorem e64 : (2 ^ 64 : Nat) = 18446744073709551616 := by decide
theorem e128 : (2 ^ 128 : Nat) = 340282366920938463463374607431768211456 := by decide

/-- Two pairs are the same just if their numbers are. -/
theorem pair_beq {h l h' l' : Nat} (hl : l < 2 ^ 64) (hl' : l' < 2 ^ 64) : (((h : Int) == (h' : Int)) && ((l : Int) == (l' : Int))) = (V h l == V h' l') := by
  rw [Bool.eq_iff_iff]
  simp only [Bool.and_eq_true, beq_iff_eq]
  constructor
  · rintro ⟨h1, h2⟩
    have := Int.ofNat.inj h1; have := Int.ofNat.inj h2
    subst_vars; rfl
  · intro hv
    obtain ⟨h1, h2⟩ := V_inj hl hl' hv
    subst h1; subst h2; exact ⟨rfl, rfl⟩

theorem V_lt {h l : Nat} (hh : h < 2 ^ 64) (hl : l < 2 ^ 64) : V h l < 2 ^ 128 := by
  unfold V; rw [e64] at *; rw [e128]; omega

theorem shr_mid {h l s : Nat} (hh : h < 2 ^ 64) (hl : l < 2 ^ 64) (h0 : 0 < s) (hs : s < 64) :
    V (h / 2 ^ s) ((l / 2 ^ s) ||| (h * 2 ^ (64 - s) % 2 ^ 64)) = V h l / 2 ^ s := by
  have hp : 2 ^ 64 = 2 ^ s * 2 ^ (64 - s) := by rw [← Nat.pow_add]; congr 1; omega
  have hpos : 0 < 2 ^ s := Nat.two_pow_pos s
  have hpos2 : 0 < 2 ^ (64 - s) := Nat.two_pow_pos _
  have e1 : l / 2 ^ s < 2 ^ (64 - s) := by
    rw [Nat.div_lt_iff_lt_mul hpos, Nat.mul_comm, ← hp]; exact hl
  have e2 : (h * 2 ^ (64 - s) % 2 ^ 64) % 2 ^ (64 - s) = 0 := by
    rw [hp, Nat.mul_comm (2 ^ s), Nat.mod_mul_right_mod, Nat.mul_mod_left]
  rw [Nat.or_comm, or_add e2 e1]
  have e3 : V h l / 2 ^ s = h * 2 ^ (64 - s) + l / 2 ^ s := by
    unfold V
    rw [hp, show h * (2 ^ s * 2 ^ (64 - s)) + l = 2 ^ s * (h * 2 ^ (64 - s)) + l by rw [← Nat.mul_assoc, Nat.mul_comm h, Nat.mul_assoc], Nat.mul_add_div hpos]
  rw [e3]
  have e4 : h * 2 ^ (64 - s) / 2 ^ 64 = h / 2 ^ s := by
    rw [hp, Nat.mul_div_mul_right _ _ hpos2]
  unfold V
  rw [← e4]
  have := Nat.div_add_mod (h * 2 ^ (64 - s)) (2 ^ 64)
  omega

theorem lost_eq {v s : Nat} (hv : v < 2 ^ 128) : (!(v / 2 ^ s * 2 ^ s % 2 ^ 128 == v)) = decide (v % 2 ^ s ≠ 0) := by
  have h1 := Nat.div_add_mod v (2 ^ s)
  have h2 : v / 2 ^ s * 2 ^ s ≤ v := Nat.div_mul_le_self _ _
  rw [Nat.mod_eq_of_lt (by omega)]
  rw [Bool.eq_iff_iff]
  simp only [Bool.not_eq_true', beq_eq_false_iff_ne, decide_eq_true_eq]
  rw [Nat.mul_comm] at h1
  constructor
  · intro h hh; omega
  · intro h hh; omega

theorem Shr_spec {R : Type} (k : Nat) {h l : Nat} {n : Int} (hh : h < 2 ^ 64) (hl : l < 2 ^ 64) (hn : (Lit.int .i64 n).wf = true) :
    ∃ h' l' : Nat, h' < 2 ^ 64 ∧ l' < 2 ^ 64 ∧ V h' l' = V h l / 2 ^ n.toNat ∧
      ∀ K : Int → Int → Bool → Option R, wide_Shr k (h : Int) (l : Int) n K = K (h' : Int) (l' : Int) (decide (V h l % 2 ^ n.toNat ≠ 0)) := by
  have hb := i64_wf hn
  by_cases h0 : n ≤ 0
  · refine ⟨h, l, hh, hl, ?_, fun K => ?_⟩
    · have : n.toNat = 0 := by omega
      rw [this]; simp
    · have : n.toNat = 0 := by omega
      rw [this]
      unfold wide_Shr wide_ShrT; simp [h0, Nat.mod_one]
  · obtain ⟨s, rfl⟩ : ∃ s : Nat, n = (s : Int) := ⟨n.toNat, by omega⟩
    simp only [Int.toNat_natCast]
    have hV := V_lt hh hl
    by_cases h1 : s < 64
    · have e1 : ¬ ((s : Int) ≥ 128) := by omega
      have e2 : ¬ ((s : Int) ≥ 64) := by omega
      have e2' : ¬ ((s : Int) < 0) := by omega
      have e3 : Wi64 (64 - (s : Int)) = ((64 - s : Nat) : Int) := by rw [wrap_i64 (by omega) (by omega)]; omega
      have e4 : ¬ (((64 - s : Nat) : Int) < 0) := by omega
      have hh2 : h / 2 ^ s < 2 ^ 64 := Nat.lt_of_le_of_lt (Nat.div_le_self _ _) hh
      have hl2 : ((l / 2 ^ s) ||| (h * 2 ^ (64 - s) % 2 ^ 64)) < 2 ^ 64 := Nat.or_lt_two_pow (Nat.lt_of_le_of_lt (Nat.div_le_self _ _) hl) (Nat.mod_lt _ (by decide))
      obtain ⟨h3, l3, a1, a2, a3, a4⟩ := Shl_spec (R := R) k hh2 hl2 hn
      refine ⟨h / 2 ^ s, (l / 2 ^ s) ||| (h * 2 ^ (64 - s) % 2 ^ 64), hh2, hl2, shr_mid hh hl (by omega) h1, fun K => ?_⟩
      unfold wide_Shr wide_ShrT
      rw [e3]
      simp only [h0, e1, e2, e2', e4, decide_false, cond_false]
      rw [shr_nat h s (by omega), shr_nat l s (by omega), shl_nat h (64 - s) (by omega), bOr_nat (Nat.lt_of_le_of_lt (Nat.div_le_self _ _) hl) (Nat.mod_lt _ (by decide)), a4]
      rw [pair_beq a2 hl, a3, shr_mid hh hl (by omega) h1]
      simp only [Int.toNat_natCast]
      rw [lost_eq hV]
    · have hd : V h l / 2 ^ s = h / 2 ^ (s - 64) := by
        have hp : 2 ^ s = 2 ^ 64 * 2 ^ (s - 64) := by rw [← Nat.pow_add]; congr 1; omega
        rw [hp, ← Nat.div_div_eq_div_mul]
        congr 1
        unfold V; omega
      by_cases h2 : s < 128
      · have e1 : ¬ ((s : Int) ≥ 128) := by omega
        have e2 : ((s : Int) ≥ 64) := by omega
        have e3 : Wi64 ((s : Int) - 64) = ((s - 64 : Nat) : Int) := by rw [wrap_i64 (by omega) (by omega)]; omega
        have e4 : ¬ (((s - 64 : Nat) : Int) < 0) := by omega
        have hl2 : h / 2 ^ (s - 64) < 2 ^ 64 := Nat.lt_of_le_of_lt (Nat.div_le_self _ _) hh
        obtain ⟨h3, l3, a1, a2, a3, a4⟩ := Shl_spec (R := R) k (h := 0) (by decide) hl2 hn
        have hv0 : V 0 (h / 2 ^ (s - 64)) = V h l / 2 ^ s := by rw [hd]; unfold V; omega
        refine ⟨0, h / 2 ^ (s - 64), by decide, hl2, hv0, fun K => ?_⟩
        unfold wide_Shr wide_ShrT
        rw [e3]
        simp only [h0, e1, e2, e4, decide_false, decide_true, cond_false, cond_true]
        rw [shr_nat h (s - 64) (by omega)]
        show wide_Shl k ((0 : Nat) : Int) _ _ _ = _
        rw [a4, pair_beq a2 hl, a3, hv0]
        simp only [Int.toNat_natCast]
        rw [lost_eq hV]; rfl
      · have e1 : ((s : Int) ≥ 128) := by omega
        obtain ⟨h3, l3, a1, a2, a3, a4⟩ := Shl_spec (R := R) k (h := 0) (l := 0) (by decide) (by decide) hn
        have hz : V h l / 2 ^ s = 0 := Nat.div_eq_of_lt (Nat.lt_of_lt_of_le hV (Nat.pow_le_pow_right (by decide) (by omega)))
        have hv0 : V 0 0 = V h l / 2 ^ s := by rw [hz]; rfl
        refine ⟨0, 0, by decide, by decide, hv0, fun K => ?_⟩
        unfold wide_Shr wide_ShrT
        simp only [h0, e1, decide_false, decide_true, cond_false, cond_true]
        show wide_Shl k ((0 : Nat) : Int) ((0 : Nat) : Int) _ _ = _
        rw [a4, pair_beq a2 hl, a3, hv0]
        simp only [Int.toNat_natCast]
        rw [lost_eq hV]; rfl

end Go.Proofs.Ytbnmnkofekcodaa.N

/- The bits of a number of 128 bits, by the reference. Conditions: none. -/
namespace Go.Proofs.Ytbnmnkofekcodaa.N
set_option linter.unusedVariables false
set_option linter.unusedSimpArgs false
open Go Go.Ab

/-- 128 bits told by a function. -/
def row (f : Nat → Bool) : List Bool := (List.range 128).map f

theorem row_length (f : Nat → Bool) : (row f).length = 128 := by simp [row]

theorem row_get (f : Nat → Bool) (i : Nat) : (row f)[i]? = if i < 128 then some (f i) else none := by
  unfold row
  rw [List.getElem?_map]
  by_cases h : i < 128
  · rw [List.getElem?_range h, if_pos h]; rfl
  · rw [List.getElem?_eq_none (by simp; omega), if_neg h]; rfl

theorem row_set (f : Nat → Bool) (i : Nat) (b : Bool) : (row f).set i b = row (fun j => if j = i then b else f j) := by
  apply List.ext_getElem?
  intro j
  rw [List.getElem?_set, row_get, row_length, row_get]
  by_cases hj : i = j
  · subst hj
    simp
  · rw [if_neg hj]
    have : ¬ j = i := fun h => hj h.symm
    simp [this]

theorem row_congr {f g : Nat → Bool} (h : ∀ i, i < 128 → f i = g i) : row f = row g := by
  apply List.ext_getElem?
  intro i
  rw [row_get, row_get]
  split
  · rename_i hi; rw [h i hi]
  · rfl

theorem row_false : List.replicate 128 false = row (fun _ => false) := by
  apply List.ext_getElem?
  intro i
  rw [row_get, List.getElem?_replicate]

theorem bit_eq {n i : Nat} (hn : n < 2 ^ 64) (hi : i ≤ 64) : (bAnd .u64 (shr .u64 (n : Int) (i : Int)) 1 == 1) = n.testBit i := by
  rw [shr_nat n i hi]
  have := bAnd_nat (n := n / 2 ^ i) (m := 1) (Nat.lt_of_le_of_lt (Nat.div_le_self _ _) hn) (by decide)
  rw [show (1 : Int) = ((1 : Nat) : Int) from rfl, this]
  have h1 : (n / 2 ^ i &&& 1) = n / 2 ^ i % 2 := Nat.and_one_is_mod _
  rw [h1, Nat.testBit_eq_decide_div_mod_eq]
  rw [Bool.eq_iff_iff]
  simp only [beq_iff_eq, decide_eq_true_eq]
  omega

theorem V_testBit {h l : Nat} (hl : l < 2 ^ 64) (i : Nat) : (V h l).testBit i = if i < 64 then l.testBit i else h.testBit (i - 64) := by
  unfold V
  rw [Nat.mul_comm, Nat.testBit_two_pow_mul_add _ hl]

theorem Bits_loop {R : Type} (k : Nat) {h l : Nat} (hh : h < 2 ^ 64) (hl : l < 2 ^ 64) (K : List Bool → Option R) : ∀ (m n i : Nat), i + m = 64 → m < n →
    plumblineref01_Bits_l0 k n (i : Int) (h : Int) (l : Int) (row fun j => if j < i then l.testBit j else if 64 ≤ j ∧ j < 64 + i then h.testBit (j - 64) else false) K = K (row (V h l).testBit)
  | m, 0, i, h1, h2 => by omega
  | 0, n + 1, i, h1, h2 => by
    have : i = 64 := by omega
    subst this
    rw [plumblineref01_Bits_l0, plumblineref01_Bits_l0B]
    have e0 : ¬ (((64 : Nat) : Int) < 64) := by decide
    simp only [e0, decide_false, cond_false]
    congr 1
    refine row_congr fun j hj => ?_
    rw [V_testBit hl]
    by_cases h1 : j < 64
    · simp [h1]
    · have : 64 ≤ j ∧ j < 64 + 64 := by omega
      simp [h1, this]
  | m + 1, n + 1, i, h1, h2 => by
    rw [plumblineref01_Bits_l0, plumblineref01_Bits_l0B]
    have e0 : ((i : Int) < 64) := by omega
    have e1 : ¬ ((i : Int) < 0) := by omega
    have e2 : (0 : Int) ≤ (i : Int) := by omega
    have e3 : Wi64 (64 + (i : Int)) = ((64 + i : Nat) : Int) := by rw [wrap_i64 (by omega) (by omega)]; omega
    have e4 : Wi64 ((i : Int) + 1) = ((i + 1 : Nat) : Int) := by rw [wrap_i64 (by omega) (by omega)]; omega
    have e5 : (0 : Int) ≤ ((64 + i : Nat) : Int) := by omega
    have e6 : ((i : Int) < ((128 : Nat) : Int)) := by omega
    have e7 : (((64 + i : Nat) : Int) < ((128 : Nat) : Int)) := by omega
    rw [e3, e4]
    simp only [Int.toNat_natCast, row_set, row_length, row_get, e0, e1, e2, e5, e6, e7, decide_true, decide_false, cond_true, cond_false, bit_eq hl (by omega : i ≤ 64), bit_eq hh (by omega : i ≤ 64)]
    have e8 : i < 128 := by omega
    have e9 : 64 + i < 128 := by omega
    simp only [e8, e9, if_true, Option.bind_some]
    refine Eq.trans ?_ (Bits_loop k hh hl K m n (i + 1) (by omega) (by omega))
    congr 1
    refine row_congr fun j hj => ?_
    by_cases c1 : j = 64 + i
    · subst c1; simp; omega
    · by_cases c2 : j = i
      · subst c2; simp [c1]
      · have d1 : (j < i + 1) ↔ (j < i) := by omega
        have d2 : (64 ≤ j ∧ j < 64 + (i + 1)) ↔ (64 ≤ j ∧ j < 64 + i) := by omega
        simp only [c1, c2, if_false, d1, d2]

theorem Bits_spec {R : Type} {k h l : Nat} (hk : 65 ≤ k) (hh : h < 2 ^ 64) (hl : l < 2 ^ 64) (K : List Bool → Option R) : plumblineref01_Bits k (h : Int) (l : Int) K = K (row (V h l).testBit) := by
  unfold plumblineref01_Bits plumblineref01_BitsT
  rw [row_false]
  have := Bits_loop k hh hl K 64 k 0 (by omega) (by omega)
  refine Eq.trans ?_ this
  have e : (row fun _ => false) = row (fun j => if j < 0 then l.testBit j else if 64 ≤ j ∧ j < 64 + 0 then h.testBit (j - 64) else false) := row_congr fun j hj => by
    have d : ¬ (64 ≤ j ∧ j < 64 + 0) := by omega
    simp [d]
  rw [e]; rfl

end Go.Proofs.Ytbnmnkofekcodaa.N

/- Rows of bits as numbers; numbers of 128 bits in two halves; moves by the reference. Conditions: none. -/
namespace Go.Proofs.Ytbnmnkofekcodaa.N
set_option linter.unusedVariables false
set_option linter.unusedSimpArgs false
open Go Go.Ab

/-! ### Halves -/

def hi (A : Nat) : Int := ((A / 2 ^ 64 : Nat) : Int)
def lo (A : Nat) : Int := ((A % 2 ^ 64 : Nat) : Int)

theorem V_hl (A : Nat) : V (A / 2 ^ 64) (A % 2 ^ 64) = A := by
  unfold V; rw [Nat.mul_comm]; exact Nat.div_add_mod _ _
theorem hi_lt {A : Nat} (h : A < 2 ^ 128) : A / 2 ^ 64 < 2 ^ 64 := by
  rw [Nat.div_lt_iff_lt_mul (by decide), ← Nat.pow_add]; exact h
theorem lo_lt (A : Nat) : A % 2 ^ 64 < 2 ^ 64 := Nat.mod_lt _ (by decide)
theorem hi_V {h l : Nat} (hl : l < 2 ^ 64) : hi (V h l) = (h : Int) := by
  unfold hi V
  congr 1
  rw [Nat.mul_comm, Nat.mul_add_div (by decide), Nat.div_eq_of_lt hl, Nat.add_zero]
theorem lo_V {h l : Nat} (hl : l < 2 ^ 64) : lo (V h l) = (l : Int) := by
  unfold lo V
  congr 1
  rw [Nat.mul_comm, Nat.mul_add_mod, Nat.mod_eq_of_lt hl]
theorem hl_of {h l A : Nat} (hl : l < 2 ^ 64) (hV : V h l = A) : (h : Int) = hi A ∧ (l : Int) = lo A := by
  subst hV; exact ⟨(hi_V hl).symm, (lo_V hl).symm⟩
theorem hi_small {l : Nat} (hl : l < 2 ^ 64) : hi l = 0 := by unfold hi; rw [Nat.div_eq_of_lt hl]; rfl
theorem lo_small {l : Nat} (hl : l < 2 ^ 64) : lo l = (l : Int) := by unfold lo; rw [Nat.mod_eq_of_lt hl]
theorem hl_beq {A B : Nat} : ((hi A == hi B) && (lo A == lo B)) = (A == B) := by
  unfold hi lo
  rw [pair_beq (lo_lt A) (lo_lt B), V_hl, V_hl]

theorem Shl_hl {R : Type} (k : Nat) {A : Nat} {n : Int} (hA : A < 2 ^ 128) (hn : (Lit.int .i64 n).wf = true) (K : Int → Int → Option R) :
    wide_Shl k (hi A) (lo A) n K = K (hi (A * 2 ^ n.toNat % 2 ^ 128)) (lo (A * 2 ^ n.toNat % 2 ^ 128)) := by
  obtain ⟨h', l', h1, h2, h3, h4⟩ := Shl_spec (R := R) k (hi_lt hA) (lo_lt A) hn
  rw [V_hl] at h3
  obtain ⟨e1, e2⟩ := hl_of h2 h3
  rw [← e1, ← e2]; exact h4 K

theorem Shr_hl {R : Type} (k : Nat) {A : Nat} {n : Int} (hA : A < 2 ^ 128) (hn : (Lit.int .i64 n).wf = true) (K : Int → Int → Bool → Option R) :
    wide_Shr k (hi A) (lo A) n K = K (hi (A / 2 ^ n.toNat)) (lo (A / 2 ^ n.toNat)) (decide (A % 2 ^ n.toNat ≠ 0)) := by
  obtain ⟨h', l', h1, h2, h3, h4⟩ := Shr_spec (R := R) k (hi_lt hA) (lo_lt A) hn
  rw [V_hl] at h3
  obtain ⟨e1, e2⟩ := hl_of h2 h3
  rw [← e1, ← e2]
  have := h4 K
  rw [V_hl] at this
  exact this

/-! ### Rows -/

def rowN (n : Nat) (f : Nat → Bool) : List Bool := (List.range n).map f
theorem row_eq (f : Nat → Bool) : row f = rowN 128 f := rfl
@[simp] theorem rowN_length (n : Nat) (f : Nat → Bool) : (rowN n f).length = n := by simp [rowN]
theorem rowN_get (n : Nat) (f : Nat → Bool) (i : Nat) : (rowN n f)[i]? = if i < n then some (f i) else none := by
  unfold rowN
  rw [List.getElem?_map]
  by_cases h : i < n
  · rw [List.getElem?_range h, if_pos h]; rfl
  · rw [List.getElem?_eq_none (by simp; omega), if_neg h]; rfl
theorem rowN_set (n : Nat) (f : Nat → Bool) (i : Nat) (b : Bool) : (rowN n f).set i b = rowN n (fun j => if j = i then b else f j) := by
  apply List.ext_getElem?
  intro j
  rw [List.getElem?_set, rowN_get, rowN_length, rowN_get]
  by_cases hj : i = j
  · subst hj; simp
  · rw [if_neg hj]
    have : ¬ j = i := fun h => hj h.symm
    simp [this]
theorem rowN_congr {n : Nat} {f g : Nat → Bool} (h : ∀ i, i < n → f i = g i) : rowN n f = rowN n g := by
  apply List.ext_getElem?
  intro i
  rw [rowN_get, rowN_get]
  split
  · rename_i hi; rw [h i hi]
  · rfl
theorem rowN_false (n : Nat) : List.replicate n false = rowN n (fun _ => false) := by
  apply List.ext_getElem?
  intro i
  rw [rowN_get, List.getElem?_replicate]
theorem rowN_of (l : List Bool) : l = rowN l.length (fun i => l.getD i false) := by
  apply List.ext_getElem?
  intro i
  rw [rowN_get]
  split
  · rename_i h; rw [List.getElem?_eq_getElem h, List.getD_eq_getElem?_getD, List.getElem?_eq_getElem h]; rfl
  · rename_i h; exact List.getElem?_eq_none (by omega)

/-- The number of the first n bits. -/
def nOf (f : Nat → Bool) : Nat → Nat
  | 0 => 0
  | n + 1 => nOf f n + (f n).toNat * 2 ^ n

theorem nOf_lt (f : Nat → Bool) : ∀ n, nOf f n < 2 ^ n
  | 0 => by simp [nOf]
  | n + 1 => by
    have h := nOf_lt f n
    have : (f n).toNat ≤ 1 := Bool.toNat_le _
    rw [nOf, Nat.pow_succ]
    have := Nat.mul_le_mul_right (2 ^ n) this
    omega

theorem nOf_congr {f g : Nat → Bool} : ∀ {n : Nat}, (∀ i, i < n → f i = g i) → nOf f n = nOf g n
  | 0, _ => rfl
  | n + 1, h => by rw [nOf, nOf, nOf_congr (fun i hi => h i (by omega)), h n (by omega)]

theorem nOf_bits (x : Nat) : ∀ n, nOf x.testBit n = x % 2 ^ n
  | 0 => by simp [nOf, Nat.mod_one]
  | n + 1 => by
    rw [nOf, nOf_bits x n, Nat.toNat_testBit, Nat.mul_comm, Nat.pow_succ, Nat.mod_mul]

theorem nOf_testBit (f : Nat → Bool) : ∀ n i, (nOf f n).testBit i = (decide (i < n) && f i)
  | 0, i => by simp [nOf]
  | n + 1, i => by
    have h := nOf_lt f n
    rw [nOf, Nat.add_comm, Nat.mul_comm]
    by_cases hi : i < n
    · rw [Nat.testBit_two_pow_mul_add _ h, if_pos hi, nOf_testBit f n i]
      simp [hi, Nat.lt_succ_of_lt hi]
    · rw [Nat.testBit_two_pow_mul_add _ h, if_neg hi]
      by_cases h2 : i = n
      · subst h2
        cases f i <;> simp
      · have h3 : ¬ i < n + 1 := by omega
        have h4 : i - n ≠ 0 := by omega
        have h5 : Nat.testBit 1 (i - n) = false := by
          cases hb : Nat.testBit 1 (i - n) with
          | false => rfl
          | true => exact absurd (Nat.testBit_one_eq_true_iff_self_eq_zero.1 hb) h4
        cases f n <;> simp [h3, h5]

theorem nOf_eq {f : Nat → Bool} {n x : Nat} (hx : x < 2 ^ n) (h : ∀ i, i < n → f i = x.testBit i) : nOf f n = x := by
  rw [nOf_congr h, nOf_bits, Nat.mod_eq_of_lt hx]

/-! ### Bits, From -/

theorem Bits_hl {R : Type} {k A : Nat} (hk : 5000 ≤ k) (hA : A < 2 ^ 128) (K : List Bool → Option R) :
    plumblineref01_Bits k (hi A) (lo A) K = K (rowN 128 A.testBit) := by
  have := Bits_spec (k := k) (by omega) (hi_lt hA) (lo_lt A) K
  rw [V_hl] at this
  exact this

theorem bit_or {l i : Nat} (hl : l < 2 ^ i) (hi : i < 64) : bOr .u64 (l : Int) (shl .u64 1 (i : Int)) = ((l + 2 ^ i : Nat) : Int) := by
  have hp : 2 ^ i < 2 ^ 64 := Nat.pow_lt_pow_right (by decide) hi
  rw [show (1 : Int) = ((1 : Nat) : Int) from rfl, shl_nat 1 i (by omega), Nat.one_mul, Nat.mod_eq_of_lt hp,
    bOr_nat (Nat.lt_of_lt_of_le hl (Nat.pow_le_pow_right (by decide) (by omega))) hp]
  have : l ||| 2 ^ i = l + 2 ^ i := by
    rw [Nat.or_comm, or_add (s := i) (by simp) hl, Nat.add_comm]
  rw [this]

theorem Wi64_nat {i : Nat} (h : i < 2 ^ 62) : Wi64 (i : Int) = (i : Int) := wrap_i64 (by omega) (by omega)
theorem Wi64_succ {i : Nat} (h : i < 2 ^ 62) : Wi64 ((i : Int) + 1) = ((i + 1 : Nat) : Int) := by rw [wrap_i64 (by omega) (by omega)]; rfl
theorem Wi64_sub {i j : Nat} (h : i < 2 ^ 62) (hj : j ≤ i) : Wi64 ((i : Int) - (j : Int)) = ((i - j : Nat) : Int) := by rw [wrap_i64 (by omega) (by omega)]; omega

theorem From_loop {R : Type} (k : Nat) (N : Nat) (hN : N < 2 ^ 60) (f : Nat → Bool) (a b : Int) (K : Int → Int → Option R) : ∀ (m n i : Nat), i + m = 128 → m < n → i ≤ N →
    plumblineref01_From_l0 k n (i : Int) (rowN N f) a b (hi (nOf f i)) (lo (nOf f i)) K = K (hi (nOf f (min N 128))) (lo (nOf f (min N 128)))
  | m, 0, i, h1, h2, _ => by omega
  | 0, n + 1, i, h1, h2, h3 => by
    have : i = 128 := by omega
    subst this
    rw [plumblineref01_From_l0, plumblineref01_From_l0B]
    have e0 : ¬ (((128 : Nat) : Int) < 128) := by decide
    simp only [e0, decide_false, cond_false, rowN_length]
    have : min N 128 = 128 := by omega
    rw [this]
    cases decide (((128 : Nat) : Int) < (N : Int)) <;> rfl
  | m + 1, n + 1, i, h1, h2, h3 => by
    rw [plumblineref01_From_l0, plumblineref01_From_l0B]
    simp only [rowN_length]
    by_cases hN2 : i = N
    · subst hN2
      have e0 : ¬ ((i : Int) < (i : Int)) := by omega
      have : min i 128 = i := by omega
      simp only [e0, decide_false, cond_false, this]
    · have e0 : ((i : Int) < (N : Int)) := by omega
      have e1 : ((i : Int) < 128) := by omega
      have e2 : ((0 : Int) ≤ (i : Int)) := by omega
      have e3 : ¬ ((i : Int) < 0) := by omega
      have e4 : i < N := by omega
      rw [Wi64_succ (by omega)]
      simp only [e0, e1, e2, e3, decide_true, decide_false, cond_true, cond_false, Int.toNat_natCast, rowN_get, if_pos e4, Option.bind_some]
      have ih := From_loop k N hN f a b K m n (i + 1) (by omega) (by omega) (by omega)
      refine Eq.trans ?_ ih
      have hlt := nOf_lt f i
      cases hf : f i with
      | false =>
        simp only [Bool.not_false, cond_true, nOf, hf, Bool.toNat_false, Nat.zero_mul, Nat.add_zero]
      | true =>
        simp only [Bool.not_true, cond_false, nOf, hf, Bool.toNat_true, Nat.one_mul]
        by_cases h64 : i < 64
        · have c1 : ((i : Int) < 64) := by omega
          have hp : 2 ^ i ≤ 2 ^ 63 := Nat.pow_le_pow_right (by decide) (by omega)
          have hl2 : nOf f i < 2 ^ 64 := by omega
          have hl3 : nOf f i + 2 ^ i < 2 ^ 64 := by omega
          simp only [c1, decide_true, cond_true, hi_small hl2, lo_small hl2, hi_small hl3, lo_small hl3, bit_or hlt h64]
        · have c1 : ¬ ((i : Int) < 64) := by omega
          have c2 : Wi64 ((i : Int) - 64) = ((i - 64 : Nat) : Int) := by rw [wrap_i64 (by omega) (by omega)]; omega
          have c3 : ¬ (((i - 64 : Nat) : Int) < 0) := by omega
          simp only [c1, c2, c3, decide_false, cond_false]
          have hp : 2 ^ i = 2 ^ (i - 64) * 2 ^ 64 := by rw [← Nat.pow_add]; congr 1; omega
          have hd : nOf f i / 2 ^ 64 < 2 ^ (i - 64) := by rw [Nat.div_lt_iff_lt_mul (by decide), ← hp]; exact hlt
          have e5 : hi (nOf f i + 2 ^ i) = bOr .u64 (hi (nOf f i)) (shl .u64 1 ((i - 64 : Nat) : Int)) := by
            unfold hi
            rw [bit_or hd (by omega), hp, Nat.add_mul_div_right _ _ (by decide)]
          have e6 : lo (nOf f i + 2 ^ i) = lo (nOf f i) := by
            unfold lo
            rw [hp, Nat.add_mul_mod_self_right]
          rw [e5, e6]

theorem From_row {R : Type} {k N : Nat} (hk : 5000 ≤ k) (hN : N < 2 ^ 60) (f : Nat → Bool) (K : Int → Int → Option R) :
    plumblineref01_From k (rowN N f) K = K (hi (nOf f (min N 128))) (lo (nOf f (min N 128))) := by
  unfold plumblineref01_From plumblineref01_FromT
  have := From_loop k N hN f 0 0 K 128 k 0 (by omega) (by omega) (by omega)
  rw [show nOf f 0 = 0 from rfl, hi_small (by decide), lo_small (by decide)] at this
  exact this

theorem From_num {R : Type} {k A : Nat} (hk : 5000 ≤ k) (hA : A < 2 ^ 128) {f : Nat → Bool} (hf : ∀ i, i < 128 → f i = A.testBit i) (K : Int → Int → Option R) :
    plumblineref01_From k (rowN 128 f) K = K (hi A) (lo A) := by
  rw [From_row hk (by decide)]
  have : nOf f (min 128 128) = A := nOf_eq hA hf
  rw [this]

/-! ### Moves by the reference -/

theorem refShl_loop {R : Type} (k : Nat) (A : Nat) (s : Nat) (hs : s < 2 ^ 63) (a b : Int) (K : List Bool → Option R) : ∀ (m n i : Nat), m = i → m < n → i ≤ 128 →
    plumblineref01_Shl_l0 k n (s : Int) ((i : Int) - 1) a b (rowN 128 A.testBit) (rowN 128 fun j => if i ≤ j ∧ s ≤ j then A.testBit (j - s) else false) K = K (rowN 128 fun j => if s ≤ j then A.testBit (j - s) else false)
  | m, 0, i, h1, h2, _ => by omega
  | 0, n + 1, i, h1, h2, h3 => by
    subst h1
    rw [plumblineref01_Shl_l0, plumblineref01_Shl_l0B]
    have e0 : ¬ ((((0 : Nat) : Int) - 1) ≥ 0) := by decide
    simp only [e0, decide_false, cond_false, Nat.zero_le, true_and]
  | m + 1, n + 1, i, h1, h2, h3 => by
    subst h1
    rw [plumblineref01_Shl_l0, plumblineref01_Shl_l0B]
    have e : (((m + 1 : Nat) : Int) - 1) = (m : Int) := by omega
    have e0 : ((m : Int) ≥ 0) := by omega
    rw [e]
    by_cases hsm : s ≤ m
    · have e1 : ((m : Int) ≥ (s : Int)) := by omega
      have e2 : ((0 : Int) ≤ ((m - s : Nat) : Int)) := by omega
      have e3 : ((0 : Int) ≤ (m : Int)) := by omega
      have e4 : (((m - s : Nat) : Int) < ((128 : Nat) : Int)) := by omega
      have e5 : ((m : Int) < ((128 : Nat) : Int)) := by omega
      have e6 : m - s < 128 := by omega
      have e7 : m < 128 := by omega
      have e8 : Wi64 ((m : Int) - 1) = ((m : Int) - 1) := wrap_i64 (by omega) (by omega)
      rw [Wi64_sub (by omega) hsm, e8]
      simp only [e0, e1, e2, e3, e4, e5, rowN_length, decide_true, cond_true, Int.toNat_natCast, rowN_get, if_pos e6, if_pos e7, Option.bind_some, rowN_set]
      refine Eq.trans ?_ (refShl_loop k A s hs a b K m n m rfl (by omega) (by omega))
      congr 1
      refine rowN_congr fun j hj => ?_
      by_cases c : j = m
      · subst c; simp [hsm]
      · have d : (m + 1 ≤ j) ↔ (m ≤ j) := by omega
        simp only [c, if_false, d]
    · have e1 : ¬ ((m : Int) ≥ (s : Int)) := by omega
      simp only [e0, e1, decide_true, decide_false, cond_true, cond_false]
      congr 1
      refine rowN_congr fun j hj => ?_
      have d : (m + 1 ≤ j ∧ s ≤ j) ↔ (s ≤ j) := by omega
      simp only [d]

theorem refShl_hl {R : Type} {k A : Nat} {n : Int} (hk : 5000 ≤ k) (hA : A < 2 ^ 128) (hn : (Lit.int .i64 n).wf = true) (K : Int → Int → Option R) :
    plumblineref01_Shl k (hi A) (lo A) n K = K (hi (A * 2 ^ n.toNat % 2 ^ 128)) (lo (A * 2 ^ n.toNat % 2 ^ 128)) := by
  have hb := i64_wf hn
  have key : ∀ s : Nat, s < 2 ^ 63 → (plumblineref01_Bits k (hi A) (lo A) (fun r5 =>
      plumblineref01_Shl_l0 k k (s : Int) 127 0 0 r5 (List.replicate 128 false) (fun r6 => plumblineref01_From k r6 (fun r7 r8 => K r7 r8)))) = K (hi (A * 2 ^ s % 2 ^ 128)) (lo (A * 2 ^ s % 2 ^ 128)) := by
    intro s hs
    rw [Bits_hl hk hA, rowN_false]
    have h := refShl_loop k A s hs 0 0 (fun r6 => plumblineref01_From k r6 (fun r7 r8 => K r7 r8)) 128 k 128 rfl (by omega) (by omega)
    have e : (rowN 128 fun j => if 128 ≤ j ∧ s ≤ j then A.testBit (j - s) else false) = rowN 128 (fun _ => false) := rowN_congr fun j hj => by
      have : ¬ (128 ≤ j ∧ s ≤ j) := by omega
      simp only [this, if_false]
    rw [e] at h
    refine h.trans ?_
    refine From_num hk (Nat.mod_lt _ (by decide)) (fun i hi => ?_) K
    rw [Nat.testBit_mod_two_pow, Nat.testBit_mul_two_pow]
    by_cases c : s ≤ i <;> simp [c, hi]
  unfold plumblineref01_Shl plumblineref01_ShlT
  by_cases h0 : n < 0
  · have : n.toNat = 0 := by omega
    simp only [h0, decide_true, cond_true, this]
    exact key 0 (by decide)
  · obtain ⟨s, rfl⟩ : ∃ s : Nat, n = (s : Int) := ⟨n.toNat, by omega⟩
    simp only [h0, decide_false, cond_false, Int.toNat_natCast]
    exact key s (by omega)

end Go.Proofs.Ytbnmnkofekcodaa.N

/- Sums, differences, sizes by the reference and by the program: what they come to. Conditions: none. -/
namespace Go.Proofs.Ytbnmnkofekcodaa.N
set_option linter.unusedVariables false
set_option linter.unusedSimpArgs false
open Go Go.Ab

/-! ### add -/

def carryAt (A B : Nat) (c : Bool) (i : Nat) : Bool := decide (2 ^ i ≤ A % 2 ^ i + B % 2 ^ i + c.toNat)

theorem carry_zero (A B : Nat) (c : Bool) : carryAt A B c 0 = c := by cases c <;> simp [carryAt, Nat.mod_one]

theorem add_bit (A B : Nat) (c : Bool) (i : Nat) : (A + B + c.toNat).testBit i = Bool.xor (Bool.xor (A.testBit i) (B.testBit i)) (carryAt A B c i) ∧
    carryAt A B c (i + 1) = decide (2 ≤ (A.testBit i).toNat + (B.testBit i).toNat + (carryAt A B c i).toNat) := by
  have hp : 0 < 2 ^ i := Nat.two_pow_pos i
  have hA := Nat.div_add_mod A (2 ^ i)
  have hB := Nat.div_add_mod B (2 ^ i)
  have ha := Nat.mod_lt A hp
  have hb := Nat.mod_lt B hp
  have hc : c.toNat ≤ 1 := Bool.toNat_le _
  have e1 : (A + B + c.toNat) / 2 ^ i = A / 2 ^ i + B / 2 ^ i + (carryAt A B c i).toNat := by
    have : A + B + c.toNat = 2 ^ i * (A / 2 ^ i + B / 2 ^ i) + (A % 2 ^ i + B % 2 ^ i + c.toNat) := by
      rw [Nat.mul_add]; omega
    rw [this, Nat.mul_add_div hp]
    congr 1
    unfold carryAt
    by_cases h : 2 ^ i ≤ A % 2 ^ i + B % 2 ^ i + c.toNat
    · simp only [h, decide_true, Bool.toNat_true]
      rw [Nat.div_eq_of_lt_le] <;> omega
    · simp only [h, decide_false, Bool.toNat_false]
      exact Nat.div_eq_of_lt (by omega)
  constructor
  · rw [Nat.testBit_eq_decide_div_mod_eq, e1, Nat.testBit_eq_decide_div_mod_eq, Nat.testBit_eq_decide_div_mod_eq]
    have := Nat.mod_two_eq_zero_or_one (A / 2 ^ i)
    have := Nat.mod_two_eq_zero_or_one (B / 2 ^ i)
    cases carryAt A B c i <;> by_cases p : A / 2 ^ i % 2 = 1 <;> by_cases q : B / 2 ^ i % 2 = 1 <;> simp [p, q] <;> omega
  · have mA : A % 2 ^ (i + 1) = A % 2 ^ i + 2 ^ i * (A.testBit i).toNat := by rw [Nat.pow_succ, Nat.mod_mul, Nat.toNat_testBit]
    have mB : B % 2 ^ (i + 1) = B % 2 ^ i + 2 ^ i * (B.testBit i).toNat := by rw [Nat.pow_succ, Nat.mod_mul, Nat.toNat_testBit]
    unfold carryAt
    rw [mA, mB, Nat.pow_succ]
    cases A.testBit i <;> cases B.testBit i <;> by_cases h : 2 ^ i ≤ A % 2 ^ i + B % 2 ^ i + c.toNat <;> simp [h] <;> omega

theorem add_loop {R : Type} (k : Nat) (A B : Nat) (c : Bool) (K : Bool → List Bool → Option R) : ∀ (m n i : Nat), m + i = 128 → m < n →
    plumblineref01_add_l0 k n (carryAt A B c i) 128 (i : Int) (rowN 128 A.testBit) (rowN 128 B.testBit) (rowN 129 fun j => if j < i then (A + B + c.toNat).testBit j else false) K =
      K (carryAt A B c 128) (rowN 129 fun j => if j < 128 then (A + B + c.toNat).testBit j else false)
  | m, 0, i, h1, h2 => by omega
  | 0, n + 1, i, h1, h2 => by
    have : i = 128 := by omega
    subst this
    rw [plumblineref01_add_l0, plumblineref01_add_l0B]
    have e0 : ¬ (((128 : Nat) : Int) < 128) := by decide
    simp only [e0, decide_false, cond_false]
  | m + 1, n + 1, i, h1, h2 => by
    rw [plumblineref01_add_l0, plumblineref01_add_l0B]
    have e0 : ((i : Int) < 128) := by omega
    have e1 : ((0 : Int) ≤ (i : Int)) := by omega
    have e2 : ((i : Int) < ((128 : Nat) : Int)) := by omega
    have e2' : ((i : Int) < ((129 : Nat) : Int)) := by omega
    have e3 : i < 128 := by omega
    have e3' : i < 129 := by omega
    have ih := add_loop k A B c K m n (i + 1) (by omega) (by omega)
    rw [Wi64_succ (by omega)]
    obtain ⟨hb, hc⟩ := add_bit A B c i
    have hrow : ∀ b : Bool, b = (A + B + c.toNat).testBit i → (rowN 129 fun j => if j = i then b else if j < i then (A + B + c.toNat).testBit j else false) = rowN 129 fun j => if j < i + 1 then (A + B + c.toNat).testBit j else false := by
      intro b hb
      refine rowN_congr fun j hj => ?_
      by_cases cc : j = i
      · subst cc; simp [hb]
      · have a1 : (j < i + 1) ↔ (j < i) := by omega
        simp only [cc, a1, if_false]
    rw [hc] at ih
    simp only [e0, e1, e2, e2', decide_true, cond_true, rowN_length, Int.toNat_natCast, rowN_get, if_pos e3, if_pos e3', Option.bind_some, rowN_set]
    rw [hb] at hrow
    cases hx : A.testBit i <;> cases hy : B.testBit i <;> cases hz : carryAt A B c i <;> rw [hx, hy, hz] at ih hrow <;> simp only [cond_true, cond_false] <;> first | (rw [hrow true rfl]; exact ih) | (rw [hrow false rfl]; exact ih)

theorem add_row {R : Type} {k A B : Nat} (hk : 5000 ≤ k) (hA : A < 2 ^ 128) (hB : B < 2 ^ 128) (c : Bool) (K : List Bool → Option R) :
    plumblineref01_add k c (rowN 128 A.testBit) (rowN 128 B.testBit) K = K (rowN 129 (A + B + c.toNat).testBit) := by
  unfold plumblineref01_add plumblineref01_addT
  simp only [rowN_length]
  have e0 : ¬ (((128 : Nat) : Int) > ((128 : Nat) : Int)) := by decide
  have e1 : Wi64 (((128 : Nat) : Int) + 1) = ((129 : Nat) : Int) := Wi64_succ (by decide)
  rw [e1, rowN_false]
  have e2 : (0 : Int) ≤ ((129 : Nat) : Int) := by decide
  have e3 : ((129 : Nat) : Int) ≤ ((129 : Nat) : Int) := by decide
  have e4 : (((129 : Nat) : Int) * 1) ≤ 140737488355328 := by decide
  have e5 : (0 : Int) ≤ ((128 : Nat) : Int) := by decide
  simp only [e0, e2, e3, e4, e5, decide_false, decide_true, cond_false, cond_true, Int.toNat_natCast]
  have h := add_loop k A B c (fun r4 r5 =>
            cond (decide (((128 : Nat) : Int) < (((List.length r5) : Nat) : Int))) (
                Option.bind (r5[128]?) fun e6 =>
                K (List.set r5 128 r4)) (
                none)) 128 k 0 (by omega) (by omega)
  rw [carry_zero] at h
  have e : (rowN 129 fun j => if j < 0 then (A + B + c.toNat).testBit j else false) = rowN 129 (fun _ => false) := rowN_congr fun j hj => by simp
  rw [e] at h
  refine h.trans ?_
  have e6 : ((128 : Nat) : Int) < ((129 : Nat) : Int) := by decide
  have e7 : 128 < 129 := by decide
  simp only [rowN_length, e6, decide_true, cond_true, rowN_get, if_pos e7, Option.bind_some, rowN_set]
  congr 1
  refine rowN_congr fun j hj => ?_
  by_cases cc : j = 128
  · subst cc
    obtain ⟨hb, _⟩ := add_bit A B c 128
    rw [hb, Nat.testBit_lt_two_pow hA, Nat.testBit_lt_two_pow hB]
    simp
  · have : j < 128 := by omega
    simp only [cc, this, if_false, if_true]

theorem refAdd_hl {R : Type} {k A B : Nat} (hk : 5000 ≤ k) (hA : A < 2 ^ 128) (hB : B < 2 ^ 128) (K : Int → Int → Bool → Option R) :
    plumblineref01_Add k (hi A) (lo A) (hi B) (lo B) K = K (hi ((A + B) % 2 ^ 128)) (lo ((A + B) % 2 ^ 128)) (decide (2 ^ 128 ≤ A + B)) := by
  unfold plumblineref01_Add plumblineref01_AddT
  rw [Bits_hl hk hA, Bits_hl hk hB, add_row hk hA hB]
  have e0 : ((128 : Nat) : Int) < ((129 : Nat) : Int) := by decide
  have e1 : (128 : Nat) < 129 := by decide
  rw [From_row hk (by decide)]
  simp only [rowN_length, Bool.toNat_false, Nat.add_zero]
  have e2 : (128 : Int) < ((129 : Nat) : Int) := by decide
  simp only [e2, decide_true, cond_true, rowN_get, if_pos e1, Option.bind_some]
  have e3 : min 129 128 = 128 := by decide
  rw [e3, nOf_bits]
  congr 1
  rw [Nat.testBit_eq_decide_div_mod_eq]
  rw [e128] at *
  rw [Bool.eq_iff_iff]
  simp only [decide_eq_true_eq]
  omega

theorem refSub_loop {R : Type} (k : Nat) (B : Nat) (a b c d : Int) (K : List Bool → Option R) : ∀ (m n i : Nat), m + i = 128 → m < n →
    plumblineref01_Sub_l0 k n (i : Int) a b c d (rowN 128 fun j => if j < i then !B.testBit j else B.testBit j) K = K (rowN 128 fun j => !B.testBit j)
  | m, 0, i, h1, h2 => by omega
  | 0, n + 1, i, h1, h2 => by
    have : i = 128 := by omega
    subst this
    rw [plumblineref01_Sub_l0, plumblineref01_Sub_l0B]
    have e0 : ¬ (((128 : Nat) : Int) < 128) := by decide
    simp only [e0, decide_false, cond_false]
    exact congrArg K (rowN_congr fun j hj => by simp [hj])
  | m + 1, n + 1, i, h1, h2 => by
    rw [plumblineref01_Sub_l0, plumblineref01_Sub_l0B]
    have e0 : ((i : Int) < 128) := by omega
    have e1 : ((0 : Int) ≤ (i : Int)) := by omega
    have e2 : ((i : Int) < ((128 : Nat) : Int)) := by omega
    have e3 : i < 128 := by omega
    rw [Wi64_succ (by omega)]
    simp only [e0, e1, e2, decide_true, cond_true, rowN_length, Int.toNat_natCast, rowN_get, if_pos e3, Option.bind_some, rowN_set]
    refine Eq.trans ?_ (refSub_loop k B a b c d K m n (i + 1) (by omega) (by omega))
    congr 1
    refine rowN_congr fun j hj => ?_
    by_cases cc : j = i
    · subst cc; simp
    · have a1 : (j < i + 1) ↔ (j < i) := by omega
      simp only [cc, a1, if_false]

theorem refSub_hl {R : Type} {k A B : Nat} (hk : 5000 ≤ k) (hA : A < 2 ^ 128) (hB : B < 2 ^ 128) (K : Int → Int → Bool → Option R) :
    plumblineref01_Sub k (hi A) (lo A) (hi B) (lo B) K = K (hi ((A + 2 ^ 128 - B) % 2 ^ 128)) (lo ((A + 2 ^ 128 - B) % 2 ^ 128)) (decide (A < B)) := by
  unfold plumblineref01_Sub plumblineref01_SubT
  rw [Bits_hl hk hB]
  have h := refSub_loop k B (hi A) (lo A) 0 0 (fun r2 =>
      plumblineref01_Bits k (hi A) (lo A) (fun r3 =>
        plumblineref01_add k true r3 r2 (fun r4 =>
          plumblineref01_From k r4 (fun r5 r6 =>
            cond (decide (128 < (((List.length r4) : Nat) : Int))) (
              Option.bind (r4[128]?) fun e7 =>
              K r5 r6 (!e7)) (
              none))))) 128 k 0 (by omega) (by omega)
  have e : (rowN 128 fun j => if j < 0 then !B.testBit j else B.testBit j) = rowN 128 B.testBit := rowN_congr fun j hj => by simp
  rw [e] at h
  refine h.trans ?_
  rw [Bits_hl hk hA]
  have hN : 2 ^ 128 - (B + 1) < 2 ^ 128 := by omega
  have e2 : (rowN 128 fun j => !B.testBit j) = rowN 128 (2 ^ 128 - (B + 1)).testBit := rowN_congr fun j hj => by
    rw [Nat.testBit_two_pow_sub_succ hB]; simp [hj]
  rw [e2, add_row hk hA hN, From_row hk (by decide)]
  have e1 : (128 : Nat) < 129 := by decide
  have e3 : (128 : Int) < ((129 : Nat) : Int) := by decide
  simp only [rowN_length, Bool.toNat_true, e3, decide_true, cond_true, rowN_get, if_pos e1, Option.bind_some]
  have e4 : min 129 128 = 128 := by decide
  have e5 : A + (2 ^ 128 - (B + 1)) + 1 = A + 2 ^ 128 - B := by omega
  rw [e4, nOf_bits, e5]
  congr 1
  rw [Nat.testBit_eq_decide_div_mod_eq]
  rw [e128] at *
  rw [Bool.eq_iff_iff]
  simp only [Bool.not_eq_true', decide_eq_false_iff_not, decide_eq_true_eq]
  omega

/-! ### Add, Sub, by the program -/

theorem Add_hl {R : Type} (k : Nat) {A B : Nat} (hA : A < 2 ^ 128) (hB : B < 2 ^ 128) (K : Int → Int → Bool → Option R) :
    wide_Add k (hi A) (lo A) (hi B) (lo B) K = K (hi ((A + B) % 2 ^ 128)) (lo ((A + B) % 2 ^ 128)) (decide (2 ^ 128 ≤ A + B)) := by
  unfold wide_Add wide_AddT add64 carry64 hi lo
  have h1 := lo_lt A
  have h2 := lo_lt B
  have h3 := hi_lt hA
  have h4 := hi_lt hB
  have eA := V_hl A
  have eB := V_hl B
  unfold V at eA eB
  simp only [Int.toNat_natCast, Int.toNat_zero, Nat.add_zero, Int.ofNat_eq_natCast]
  generalize A / 2 ^ 64 = a at *
  generalize A % 2 ^ 64 = b at *
  generalize B / 2 ^ 64 = c at *
  generalize B % 2 ^ 64 = d at *
  subst eA eB
  rw [e128, e64] at *
  have c1 : (((b + d) / 18446744073709551616 : Nat) : Int) ≤ 1 := by omega
  simp only [c1, decide_true, cond_true]
  have k1 : (a + c + (b + d) / 18446744073709551616) % 18446744073709551616 = (a * 18446744073709551616 + b + (c * 18446744073709551616 + d)) % 340282366920938463463374607431768211456 / 18446744073709551616 := by omega
  have k2 : (b + d) % 18446744073709551616 = (a * 18446744073709551616 + b + (c * 18446744073709551616 + d)) % 340282366920938463463374607431768211456 % 18446744073709551616 := by omega
  rw [← k1, ← k2]
  congr 1
  rw [Bool.eq_iff_iff]
  simp only [beq_iff_eq, decide_eq_true_eq]
  omega

theorem Sub_hl {R : Type} (k : Nat) {A B : Nat} (hA : A < 2 ^ 128) (hB : B < 2 ^ 128) (K : Int → Int → Bool → Option R) :
    wide_Sub k (hi A) (lo A) (hi B) (lo B) K = K (hi ((A + 2 ^ 128 - B) % 2 ^ 128)) (lo ((A + 2 ^ 128 - B) % 2 ^ 128)) (decide (A < B)) := by
  unfold wide_Sub wide_SubT sub64 borrow64 hi lo
  have h1 := lo_lt A
  have h2 := lo_lt B
  have h3 := hi_lt hA
  have h4 := hi_lt hB
  have eA := V_hl A
  have eB := V_hl B
  unfold V at eA eB
  simp only [Int.toNat_natCast, Int.toNat_zero, Nat.add_zero, Nat.sub_zero, Int.ofNat_eq_natCast]
  generalize A / 2 ^ 64 = a at *
  generalize A % 2 ^ 64 = b at *
  generalize B / 2 ^ 64 = c at *
  generalize B % 2 ^ 64 = d at *
  subst eA eB
  rw [e128, e64] at *
  have c1 : (((if b < d then 1 else 0) : Nat) : Int) ≤ 1 := by split <;> omega
  simp only [c1, decide_true, cond_true]
  have k1 : (a + 18446744073709551616 - c - if b < d then 1 else 0) % 18446744073709551616 = (a * 18446744073709551616 + b + 340282366920938463463374607431768211456 - (c * 18446744073709551616 + d)) % 340282366920938463463374607431768211456 / 18446744073709551616 := by split <;> omega
  have k2 : (b + 18446744073709551616 - d) % 18446744073709551616 = (a * 18446744073709551616 + b + 340282366920938463463374607431768211456 - (c * 18446744073709551616 + d)) % 340282366920938463463374607431768211456 % 18446744073709551616 := by omega
  rw [← k1, ← k2]
  congr 1
  rw [Bool.eq_iff_iff]
  simp only [beq_iff_eq, decide_eq_true_eq]
  split <;> split <;> omega

/-! ### Compare -/

def sgn (A B : Nat) : Int := if A < B then -1 else if B < A then 1 else 0

theorem Compare_hl {R : Type} {k A B : Nat} (hk : 5000 ≤ k) (K : Int → Option R) : wide_Compare k (hi A) (lo A) (hi B) (lo B) K = K (sgn A B) := by
  obtain ⟨k, rfl⟩ : ∃ j, k = j + 3 := ⟨k - 3, by omega⟩
  have hs : ∀ x y : Nat, ∀ L : Int → Option R, cmp_Compare_uint64 (k + 3) (x : Int) (y : Int) L = L (sgn x y) := by
    intro x y L
    unfold cmp_Compare_uint64 cmp_Compare_uint64T cmp_isNaN_uint64 cmp_isNaN_uint64T sgn
    simp only [bne_self_eq_false, cond_false]
    by_cases h1 : x < y
    · have : (x : Int) < (y : Int) := by omega
      simp only [this, h1, decide_true, cond_true, if_true]
    · by_cases h2 : y < x
      · have a1 : ¬ (x : Int) < (y : Int) := by omega
        have a2 : (x : Int) > (y : Int) := by omega
        simp only [a1, a2, h1, h2, decide_true, decide_false, cond_true, cond_false, if_true, if_false]
      · have a1 : ¬ (x : Int) < (y : Int) := by omega
        have a2 : ¬ (x : Int) > (y : Int) := by omega
        simp only [a1, a2, h1, h2, decide_true, decide_false, cond_true, cond_false, if_true, if_false]
  unfold wide_Compare wide_CompareT wide_words wide_wordsT hi lo
  rw [hs, hs]
  unfold cmp_Or_int cmp_Or_intT
  rw [cmp_Or_int_l0, cmp_Or_int_l0B]
  have d1 : A = 2 ^ 64 * (A / 2 ^ 64) + A % 2 ^ 64 := (Nat.div_add_mod _ _).symm
  have d2 : B = 2 ^ 64 * (B / 2 ^ 64) + B % 2 ^ 64 := (Nat.div_add_mod _ _).symm
  have l1 := lo_lt A
  have l2 := lo_lt B
  have e1 : Wi64 (0 + 1) = 1 := by decide
  have e2 : Wi64 (1 + 1) = 2 := by decide
  have c1 : ((0 : Int) < ((List.length [sgn (A / 2 ^ 64) (B / 2 ^ 64), sgn (A % 2 ^ 64) (B % 2 ^ 64)] : Nat) : Int)) := by simp
  have c2 : ((1 : Int) < ((List.length [sgn (A / 2 ^ 64) (B / 2 ^ 64), sgn (A % 2 ^ 64) (B % 2 ^ 64)] : Nat) : Int)) := by simp
  have c3 : ¬ ((2 : Int) < ((List.length [sgn (A / 2 ^ 64) (B / 2 ^ 64), sgn (A % 2 ^ 64) (B % 2 ^ 64)] : Nat) : Int)) := by simp
  have z0 : (0 : Int) ≤ 0 := by decide
  have z1 : (0 : Int) ≤ 1 := by decide
  rw [e1, cmp_Or_int_l0, cmp_Or_int_l0B, e2, cmp_Or_int_l0, cmp_Or_int_l0B]
  simp only [c1, c2, c3, z0, z1, decide_true, decide_false, cond_true, cond_false, Int.toNat_zero, Int.toNat_one, List.getElem?_cons_zero, List.getElem?_cons_succ, Option.bind_some]
  rw [e64] at *
  generalize A / 18446744073709551616 = a at *
  generalize A % 18446744073709551616 = b at *
  generalize B / 18446744073709551616 = c at *
  generalize B % 18446744073709551616 = d at *
  subst d1 d2
  unfold sgn
  by_cases h1 : a < c
  · have : 18446744073709551616 * a + b < 18446744073709551616 * c + d := by omega
    simp only [h1, this, if_true]; rfl
  · by_cases h2 : c < a
    · have x1 : ¬ 18446744073709551616 * a + b < 18446744073709551616 * c + d := by omega
      have x2 : 18446744073709551616 * c + d < 18446744073709551616 * a + b := by omega
      simp only [h1, h2, x1, x2, if_true, if_false]; rfl
    · have : a = c := by omega
      subst this
      have x1 : (18446744073709551616 * a + b < 18446744073709551616 * a + d) ↔ b < d := by omega
      have x2 : (18446744073709551616 * a + d < 18446744073709551616 * a + b) ↔ d < b := by omega
      simp only [h1, x1, x2, if_false]
      by_cases h3 : b < d
      · simp only [h3, if_true]; rfl
      · by_cases h4 : d < b
        · simp only [h3, h4, if_true, if_false]; rfl
        · simp only [h3, h4, if_false]; rfl

theorem div_lt_of_bits {A B i : Nat} (h : A / 2 ^ (i + 1) = B / 2 ^ (i + 1)) (h1 : A.testBit i = true) (h2 : B.testBit i = false) : B < A := by
  have eA : A / 2 ^ i = 2 * (A / 2 ^ (i + 1)) + 1 := by
    have := Nat.toNat_testBit A i
    rw [h1] at this
    have hd : A / 2 ^ (i + 1) = A / 2 ^ i / 2 := by rw [Nat.pow_succ, Nat.div_div_eq_div_mul]
    rw [hd]
    simp at this
    omega
  have eB : B / 2 ^ i = 2 * (B / 2 ^ (i + 1)) := by
    have := Nat.toNat_testBit B i
    rw [h2] at this
    have hd : B / 2 ^ (i + 1) = B / 2 ^ i / 2 := by rw [Nat.pow_succ, Nat.div_div_eq_div_mul]
    rw [hd]
    simp at this
    omega
  have hlt : B / 2 ^ i < A / 2 ^ i := by omega
  exact Nat.lt_of_not_le fun hle => by
    have := Nat.div_le_div_right (c := 2 ^ i) hle
    omega

theorem div_eq_of_bits {A B i : Nat} (h : A / 2 ^ (i + 1) = B / 2 ^ (i + 1)) (h1 : A.testBit i = B.testBit i) : A / 2 ^ i = B / 2 ^ i := by
  have a1 := Nat.toNat_testBit A i
  have b1 := Nat.toNat_testBit B i
  have hd : A / 2 ^ (i + 1) = A / 2 ^ i / 2 := by rw [Nat.pow_succ, Nat.div_div_eq_div_mul]
  have hd2 : B / 2 ^ (i + 1) = B / 2 ^ i / 2 := by rw [Nat.pow_succ, Nat.div_div_eq_div_mul]
  rw [hd, hd2] at h
  rw [h1] at a1
  omega

theorem refCompare_loop {R : Type} (k : Nat) (A B : Nat) (K : Int → Option R) : ∀ (i n : Nat), i ≤ 128 → i < n → A / 2 ^ i = B / 2 ^ i →
    plumblineref01_Compare_l0 k n ((i : Int) - 1) (rowN 128 A.testBit) (rowN 128 B.testBit) K (K 0) = K (sgn A B)
  | i, 0, h1, h2, _ => by omega
  | 0, n + 1, h1, h2, h3 => by
    rw [plumblineref01_Compare_l0, plumblineref01_Compare_l0B]
    have e0 : ¬ ((((0 : Nat) : Int) - 1) ≥ 0) := by decide
    simp only [e0, decide_false, cond_false]
    simp only [Nat.pow_zero, Nat.div_one] at h3
    subst h3
    simp [sgn]
  | i + 1, n + 1, h1, h2, h3 => by
    rw [plumblineref01_Compare_l0, plumblineref01_Compare_l0B]
    have e : (((i + 1 : Nat) : Int) - 1) = (i : Int) := by omega
    have e0 : ((i : Int) ≥ 0) := by omega
    have e1 : ((0 : Int) ≤ (i : Int)) := by omega
    have e2 : ((i : Int) < ((128 : Nat) : Int)) := by omega
    have e3 : i < 128 := by omega
    have e8 : Wi64 ((i : Int) - 1) = ((i : Int) - 1) := wrap_i64 (by omega) (by omega)
    rw [e, e8]
    simp only [e0, e1, e2, decide_true, cond_true, rowN_length, Int.toNat_natCast, rowN_get, if_pos e3, Option.bind_some]
    by_cases hb : A.testBit i = B.testBit i
    · have : (!(A.testBit i == B.testBit i)) = false := by simp [hb]
      rw [this]
      simp only [cond_false]
      exact refCompare_loop k A B K i n (by omega) (by omega) (div_eq_of_bits h3 hb)
    · have : (!(A.testBit i == B.testBit i)) = true := by simp [hb]
      rw [this]
      simp only [cond_true]
      cases hx : A.testBit i with
      | true =>
        have hy : B.testBit i = false := by rw [hx] at hb; cases hq : B.testBit i with | true => exact absurd hq.symm hb | false => rfl
        have h9 := div_lt_of_bits h3 hx hy
        have : ¬ A < B := by omega
        simp [sgn, this, h9]
      | false =>
        have hy : B.testBit i = true := by rw [hx] at hb; cases hq : B.testBit i with | true => rfl | false => exact absurd hq.symm hb
        have := div_lt_of_bits h3.symm hy hx
        simp [sgn, this]

theorem refCompare_hl {R : Type} {k A B : Nat} (hk : 5000 ≤ k) (hA : A < 2 ^ 128) (hB : B < 2 ^ 128) (K : Int → Option R) : plumblineref01_Compare k (hi A) (lo A) (hi B) (lo B) K = K (sgn A B) := by
  unfold plumblineref01_Compare plumblineref01_CompareT
  rw [Bits_hl hk hA, Bits_hl hk hB]
  exact refCompare_loop k A B K 128 k (by omega) (by omega) (by rw [Nat.div_eq_of_lt hA, Nat.div_eq_of_lt hB])

end Go.Proofs.Ytbnmnkofekcodaa.N

/- Products, lengths, quotients of numbers of 128 bits: what they come to. Conditions: none. -/
namespace Go.Proofs.Ytbnmnkofekcodaa.N
set_option linter.unusedVariables false
set_option linter.unusedSimpArgs false
open Go Go.Ab

theorem zero_hi {l : Nat} (hl : l < 2 ^ 64) : (0 : Int) = hi l := (hi_small hl).symm

/-! ### Mul -/

theorem refMul_loop {R : Type} {k : Nat} (hk : 5000 ≤ k) (A B : Nat) (hA : A < 2 ^ 64) (hB : B < 2 ^ 64) (c d : Int) (K : Int → Int → Option R) : ∀ (m n i : Nat), m + i = 64 → m < n →
    plumblineref01_Mul_l0 k n (A : Int) (B : Int) (i : Int) c d (hi (A * (B % 2 ^ i))) (lo (A * (B % 2 ^ i))) K = K (hi (A * B)) (lo (A * B))
  | m, 0, i, h1, h2 => by omega
  | 0, n + 1, i, h1, h2 => by
    have : i = 64 := by omega
    subst this
    rw [plumblineref01_Mul_l0, plumblineref01_Mul_l0B]
    have e0 : ¬ (((64 : Nat) : Int) < 64) := by decide
    simp only [e0, decide_false, cond_false, Nat.mod_eq_of_lt hB]
  | m + 1, n + 1, i, h1, h2 => by
    rw [plumblineref01_Mul_l0, plumblineref01_Mul_l0B]
    have e0 : ((i : Int) < 64) := by omega
    have e1 : ¬ ((i : Int) < 0) := by omega
    rw [Wi64_succ (by omega)]
    simp only [e0, e1, decide_true, decide_false, cond_true, cond_false, bit_eq hB (by omega : i ≤ 64)]
    have ih := refMul_loop hk A B hA hB c d K m n (i + 1) (by omega) (by omega)
    have hp : 2 ^ (i + 1) ≤ 2 ^ 64 := Nat.pow_le_pow_right (by decide) (by omega)
    have hpp : 0 < 2 ^ i := Nat.two_pow_pos i
    rw [Nat.pow_succ, Nat.mod_mul, ← Nat.toNat_testBit] at ih
    rw [Nat.pow_succ] at hp
    have hm := Nat.mod_lt B hpp
    cases hb : B.testBit i with
    | false =>
      rw [hb] at ih
      simp only [cond_false]
      simpa using ih
    | true =>
      rw [hb] at ih
      simp only [Bool.toNat_true, Nat.mul_one] at ih
      simp only [cond_true]
      rw [zero_hi hA, ← lo_small hA]
      have hA' : A < 2 ^ 128 := Nat.lt_trans hA (by decide)
      have hwf : (Lit.int .i64 (i : Int)).wf = true := by
        simp only [Lit.wf, Bool.and_eq_true, decide_eq_true_eq]
        have e1 : IntKind.i64.min = -9223372036854775808 := by decide
        have e2 : IntKind.i64.max = 9223372036854775807 := by decide
        rw [e1, e2]; omega
      rw [refShl_hl hk hA' hwf, Int.toNat_natCast]
      have b1 : A * 2 ^ i < 2 ^ 64 * 2 ^ 63 := by
        have : 2 ^ i ≤ 2 ^ 63 := Nat.pow_le_pow_right (by decide) (by omega)
        exact Nat.mul_lt_mul_of_lt_of_le hA this (by decide)
      have b2 : A * (B % 2 ^ i) ≤ 2 ^ 64 * 2 ^ 63 := by
        have : B % 2 ^ i ≤ 2 ^ 63 := by
          have : 2 ^ i ≤ 2 ^ 63 := Nat.pow_le_pow_right (by decide) (by omega)
          omega
        exact Nat.mul_le_mul (by omega) this
      have b3 : A * 2 ^ i % 2 ^ 128 = A * 2 ^ i := Nat.mod_eq_of_lt (by omega)
      rw [b3, refAdd_hl hk (by omega) (by omega)]
      have b4 : (A * (B % 2 ^ i) + A * 2 ^ i) % 2 ^ 128 = A * (B % 2 ^ i + 2 ^ i) := by
        rw [Nat.mul_add]; exact Nat.mod_eq_of_lt (by omega)
      rw [b4, lo_small hA]
      exact ih

theorem refMul_hl {R : Type} {k A B : Nat} (hk : 5000 ≤ k) (hA : A < 2 ^ 64) (hB : B < 2 ^ 64) (K : Int → Int → Option R) :
    plumblineref01_Mul k (A : Int) (B : Int) K = K (hi (A * B)) (lo (A * B)) := by
  unfold plumblineref01_Mul plumblineref01_MulT
  have h := refMul_loop hk A B hA hB 0 0 K 64 k 0 (by omega) (by omega)
  have e : A * (B % 2 ^ 0) = 0 := by rw [Nat.pow_zero, Nat.mod_one, Nat.mul_zero]
  rw [e, hi_small (by decide), lo_small (by decide)] at h
  exact h

theorem Wu64_nat (x : Nat) : Wu64 (x : Int) = ((x % 2 ^ 64 : Nat) : Int) := by
  unfold Wu64; rw [wrap_u64, e64]; omega

theorem and32 {x : Nat} (hx : x < 2 ^ 64) : bAnd .u64 (x : Int) 4294967295 = ((x % 2 ^ 32 : Nat) : Int) := by
  rw [show (4294967295 : Int) = ((2 ^ 32 - 1 : Nat) : Int) from by decide, bAnd_nat hx (by decide), Nat.and_two_pow_sub_one_eq_mod]
theorem and32m (x : Nat) : bAnd .u64 ((x % 2 ^ 64 : Nat) : Int) 4294967295 = ((x % 2 ^ 64 % 2 ^ 32 : Nat) : Int) := and32 (lo_lt x)
theorem shr32 (x : Nat) : shr .u64 (x : Int) 32 = ((x / 2 ^ 32 : Nat) : Int) := shr_nat x 32 (by decide)

theorem Mul_hl {R : Type} (k : Nat) {A B : Nat} (hA : A < 2 ^ 64) (hB : B < 2 ^ 64) (K : Int → Int → Option R) :
    wide_Mul k (A : Int) (B : Int) K = K (hi (A * B)) (lo (A * B)) := by
  unfold wide_Mul wide_MulT bits_Mul64 bits_Mul64T
  simp only [shr32, and32 hA, and32 hB, and32m, ← Int.natCast_mul, ← Int.natCast_add, Wu64_nat]
  have a1 : A / 2 ^ 32 ≤ 4294967295 := by omega
  have a0 : A % 2 ^ 32 ≤ 4294967295 := by omega
  have b1 : B / 2 ^ 32 ≤ 4294967295 := by omega
  have b0 : B % 2 ^ 32 ≤ 4294967295 := by omega
  have dA : A = A / 2 ^ 32 * 2 ^ 32 + A % 2 ^ 32 := by rw [Nat.mul_comm]; exact (Nat.div_add_mod _ _).symm
  have dB : B = B / 2 ^ 32 * 2 ^ 32 + B % 2 ^ 32 := by rw [Nat.mul_comm]; exact (Nat.div_add_mod _ _).symm
  have hAB : A * B = (A / 2 ^ 32 * (B / 2 ^ 32)) * 2 ^ 64 + (A / 2 ^ 32 * (B % 2 ^ 32) + A % 2 ^ 32 * (B / 2 ^ 32)) * 2 ^ 32 + A % 2 ^ 32 * (B % 2 ^ 32) := by
    conv => lhs; rw [dA, dB]
    generalize A / 2 ^ 32 = p
    generalize A % 2 ^ 32 = q
    generalize B / 2 ^ 32 = r
    generalize B % 2 ^ 32 = s
    rw [show (2 ^ 64 : Nat) = 2 ^ 32 * 2 ^ 32 from by decide]
    simp only [Nat.mul_add, Nat.add_mul]
    have e1 : p * 2 ^ 32 * (r * 2 ^ 32) = p * r * (2 ^ 32 * 2 ^ 32) := by rw [Nat.mul_mul_mul_comm]
    have e2 : p * 2 ^ 32 * s = p * s * 2 ^ 32 := by rw [Nat.mul_right_comm]
    have e3 : q * (r * 2 ^ 32) = q * r * 2 ^ 32 := by rw [Nat.mul_assoc]
    rw [e1, e2, e3]; omega
  have m11 : A / 2 ^ 32 * (B / 2 ^ 32) ≤ 4294967295 * 4294967295 := Nat.mul_le_mul a1 b1
  have m10 : A / 2 ^ 32 * (B % 2 ^ 32) ≤ 4294967295 * 4294967295 := Nat.mul_le_mul a1 b0
  have m01 : A % 2 ^ 32 * (B / 2 ^ 32) ≤ 4294967295 * 4294967295 := Nat.mul_le_mul a0 b1
  have m00 : A % 2 ^ 32 * (B % 2 ^ 32) ≤ 4294967295 * 4294967295 := Nat.mul_le_mul a0 b0
  rw [hAB]
  generalize A / 2 ^ 32 * (B / 2 ^ 32) = p at *
  generalize A / 2 ^ 32 * (B % 2 ^ 32) = q at *
  generalize A % 2 ^ 32 * (B / 2 ^ 32) = r at *
  generalize A % 2 ^ 32 * (B % 2 ^ 32) = s at *
  clear hAB dA dB a1 a0 b1 b0 hA hB
  unfold hi lo
  congr 2 <;> omega

/-! ### Len -/

/-- How many bits a number has. -/
def bl (n : Nat) : Nat := if n = 0 then 0 else n.log2 + 1

theorem bl_le_iff {n i : Nat} : bl n ≤ i ↔ n < 2 ^ i := by
  unfold bl
  by_cases h : n = 0
  · subst h; simp [Nat.two_pow_pos]
  · rw [if_neg h, Nat.succ_le_iff, Nat.log2_lt h]

theorem bl_eq {n i : Nat} (h1 : 2 ^ i ≤ n) (h2 : n < 2 ^ (i + 1)) : bl n = i + 1 := by
  have a : bl n ≤ i + 1 := bl_le_iff.2 h2
  have b : ¬ bl n ≤ i := fun h => by have := bl_le_iff.1 h; omega
  omega

theorem bl_div {n s : Nat} (h : 2 ^ s ≤ n) : bl n = s + bl (n / 2 ^ s) := by
  have hq : 0 < n / 2 ^ s := Nat.div_pos h (Nat.two_pow_pos s)
  have ha : bl n ≤ s + bl (n / 2 ^ s) := by
    rw [bl_le_iff, Nat.pow_add]
    have := (bl_le_iff (n := n / 2 ^ s)).1 (Nat.le_refl _)
    rw [Nat.div_lt_iff_lt_mul (Nat.two_pow_pos s)] at this
    rw [Nat.mul_comm]; exact this
  have hb : bl (n / 2 ^ s) ≤ bl n - s := by
    rw [bl_le_iff, Nat.div_lt_iff_lt_mul (Nat.two_pow_pos s), ← Nat.pow_add]
    have h1 := (bl_le_iff (n := n)).1 (Nat.le_refl _)
    exact Nat.lt_of_lt_of_le h1 (Nat.pow_le_pow_right (by decide) (by omega))
  have hc : s ≤ bl n := by
    have : ¬ bl n < s := fun hh => by
      have := bl_le_iff.1 (Nat.le_refl (bl n))
      have h3 : 2 ^ bl n ≤ 2 ^ s := Nat.pow_le_pow_right (by decide) (by omega)
      omega
    omega
  omega

theorem len8 : ∀ n : Fin 256, strAt str_bits_Len64_0 ((n.val : Nat) : Int) = some ((bl n.val : Nat) : Int) := by decide +kernel

theorem len8_nat {n : Nat} (h : n < 256) : strAt str_bits_Len64_0 (n : Int) = some ((bl n : Nat) : Int) := len8 ⟨n, h⟩

theorem Wu8_nat {n : Nat} (h : n < 256) : Wu8 (n : Int) = (n : Int) := by
  unfold Wu8 IntKind.wrap
  simp only [IntKind.bits, IntKind.signed]
  have e1 : (2 ^ 8 : Int) = 256 := by decide
  simp only [e1]
  show (n : Int) % 256 = n
  omega

theorem Len64_nat {R : Type} (k : Nat) {n : Nat} (hn : n < 2 ^ 64) (K : Int → Option R) : bits_Len64 k (n : Int) K = K ((bl n : Nat) : Int) := by
  have key : ∀ s : Nat, (s = 0 ∨ 2 ^ s ≤ n) → n / 2 ^ s < 256 → s < 64 → (Option.bind (strAt str_bits_Len64_0 (Wu8 ((n / 2 ^ s : Nat) : Int))) fun c => K (Wi64 ((s : Int) + Wi64 c))) = K ((bl n : Nat) : Int) := by
    intro s h1 h2 h3
    rw [Wu8_nat h2, len8_nat h2, Option.bind_some]
    have hb : bl (n / 2 ^ s) ≤ 8 := bl_le_iff.2 h2
    rw [Wi64_nat (by omega), show (s : Int) + ((bl (n / 2 ^ s) : Nat) : Int) = ((s + bl (n / 2 ^ s) : Nat) : Int) from by omega, Wi64_nat (by omega)]
    congr 2
    rcases h1 with h1 | h1
    · subst h1; simp
    · exact (bl_div h1).symm
  unfold bits_Len64 bits_Len64T
  have s8 : ∀ x : Nat, shr .u64 (x : Int) 8 = ((x / 2 ^ 8 : Nat) : Int) := fun x => shr_nat x 8 (by decide)
  have s16 : ∀ x : Nat, shr .u64 (x : Int) 16 = ((x / 2 ^ 16 : Nat) : Int) := fun x => shr_nat x 16 (by decide)
  simp only [shr32, s8, s16, Nat.div_div_eq_div_mul, ← Nat.pow_add]
  have k56 := key 56; have k48 := key 48; have k40 := key 40; have k32 := key 32; have k24 := key 24; have k16 := key 16; have k8 := key 8; have k0 := key 0
  simp only [Nat.pow_zero, Nat.div_one] at k0
  rw [e64] at hn
  by_cases c1 : ((n : Int) ≥ 4294967296)
  · simp only [c1, decide_true, cond_true]
    by_cases c2 : (((n / 2 ^ 32 : Nat) : Int) ≥ 65536)
    · simp only [c2, decide_true, cond_true]
      by_cases c3 : (((n / 2 ^ (32 + 16) : Nat) : Int) ≥ 256)
      · simp only [c3, decide_true, cond_true]; exact k56 (.inr (by omega)) (by omega) (by decide)
      · simp only [c3, decide_false, cond_false]; exact k48 (.inr (by omega)) (by omega) (by decide)
    · simp only [c2, decide_false, cond_false]
      by_cases c3 : (((n / 2 ^ 32 : Nat) : Int) ≥ 256)
      · simp only [c3, decide_true, cond_true]; exact k40 (.inr (by omega)) (by omega) (by decide)
      · simp only [c3, decide_false, cond_false]; exact k32 (.inr (by omega)) (by omega) (by decide)
  · simp only [c1, decide_false, cond_false]
    by_cases c2 : ((n : Int) ≥ 65536)
    · simp only [c2, decide_true, cond_true]
      by_cases c3 : (((n / 2 ^ 16 : Nat) : Int) ≥ 256)
      · simp only [c3, decide_true, cond_true]; exact k24 (.inr (by omega)) (by omega) (by decide)
      · simp only [c3, decide_false, cond_false]; exact k16 (.inr (by omega)) (by omega) (by decide)
    · simp only [c2, decide_false, cond_false]
      by_cases c3 : ((n : Int) ≥ 256)
      · simp only [c3, decide_true, cond_true]; exact k8 (.inr (by omega)) (by omega) (by decide)
      · simp only [c3, decide_false, cond_false]; exact k0 (.inl trivial) (by omega) (by decide)

theorem Len_hl {R : Type} (k : Nat) {A : Nat} (hA : A < 2 ^ 128) (K : Int → Option R) : wide_Len k (hi A) (lo A) K = K ((bl A : Nat) : Int) := by
  unfold wide_Len wide_LenT
  by_cases h : A / 2 ^ 64 = 0
  · have e1 : hi A = 0 := by unfold hi; rw [h]; rfl
    have e2 : A < 2 ^ 64 := by omega
    have : (hi A != 0) = false := by rw [e1]; rfl
    rw [this, cond_false, lo_small e2, Len64_nat k e2]
  · have : (hi A != 0) = true := by
      unfold hi
      rw [bne_iff_ne]
      omega
    rw [this, cond_true]
    unfold hi
    rw [Len64_nat k (hi_lt hA)]
    have hb : bl (A / 2 ^ 64) ≤ 64 := bl_le_iff.2 (hi_lt hA)
    rw [show (64 : Int) + ((bl (A / 2 ^ 64) : Nat) : Int) = ((64 + bl (A / 2 ^ 64) : Nat) : Int) from by omega, Wi64_nat (by omega)]
    rw [bl_div (n := A) (s := 64) (by omega)]

theorem bl_mod_succ (A i : Nat) : bl (A % 2 ^ (i + 1)) = if A.testBit i then i + 1 else bl (A % 2 ^ i) := by
  rw [Nat.pow_succ, Nat.mod_mul, ← Nat.toNat_testBit]
  have hp : 0 < 2 ^ i := Nat.two_pow_pos i
  have hm := Nat.mod_lt A hp
  cases A.testBit i with
  | false => simp
  | true =>
    simp only [Bool.toNat_true, Nat.mul_one, if_true]
    exact bl_eq (by omega) (by rw [Nat.pow_succ]; omega)

theorem refLen_loop {R : Type} (k : Nat) (A : Nat) (hA : A < 2 ^ 128) (K : Int → Option R) : ∀ (m n i : Nat), m + i = 128 → m < n →
    plumblineref01_Len_l0 k n ((bl (A % 2 ^ i) : Nat) : Int) (i : Int) (rowN 128 A.testBit) K = K ((bl A : Nat) : Int)
  | m, 0, i, h1, h2 => by omega
  | 0, n + 1, i, h1, h2 => by
    have : i = 128 := by omega
    subst this
    rw [plumblineref01_Len_l0, plumblineref01_Len_l0B]
    have e0 : ¬ (((128 : Nat) : Int) < 128) := by decide
    simp only [e0, decide_false, cond_false, Nat.mod_eq_of_lt hA]
  | m + 1, n + 1, i, h1, h2 => by
    rw [plumblineref01_Len_l0, plumblineref01_Len_l0B]
    have e0 : ((i : Int) < 128) := by omega
    have e1 : ((0 : Int) ≤ (i : Int)) := by omega
    have e2 : ((i : Int) < ((128 : Nat) : Int)) := by omega
    have e3 : i < 128 := by omega
    have ih := refLen_loop k A hA K m n (i + 1) (by omega) (by omega)
    rw [bl_mod_succ] at ih
    rw [Wi64_succ (by omega)]
    simp only [e0, e1, e2, decide_true, cond_true, rowN_length, Int.toNat_natCast, rowN_get, if_pos e3, Option.bind_some]
    cases hb : A.testBit i with
    | true => rw [hb] at ih; exact ih
    | false => rw [hb] at ih; exact ih

theorem refLen_hl {R : Type} {k A : Nat} (hk : 5000 ≤ k) (hA : A < 2 ^ 128) (K : Int → Option R) : plumblineref01_Len k (hi A) (lo A) K = K ((bl A : Nat) : Int) := by
  unfold plumblineref01_Len plumblineref01_LenT
  rw [Bits_hl hk hA]
  have h := refLen_loop k A hA K 128 k 0 (by omega) (by omega)
  have e : bl (A % 2 ^ 0) = 0 := by rw [Nat.pow_zero, Nat.mod_one]; rfl
  rw [e] at h
  exact h

end Go.Proofs.Ytbnmnkofekcodaa.N

/- Quotients of numbers of 128 bits: what they come to. Conditions: none. -/
namespace Go.Proofs.Ytbnmnkofekcodaa.N
set_option linter.unusedVariables false
set_option linter.unusedSimpArgs false
open Go Go.Ab

theorem Wu64_sub {x y : Nat} (h : y ≤ x) : Wu64 ((x : Int) - (y : Int)) = (((x - y) % 2 ^ 64 : Nat) : Int) := by
  rw [← Int.natCast_sub h, Wu64_nat]
theorem Wu64_lt {x : Nat} (h : x < 2 ^ 64) : Wu64 (x : Int) = (x : Int) := by rw [Wu64_nat, Nat.mod_eq_of_lt h]
/-- What is subtracted round and round is the true difference, if that is a word. -/
theorem Wu64_diff {x y r : Nat} (h : x = y + r) (hr : r < 2 ^ 64) : Wu64 (Wu64 (x : Int) - Wu64 (y : Int)) = (r : Int) := by
  rw [Wu64_nat, Wu64_nat]
  unfold Wu64
  rw [wrap_u64]
  subst h
  rw [e64] at *
  omega

/-! ### One digit -/

/-- A digit that is guessed by the upper half is put right by the two loops alike. -/
theorem digit_step {u d Y yn1 yn0 q r : Nat} (hY : Y = yn1 * 2 ^ 32 + yn0) (hu : u < Y) (hd : d < 2 ^ 32) (h0 : yn0 < 2 ^ 32) (h1 : 2 ^ 31 ≤ yn1) (hq : q * yn1 + r = u) (hge : (u * 2 ^ 32 + d) / Y ≤ q) :
    (2 ^ 32 ≤ q → (u * 2 ^ 32 + d) / Y < q) ∧ (q * yn0 > 2 ^ 32 * r + d → (u * 2 ^ 32 + d) / Y < q) ∧ (q * yn0 ≤ 2 ^ 32 * r + d → (u * 2 ^ 32 + d) / Y = q) := by
  have hYpos : 0 < Y := by omega
  have hlt : (u * 2 ^ 32 + d) / Y < 2 ^ 32 := by
    rw [Nat.div_lt_iff_lt_mul hYpos]
    have : (u + 1) * 2 ^ 32 ≤ Y * 2 ^ 32 := Nat.mul_le_mul_right _ hu
    rw [Nat.mul_comm (2 ^ 32) Y]
    omega
  have eq : q * Y = q * yn1 * 2 ^ 32 + q * yn0 := by rw [hY, Nat.mul_add, Nat.mul_assoc]
  refine ⟨fun h => Nat.lt_of_lt_of_le hlt h, fun h => ?_, fun h => ?_⟩
  · rw [Nat.div_lt_iff_lt_mul hYpos, eq]
    generalize q * yn1 = a at *
    generalize q * yn0 = b at *
    omega
  · refine Nat.le_antisymm hge ?_
    rw [Nat.le_div_iff_mul_le hYpos, eq]
    generalize q * yn1 = a at *
    generalize q * yn0 = b at *
    omega

theorem guess_ge {u d Y yn1 yn0 : Nat} (hY : Y = yn1 * 2 ^ 32 + yn0) (hd : d < 2 ^ 32) (h1 : 2 ^ 31 ≤ yn1) : (u * 2 ^ 32 + d) / Y ≤ u / yn1 := by
  have hYpos : 0 < Y := by omega
  have h : (u * 2 ^ 32 + d) / Y ≤ (u * 2 ^ 32 + d) / (yn1 * 2 ^ 32) := by
    refine Nat.div_le_div_left ?_ ?_ <;> omega
  refine Nat.le_trans h ?_
  rw [Nat.mul_comm yn1, ← Nat.div_div_eq_div_mul]
  have : (u * 2 ^ 32 + d) / 2 ^ 32 = u := by omega
  rw [this]
  exact Nat.le_refl _

theorem guess_le {u Y yn1 yn0 q r : Nat} (hY : Y = yn1 * 2 ^ 32 + yn0) (hu : u < Y) (h0 : yn0 < 2 ^ 32) (h1 : 2 ^ 31 ≤ yn1) (hq : q * yn1 + r = u) : q ≤ 2 ^ 32 + 1 := by
  refine Nat.le_of_not_lt fun h => ?_
  have : (2 ^ 32 + 2) * yn1 ≤ q * yn1 := Nat.mul_le_mul_right _ h
  omega

theorem Div64_l0 {R : Type} (k : Nat) {Y yn1 yn0 u d : Nat} (hY : Y = yn1 * 2 ^ 32 + yn0) (hYl : Y < 2 ^ 64) (hu : u < Y) (hd : d < 2 ^ 32) (h0 : yn0 < 2 ^ 32) (h1 : 2 ^ 31 ≤ yn1) (x1 x2 x5 x7 : Int) (K : Int → Option R) :
    ∀ (m n q r : Nat), q * yn1 + r = u → (u * 2 ^ 32 + d) / Y ≤ q → r < 2 ^ 32 → 2 ^ 32 ≤ r + m * yn1 → m < n →
    bits_Div64_l0 k n x1 x2 (yn1 : Int) (yn0 : Int) x5 (d : Int) x7 (q : Int) (r : Int) K = K (((u * 2 ^ 32 + d) / Y : Nat) : Int)
  | m, 0, q, r, _, _, _, _, hn => by omega
  | 0, n + 1, q, r, hq, hge, hr, hm, hn => by omega
  | m + 1, n + 1, q, r, hq, hge, hr, hm, hn => by
    rw [bits_Div64_l0, bits_Div64_l0B]
    obtain ⟨s1, s2, s3⟩ := digit_step hY hu hd h0 h1 hq hge
    have hle := guess_le hY hu h0 h1 hq
    have hy1 : yn1 < 2 ^ 32 := by omega
    have w1 : Wu64 ((r : Int) + (yn1 : Int)) = ((r + yn1 : Nat) : Int) := by rw [← Int.natCast_add]; exact Wu64_lt (by omega)
    have hdec : (u * 2 ^ 32 + d) / Y < q → (cond (decide ((((r + yn1 : Nat) : Int)) ≥ 4294967296)) (K (Wu64 ((q : Int) - 1))) (bits_Div64_l0 k n x1 x2 (yn1 : Int) (yn0 : Int) x5 (d : Int) x7 (Wu64 ((q : Int) - 1)) (((r + yn1 : Nat) : Int)) K)) = K (((u * 2 ^ 32 + d) / Y : Nat) : Int) := by
      intro hlt
      have hqpos : 1 ≤ q := Nat.lt_of_le_of_lt (Nat.zero_le _) hlt
      have w2 : Wu64 ((q : Int) - 1) = ((q - 1 : Nat) : Int) := by
        rw [show (1 : Int) = ((1 : Nat) : Int) from rfl, Wu64_sub (by omega), Nat.mod_eq_of_lt (by omega)]
      rw [w2]
      have hq' : (q - 1) * yn1 + (r + yn1) = u := by
        obtain ⟨q', rfl⟩ : ∃ q', q = q' + 1 := ⟨q - 1, by omega⟩
        rw [Nat.add_sub_cancel, ← hq, Nat.add_mul, Nat.one_mul]; omega
      have hge' : (u * 2 ^ 32 + d) / Y ≤ q - 1 := Nat.le_sub_one_of_lt hlt
      by_cases c : ((((r + yn1 : Nat) : Int)) ≥ 4294967296)
      · simp only [c, decide_true, cond_true]
        obtain ⟨_, _, s3'⟩ := digit_step hY hu hd h0 h1 hq' hge'
        have : (q - 1) * yn0 ≤ 2 ^ 32 * (r + yn1) + d := by
          have a1 : (q - 1) * yn0 ≤ 2 ^ 32 * (2 ^ 32 - 1) := Nat.mul_le_mul (by omega) (by omega)
          omega
        rw [s3' this]
      · simp only [c, decide_false, cond_false]
        have e : m * yn1 + yn1 = (m + 1) * yn1 := by rw [Nat.add_mul, Nat.one_mul]
        exact Div64_l0 k hY hYl hu hd h0 h1 x1 x2 x5 x7 K m n (q - 1) (r + yn1) hq' hge' (by omega) (by omega) (by omega)
    rw [w1]
    by_cases c1 : ((q : Int) ≥ 4294967296)
    · simp only [c1, decide_true, cond_true]
      exact hdec (s1 (by omega))
    · simp only [c1, decide_false, cond_false]
      have hqy : q * yn0 < 2 ^ 64 := by
        have a1 : q * yn0 ≤ (2 ^ 32 - 1) * (2 ^ 32 - 1) := Nat.mul_le_mul (by omega) (by omega)
        omega
      have w3 : Wu64 ((q : Int) * (yn0 : Int)) = ((q * yn0 : Nat) : Int) := by rw [← Int.natCast_mul]; exact Wu64_lt hqy
      have w4 : Wu64 (Wu64 (4294967296 * (r : Int)) + (d : Int)) = ((2 ^ 32 * r + d : Nat) : Int) := by
        rw [show (4294967296 : Int) * (r : Int) = ((2 ^ 32 * r : Nat) : Int) from by omega, Wu64_lt (by omega), ← Int.natCast_add, Wu64_lt (by omega)]
      rw [w3, w4]
      by_cases c2 : (((q * yn0 : Nat) : Int) > ((2 ^ 32 * r + d : Nat) : Int))
      · simp only [c2, decide_true, cond_true]
        exact hdec (s2 (Int.ofNat_lt.1 c2))
      · simp only [c2, decide_false, cond_false]
        rw [s3 (Nat.le_of_not_lt fun h => c2 (Int.ofNat_lt.2 h))]

theorem Div64_l1 {R : Type} (k : Nat) {Y yn1 yn0 u d : Nat} (hY : Y = yn1 * 2 ^ 32 + yn0) (hYl : Y < 2 ^ 64) (hu : u < Y) (hd : d < 2 ^ 32) (h0 : yn0 < 2 ^ 32) (h1 : 2 ^ 31 ≤ yn1) (x1 x2 x6 x8 : Int) (K : Int → Option R) :
    ∀ (m n q r : Nat), q * yn1 + r = u → (u * 2 ^ 32 + d) / Y ≤ q → r < 2 ^ 32 → 2 ^ 32 ≤ r + m * yn1 → m < n →
    bits_Div64_l1 k n x1 x2 (yn1 : Int) (yn0 : Int) (d : Int) x6 (r : Int) x8 (q : Int) K = K (((u * 2 ^ 32 + d) / Y : Nat) : Int)
  | m, 0, q, r, _, _, _, _, hn => by omega
  | 0, n + 1, q, r, hq, hge, hr, hm, hn => by omega
  | m + 1, n + 1, q, r, hq, hge, hr, hm, hn => by
    rw [bits_Div64_l1, bits_Div64_l1B]
    obtain ⟨s1, s2, s3⟩ := digit_step hY hu hd h0 h1 hq hge
    have hle := guess_le hY hu h0 h1 hq
    have hy1 : yn1 < 2 ^ 32 := by omega
    have w1 : Wu64 ((r : Int) + (yn1 : Int)) = ((r + yn1 : Nat) : Int) := by rw [← Int.natCast_add]; exact Wu64_lt (by omega)
    have hdec : (u * 2 ^ 32 + d) / Y < q → (cond (decide ((((r + yn1 : Nat) : Int)) ≥ 4294967296)) (K (Wu64 ((q : Int) - 1))) (bits_Div64_l1 k n x1 x2 (yn1 : Int) (yn0 : Int) (d : Int) x6 (((r + yn1 : Nat) : Int)) x8 (Wu64 ((q : Int) - 1)) K)) = K (((u * 2 ^ 32 + d) / Y : Nat) : Int) := by
      intro hlt
      have hqpos : 1 ≤ q := Nat.lt_of_le_of_lt (Nat.zero_le _) hlt
      have w2 : Wu64 ((q : Int) - 1) = ((q - 1 : Nat) : Int) := by
        rw [show (1 : Int) = ((1 : Nat) : Int) from rfl, Wu64_sub (by omega), Nat.mod_eq_of_lt (by omega)]
      rw [w2]
      have hq' : (q - 1) * yn1 + (r + yn1) = u := by
        obtain ⟨q', rfl⟩ : ∃ q', q = q' + 1 := ⟨q - 1, by omega⟩
        rw [Nat.add_sub_cancel, ← hq, Nat.add_mul, Nat.one_mul]; omega
      have hge' : (u * 2 ^ 32 + d) / Y ≤ q - 1 := Nat.le_sub_one_of_lt hlt
      by_cases c : ((((r + yn1 : Nat) : Int)) ≥ 4294967296)
      · simp only [c, decide_true, cond_true]
        obtain ⟨_, _, s3'⟩ := digit_step hY hu hd h0 h1 hq' hge'
        have : (q - 1) * yn0 ≤ 2 ^ 32 * (r + yn1) + d := by
          have a1 : (q - 1) * yn0 ≤ 2 ^ 32 * (2 ^ 32 - 1) := Nat.mul_le_mul (by omega) (by omega)
          omega
        rw [s3' this]
      · simp only [c, decide_false, cond_false]
        have e : m * yn1 + yn1 = (m + 1) * yn1 := by rw [Nat.add_mul, Nat.one_mul]
        exact Div64_l1 k hY hYl hu hd h0 h1 x1 x2 x6 x8 K m n (q - 1) (r + yn1) hq' hge' (by omega) (by omega) (by omega)
    rw [w1]
    by_cases c1 : ((q : Int) ≥ 4294967296)
    · simp only [c1, decide_true, cond_true]
      exact hdec (s1 (by omega))
    · simp only [c1, decide_false, cond_false]
      have hqy : q * yn0 < 2 ^ 64 := by
        have a1 : q * yn0 ≤ (2 ^ 32 - 1) * (2 ^ 32 - 1) := Nat.mul_le_mul (by omega) (by omega)
        omega
      have w3 : Wu64 ((q : Int) * (yn0 : Int)) = ((q * yn0 : Nat) : Int) := by rw [← Int.natCast_mul]; exact Wu64_lt hqy
      have w4 : Wu64 (Wu64 (4294967296 * (r : Int)) + (d : Int)) = ((2 ^ 32 * r + d : Nat) : Int) := by
        rw [show (4294967296 : Int) * (r : Int) = ((2 ^ 32 * r : Nat) : Int) from by omega, Wu64_lt (by omega), ← Int.natCast_add, Wu64_lt (by omega)]
      rw [w3, w4]
      by_cases c2 : (((q * yn0 : Nat) : Int) > ((2 ^ 32 * r + d : Nat) : Int))
      · simp only [c2, decide_true, cond_true]
        exact hdec (s2 (Int.ofNat_lt.1 c2))
      · simp only [c2, decide_false, cond_false]
        rw [s3 (Nat.le_of_not_lt fun h => c2 (Int.ofNat_lt.2 h))]

/-! ### Div64 -/

theorem tdiv_nat (x y : Nat) : Int.tdiv (x : Int) (y : Int) = ((x / y : Nat) : Int) := rfl
theorem tmod_nat (x y : Nat) : Int.tmod (x : Int) (y : Int) = ((x % y : Nat) : Int) := rfl

theorem Div64_nat {R : Type} {k : Nat} (hk : 5000 ≤ k) {h l y : Nat} (hl : l < 2 ^ 64) (hy : y < 2 ^ 64) (hh : h < y) (K : Int → Int → Option R) :
    bits_Div64 k (h : Int) (l : Int) (y : Int) K = K (((h * 2 ^ 64 + l) / y : Nat) : Int) (((h * 2 ^ 64 + l) % y : Nat) : Int) := by
  have hypos : 0 < y := by omega
  unfold bits_Div64 bits_Div64T
  have c1 : ((y : Int) == 0) = false := by rw [beq_eq_false_iff_ne]; omega
  have c2 : ¬ ((y : Int) ≤ (h : Int)) := by omega
  have c3 : ¬ ((y : Int) = 0) := by omega
  rw [c1]
  simp only [c2, decide_false, cond_false]
  by_cases hz : h = 0
  · subst hz
    have : (((0 : Nat) : Int) == 0) = true := rfl
    rw [this]
    simp only [c3, decide_false, cond_true, cond_false, tdiv_nat, tmod_nat]
    rw [Wu64_lt (Nat.lt_of_le_of_lt (Nat.div_le_self _ _) hl), Nat.zero_mul, Nat.zero_add]
  have c4 : ((h : Int) == 0) = false := by rw [beq_eq_false_iff_ne]; omega
  rw [c4]
  simp only [cond_false]
  unfold bits_LeadingZeros64 bits_LeadingZeros64T
  rw [Len64_nat k hy]
  have hb64 : bl y ≤ 64 := bl_le_iff.2 hy
  obtain ⟨s, hs⟩ : ∃ s, s = 64 - bl y := ⟨_, rfl⟩
  have w1 : Wi64 (64 - ((bl y : Nat) : Int)) = (s : Int) := by rw [wrap_i64 (by omega) (by omega)]; omega
  have hs64 : s < 64 := by
    have : 0 < bl y := by unfold bl; rw [if_neg (by omega)]; omega
    omega
  have w2 : Wu64 (s : Int) = (s : Int) := Wu64_lt (by omega)
  have w3 : Wu64 (64 - (s : Int)) = ((64 - s : Nat) : Int) := by
    rw [show (64 : Int) = ((64 : Nat) : Int) from rfl, Wu64_sub (by omega), Nat.mod_eq_of_lt (by omega)]
  rw [w1]
  simp only [w2, w3]
  have c5 : ¬ ((s : Int) < 0) := by omega
  have c6 : ¬ (((64 - s : Nat) : Int) < 0) := by omega
  simp only [c5, c6, decide_false, cond_false]
  -- the divisor moved up
  have hys : y * 2 ^ s < 2 ^ 64 := by
    have := (bl_le_iff (n := y)).1 (Nat.le_refl _)
    have h2 : 2 ^ 64 = 2 ^ bl y * 2 ^ s := by rw [← Nat.pow_add]; congr 1; omega
    rw [h2]; exact Nat.mul_lt_mul_of_pos_right this (Nat.two_pow_pos s)
  have hys2 : 2 ^ 63 ≤ y * 2 ^ s := by
    have hlow : 2 ^ (bl y - 1) ≤ y := by
      refine Nat.le_of_not_lt fun h => ?_
      have := bl_le_iff.2 h
      have : 0 < bl y := by unfold bl; rw [if_neg (by omega)]; omega
      omega
    have h2 : 2 ^ 63 = 2 ^ (bl y - 1) * 2 ^ s := by rw [← Nat.pow_add]; congr 1; omega
    rw [h2]; exact Nat.mul_le_mul_right _ hlow
  have eY : shl .u64 (y : Int) (s : Int) = ((y * 2 ^ s : Nat) : Int) := by rw [shl_nat y s (by omega), Nat.mod_eq_of_lt hys]
  -- the number moved up
  have hle : l / 2 ^ (64 - s) < 2 ^ s := by
    rw [Nat.div_lt_iff_lt_mul (Nat.two_pow_pos _), ← Nat.pow_add]
    have : s + (64 - s) = 64 := by omega
    rw [this]; exact hl
  have hhs : h * 2 ^ s + l / 2 ^ (64 - s) < y * 2 ^ s := by
    have : (h + 1) * 2 ^ s ≤ y * 2 ^ s := Nat.mul_le_mul_right _ hh
    rw [Nat.add_mul, Nat.one_mul] at this
    omega
  have eU : bOr .u64 (shl .u64 (h : Int) (s : Int)) (shr .u64 (l : Int) ((64 - s : Nat) : Int)) = ((h * 2 ^ s + l / 2 ^ (64 - s) : Nat) : Int) := by
    have h1 : h * 2 ^ s < 2 ^ 64 := Nat.lt_of_le_of_lt (Nat.le_add_right _ _) (Nat.lt_trans hhs hys)
    rw [shl_nat h s (by omega), Nat.mod_eq_of_lt h1, shr_nat l (64 - s) (by omega), bOr_nat h1 (Nat.lt_of_le_of_lt (Nat.div_le_self _ _) hl)]
    rw [or_add (s := s) (by simp) hle]
  have eL : shl .u64 (l : Int) (s : Int) = ((l * 2 ^ s % 2 ^ 64 : Nat) : Int) := shl_nat l s (by omega)
  have eN : (h * 2 ^ 64 + l) * 2 ^ s = (h * 2 ^ s + l / 2 ^ (64 - s)) * 2 ^ 64 + l * 2 ^ s % 2 ^ 64 := by
    have hp : 2 ^ 64 = 2 ^ s * 2 ^ (64 - s) := by rw [← Nat.pow_add]; congr 1; omega
    have e3 : l * 2 ^ s / 2 ^ 64 = l / 2 ^ (64 - s) := by
      rw [hp, Nat.mul_comm l, Nat.mul_div_mul_left _ _ (Nat.two_pow_pos s)]
    rw [← e3, Nat.add_mul, Nat.add_mul]
    have := Nat.div_add_mod (l * 2 ^ s) (2 ^ 64)
    rw [Nat.mul_right_comm h]
    omega
  rw [eU, eY, eL]
  have hNq : (h * 2 ^ 64 + l) / y = (h * 2 ^ 64 + l) * 2 ^ s / (y * 2 ^ s) := (Nat.mul_div_mul_right _ _ (Nat.two_pow_pos s)).symm
  have hNr : ((h * 2 ^ 64 + l) * 2 ^ s % (y * 2 ^ s)) / 2 ^ s = (h * 2 ^ 64 + l) % y := by
    rw [Nat.mul_mod_mul_right, Nat.mul_div_cancel _ (Nat.two_pow_pos s)]
  rw [hNq, ← hNr, eN]
  have hLlt : l * 2 ^ s % 2 ^ 64 < 2 ^ 64 := lo_lt _
  clear hNq hNr eN eL eU eY hle w1 w2 w3 c1 c2 c3 c4 c5 c6
  generalize hY : y * 2 ^ s = Y at *
  generalize h * 2 ^ s + l / 2 ^ (64 - s) = U at *
  generalize l * 2 ^ s % 2 ^ 64 = L at *
  simp only [shr32, and32 hLlt, and32 hys]
  have hyn1 : 2 ^ 31 ≤ Y / 2 ^ 32 := by omega
  have hyn1' : Y / 2 ^ 32 < 2 ^ 32 := by omega
  have hyn0 : Y % 2 ^ 32 < 2 ^ 32 := by omega
  have hYe : Y = Y / 2 ^ 32 * 2 ^ 32 + Y % 2 ^ 32 := by omega
  have cy : ¬ (((Y / 2 ^ 32 : Nat) : Int) = 0) := by omega
  simp only [cy, decide_false, cond_false, tdiv_nat]
  have hL1 : L / 2 ^ 32 < 2 ^ 32 := by omega
  have hL0 : L % 2 ^ 32 < 2 ^ 32 := by omega
  have first : ∀ u : Nat, u < Y → Wu64 ((u / (Y / 2 ^ 32) : Nat) : Int) = ((u / (Y / 2 ^ 32) : Nat) : Int) ∧ Wu64 ((u : Int) - Wu64 (((u / (Y / 2 ^ 32) : Nat) : Int) * ((Y / 2 ^ 32 : Nat) : Int))) = ((u % (Y / 2 ^ 32) : Nat) : Int) := by
    intro u hu
    have hle := Nat.div_le_self u (Y / 2 ^ 32)
    have hm := Nat.div_add_mod u (Y / 2 ^ 32)
    have hp : u / (Y / 2 ^ 32) * (Y / 2 ^ 32) ≤ u := Nat.div_mul_le_self _ _
    refine ⟨Wu64_lt (by omega), ?_⟩
    rw [← Int.natCast_mul, Wu64_lt (by omega), Wu64_sub hp]
    rw [Nat.mul_comm] at hm
    rw [Nat.mod_eq_of_lt (by omega)]
    omega
  have pre : ∀ u : Nat, u < Y → u / (Y / 2 ^ 32) * (Y / 2 ^ 32) + u % (Y / 2 ^ 32) = u ∧ u % (Y / 2 ^ 32) < 2 ^ 32 ∧ 2 ^ 32 ≤ u % (Y / 2 ^ 32) + 4 * (Y / 2 ^ 32) := by
    intro u hu
    have hm := Nat.div_add_mod u (Y / 2 ^ 32)
    have hr := Nat.mod_lt u (show 0 < Y / 2 ^ 32 by omega)
    rw [Nat.mul_comm]
    exact ⟨hm, by omega, by omega⟩
  obtain ⟨f1, f2⟩ := first U hhs
  obtain ⟨g1, g2, g3⟩ := pre U hhs
  rw [f1, f2, Div64_l0 k hYe hys hhs hL1 hyn0 hyn1 _ _ _ _ _ 4 k _ _ g1 (guess_ge hYe hL1 hyn1) g2 g3 (by omega)]
  -- the second digit
  have hYpos : 0 < Y := by omega
  have hdm := Nat.div_add_mod (U * 2 ^ 32 + L / 2 ^ 32) Y
  have hr1 := Nat.mod_lt (U * 2 ^ 32 + L / 2 ^ 32) hYpos
  have hq1 : (U * 2 ^ 32 + L / 2 ^ 32) / Y < 2 ^ 32 := by
    rw [Nat.div_lt_iff_lt_mul hYpos]
    have : (U + 1) * 2 ^ 32 ≤ Y * 2 ^ 32 := Nat.mul_le_mul_right _ hhs
    rw [Nat.mul_comm (2 ^ 32) Y]
    omega
  have e21 : Wu64 (Wu64 (Wu64 ((U : Int) * 4294967296) + ((L / 2 ^ 32 : Nat) : Int)) - Wu64 ((((U * 2 ^ 32 + L / 2 ^ 32) / Y : Nat) : Int) * (Y : Int))) = (((U * 2 ^ 32 + L / 2 ^ 32) % Y : Nat) : Int) := by
    have a1 : Wu64 (Wu64 ((U : Int) * 4294967296) + ((L / 2 ^ 32 : Nat) : Int)) = Wu64 ((U * 2 ^ 32 + L / 2 ^ 32 : Nat) : Int) := by
      rw [show (U : Int) * 4294967296 = ((U * 2 ^ 32 : Nat) : Int) from by omega, Wu64_nat, ← Int.natCast_add, Wu64_nat, Wu64_nat]
      omega
    rw [a1, ← Int.natCast_mul]
    refine Wu64_diff ?_ (by omega)
    rw [Nat.mul_comm (_ / Y)]; exact hdm.symm
  simp only [e21]
  obtain ⟨U1, hU1⟩ : ∃ x, x = (U * 2 ^ 32 + L / 2 ^ 32) % Y := ⟨_, rfl⟩
  obtain ⟨Q1, hQ1⟩ : ∃ x, x = (U * 2 ^ 32 + L / 2 ^ 32) / Y := ⟨_, rfl⟩
  simp only [← hU1, ← hQ1] at hdm hr1 hq1 ⊢
  obtain ⟨f1', f2'⟩ := first U1 hr1
  obtain ⟨g1', g2', g3'⟩ := pre U1 hr1
  simp only [tdiv_nat]
  rw [f1', f2', Div64_l1 k hYe hys hr1 hL0 hyn0 hyn1 _ _ _ _ _ 4 k _ _ g1' (guess_ge hYe hL0 hyn1) g2' g3' (by omega)]
  have c5 : ¬ ((s : Int) < 0) := by omega
  have hdm2 := Nat.div_add_mod (U1 * 2 ^ 32 + L % 2 ^ 32) Y
  have hr2 := Nat.mod_lt (U1 * 2 ^ 32 + L % 2 ^ 32) hYpos
  have hq2 : (U1 * 2 ^ 32 + L % 2 ^ 32) / Y < 2 ^ 32 := by
    rw [Nat.div_lt_iff_lt_mul hYpos]
    have : (U1 + 1) * 2 ^ 32 ≤ Y * 2 ^ 32 := Nat.mul_le_mul_right _ hr1
    rw [Nat.mul_comm (2 ^ 32) Y]
    omega
  have e22 : Wu64 (Wu64 (Wu64 ((U1 : Int) * 4294967296) + ((L % 2 ^ 32 : Nat) : Int)) - Wu64 ((((U1 * 2 ^ 32 + L % 2 ^ 32) / Y : Nat) : Int) * (Y : Int))) = (((U1 * 2 ^ 32 + L % 2 ^ 32) % Y : Nat) : Int) := by
    have a1 : Wu64 (Wu64 ((U1 : Int) * 4294967296) + ((L % 2 ^ 32 : Nat) : Int)) = Wu64 ((U1 * 2 ^ 32 + L % 2 ^ 32 : Nat) : Int) := by
      rw [show (U1 : Int) * 4294967296 = ((U1 * 2 ^ 32 : Nat) : Int) from by omega, Wu64_nat, ← Int.natCast_add, Wu64_nat, Wu64_nat]
      omega
    rw [a1, ← Int.natCast_mul]
    refine Wu64_diff ?_ (by omega)
    rw [Nat.mul_comm (_ / Y)]; exact hdm2.symm
  rw [e22]
  obtain ⟨U2, hU2⟩ : ∃ x, x = (U1 * 2 ^ 32 + L % 2 ^ 32) % Y := ⟨_, rfl⟩
  obtain ⟨Q2, hQ2⟩ : ∃ x, x = (U1 * 2 ^ 32 + L % 2 ^ 32) / Y := ⟨_, rfl⟩
  simp only [← hU2, ← hQ2] at hdm2 hr2 hq2 ⊢
  have hN : U * 2 ^ 64 + L = Y * (Q1 * 2 ^ 32 + Q2) + U2 := by
    have a2 : Y * (Q1 * 2 ^ 32 + Q2) = Y * Q1 * 2 ^ 32 + Y * Q2 := by rw [Nat.mul_add, Nat.mul_assoc]
    rw [a2]
    generalize Y * Q1 = p at *
    generalize Y * Q2 = q at *
    omega
  have eQ : (U * 2 ^ 64 + L) / Y = Q1 * 2 ^ 32 + Q2 := by
    rw [hN, Nat.mul_add_div hYpos, Nat.div_eq_of_lt hr2, Nat.add_zero]
  have eR : (U * 2 ^ 64 + L) % Y = U2 := by
    rw [hN, Nat.mul_add_mod, Nat.mod_eq_of_lt hr2]
  rw [eQ, eR]
  have w5 : Wu64 (Wu64 ((Q1 : Int) * 4294967296) + (Q2 : Int)) = ((Q1 * 2 ^ 32 + Q2 : Nat) : Int) := by
    rw [show (Q1 : Int) * 4294967296 = ((Q1 * 2 ^ 32 : Nat) : Int) from by omega, Wu64_lt (by omega), ← Int.natCast_add, Wu64_lt (by omega)]
  rw [w5, shr_nat U2 s (by omega)]

end Go.Proofs.Ytbnmnkofekcodaa.N

/- Quotients and roots of numbers of 128 bits: what they come to. Conditions: none. -/
namespace Go.Proofs.Ytbnmnkofekcodaa.N
set_option linter.unusedVariables false
set_option linter.unusedSimpArgs false
open Go Go.Ab

theorem Div_hl {R : Type} {k : Nat} (hk : 5000 ≤ k) {A b : Nat} (hA : A < 2 ^ 128) (hb : b < 2 ^ 64) (h0 : b ≠ 0) (K : Int → Int → Int → Option R) :
    wide_Div k (hi A) (lo A) (b : Int) K = K (hi (A / b)) (lo (A / b)) ((A % b : Nat) : Int) := by
  unfold wide_Div wide_DivT
  have c1 : ((b : Int) == 0) = false := by rw [beq_eq_false_iff_ne]; omega
  have c2 : ¬ ((b : Int) = 0) := by omega
  rw [c1]
  simp only [c2, decide_false, cond_false]
  have hb0 : 0 < b := by omega
  unfold hi lo
  simp only [tdiv_nat, tmod_nat]
  rw [Div64_nat hk (lo_lt A) hb (Nat.mod_lt _ hb0), Wu64_lt (Nat.lt_of_le_of_lt (Nat.div_le_self _ _) (hi_lt hA))]
  have hV := V_hl A
  unfold V at hV
  have hdm := Nat.div_add_mod (A / 2 ^ 64) b
  have e : A = b * (A / 2 ^ 64 / b * 2 ^ 64) + (A / 2 ^ 64 % b * 2 ^ 64 + A % 2 ^ 64) := by
    rw [← Nat.mul_assoc]
    conv => lhs; rw [← hV, ← hdm]
    rw [Nat.add_mul, Nat.add_assoc]
  have eq : A / b = A / 2 ^ 64 / b * 2 ^ 64 + (A / 2 ^ 64 % b * 2 ^ 64 + A % 2 ^ 64) / b := by
    conv => lhs; rw [e]
    rw [Nat.mul_add_div hb0]
  have er : A % b = (A / 2 ^ 64 % b * 2 ^ 64 + A % 2 ^ 64) % b := by
    conv => lhs; rw [e]
    rw [Nat.mul_add_mod]
  have hlt : (A / 2 ^ 64 % b * 2 ^ 64 + A % 2 ^ 64) / b < 2 ^ 64 := by
    rw [Nat.div_lt_iff_lt_mul hb0]
    have h1 : A / 2 ^ 64 % b < b := Nat.mod_lt _ hb0
    have h2 : (A / 2 ^ 64 % b + 1) * 2 ^ 64 ≤ b * 2 ^ 64 := Nat.mul_le_mul_right _ h1
    have h3 := lo_lt A
    rw [Nat.mul_comm (2 ^ 64) b]
    omega
  rw [eq, ← er]
  obtain ⟨q, hq⟩ : ∃ q, q = A / 2 ^ 64 / b := ⟨_, rfl⟩
  obtain ⟨r, hr⟩ : ∃ r, r = (A / 2 ^ 64 % b * 2 ^ 64 + A % 2 ^ 64) / b := ⟨_, rfl⟩
  rw [← hq, ← hr]
  rw [← hr] at hlt
  have e1 : (q * 2 ^ 64 + r) / 2 ^ 64 = q := by omega
  have e2 : (q * 2 ^ 64 + r) % 2 ^ 64 = r := by omega
  rw [e1, e2]

theorem half_step (A i : Nat) : A / 2 ^ i = 2 * (A / 2 ^ (i + 1)) + (A.testBit i).toNat := by
  have hd : A / 2 ^ (i + 1) = A / 2 ^ i / 2 := by rw [Nat.pow_succ, Nat.div_div_eq_div_mul]
  rw [hd, Nat.toNat_testBit]; omega

/-- One digit of a quotient. -/
theorem quot_step {P b t : Nat} (hb : 0 < b) : (2 * P + t) % b = (2 * (P % b) + t) % b ∧ (2 * P + t) / b = 2 * (P / b) + (2 * (P % b) + t) / b := by
  have hdm := Nat.div_add_mod P b
  have e : 2 * P + t = b * (2 * (P / b)) + (2 * (P % b) + t) := by
    have : b * (2 * (P / b)) = 2 * (b * (P / b)) := by rw [Nat.mul_left_comm]
    rw [this]; omega
  constructor
  · conv => lhs; rw [e]
    rw [Nat.mul_add_mod]
  · conv => lhs; rw [e]
    rw [Nat.mul_add_div hb]

theorem quot_bit {P b t : Nat} (hb : 0 < b) (ht : t ≤ 1) : (2 * (P % b) + t < b → (2 * P + t) % b = 2 * (P % b) + t ∧ (2 * P + t) / b % 2 = 0) ∧
    (b ≤ 2 * (P % b) + t → (2 * P + t) % b = 2 * (P % b) + t - b ∧ (2 * P + t) / b % 2 = 1) := by
  obtain ⟨h1, h2⟩ := quot_step (P := P) (t := t) hb
  have hm := Nat.mod_lt P hb
  constructor
  · intro h
    rw [h1, h2, Nat.mod_eq_of_lt h, Nat.div_eq_of_lt h]
    exact ⟨rfl, by omega⟩
  · intro h
    have : (2 * (P % b) + t) / b = 1 := Nat.div_eq_of_lt_le (by omega) (by omega)
    rw [h1, h2, this, Nat.mod_eq_sub_mod h, Nat.mod_eq_of_lt (by omega)]
    exact ⟨rfl, by omega⟩

theorem lo_or_one {X : Nat} (hX : X < 2 ^ 64) : bOr .u64 (lo (2 * X)) 1 = lo (2 * X + 1) := by
  unfold lo
  rw [show (1 : Int) = ((1 : Nat) : Int) from rfl, bOr_nat (lo_lt _) (by decide)]
  have : (2 * X % 2 ^ 64) ||| 1 = 2 * X % 2 ^ 64 + 1 := or_add (s := 1) (by omega) (by decide)
  rw [this]; congr 1; omega

theorem hi_or_one (X : Nat) : hi (2 * X + 1) = hi (2 * X) := by
  unfold hi; congr 1; omega

/-! ### Roots -/

def IsRoot (A r : Nat) : Prop := r * r ≤ A ∧ A < (r + 1) * (r + 1)

theorem sq_succ (r : Nat) : (r + 1) * (r + 1) = r * r + 2 * r + 1 := by
  rw [Nat.add_mul, Nat.mul_add]; omega

theorem IsRoot.unique {A r s : Nat} (h : IsRoot A r) (h' : IsRoot A s) : r = s := by
  refine Nat.le_antisymm ?_ ?_
  · refine Nat.le_of_not_lt fun hlt => ?_
    have := Nat.mul_le_mul (Nat.succ_le_of_lt hlt) (Nat.succ_le_of_lt hlt)
    have h1 := h.1; have h2 := h'.2
    exact absurd (Nat.lt_of_lt_of_le h2 this) (Nat.not_lt.2 h1)
  · refine Nat.le_of_not_lt fun hlt => ?_
    have := Nat.mul_le_mul (Nat.succ_le_of_lt hlt) (Nat.succ_le_of_lt hlt)
    have h1 := h'.1; have h2 := h.2
    exact absurd (Nat.lt_of_lt_of_le h2 this) (Nat.not_lt.2 h1)

theorem IsRoot.lt {A r n : Nat} (h : IsRoot A r) (hA : A < n * n) : r < n := by
  refine Nat.lt_of_not_le fun hle => ?_
  have := Nat.mul_le_mul hle hle
  have := h.1
  omega

theorem root_step {P r t : Nat} (h : IsRoot P r) (ht : t < 4) :
    (4 * r + 1 ≤ 4 * (P - r * r) + t → IsRoot (4 * P + t) (2 * r + 1) ∧ 4 * P + t - (2 * r + 1) * (2 * r + 1) = 4 * (P - r * r) + t - (4 * r + 1)) ∧
    (4 * (P - r * r) + t < 4 * r + 1 → IsRoot (4 * P + t) (2 * r) ∧ 4 * P + t - (2 * r) * (2 * r) = 4 * (P - r * r) + t) := by
  obtain ⟨h1, h2⟩ := h
  rw [sq_succ] at h2
  have e1 : (2 * r) * (2 * r) = 4 * (r * r) := by rw [Nat.mul_mul_mul_comm]
  have e2 : (2 * r + 1) * (2 * r + 1) = 4 * (r * r) + 4 * r + 1 := by rw [sq_succ, e1]; omega
  have e3 : (2 * r + 1 + 1) * (2 * r + 1 + 1) = 4 * (r * r) + 8 * r + 4 := by rw [sq_succ, e2]; omega
  unfold IsRoot
  rw [e1, e2, e3]
  generalize r * r = q at *
  refine ⟨fun h => ⟨⟨by omega, by omega⟩, by omega⟩, fun h => ⟨⟨by omega, by omega⟩, by omega⟩⟩

theorem quarter_step (A i : Nat) : A / 2 ^ i = 4 * (A / 2 ^ (i + 2)) + A / 2 ^ i % 4 := by
  have hd : A / 2 ^ (i + 2) = A / 2 ^ i / 4 := by rw [Nat.pow_add, Nat.div_div_eq_div_mul]
  rw [hd]; omega

theorem or_three {X t : Nat} (ht : t < 4) : bOr .u64 (lo (4 * X)) (t : Int) = lo (4 * X + t) := by
  unfold lo
  rw [bOr_nat (lo_lt _) (by omega)]
  have : (4 * X % 2 ^ 64) ||| t = 4 * X % 2 ^ 64 + t := or_add (s := 2) (by omega) ht
  rw [this]; congr 1; omega

theorem hi_three {X t : Nat} (ht : t < 4) : hi (4 * X + t) = hi (4 * X) := by
  unfold hi; congr 1; omega

end Go.Proofs.Ytbnmnkofekcodaa.N

/- Roots of numbers of 128 bits: what they come to. Conditions: none. -/
namespace Go.Proofs.Ytbnmnkofekcodaa.N
set_option linter.unusedVariables false
set_option linter.unusedSimpArgs false
open Go Go.Ab

theorem wf_nat {i : Nat} (h : i < 2 ^ 63) : (Lit.int .i64 (i : Int)).wf = true := by
  simp only [Lit.wf, Bool.and_eq_true, decide_eq_true_eq]
  have e1 : IntKind.i64.min = -9223372036854775808 := by decide
  have e2 : IntKind.i64.max = 9223372036854775807 := by decide
  rw [e1, e2]; omega

theorem and_three (X : Nat) : bAnd .u64 (lo X) 3 = ((X % 4 : Nat) : Int) := by
  unfold lo
  rw [show (3 : Int) = ((2 ^ 2 - 1 : Nat) : Int) from by decide, bAnd_nat (lo_lt _) (by decide), Nat.and_two_pow_sub_one_eq_mod]
  congr 1; omega

theorem hi_try {r : Nat} (hr : r < 2 ^ 63) : shr .u64 (r : Int) 62 = hi (4 * r + 1) := by
  rw [show (62 : Int) = ((62 : Nat) : Int) from rfl, shr_nat r 62 (by decide)]
  unfold hi; congr 1; omega

theorem lo_try {r : Nat} (hr : r < 2 ^ 63) : bOr .u64 (shl .u64 (r : Int) 2) 1 = lo (4 * r + 1) := by
  rw [show (2 : Int) = ((2 : Nat) : Int) from rfl, shl_nat r 2 (by decide), show (1 : Int) = ((1 : Nat) : Int) from rfl, bOr_nat (lo_lt _) (by decide)]
  have : (r * 2 ^ 2 % 2 ^ 64) ||| 1 = r * 2 ^ 2 % 2 ^ 64 + 1 := or_add (s := 1) (by omega) (by decide)
  rw [this]; unfold lo; congr 1; omega

theorem shl_one {r : Nat} (hr : r < 2 ^ 63) : shl .u64 (r : Int) 1 = ((2 * r : Nat) : Int) := by
  rw [show (1 : Int) = ((1 : Nat) : Int) from rfl, shl_nat r 1 (by decide)]
  congr 1; omega

theorem shl_one_or {r : Nat} (hr : r < 2 ^ 63) : bOr .u64 (shl .u64 (r : Int) 1) 1 = ((2 * r + 1 : Nat) : Int) := by
  rw [shl_one hr, show (1 : Int) = ((1 : Nat) : Int) from rfl, bOr_nat (by omega) (by decide)]
  have : (2 * r) ||| 1 = 2 * r + 1 := or_add (s := 1) (by omega) (by decide)
  rw [this]

theorem sqrt_body {R : Type} {k : Nat} (hk : 5000 ≤ k) {A r i : Nat} (hA : A < 2 ^ 128) (hi126 : i ≤ 126) (hr : IsRoot (A / 2 ^ (i + 2)) r) (hr63 : r < 2 ^ 63) {s : Nat} (hs : IsRoot (A / 2 ^ i) s) (J : Int → Int → Int → Option R) :
    (wide_Shr k (hi A) (lo A) (i : Int) (fun yr1 yr2 yr3 =>
    wide_Shl k (hi (A / 2 ^ (i + 2) - r * r)) (lo (A / 2 ^ (i + 2) - r * r)) 2 (fun yr4 yr5 =>
      wide_Compare k yr4 (bOr .u64 yr5 (bAnd .u64 yr2 3)) (shr .u64 (r : Int) 62) (bOr .u64 (shl .u64 (r : Int) 2) 1) (fun yr6 =>
        cond (decide (yr6 ≥ 0)) (
          wide_Sub k yr4 (bOr .u64 yr5 (bAnd .u64 yr2 3)) (shr .u64 (r : Int) 62) (bOr .u64 (shl .u64 (r : Int) 2) 1) (fun yr7 yr8 yr9 =>
            J (bOr .u64 (shl .u64 (r : Int) 1) 1) yr7 yr8)) (
          J (shl .u64 (r : Int) 1) yr4 (bOr .u64 yr5 (bAnd .u64 yr2 3))))))) =
    J (s : Int) (hi (A / 2 ^ i - s * s)) (lo (A / 2 ^ i - s * s)) := by
  have hL : A / 2 ^ (i + 2) - r * r ≤ 2 * r := by
    have := hr.2; rw [sq_succ] at this; omega
  have ht : A / 2 ^ i % 4 < 4 := Nat.mod_lt _ (by decide)
  obtain ⟨st1, st2⟩ := root_step hr ht
  rw [← quarter_step] at st1 st2
  obtain ⟨L, hLe⟩ : ∃ L, L = A / 2 ^ (i + 2) - r * r := ⟨_, rfl⟩
  obtain ⟨X, hX⟩ : ∃ X, X = A / 2 ^ i := ⟨_, rfl⟩
  rw [← hLe] at hL st1 st2 ⊢
  rw [← hX] at st1 st2 ht hs ⊢
  rw [Shr_hl k hA (wf_nat (by omega)), Int.toNat_natCast, ← hX, and_three, Shl_hl k (A := L) (by omega) (by decide)]
  have e4 : L * 2 ^ (2 : Int).toNat % 2 ^ 128 = 4 * L := by
    have : (2 : Int).toNat = 2 := rfl
    rw [this]; omega
  simp only [e4]
  rw [or_three ht, ← hi_three ht, hi_try hr63, lo_try hr63, Compare_hl hk]
  have b1 : 4 * L + X % 4 < 2 ^ 128 := by omega
  have b2 : 4 * r + 1 < 2 ^ 128 := by omega
  by_cases hc : 4 * r + 1 ≤ 4 * L + X % 4
  · have : sgn (4 * L + X % 4) (4 * r + 1) ≥ 0 := by unfold sgn; rw [if_neg (by omega)]; split <;> decide
    simp only [this, decide_true, cond_true]
    obtain ⟨a1, a2⟩ := st1 hc
    have := hs.unique a1
    subst this
    rw [Sub_hl k b1 b2, shl_one_or hr63, a2]
    have : (4 * L + X % 4 + 2 ^ 128 - (4 * r + 1)) % 2 ^ 128 = 4 * L + X % 4 - (4 * r + 1) := by omega
    rw [this]
  · have : ¬ (sgn (4 * L + X % 4) (4 * r + 1) ≥ 0) := by unfold sgn; rw [if_pos (by omega)]; decide
    simp only [this, decide_false, cond_false]
    obtain ⟨a1, a2⟩ := st2 (by omega)
    have := hs.unique a1
    subst this
    rw [shl_one hr63, a2]

theorem root_exists : ∀ A : Nat, ∃ r, IsRoot A r
  | 0 => ⟨0, by decide, by decide⟩
  | A + 1 => by
    obtain ⟨r, h1, h2⟩ := root_exists A
    by_cases h : (r + 1) * (r + 1) ≤ A + 1
    · refine ⟨r + 1, h, ?_⟩
      rw [sq_succ (r + 1)]
      omega
    · exact ⟨r, by omega, by omega⟩

theorem root_up {A i r : Nat} (hA : A < 2 ^ 128) (hi126 : i ≤ 126) (hi : i % 2 = 0) (hr : IsRoot (A / 2 ^ (i + 2)) r) : r < 2 ^ 63 := by
  refine hr.lt ?_
  rw [Nat.div_lt_iff_lt_mul (Nat.two_pow_pos _)]
  refine Nat.lt_of_lt_of_le hA ?_
  have : (2 ^ 63 * 2 ^ 63 : Nat) = 2 ^ 126 := by decide
  rw [this, ← Nat.pow_add]
  exact Nat.pow_le_pow_right (by decide) (by omega)

theorem Sqrt_loop {R : Type} {k : Nat} (hk : 5000 ≤ k) {A s : Nat} (hA : A < 2 ^ 128) (hs : IsRoot A s) (a b : Int) (K : Int → Int → Int → Option R) : ∀ (m n r : Nat), m ≤ 62 → m < n → IsRoot (A / 2 ^ (2 * m + 2)) r →
    wide_Sqrt_l0 k n (r : Int) ((2 * m : Nat) : Int) (hi A) (lo A) a b (hi (A / 2 ^ (2 * m + 2) - r * r)) (lo (A / 2 ^ (2 * m + 2) - r * r)) K = K (s : Int) (hi (A - s * s)) (lo (A - s * s))
  | m, 0, r, h1, h2, _ => by omega
  | m, n + 1, r, h1, h2, hr => by
    rw [wide_Sqrt_l0, wide_Sqrt_l0B]
    obtain ⟨r', hr'⟩ := root_exists (A / 2 ^ (2 * m))
    refine (sqrt_body hk hA (by omega) hr (root_up hA (by omega) (by omega) hr) hr' (fun a1 b1 c1 => cond (decide ((Wi64 (((2 * m : Nat) : Int) - 2)) ≥ 0))
      (wide_Sqrt_l0 k n a1 (Wi64 (((2 * m : Nat) : Int) - 2)) (hi A) (lo A) a b b1 c1 K) (K a1 b1 c1))).trans ?_
    match m, h1, h2, hr, hr' with
    | 0, h1, h2, hr, hr' =>
      have : ¬ (Wi64 (((2 * 0 : Nat) : Int) - 2) ≥ 0) := by decide
      simp only [this, decide_false, cond_false]
      rw [show A / 2 ^ (2 * 0) = A by simp] at hr' ⊢
      rw [hr'.unique hs]
    | m + 1, h1, h2, hr, hr' =>
      have e : Wi64 (((2 * (m + 1) : Nat) : Int) - 2) = ((2 * m : Nat) : Int) := by rw [wrap_i64 (by omega) (by omega)]; omega
      have : (((2 * m : Nat) : Int) ≥ 0) := by omega
      simp only [e, this, decide_true, cond_true]
      exact Sqrt_loop hk hA hs a b K m n r' (by omega) (by omega) hr'

theorem Sqrt_hl {R : Type} {k : Nat} (hk : 5000 ≤ k) {A s : Nat} (hA : A < 2 ^ 128) (hs : IsRoot A s) (K : Int → Int → Int → Option R) :
    wide_Sqrt k (hi A) (lo A) K = K (s : Int) (hi (A - s * s)) (lo (A - s * s)) := by
  unfold wide_Sqrt wide_SqrtT
  have h0 : A / 2 ^ (126 + 2) = 0 := Nat.div_eq_of_lt hA
  have hr0 : IsRoot (A / 2 ^ (126 + 2)) 0 := by rw [h0]; exact ⟨by decide, by decide⟩
  obtain ⟨r', hr'⟩ := root_exists (A / 2 ^ 126)
  have h := sqrt_body (R := R) (i := 126) hk hA (by decide) hr0 (by decide) hr' (fun a1 b1 c1 => wide_Sqrt_l0 k k a1 124 (hi A) (lo A) 0 0 b1 c1 K)
  rw [h0] at h
  have z1 : hi (0 - 0 * 0) = 0 := by decide
  have z2 : lo (0 - 0 * 0) = 0 := by decide
  have z3 : shr .u64 ((0 : Nat) : Int) 62 = 0 := by decide
  have z4 : bOr .u64 (shl .u64 ((0 : Nat) : Int) 2) 1 = 1 := by decide
  have z5 : bOr .u64 (shl .u64 ((0 : Nat) : Int) 1) 1 = 1 := by decide
  have z6 : shl .u64 ((0 : Nat) : Int) 1 = 0 := by decide
  rw [z1, z2, z3, z4, z5, z6] at h
  refine h.trans ?_
  exact Sqrt_loop hk hA hs 0 0 K 62 k r' (by decide) (by omega) hr'

/-! ### By the reference -/

theorem or_bit {r i : Nat} (hr : r % 2 ^ (i + 1) = 0) (hrl : r < 2 ^ 64) (hi64 : i < 64) : bOr .u64 (r : Int) (shl .u64 1 (i : Int)) = ((r + 2 ^ i : Nat) : Int) := by
  have hp : 2 ^ i < 2 ^ 64 := Nat.pow_lt_pow_right (by decide) hi64
  rw [show (1 : Int) = ((1 : Nat) : Int) from rfl, shl_nat 1 i (by omega), Nat.one_mul, Nat.mod_eq_of_lt hp, bOr_nat hrl hp]
  rw [or_add (s := i + 1) hr (by rw [Nat.pow_succ]; have := Nat.two_pow_pos i; omega)]

theorem lt_of_mul {r i n : Nat} (hr : r % 2 ^ i = 0) (hlt : r < 2 ^ n) (hi : i ≤ n) : r + 2 ^ i ≤ 2 ^ n := by
  have h1 : r = 2 ^ i * (r / 2 ^ i) := by have := Nat.div_add_mod r (2 ^ i); omega
  have h2 : 2 ^ n = 2 ^ i * 2 ^ (n - i) := by rw [← Nat.pow_add]; congr 1; omega
  have h3 : r / 2 ^ i < 2 ^ (n - i) := by rw [Nat.div_lt_iff_lt_mul (Nat.two_pow_pos i), Nat.mul_comm, ← h2]; exact hlt
  have := Nat.mul_le_mul_left (2 ^ i) h3
  rw [← h2, Nat.succ_eq_add_one, Nat.mul_add, Nat.mul_one, ← h1] at this
  exact this

theorem refSqrt_loop {R : Type} {k : Nat} (hk : 5000 ≤ k) {A s : Nat} (hA : A < 2 ^ 128) (hs : IsRoot A s) (a b : Int) (K : Int → Option R) : ∀ (i n r : Nat), i ≤ 64 → i < n → r % 2 ^ i = 0 → r < 2 ^ 64 → r * r ≤ A → A < (r + 2 ^ i) * (r + 2 ^ i) →
    plumblineref01_Sqrt_l0 k n (r : Int) ((i : Int) - 1) (hi A) (lo A) a b K = K (s : Int)
  | i, 0, r, h1, h2, _, _, _, _ => by omega
  | 0, n + 1, r, h1, h2, h3, h4, h5, h6 => by
    rw [plumblineref01_Sqrt_l0, plumblineref01_Sqrt_l0B]
    have e0 : ¬ ((((0 : Nat) : Int) - 1) ≥ 0) := by decide
    simp only [e0, decide_false, cond_false]
    have : IsRoot A r := ⟨h5, h6⟩
    rw [this.unique hs]
  | i + 1, n + 1, r, h1, h2, h3, h4, h5, h6 => by
    rw [plumblineref01_Sqrt_l0, plumblineref01_Sqrt_l0B]
    have e : (((i + 1 : Nat) : Int) - 1) = (i : Int) := by omega
    have e0 : ((i : Int) ≥ 0) := by omega
    have e1 : ¬ ((i : Int) < 0) := by omega
    have e8 : Wi64 ((i : Int) - 1) = ((i : Int) - 1) := wrap_i64 (by omega) (by omega)
    have hp : 2 ^ (i + 1) = 2 ^ i + 2 ^ i := by rw [Nat.pow_succ]; omega
    have hx : r + 2 ^ i < 2 ^ 64 := by
      have := lt_of_mul h3 h4 h1
      have := Nat.two_pow_pos i
      omega
    have h3' : r % 2 ^ i = 0 := by
      have hd : 2 ^ i ∣ 2 ^ (i + 1) := ⟨2, by rw [Nat.pow_succ]⟩
      exact Nat.mod_eq_zero_of_dvd (Nat.dvd_trans hd (Nat.dvd_of_mod_eq_zero h3))
    rw [e, e8]
    simp only [e0, e1, decide_true, decide_false, cond_true, cond_false]
    rw [or_bit h3 h4 (by omega), refMul_hl hk hx hx]
    have hsq : (r + 2 ^ i) * (r + 2 ^ i) < 2 ^ 128 := by
      have := Nat.mul_lt_mul'' hx hx
      rw [← Nat.pow_add] at this
      exact this
    rw [refCompare_hl hk hsq hA]
    by_cases hc : (r + 2 ^ i) * (r + 2 ^ i) ≤ A
    · have : sgn ((r + 2 ^ i) * (r + 2 ^ i)) A ≤ 0 := by unfold sgn; split; decide; rw [if_neg (by omega)]; decide
      simp only [this, decide_true, cond_true]
      refine refSqrt_loop hk hA hs a b K i n (r + 2 ^ i) (by omega) (by omega) ?_ hx hc ?_
      · rw [Nat.add_mod, h3', Nat.mod_self]; rfl
      · rw [hp, ← Nat.add_assoc] at h6; exact h6
    · have : ¬ sgn ((r + 2 ^ i) * (r + 2 ^ i)) A ≤ 0 := by unfold sgn; rw [if_neg (by omega), if_pos (by omega)]; decide
      simp only [this, decide_false, cond_false]
      exact refSqrt_loop hk hA hs a b K i n r (by omega) (by omega) h3' h4 h5 (by omega)

theorem refSqrt_hl {R : Type} {k : Nat} (hk : 5000 ≤ k) {A s : Nat} (hA : A < 2 ^ 128) (hs : IsRoot A s) (K : Int → Int → Int → Option R) :
    plumblineref01_Sqrt k (hi A) (lo A) K = K (s : Int) (hi (A - s * s)) (lo (A - s * s)) := by
  unfold plumblineref01_Sqrt plumblineref01_SqrtT
  have h := refSqrt_loop hk hA hs 0 0 (fun r1 =>
    plumblineref01_Mul k r1 r1 (fun r2 r3 =>
      plumblineref01_Sub k (hi A) (lo A) r2 r3 (fun r4 r5 r6 =>
        K r1 r4 r5))) 64 k 0 (by decide) (by omega) (by decide) (by decide) (by omega) (by rw [Nat.zero_add, ← Nat.pow_add]; exact hA)
  refine h.trans ?_
  have hs64 : s < 2 ^ 64 := hs.lt (by rw [← Nat.pow_add]; exact hA)
  have hsq : s * s < 2 ^ 128 := Nat.lt_of_le_of_lt hs.1 hA
  rw [refMul_hl hk hs64 hs64, refSub_hl hk hA hsq]
  have : (A + 2 ^ 128 - s * s) % 2 ^ 128 = A - s * s := by
    have := hs.1
    generalize s * s = q at *
    omega
  rw [this]

end Go.Proofs.Ytbnmnkofekcodaa.N
