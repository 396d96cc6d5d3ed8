/- Whole numbers of 64 bits as the evaluator has them, told in naturals. Conditions: none. -/
import Derived.Test.YtejfnbjhcohkiaaEng1
import GoSem.Claim
import Derived.Test.YtejfnbjhcohkiaaNwide
namespace Go.Ab
set_option linter.unusedVariables false
set_option linter.unusedSimpArgs false
open Go

theorem wrap_u64 (x : Int) : IntKind.wrap .u64 x = x % 18446744073709551616 := by
  unfold IntKind.wrap
  simp only [IntKind.bits, IntKind.signed]
  have e1 : (2 ^ 64 : Int) = 18446744073709551616 := by decide
  simp only [e1]
  rfl

theorem wrap_i64 {x : Int} (h0 : -9223372036854775808 ≤ x) (h1 : x < 9223372036854775808) : Wi64 x = x := by
  unfold Wi64 IntKind.wrap
  simp only [IntKind.bits, IntKind.signed]
  have e1 : (2 ^ 64 : Int) = 18446744073709551616 := by decide
  have e2 : (2 ^ (64 - 1) : Int) = 9223372036854775808 := by decide
  simp only [e1, e2, Bool.true_and, decide_eq_true_eq]
  split <;> omega

theorem shl_nat (n s : Nat) (hs : s ≤ 64) : shl .u64 (n : Int) (s : Int) = ((n * 2 ^ s % 2 ^ 64 : Nat) : Int) := by
  unfold shl
  rw [wrap_u64]
  have : min ((s : Int).toNat) IntKind.u64.bits = s := by simp [IntKind.bits]; omega
  rw [this]
  have e : ((n : Int) * 2 ^ s) = ((n * 2 ^ s : Nat) : Int) := by rw [Int.natCast_mul, Int.natCast_pow]; rfl
  rw [e]
  have e2 : (18446744073709551616 : Int) = ((2 ^ 64 : Nat) : Int) := by decide
  rw [e2, ← Int.natCast_emod]

theorem shr_nat (n s : Nat) (hs : s ≤ 64) : shr .u64 (n : Int) (s : Int) = ((n / 2 ^ s : Nat) : Int) := by
  unfold shr
  have : min ((s : Int).toNat) IntKind.u64.bits = s := by simp [IntKind.bits]; omega
  rw [this]
  have e : (2 ^ s : Int) = ((2 ^ s : Nat) : Int) := by rw [Int.natCast_pow]; rfl
  rw [e, Int.fdiv_eq_ediv_of_nonneg _ (Int.natCast_nonneg _)]
  rfl

theorem orInt_nat (f : BitVec 64 → BitVec 64 → BitVec 64) (n m : Nat) : orInt .u64 f (n : Int) (m : Int) = ((f (BitVec.ofNat 64 n) (BitVec.ofNat 64 m)).toNat : Int) := by
  unfold orInt
  rw [wrap_u64]
  have h := (f (BitVec.ofNat 64 n) (BitVec.ofNat 64 m)).isLt
  show (((f (BitVec.ofInt 64 (n : Int)) (BitVec.ofInt 64 (m : Int))).toNat : Int)) % 18446744073709551616 = _
  rw [show BitVec.ofInt 64 (n : Int) = BitVec.ofNat 64 n by simp, show BitVec.ofInt 64 (m : Int) = BitVec.ofNat 64 m by simp]
  have h2 : (f (BitVec.ofNat 64 n) (BitVec.ofNat 64 m)).toNat < 18446744073709551616 := h
  omega

theorem bOr_nat {n m : Nat} (hn : n < 2 ^ 64) (hm : m < 2 ^ 64) : bOr .u64 (n : Int) (m : Int) = ((n ||| m : Nat) : Int) := by
  show orInt .u64 _ _ _ = _
  refine (orInt_nat (· ||| ·) n m).trans ?_
  simp [BitVec.toNat_or, Nat.mod_eq_of_lt hn, Nat.mod_eq_of_lt hm]

theorem bAnd_nat {n m : Nat} (hn : n < 2 ^ 64) (hm : m < 2 ^ 64) : bAnd .u64 (n : Int) (m : Int) = ((n &&& m : Nat) : Int) := by
  show orInt .u64 _ _ _ = _
  refine (orInt_nat (· &&& ·) n m).trans ?_
  simp [BitVec.toNat_and, Nat.mod_eq_of_lt hn, Nat.mod_eq_of_lt hm]

theorem u64_nat {x : Int} (h : (Lit.int .u64 x).wf = true) : ∃ n : Nat, x = (n : Int) ∧ n < 2 ^ 64 := by
  have h' : 0 ≤ x ∧ x ≤ 18446744073709551615 := by
    simp only [Lit.wf, Bool.and_eq_true, decide_eq_true_eq] at h
    have e1 : IntKind.u64.min = 0 := by decide
    have e2 : IntKind.u64.max = 18446744073709551615 := by decide
    rw [e1, e2] at h
    exact h
  exact ⟨x.toNat, by omega, by omega⟩

end Go.Ab

/- Moves of numbers of 128 bits: what wide.Shl and wide.Shr come to. Conditions: none. -/
namespace Go.Proofs.Ytejfnbjhcohkiaa.N
set_option linter.unusedVariables false
set_option linter.unusedSimpArgs false
open Go Go.Ab

def V (h l : Nat) : Nat := h * 2 ^ 64 + l

theorem V_inj {h l h' l' : Nat} (hl : l < 2 ^ 64) (hl' : l' < 2 ^ 64) (h1 : V h l = V h' l') : h = h' ∧ l = l' := by
  unfold V at h1
  omega

theorem or_add {a b s : Nat} (ha : a % 2 ^ s = 0) (hb : b < 2 ^ s) : a ||| b = a + b := by
  have h1 : a = 2 ^ s * (a / 2 ^ s) := by
    have := Nat.div_add_mod a (2 ^ s); omega
  rw [h1, ← Nat.two_pow_add_eq_or_of_lt hb]

/-- wide.Shl: up by n bits, modulo 2^128. -/
theorem shl_mid {h l s : Nat} (hh : h < 2 ^ 64) (hl : l < 2 ^ 64) (h0 : 0 < s) (hs : s < 64) :
    V ((h * 2 ^ s % 2 ^ 64) ||| (l / 2 ^ (64 - s))) (l * 2 ^ s % 2 ^ 64) = V h l * 2 ^ s % 2 ^ 128 := by
  have hp : 2 ^ 64 = 2 ^ s * 2 ^ (64 - s) := by rw [← Nat.pow_add]; congr 1; omega
  have hpos : 0 < 2 ^ s := Nat.two_pow_pos s
  have hpos2 : 0 < 2 ^ (64 - s) := Nat.two_pow_pos _
  have e1 : l / 2 ^ (64 - s) < 2 ^ s := by
    rw [Nat.div_lt_iff_lt_mul hpos2, ← hp]; exact hl
  have e2 : (h * 2 ^ s % 2 ^ 64) % 2 ^ s = 0 := by
    rw [hp, Nat.mod_mul_right_mod, Nat.mul_mod_left]
  rw [or_add e2 e1]
  have e3 : l * 2 ^ s / 2 ^ 64 = l / 2 ^ (64 - s) := by
    rw [hp, Nat.mul_comm l, Nat.mul_div_mul_left _ _ hpos]
  have e4 : h * 2 ^ s % 2 ^ 64 + 2 ^ s ≤ 2 ^ 64 := by
    have hlt : h * 2 ^ s % 2 ^ 64 < 2 ^ 64 := Nat.mod_lt _ (by decide)
    generalize h * 2 ^ s % 2 ^ 64 = r at e2 hlt ⊢
    have hr : r = 2 ^ s * (r / 2 ^ s) := by have := Nat.div_add_mod r (2 ^ s); omega
    have hlt2 : r / 2 ^ s < 2 ^ (64 - s) := by rw [Nat.div_lt_iff_lt_mul hpos, Nat.mul_comm, ← hp]; exact hlt
    have := Nat.mul_le_mul_left (2 ^ s) hlt2
    rw [← hp] at this
    rw [Nat.succ_eq_add_one, Nat.mul_add, Nat.mul_one, ← hr] at this
    exact this
  have e5 : V h l * 2 ^ s = (h * 2 ^ s) * 2 ^ 64 + l * 2 ^ s := by
    unfold V; rw [Nat.add_mul, Nat.mul_right_comm]
  rw [e5]
  unfold V
  rw [← e3] at e1 ⊢
  generalize h * 2 ^ s = X at *
  generalize l * 2 ^ s = Y at *
  generalize 2 ^ s = A at *
  omega

theorem Shl_spec {R : Type} (k : Nat) {h l : Nat} {n : Int} (hh : h < 2 ^ 64) (hl : l < 2 ^ 64) (hn : (Lit.int .i64 n).wf = true) :
    ∃ h' l' : Nat, h' < 2 ^ 64 ∧ l' < 2 ^ 64 ∧ V h' l' = V h l * 2 ^ n.toNat % 2 ^ 128 ∧ ∀ K : Int → Int → Option R, wide_Shl k (h : Int) (l : Int) n K = K (h' : Int) (l' : Int) := by
  have hb : -9223372036854775808 ≤ n ∧ n ≤ 9223372036854775807 := by
    simp only [Lit.wf, Bool.and_eq_true, decide_eq_true_eq] at hn
    have e1 : IntKind.i64.min = -9223372036854775808 := by decide
    have e2 : IntKind.i64.max = 9223372036854775807 := by decide
    rw [e1, e2] at hn
    exact hn
  by_cases h0 : n ≤ 0
  · refine ⟨h, l, hh, hl, ?_, fun K => ?_⟩
    · have : n.toNat = 0 := by omega
      rw [this]; unfold V; omega
    · unfold wide_Shl wide_ShlT; simp [h0]
  · obtain ⟨s, rfl⟩ : ∃ s : Nat, n = (s : Int) := ⟨n.toNat, by omega⟩
    simp only [Int.toNat_natCast]
    by_cases h1 : s < 64
    · refine ⟨(h * 2 ^ s % 2 ^ 64) ||| (l / 2 ^ (64 - s)), l * 2 ^ s % 2 ^ 64, ?_, Nat.mod_lt _ (by decide), shl_mid hh hl (by omega) h1, fun K => ?_⟩
      · exact Nat.or_lt_two_pow (Nat.mod_lt _ (by decide)) (Nat.lt_of_le_of_lt (Nat.div_le_self _ _) hl)
      · have e0 : ¬ ((s : Int) ≤ 0) := h0
        have e1 : ¬ ((s : Int) ≥ 64) := by omega
        have e2 : ¬ ((s : Int) < 0) := by omega
        have e3 : Wi64 (64 - (s : Int)) = ((64 - s : Nat) : Int) := by rw [wrap_i64 (by omega) (by omega)]; omega
        have e4 : ¬ (((64 - s : Nat) : Int) < 0) := by omega
        unfold wide_Shl wide_ShlT
        rw [e3]
        simp only [e0, e1, e2, e4, decide_false, cond_false]
        rw [shl_nat h s (by omega), shl_nat l s (by omega), shr_nat l (64 - s) (by omega), bOr_nat (Nat.mod_lt _ (by decide)) (Nat.lt_of_le_of_lt (Nat.div_le_self _ _) hl)]
    · have e0 : ¬ ((s : Int) ≤ 0) := h0
      have e1 : ((s : Int) ≥ 64) := by omega
      have e3 : Wi64 ((s : Int) - 64) = ((s - 64 : Nat) : Int) := by rw [wrap_i64 (by omega) (by omega)]; omega
      have e4 : ¬ (((s - 64 : Nat) : Int) < 0) := by omega
      refine ⟨l * 2 ^ (min (s - 64) 64) % 2 ^ 64, 0, Nat.mod_lt _ (by decide), by decide, ?_, fun K => ?_⟩
      · unfold V
        by_cases hs : s - 64 ≤ 64
        · have hp : 2 ^ s = 2 ^ (s - 64) * 2 ^ 64 := by rw [← Nat.pow_add]; congr 1; omega
          rw [Nat.min_eq_left hs, hp, ← Nat.mul_assoc, Nat.add_mul, Nat.add_mul]
          have : h * 2 ^ 64 * 2 ^ (s - 64) * 2 ^ 64 = (h * 2 ^ (s - 64)) * 2 ^ 128 := by
            rw [Nat.mul_right_comm h, Nat.mul_assoc (h * 2 ^ (s - 64))]
          rw [this]
          generalize h * 2 ^ (s - 64) = X
          generalize l * 2 ^ (s - 64) = Y
          clear this hp
          have e128 : (2 ^ 128 : Nat) = 340282366920938463463374607431768211456 := by decide
          have e64 : (2 ^ 64 : Nat) = 18446744073709551616 := by decide
          rw [e128, e64]
          omega
        · have hp : 2 ^ s = 2 ^ (s - 128) * 2 ^ 128 := by rw [← Nat.pow_add]; congr 1; omega
          rw [Nat.min_eq_right (by omega), hp, ← Nat.mul_assoc, Nat.mul_mod_left, Nat.mul_mod_left]
      · unfold wide_Shl wide_ShlT
        rw [e3]
        simp only [e0, e1, e4, decide_false, decide_true, cond_false, cond_true]
        by_cases hs : s - 64 ≤ 64
        · rw [shl_nat l _ hs, Nat.min_eq_left hs]; rfl
        · have : shl .u64 (l : Int) ((s - 64 : Nat) : Int) = shl .u64 (l : Int) ((64 : Nat) : Int) := by
            unfold shl; congr 3; simp [IntKind.bits]; omega
          rw [this, shl_nat l 64 (by omega), Nat.min_eq_right (by omega)]; rfl

end Go.Proofs.Ytejfnbjhcohkiaa.N

/- wide.Shr. Conditions: none. -/
namespace Go.Proofs.Ytejfnbjhcohkiaa.N
set_option linter.unusedVariables false
set_option linter.unusedSimpArgs false
open Go Go.Ab

theorem i64_wf {n : Int} (hn : (Lit.int .i64 n).wf = true) : -9223372036854775808 ≤ n ∧ n ≤ 9223372036854775807 := by
  simp only [Lit.wf, Bool.and_eq_true, decide_eq_true_eq] at hn
  have e1 : IntKind.i64.min = -9223372036854775808 := by decide
  have e2 : IntKind.i64.max = 9223372036854775807 := by decide
  rw [e1, e2] at hn
  exact hn

theorem e64 : (2 ^ 64 : Nat) = 18446744073709551616 := by decide
theorem e128 : (2 ^ 128 : Nat) = 340282366920938463463374607431768211456 := by decide

/-- Two pairs are the same just if their numbers are. -/
theorem pair_beq {h l h' l' : Nat} (hl : l < 2 ^ 64) (hl' : l' < 2 ^ 64) : (((h : Int) == (h' : Int)) && ((l : Int) == (l' : Int))) = (V h l == V h' l') := by
  rw [Bool.eq_iff_iff]
  simp only [Bool.and_eq_true, beq_iff_eq]
  constructor
  · rintro ⟨h1, h2⟩
    have := Int.ofNat.inj h1; have := Int.ofNat.inj h2
    subst_vars; rfl
  · intro hv
    obtain ⟨h1, h2⟩ := V_inj hl hl' hv
    subst h1; subst h2; exact ⟨rfl, rfl⟩

theorem V_lt {h l : Nat} (hh : h < 2 ^ 64) (hl : l < 2 ^ 64) : V h l < 2 ^ 128 := by
  unfold V; rw [e64] at *; rw [e128]; omega

theorem shr_mid {h l s : Nat} (hh : h < 2 ^ 64) (hl : l < 2 ^ 64) (h0 : 0 < s) (hs : s < 64) :
    V (h / 2 ^ s) ((l / 2 ^ s) ||| (h * 2 ^ (64 - s) % 2 ^ 64)) = V h l / 2 ^ s := by
  have hp : 2 ^ 64 = 2 ^ s * 2 ^ (64 - s) := by rw [← Nat.pow_add]; congr 1; omega
  have hpos : 0 < 2 ^ s := Nat.two_pow_pos s
  have hpos2 : 0 < 2 ^ (64 - s) := Nat.two_pow_pos _
  have e1 : l / 2 ^ s < 2 ^ (64 - s) := by
    rw [Nat.div_lt_iff_lt_mul hpos, Nat.mul_comm, ← hp]; exact hl
  have e2 : (h * 2 ^ (64 - s) % 2 ^ 64) % 2 ^ (64 - s) = 0 := by
    rw [hp, Nat.mul_comm (2 ^ s), Nat.mod_mul_right_mod, Nat.mul_mod_left]
  rw [Nat.or_comm, or_add e2 e1]
  have e3 : V h l / 2 ^ s = h * 2 ^ (64 - s) + l / 2 ^ s := by
    unfold V
    rw [hp, show h * (2 ^ s * 2 ^ (64 - s)) + l = 2 ^ s * (h * 2 ^ (64 - s)) + l by rw [← Nat.mul_assoc, Nat.mul_comm h, Nat.mul_assoc], Nat.mul_add_div hpos]
  rw [e3]
  have e4 : h * 2 ^ (64 - s) / 2 ^ 64 = h / 2 ^ s := by
    rw [hp, Nat.mul_div_mul_right _ _ hpos2]
  unfold V
  rw [← e4]
  have := Nat.div_add_mod (h * 2 ^ (64 - s)) (2 ^ 64)
  omega

theorem lost_eq {v s : Nat} (hv : v < 2 ^ 128) : (!(v / 2 ^ s * 2 ^ s % 2 ^ 128 == v)) = decide (v % 2 ^ s ≠ 0) := by
  have h1 := Nat.div_add_mod v (2 ^ s)
  have h2 : v / 2 ^ s * 2 ^ s ≤ v := Nat.div_mul_le_self _ _
  rw [Nat.mod_eq_of_lt (by omega)]
  rw [Bool.eq_iff_iff]
  simp only [Bool.not_eq_true', beq_eq_false_iff_ne, decide_eq_true_eq]
  rw [Nat.mul_comm] at h1
  constructor
  · intro h hh; omega
  · intro h hh; omega

theorem Shr_spec {R : Type} (k : Nat) {h l : Nat} {n : Int} (hh : h < 2 ^ 64) (hl : l < 2 ^ 64) (hn : (Lit.int .i64 n).wf = true) :
    ∃ h' l' : Nat, h' < 2 ^ 64 ∧ l' < 2 ^ 64 ∧ V h' l' = V h l / 2 ^ n.toNat ∧
      ∀ K : Int → Int → Bool → Option R, wide_Shr k (h : Int) (l : Int) n K = K (h' : Int) (l' : Int) (decide (V h l % 2 ^ n.toNat ≠ 0)) := by
  have hb := i64_wf hn
  by_cases h0 : n ≤ 0
  · refine ⟨h, l, hh, hl, ?_, fun K => ?_⟩
    · have : n.toNat = 0 := by omega
      rw [this]; simp
    · have : n.toNat = 0 := by omega
      rw [this]
      unfold wide_Shr wide_ShrT; simp [h0, Nat.mod_one]
  · obtain ⟨s, rfl⟩ : ∃ s : Nat, n = (s : Int) := ⟨n.toNat, by omega⟩
    simp only [Int.toNat_natCast]
    have hV := V_lt hh hl
    by_cases h1 : s < 64
    · have e1 : ¬ ((s : Int) ≥ 128) := by omega
      have e2 : ¬ ((s : Int) ≥ 64) := by omega
      have e2' : ¬ ((s : Int) < 0) := by omega
      have e3 : Wi64 (64 - (s : Int)) = ((64 - s : Nat) : Int) := by rw [wrap_i64 (by omega) (by omega)]; omega
      have e4 : ¬ (((64 - s : Nat) : Int) < 0) := by omega
      have hh2 : h / 2 ^ s < 2 ^ 64 := Nat.lt_of_le_of_lt (Nat.div_le_self _ _) hh
      have hl2 : ((l / 2 ^ s) ||| (h * 2 ^ (64 - s) % 2 ^ 64)) < 2 ^ 64 := Nat.or_lt_two_pow (Nat.lt_of_le_of_lt (Nat.div_le_self _ _) hl) (Nat.mod_lt _ (by decide))
      obtain ⟨h3, l3, a1, a2, a3, a4⟩ := Shl_spec (R := R) k hh2 hl2 hn
      refine ⟨h / 2 ^ s, (l / 2 ^ s) ||| (h * 2 ^ (64 - s) % 2 ^ 64), hh2, hl2, shr_mid hh hl (by omega) h1, fun K => ?_⟩
      unfold wide_Shr wide_ShrT
      rw [e3]
      simp only [h0, e1, e2, e2', e4, decide_false, cond_false]
      rw [shr_nat h s (by omega), shr_nat l s (by omega), shl_nat h (64 - s) (by omega), bOr_nat (Nat.lt_of_le_of_lt (Nat.div_le_self _ _) hl) (Nat.mod_lt _ (by decide)), a4]
      rw [pair_beq a2 hl, a3, shr_mid hh hl (by omega) h1]
      simp only [Int.toNat_natCast]
      rw [lost_eq hV]
    · have hd : V h l / 2 ^ s = h / 2 ^ (s - 64) := by
        have hp : 2 ^ s = 2 ^ 64 * 2 ^ (s - 64) := by rw [← Nat.pow_add]; congr 1; omega
        rw [hp, ← Nat.div_div_eq_div_mul]
        congr 1
        unfold V; omega
      by_cases h2 : s < 128
      · have e1 : ¬ ((s : Int) ≥ 128) := by omega
        have e2 : ((s : Int) ≥ 64) := by omega
        have e3 : Wi64 ((s : Int) - 64) = ((s - 64 : Nat) : Int) := by rw [wrap_i64 (by omega) (by omega)]; omega
        have e4 : ¬ (((s - 64 : Nat) : Int) < 0) := by omega
        have hl2 : h / 2 ^ (s - 64) < 2 ^ 64 := Nat.lt_of_le_of_lt (Nat.div_le_self _ _) hh
        obtain ⟨h3, l3, a1, a2, a3, a4⟩ := Shl_spec (R := R) k (h := 0) (by decide) hl2 hn
        have hv0 : V 0 (h / 2 ^ (s - 64)) = V h l / 2 ^ s := by rw [hd]; unfold V; omega
        refine ⟨0, h / 2 ^ (s - 64), by decide, hl2, hv0, fun K => ?_⟩
        unfold wide_Shr wide_ShrT
        rw [e3]
        simp only [h0, e1, e2, e4, decide_false, decide_true, cond_false, cond_true]
        rw [shr_nat h (s - 64) (by omega)]
        show wide_Shl k ((0 : Nat) : Int) _ _ _ = _
        rw [a4, pair_beq a2 hl, a3, hv0]
        simp only [Int.toNat_natCast]
        rw [lost_eq hV]; rfl
      · have e1 : ((s : Int) ≥ 128) := by omega
        obtain ⟨h3, l3, a1, a2, a3, a4⟩ := Shl_spec (R := R) k (h := 0) (l := 0) (by decide) (by decide) hn
        have hz : V h l / 2 ^ s = 0 := Nat.div_eq_of_lt (Nat.lt_of_lt_of_le hV (Nat.pow_le_pow_right (by decide) (by omega)))
        have hv0 : V 0 0 = V h l / 2 ^ s := by rw [hz]; rfl
        refine ⟨0, 0, by decide, by decide, hv0, fun K => ?_⟩
        unfold wide_Shr wide_ShrT
        simp only [h0, e1, decide_false, decide_true, cond_false, cond_true]
        show wide_Shl k ((0 : Nat) : Int) ((0 : Nat) : Int) _ _ = _
        rw [a4, pair_beq a2 hl, a3, hv0]
        simp only [Int.toNat_natCast]
        rw [lost_eq hV]; rfl

end Go.Proofs.Ytejfnbjhcohkiaa.N

/- Halves of numbers; rows of bits as numbers. Conditions: none. -/
namespace Go.Proofs.Ytejfnbjhcohkiaa.N
set_option linter.unusedVariables false
set_option linter.unusedSimpArgs false
open Go Go.Ab

def hi (A : Nat) : Int := ((A / 2 ^ 64 : Nat) : Int)

def lo (A : Nat) : Int := ((A % 2 ^ 64 : Nat) : Int)

theorem V_hl (A : Nat) : V (A / 2 ^ 64) (A % 2 ^ 64) = A := by
  unfold V; rw [Nat.mul_comm]; exact Nat.div_add_mod _ _

theorem hi_lt {A : Nat} (h : A < 2 ^ 128) : A / 2 ^ 64 < 2 ^ 64 := by
  rw [Nat.div_lt_iff_lt_mul (by decide), ← Nat.pow_add]; exact h

theorem lo_lt (A : Nat) : A % 2 ^ 64 < 2 ^ 64 := Nat.mod_lt _ (by decide)

theorem hi_V {h l : Nat} (hl : l < 2 ^ 64) : hi (V h l) = (h : Int) := by
  unfold hi V
  congr 1
  rw [Nat.mul_comm, Nat.mul_add_div (by decide), Nat.div_eq_of_lt hl, Nat.add_zero]

theorem lo_V {h l : Nat} (hl : l < 2 ^ 64) : lo (V h l) = (l : Int) := by
  unfold lo V
  congr 1
  rw [Nat.mul_comm, Nat.mul_add_mod, Nat.mod_eq_of_lt hl]

theorem hl_of {h l A : Nat} (hl : l < 2 ^ 64) (hV : V h l = A) : (h : Int) = hi A ∧ (l : Int) = lo A := by
  subst hV; exact ⟨(hi_V hl).symm, (lo_V hl).symm⟩

theorem hi_small {l : Nat} (hl : l < 2 ^ 64) : hi l = 0 := by unfold hi; rw [Nat.div_eq_of_lt hl]; rfl

theorem lo_small {l : Nat} (hl : l < 2 ^ 64) : lo l = (l : Int) := by unfold lo; rw [Nat.mod_eq_of_lt hl]

theorem hl_beq {A B : Nat} : ((hi A == hi B) && (lo A == lo B)) = (A == B) := by
  unfold hi lo
  rw [pair_beq (lo_lt A) (lo_lt B), V_hl, V_hl]

theorem Shl_hl {R : Type} (k : Nat) {A : Nat} {n : Int} (hA : A < 2 ^ 128) (hn : (Lit.int .i64 n).wf = true) (K : Int → Int → Option R) :
    wide_Shl k (hi A) (lo A) n K = K (hi (A * 2 ^ n.toNat % 2 ^ 128)) (lo (A * 2 ^ n.toNat % 2 ^ 128)) := by
  obtain ⟨h', l', h1, h2, h3, h4⟩ := Shl_spec (R := R) k (hi_lt hA) (lo_lt A) hn
  rw [V_hl] at h3
  obtain ⟨e1, e2⟩ := hl_of h2 h3
  rw [← e1, ← e2]; exact h4 K

theorem Shr_hl {R : Type} (k : Nat) {A : Nat} {n : Int} (hA : A < 2 ^ 128) (hn : (Lit.int .i64 n).wf = true) (K : Int → Int → Bool → Option R) :
    wide_Shr k (hi A) (lo A) n K = K (hi (A / 2 ^ n.toNat)) (lo (A / 2 ^ n.toNat)) (decide (A % 2 ^ n.toNat ≠ 0)) := by
  obtain ⟨h', l', h1, h2, h3, h4⟩ := Shr_spec (R := R) k (hi_lt hA) (lo_lt A) hn
  rw [V_hl] at h3
  obtain ⟨e1, e2⟩ := hl_of h2 h3
  rw [← e1, ← e2]
  have := h4 K
  rw [V_hl] at this
  exact this

def rowN (n : Nat) (f : Nat → Bool) : List Bool := (List.range n).map f

@[simp] theorem rowN_length (n : Nat) (f : Nat → Bool) : (rowN n f).length = n := by simp [rowN]

theorem rowN_get (n : Nat) (f : Nat → Bool) (i : Nat) : (rowN n f)[i]? = if i < n then some (f i) else none := by
  unfold rowN
  rw [List.getElem?_map]
  by_cases h : i < n
  · rw [List.getElem?_range h, if_pos h]; rfl
  · rw [List.getElem?_eq_none (by simp; omega), if_neg h]; rfl

theorem rowN_set (n : Nat) (f : Nat → Bool) (i : Nat) (b : Bool) : (rowN n f).set i b = rowN n (fun j => if j = i then b else f j) := by
  apply List.ext_getElem?
  intro j
  rw [List.getElem?_set, rowN_get, rowN_length, rowN_get]
  by_cases hj : i = j
  · subst hj; simp
  · rw [if_neg hj]
    have : ¬ j = i := fun h => hj h.symm
    simp [this]

theorem rowN_congr {n : Nat} {f g : Nat → Bool} (h : ∀ i, i < n → f i = g i) : rowN n f = rowN n g := by
  apply List.ext_getElem?
  intro i
  rw [rowN_get, rowN_get]
  split
  · rename_i hi; rw [h i hi]
  · rfl

theorem rowN_false (n : Nat) : List.replicate n false = rowN n (fun _ => false) := by
  apply List.ext_getElem?
  intro i
  rw [rowN_get, List.getElem?_replicate]

theorem rowN_of (l : List Bool) : l = rowN l.length (fun i => l.getD i false) := by
  apply List.ext_getElem?
  intro i
  rw [rowN_get]
  split
  · rename_i h; rw [List.getElem?_eq_getElem h, List.getD_eq_getElem?_getD, List.getElem?_eq_getElem h]; rfl
  · rename_i h; exact List.getElem?_eq_none (by omega)

/-- The number of the first n bits. -/
def nOf (f : Nat → Bool) : Nat → Nat
  | 0 => 0
  | n + 1 => nOf f n + (f n).toNat * 2 ^ n

theorem nOf_lt (f : Nat → Bool) : ∀ n, nOf f n < 2 ^ n
  | 0 => by simp [nOf]
  | n + 1 => by
    have h := nOf_lt f n
    have : (f n).toNat ≤ 1 := Bool.toNat_le _
    rw [nOf, Nat.pow_succ]
    have := Nat.mul_le_mul_right (2 ^ n) this
    omega

theorem nOf_congr {f g : Nat → Bool} : ∀ {n : Nat}, (∀ i, i < n → f i = g i) → nOf f n = nOf g n
  | 0, _ => rfl
  | n + 1, h => by rw [nOf, nOf, nOf_congr (fun i hi => h i (by omega)), h n (by omega)]

theorem nOf_bits (x : Nat) : ∀ n, nOf x.testBit n = x % 2 ^ n
  | 0 => by simp [nOf, Nat.mod_one]
  | n + 1 => by
    rw [nOf, nOf_bits x n, Nat.toNat_testBit, Nat.mul_comm, Nat.pow_succ, Nat.mod_mul]

theorem nOf_testBit (f : Nat → Bool) : ∀ n i, (nOf f n).testBit i = (decide (i < n) && f i)
  | 0, i => by simp [nOf]
  | n + 1, i => by
    have h := nOf_lt f n
    rw [nOf, Nat.add_comm, Nat.mul_comm]
    by_cases hi : i < n
    · rw [Nat.testBit_two_pow_mul_add _ h, if_pos hi, nOf_testBit f n i]
      simp [hi, Nat.lt_succ_of_lt hi]
    · rw [Nat.testBit_two_pow_mul_add _ h, if_neg hi]
      by_cases h2 : i = n
      · subst h2
        cases f i <;> simp
      · have h3 : ¬ i < n + 1 := by omega
        have h4 : i - n ≠ 0 := by omega
        have h5 : Nat.testBit 1 (i - n) = false := by
          cases hb : Nat.testBit 1 (i - n) with
          | false => rfl
          | true => exact absurd (Nat.testBit_one_eq_true_iff_self_eq_zero.1 hb) h4
        cases f n <;> simp [h3, h5]

theorem nOf_eq {f : Nat → Bool} {n x : Nat} (hx : x < 2 ^ n) (h : ∀ i, i < n → f i = x.testBit i) : nOf f n = x := by
  rw [nOf_congr h, nOf_bits, Nat.mod_eq_of_lt hx]

theorem bit_or {l i : Nat} (hl : l < 2 ^ i) (hi : i < 64) : bOr .u64 (l : Int) (shl .u64 1 (i : Int)) = ((l + 2 ^ i : Nat) : Int) := by
  have hp : 2 ^ i < 2 ^ 64 := Nat.pow_lt_pow_right (by decide) hi
  rw [show (1 : Int) = ((1 : Nat) : Int) from rfl, shl_nat 1 i (by omega), Nat.one_mul, Nat.mod_eq_of_lt hp,
    bOr_nat (Nat.lt_of_lt_of_le hl (Nat.pow_le_pow_right (by decide) (by omega))) hp]
  have : l ||| 2 ^ i = l + 2 ^ i := by
    rw [Nat.or_comm, or_add (s := i) (by simp) hl, Nat.add_comm]
  rw [this]

theorem Wi64_nat {i : Nat} (h : i < 2 ^ 62) : Wi64 (i : Int) = (i : Int) := wrap_i64 (by omega) (by omega)

theorem Wi64_succ {i : Nat} (h : i < 2 ^ 62) : Wi64 ((i : Int) + 1) = ((i + 1 : Nat) : Int) := by rw [wrap_i64 (by omega) (by omega)]; rfl

theorem Wi64_sub {i j : Nat} (h : i < 2 ^ 62) (hj : j ≤ i) : Wi64 ((i : Int) - (j : Int)) = ((i - j : Nat) : Int) := by rw [wrap_i64 (by omega) (by omega)]; omega

theorem wf_nat {i : Nat} (h : i < 2 ^ 63) : (Lit.int .i64 (i : Int)).wf = true := by
  simp only [Lit.wf, Bool.and_eq_true, decide_eq_true_eq]
  have e1 : IntKind.i64.min = -9223372036854775808 := by decide
  have e2 : IntKind.i64.max = 9223372036854775807 := by decide
  rw [e1, e2]; omega

end Go.Proofs.Ytejfnbjhcohkiaa.N

/- Lengths. Conditions: none. -/
namespace Go.Proofs.Ytejfnbjhcohkiaa.N
set_option linter.unusedVariables false
set_option linter.unusedSimpArgs false
open Go Go.Ab

theorem zero_hi {l : Nat} (hl : l < 2 ^ 64) : (0 : Int) = hi l := (hi_small hl).symm

theorem Wu64_nat (x : Nat) : Wu64 (x : Int) = ((x % 2 ^ 64 : Nat) : Int) := by
  unfold Wu64; rw [wrap_u64, e64]; omega

theorem and32 {x : Nat} (hx : x < 2 ^ 64) : bAnd .u64 (x : Int) 4294967295 = ((x % 2 ^ 32 : Nat) : Int) := by
  rw [show (4294967295 : Int) = ((2 ^ 32 - 1 : Nat) : Int) from by decide, bAnd_nat hx (by decide), Nat.and_two_pow_sub_one_eq_mod]

theorem and32m (x : Nat) : bAnd .u64 ((x % 2 ^ 64 : Nat) : Int) 4294967295 = ((x % 2 ^ 64 % 2 ^ 32 : Nat) : Int) := and32 (lo_lt x)

theorem shr32 (x : Nat) : shr .u64 (x : Int) 32 = ((x / 2 ^ 32 : Nat) : Int) := shr_nat x 32 (by decide)

/-- How many bits a number has. -/
def bl (n : Nat) : Nat := if n = 0 then 0 else n.log2 + 1

theorem bl_le_iff {n i : Nat} : bl n ≤ i ↔ n < 2 ^ i := by
  unfold bl
  by_cases h : n = 0
  · subst h; simp [Nat.two_pow_pos]
  · rw [if_neg h, Nat.succ_le_iff, Nat.log2_lt h]

theorem bl_eq {n i : Nat} (h1 : 2 ^ i ≤ n) (h2 : n < 2 ^ (i + 1)) : bl n = i + 1 := by
  have a : bl n ≤ i + 1 := bl_le_iff.2 h2
  have b : ¬ bl n ≤ i := fun h => by have := bl_le_iff.1 h; omega
  omega

theorem bl_div {n s : Nat} (h : 2 ^ s ≤ n) : bl n = s + bl (n / 2 ^ s) := by
  have hq : 0 < n / 2 ^ s := Nat.div_pos h (Nat.two_pow_pos s)
  have ha : bl n ≤ s + bl (n / 2 ^ s) := by
    rw [bl_le_iff, Nat.pow_add]
    have := (bl_le_iff (n := n / 2 ^ s)).1 (Nat.le_refl _)
    rw [Nat.div_lt_iff_lt_mul (Nat.two_pow_pos s)] at this
    rw [Nat.mul_comm]; exact this
  have hb : bl (n / 2 ^ s) ≤ bl n - s := by
    rw [bl_le_iff, Nat.div_lt_iff_lt_mul (Nat.two_pow_pos s), ← Nat.pow_add]
    have h1 := (bl_le_iff (n := n)).1 (Nat.le_refl _)
    exact Nat.lt_of_lt_of_le h1 (Nat.pow_le_pow_right (by decide) (by omega))
  have hc : s ≤ bl n := by
    have : ¬ bl n < s := fun hh => by
      have := bl_le_iff.1 (Nat.le_refl (bl n))
      have h3 : 2 ^ bl n ≤ 2 ^ s := Nat.pow_le_pow_right (by decide) (by omega)
      omega
    omega
  omega

theorem len8 : ∀ n : Fin 256, strAt str_bits_Len64_0 ((n.val : Nat) : Int) = some ((bl n.val : Nat) : Int) := by decide +kernel

theorem len8_nat {n : Nat} (h : n < 256) : strAt str_bits_Len64_0 (n : Int) = some ((bl n : Nat) : Int) := len8 ⟨n, h⟩

theorem Wu8_nat {n : Nat} (h : n < 256) : Wu8 (n : Int) = (n : Int) := by
  unfold Wu8 IntKind.wrap
  simp only [IntKind.bits, IntKind.signed]
  have e1 : (2 ^ 8 : Int) = 256 := by decide
  simp only [e1]
  show (n : Int) % 256 = n
  omega

theorem Len64_nat {R : Type} (k : Nat) {n : Nat} (hn : n < 2 ^ 64) (K : Int → Option R) : bits_Len64 k (n : Int) K = K ((bl n : Nat) : Int) := by
  have key : ∀ s : Nat, (s = 0 ∨ 2 ^ s ≤ n) → n / 2 ^ s < 256 → s < 64 → (Option.bind (strAt str_bits_Len64_0 (Wu8 ((n / 2 ^ s : Nat) : Int))) fun c => K (Wi64 ((s : Int) + Wi64 c))) = K ((bl n : Nat) : Int) := by
    intro s h1 h2 h3
    rw [Wu8_nat h2, len8_nat h2, Option.bind_some]
    have hb : bl (n / 2 ^ s) ≤ 8 := bl_le_iff.2 h2
    rw [Wi64_nat (by omega), show (s : Int) + ((bl (n / 2 ^ s) : Nat) : Int) = ((s + bl (n / 2 ^ s) : Nat) : Int) from by omega, Wi64_nat (by omega)]
    congr 2
    rcases h1 with h1 | h1
    · subst h1; simp
    · exact (bl_div h1).symm
  unfold bits_Len64 bits_Len64T
  have s8 : ∀ x : Nat, shr .u64 (x : Int) 8 = ((x / 2 ^ 8 : Nat) : Int) := fun x => shr_nat x 8 (by decide)
  have s16 : ∀ x : Nat, shr .u64 (x : Int) 16 = ((x / 2 ^ 16 : Nat) : Int) := fun x => shr_nat x 16 (by decide)
  simp only [shr32, s8, s16, Nat.div_div_eq_div_mul, ← Nat.pow_add]
  have k56 := key 56; have k48 := key 48; have k40 := key 40; have k32 := key 32; have k24 := key 24; have k16 := key 16; have k8 := key 8; have k0 := key 0
  simp only [Nat.pow_zero, Nat.div_one] at k0
  rw [e64] at hn
  by_cases c1 : ((n : Int) ≥ 4294967296)
  · simp only [c1, decide_true, cond_true]
    by_cases c2 : (((n / 2 ^ 32 : Nat) : Int) ≥ 65536)
    · simp only [c2, decide_true, cond_true]
      by_cases c3 : (((n / 2 ^ (32 + 16) : Nat) : Int) ≥ 256)
      · simp only [c3, decide_true, cond_true]; exact k56 (.inr (by omega)) (by omega) (by decide)
      · simp only [c3, decide_false, cond_false]; exact k48 (.inr (by omega)) (by omega) (by decide)
    · simp only [c2, decide_false, cond_false]
      by_cases c3 : (((n / 2 ^ 32 : Nat) : Int) ≥ 256)
      · simp only [c3, decide_true, cond_true]; exact k40 (.inr (by omega)) (by omega) (by decide)
      · simp only [c3, decide_false, cond_false]; exact k32 (.inr (by omega)) (by omega) (by decide)
  · simp only [c1, decide_false, cond_false]
    by_cases c2 : ((n : Int) ≥ 65536)
    · simp only [c2, decide_true, cond_true]
      by_cases c3 : (((n / 2 ^ 16 : Nat) : Int) ≥ 256)
      · simp only [c3, decide_true, cond_true]; exact k24 (.inr (by omega)) (by omega) (by decide)
      · simp only [c3, decide_false, cond_false]; exact k16 (.inr (by omega)) (by omega) (by decide)
    · simp only [c2, decide_false, cond_false]
      by_cases c3 : ((n : Int) ≥ 256)
      · simp only [c3, decide_true, cond_true]; exact k8 (.inr (by omega)) (by omega) (by decide)
      · simp only [c3, decide_false, cond_false]; exact k0 (.inl trivial) (by omega) (by decide)

theorem Len_hl {R : Type} (k : Nat) {A : Nat} (hA : A < 2 ^ 128) (K : Int → Option R) : wide_Len k (hi A) (lo A) K = K ((bl A : Nat) : Int) := by
  unfold wide_Len wide_LenT
  by_cases h : A / 2 ^ 64 = 0
  · have e1 : hi A = 0 := by unfold hi; rw [h]; rfl
    have e2 : A < 2 ^ 64 := by omega
    have : (hi A != 0) = false := by rw [e1]; rfl
    rw [this, cond_false, lo_small e2, Len64_nat k e2]
  · have : (hi A != 0) = true := by
      unfold hi
      rw [bne_iff_ne]
      omega
    rw [this, cond_true]
    unfold hi
    rw [Len64_nat k (hi_lt hA)]
    have hb : bl (A / 2 ^ 64) ≤ 64 := bl_le_iff.2 (hi_lt hA)
    rw [show (64 : Int) + ((bl (A / 2 ^ 64) : Nat) : Int) = ((64 + bl (A / 2 ^ 64) : Nat) : Int) from by omega, Wi64_nat (by omega)]
    rw [bl_div (n := A) (s := 64) (by omega)]

theorem bl_mod_succ (A i : Nat) : bl (A % 2 ^ (i + 1)) = if A.testBit i then i + 1 else bl (A % 2 ^ i) := by
  rw [Nat.pow_succ, Nat.mod_mul, ← Nat.toNat_testBit]
  have hp : 0 < 2 ^ i := Nat.two_pow_pos i
  have hm := Nat.mod_lt A hp
  cases A.testBit i with
  | false => simp
  | true =>
    simp only [Bool.toNat_true, Nat.mul_one, if_true]
    exact bl_eq (by omega) (by rw [Nat.pow_succ]; omega)

theorem Wu64_sub {x y : Nat} (h : y ≤ x) : Wu64 ((x : Int) - (y : Int)) = (((x - y) % 2 ^ 64 : Nat) : Int) := by
  rw [← Int.natCast_sub h, Wu64_nat]

theorem Wu64_lt {x : Nat} (h : x < 2 ^ 64) : Wu64 (x : Int) = (x : Int) := by rw [Wu64_nat, Nat.mod_eq_of_lt h]

end Go.Proofs.Ytejfnbjhcohkiaa.N
