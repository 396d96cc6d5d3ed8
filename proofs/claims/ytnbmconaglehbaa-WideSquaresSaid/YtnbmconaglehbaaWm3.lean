/- wide.Shr. Conditions: none. -/
import Derived.Test.YtnbmconaglehbaaWm2
namespace Go.Proofs.Ytnbmconaglehbaa.N
set_option linter.unusedVariables false
set_option linter.unusedSimpArgs false
open Go Go.Ab

theorem i64_wf {n : Int} (hn : (Lit.int .i64 n).wf = true) : -9223372036854775808 ≤ n ∧ n ≤ 9223372036854775807 := by
  simp only [Lit.wf, Bool.and_eq_true, decide_eq_true_eq] at hn
  have e1 : IntKind.i64.min = -9223372036854775808 := by decide
  have e2 : IntKind.i64.max = 9223372036854775807 := by decide
  rw [e1, e2] at hn
  exact hn

theorem e64 : (2 ^ 64 : Nat) = 18446744073709551616 := by decide
theorem e128 : (2 ^ 128 : Nat) = 340282366920938463463374607431768211456 := by decide

/-- Two pairs are the same just if their numbers are. -/
theorem pair_beq {h l h' l' : Nat} (hl : l < 2 ^ 64) (hl' : l' < 2 ^ 64) : (((h : Int) == (h' : Int)) && ((l : Int) == (l' : Int))) = (V h l == V h' l') := by
  rw [Bool.eq_iff_iff]
  simp only [Bool.and_eq_true, beq_iff_eq]
  constructor
  · rintro ⟨h1, h2⟩
    have := Int.ofNat.inj h1; have := Int.ofNat.inj h2
    subst_vars; rfl
  · intro hv
    obtain ⟨h1, h2⟩ := V_inj hl hl' hv
    subst h1; subst h2; exact ⟨rfl, rfl⟩

theorem V_lt {h l : Nat} (hh : h < 2 ^ 64) (hl : l < 2 ^ 64) : V h l < 2 ^ 128 := by
  unfold V; rw [e64] at *; rw [e128]; omega

theorem shr_mid {h l s : Nat} (hh : h < 2 ^ 64) (hl : l < 2 ^ 64) (h0 : 0 < s) (hs : s < 64) :
    V (h / 2 ^ s) ((l / 2 ^ s) ||| (h * 2 ^ (64 - s) % 2 ^ 64)) = V h l / 2 ^ s := by
  have hp : 2 ^ 64 = 2 ^ s * 2 ^ (64 - s) := by rw [← Nat.pow_add]; congr 1; omega
  have hpos : 0 < 2 ^ s := Nat.two_pow_pos s
  have hpos2 : 0 < 2 ^ (64 - s) := Nat.two_pow_pos _
  have e1 : l / 2 ^ s < 2 ^ (64 - s) := by
    rw [Nat.div_lt_iff_lt_mul hpos, Nat.mul_comm, ← hp]; exact hl
  have e2 : (h * 2 ^ (64 - s) % 2 ^ 64) % 2 ^ (64 - s) = 0 := by
    rw [hp, Nat.mul_comm (2 ^ s), Nat.mod_mul_right_mod, Nat.mul_mod_left]
  rw [Nat.or_comm, or_add e2 e1]
  have e3 : V h l / 2 ^ s = h * 2 ^ (64 - s) + l / 2 ^ s := by
    unfold V
    rw [hp, show h * (2 ^ s * 2 ^ (64 - s)) + l = 2 ^ s * (h * 2 ^ (64 - s)) + l by rw [← Nat.mul_assoc, Nat.mul_comm h, Nat.mul_assoc], Nat.mul_add_div hpos]
  rw [e3]
  have e4 : h * 2 ^ (64 - s) / 2 ^ 64 = h / 2 ^ s := by
    rw [hp, Nat.mul_div_mul_right _ _ hpos2]
  unfold V
  rw [← e4]
  have := Nat.div_add_mod (h * 2 ^ (64 - s)) (2 ^ 64)
  omega

theorem lost_eq {v s : Nat} (hv : v < 2 ^ 128) : (!(v / 2 ^ s * 2 ^ s % 2 ^ 128 == v)) = decide (v % 2 ^ s ≠ 0) := by
  have h1 := Nat.div_add_mod v (2 ^ s)
  have h2 : v / 2 ^ s * 2 ^ s ≤ v := Nat.div_mul_le_self _ _
  rw [Nat.mod_eq_of_lt (by omega)]
  rw [Bool.eq_iff_iff]
  simp only [Bool.not_eq_true', beq_eq_false_iff_ne, decide_eq_true_eq]
  rw [Nat.mul_comm] at h1
  constructor
  · intro h hh; omega
  · intro h hh; omega

theorem Shr_spec {R : Type} (k : Nat) {h l : Nat} {n : Int} (hh : h < 2 ^ 64) (hl : l < 2 ^ 64) (hn : (Lit.int .i64 n).wf = true) :
    ∃ h' l' : Nat, h' < 2 ^ 64 ∧ l' < 2 ^ 64 ∧ V h' l' = V h l / 2 ^ n.toNat ∧
      ∀ K : Int → Int → Bool → Option R, wide_Shr k (h : Int) (l : Int) n K = K (h' : Int) (l' : Int) (decide (V h l % 2 ^ n.toNat ≠ 0)) := by
  have hb := i64_wf hn
  by_cases h0 : n ≤ 0
  · refine ⟨h, l, hh, hl, ?_, fun K => ?_⟩
    · have : n.toNat = 0 := by omega
      rw [this]; simp
    · have : n.toNat = 0 := by omega
      rw [this]
      unfold wide_Shr; simp [h0, Nat.mod_one]
  · obtain ⟨s, rfl⟩ : ∃ s : Nat, n = (s : Int) := ⟨n.toNat, by omega⟩
    simp only [Int.toNat_natCast]
    have hV := V_lt hh hl
    by_cases h1 : s < 64
    · have e1 : ¬ ((s : Int) ≥ 128) := by omega
      have e2 : ¬ ((s : Int) ≥ 64) := by omega
      have e2' : ¬ ((s : Int) < 0) := by omega
      have e3 : Wi64 (64 - (s : Int)) = ((64 - s : Nat) : Int) := by rw [wrap_i64 (by omega) (by omega)]; omega
      have e4 : ¬ (((64 - s : Nat) : Int) < 0) := by omega
      have hh2 : h / 2 ^ s < 2 ^ 64 := Nat.lt_of_le_of_lt (Nat.div_le_self _ _) hh
      have hl2 : ((l / 2 ^ s) ||| (h * 2 ^ (64 - s) % 2 ^ 64)) < 2 ^ 64 := Nat.or_lt_two_pow (Nat.lt_of_le_of_lt (Nat.div_le_self _ _) hl) (Nat.mod_lt _ (by decide))
      obtain ⟨h3, l3, a1, a2, a3, a4⟩ := Shl_spec (R := R) k hh2 hl2 hn
      refine ⟨h / 2 ^ s, (l / 2 ^ s) ||| (h * 2 ^ (64 - s) % 2 ^ 64), hh2, hl2, shr_mid hh hl (by omega) h1, fun K => ?_⟩
      unfold wide_Shr
      rw [e3]
      simp only [h0, e1, e2, e2', e4, decide_false, cond_false]
      rw [shr_nat h s (by omega), shr_nat l s (by omega), shl_nat h (64 - s) (by omega), bOr_nat (Nat.lt_of_le_of_lt (Nat.div_le_self _ _) hl) (Nat.mod_lt _ (by decide)), a4]
      rw [pair_beq a2 hl, a3, shr_mid hh hl (by omega) h1]
      simp only [Int.toNat_natCast]
      rw [lost_eq hV]
    · have hd : V h l / 2 ^ s = h / 2 ^ (s - 64) := by
        have hp : 2 ^ s = 2 ^ 64 * 2 ^ (s - 64) := by rw [← Nat.pow_add]; congr 1; omega
        rw [hp, ← Nat.div_div_eq_div_mul]
        congr 1
        unfold V; omega
      by_cases h2 : s < 128
      · have e1 : ¬ ((s : Int) ≥ 128) := by omega
        have e2 : ((s : Int) ≥ 64) := by omega
        have e3 : Wi64 ((s : Int) - 64) = ((s - 64 : Nat) : Int) := by rw [wrap_i64 (by omega) (by omega)]; omega
        have e4 : ¬ (((s - 64 : Nat) : Int) < 0) := by omega
        have hl2 : h / 2 ^ (s - 64) < 2 ^ 64 := Nat.lt_of_le_of_lt (Nat.div_le_self _ _) hh
        obtain ⟨h3, l3, a1, a2, a3, a4⟩ := Shl_spec (R := R) k (h := 0) (by decide) hl2 hn
        have hv0 : V 0 (h / 2 ^ (s - 64)) = V h l / 2 ^ s := by rw [hd]; unfold V; omega
        refine ⟨0, h / 2 ^ (s - 64), by decide, hl2, hv0, fun K => ?_⟩
        unfold wide_Shr
        rw [e3]
        simp only [h0, e1, e2, e4, decide_false, decide_true, cond_false, cond_true]
        rw [shr_nat h (s - 64) (by omega)]
        show wide_Shl k ((0 : Nat) : Int) _ _ _ = _
        rw [a4, pair_beq a2 hl, a3, hv0]
        simp only [Int.toNat_natCast]
        rw [lost_eq hV]; rfl
      · have e1 : ((s : Int) ≥ 128) := by omega
        obtain ⟨h3, l3, a1, a2, a3, a4⟩ := Shl_spec (R := R) k (h := 0) (l := 0) (by decide) (by decide) hn
        have hz : V h l / 2 ^ s = 0 := Nat.div_eq_of_lt (Nat.lt_of_lt_of_le hV (Nat.pow_le_pow_right (by decide) (by omega)))
        have hv0 : V 0 0 = V h l / 2 ^ s := by rw [hz]; rfl
        refine ⟨0, 0, by decide, by decide, hv0, fun K => ?_⟩
        unfold wide_Shr
        simp only [h0, e1, decide_false, decide_true, cond_false, cond_true]
        show wide_Shl k ((0 : Nat) : Int) ((0 : Nat) : Int) _ _ = _
        rw [a4, pair_beq a2 hl, a3, hv0]
        simp only [Int.toNat_natCast]
        rw [lost_eq hV]; rfl

end Go.Proofs.Ytnbmconaglehbaa.N
