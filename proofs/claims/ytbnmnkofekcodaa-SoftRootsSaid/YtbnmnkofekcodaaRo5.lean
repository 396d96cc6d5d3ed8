/- Products by the reference. Conditions: none. -/
import Derived.Test.YtbnmnkofekcodaaRo3
import Derived.Test.YtbnmnkofekcodaaMr
import Derived.Test.YtbnmnkofekcodaaNr02x2
namespace Go.Proofs.Ytbnmnkofekcodaa.N
set_option linter.unusedVariables false
set_option linter.unusedSimpArgs false
open Go Go.Ab

theorem Rd_zero (f m : Int) (b : Bool) (e : Int) : Rd f m b 0 e false = sg f b := by unfold Rd; rw [if_pos ⟨rfl, rfl⟩]

theorem cls1 (f : Int) (a : Nat) : (ClassS f a == 1) = decide (kd f a = 2) := by
  rw [Bool.eq_iff_iff]; simp only [beq_iff_eq, decide_eq_true_eq, (Class_kd f a).2.2.1]

theorem e2_bounds (f : Int) (a : Nat) : -1074 ≤ e2 f a ∧ e2 f a ≤ 1897 := by
  have hf := fmt_le f
  have := ee_bounds f a
  unfold e2; split <;> omega

theorem prod_lt (f : Int) (a b : Nat) : nn f a * nn f b < 2 ^ 128 := by
  have := Nat.mul_lt_mul'' (nn_lt64 f a) (nn_lt64 f b)
  rw [← Nat.pow_add] at this
  exact Nat.lt_of_lt_of_le this (Nat.pow_le_pow_right (by decide) (by decide))

theorem e2_of {f : Int} {a : Nat} (h : kd f a = 3) : e2 f a = ee f a := by unfold e2; rw [if_pos h]

/-- Two finite ones. -/
theorem rMul_fin {R : Type} {k : Nat} (hk : 5000 ≤ k) (f m : Int) {a b : Nat} (ha : a < 2 ^ 64) (hb : b < 2 ^ 64) (h1 : 2 ≤ kd f a) (h2 : 2 ≤ kd f b) (s : Bool) (K : Int → Option R) :
    (plumblineref02_value k f (a : Int) (fun r12 r13 => plumblineref02_value k f (b : Int) (fun r14 r15 => plumblineref01_Mul k r12 r14 (fun r16 r17 => plumblineref01_Bits k r16 r17 (fun r18 =>
      plumblineref02_Rounded k f m s (Wi64 (r13 + r15)) r18 (fun r19 => K r19)))))) = K ((Rd f m s (nn f a * nn f b) (ee f a + ee f b) false : Nat) : Int) := by
  have n1 := nn_lt64 f a; have n2 := nn_lt64 f b
  have b1 := e2_bounds f a; have b2 := e2_bounds f b
  have w : Wi64 (e2 f a + e2 f b) = e2 f a + e2 f b := wrap_i64 (by omega) (by omega)
  rw [rvalue_k k f ha h1, rvalue_k k f hb h2, refMul_hl hk (Nat.lt_trans n1 (by decide)) (Nat.lt_trans n2 (by decide)), Bits_hl hk (prod_lt f a b), w]
  refine (Rounded_k f m s (n := 128) (by decide) (by omega) (prod_lt f a b) (by omega) (by omega) _).trans ?_
  by_cases h : kd f a = 3 ∧ kd f b = 3
  · rw [e2_of h.1, e2_of h.2]
  · have hz : nn f a * nn f b = 0 := by
      by_cases ha3 : kd f a = 3
      · rw [(nn_zero (a := b) (fun hb3 => h ⟨ha3, hb3⟩)).1, Nat.mul_zero]
      · rw [(nn_zero ha3).1, Nat.zero_mul]
    rw [hz, Rd_zero, Rd_zero]

theorem rMul_k {R : Type} {k : Nat} (hk : 5000 ≤ k) (f m : Int) {a b : Nat} (ha : a < 2 ^ 64) (hb : b < 2 ^ 64) (K : Int → Option R) : plumblineref02_Mul k f m (a : Int) (b : Int) K = K ((MulS f m a b : Nat) : Int) := by
  unfold plumblineref02_Mul plumblineref02_MulT
  have hA : ∃ s : Bool, (kd f a ≠ 0 → s = bw f a) ∧ ∀ J : Bool → Option R, plumblineref02_Below k f (a : Int) J = J s := by
    by_cases h : kd f a = 0
    · obtain ⟨s, hs⟩ := rBelow_any (R := R) k f a
      exact ⟨s, fun hh => absurd h hh, hs⟩
    · exact ⟨bw f a, fun _ => rfl, fun J => rBelow_k k f ha h J⟩
  have hB : ∃ s : Bool, (kd f b ≠ 0 → s = bw f b) ∧ ∀ J : Bool → Option R, plumblineref02_Below k f (b : Int) J = J s := by
    by_cases h : kd f b = 0
    · obtain ⟨s, hs⟩ := rBelow_any (R := R) k f b
      exact ⟨s, fun hh => absurd h hh, hs⟩
    · exact ⟨bw f b, fun _ => rfl, fun J => rBelow_k k f hb h J⟩
  obtain ⟨s, hs1, hs2⟩ := hA
  obtain ⟨t, ht1, ht2⟩ := hB
  rw [hs2, ht2, rClass_k k f ha, cls1]
  have hinf := fun (b : Bool) J => rInf_k (R := R) k f b J
  have hnan := fun J => rNan_k (R := R) k f J
  unfold MulS
  by_cases za : kd f a = 0
  · have e2' : ¬ kd f a = 2 := by omega
    rw [decide_eq_false e2', cond_false, rClass_k k f hb, risNan_k k f ha, decide_eq_true za, cond_true, hnan, if_pos (.inl za)]
  have hsa := hs1 za
  subst hsa
  by_cases zb : kd f b = 0
  · rw [if_pos (.inr zb)]
    by_cases c2 : kd f a = 2
    · rw [decide_eq_true c2, cond_true, risNan_k k f ha, decide_eq_false za, cond_false, risNan_k k f hb, decide_eq_true zb, cond_true, hnan]
    · rw [decide_eq_false c2, cond_false, rClass_k k f hb, risNan_k k f ha, decide_eq_false za, cond_false, risNan_k k f hb, decide_eq_true zb, cond_true, hnan]
  have htb := ht1 zb
  subst htb
  rw [if_neg (fun h => h.elim za zb)]
  have ka : kd f a = 1 ∨ 2 ≤ kd f a := by rcases kd_vals f a with h | h | h | h <;> omega
  have kb : kd f b = 1 ∨ 2 ≤ kd f b := by rcases kd_vals f b with h | h | h | h <;> omega
  by_cases c2 : kd f a = 2
  · rw [decide_eq_true c2, cond_true, risNan_k k f ha, decide_eq_false za, cond_false, risNan_k k f hb, decide_eq_false zb, cond_false]
    have na : ¬ kd f a = 1 := by omega
    rw [risInf_k k f ha, decide_eq_false na, cond_false, risInf_k k f hb]
    by_cases ib : kd f b = 1
    · rw [decide_eq_true ib, cond_true, hnan, if_pos (.inr ib), if_pos (.inl c2)]
    · rw [decide_eq_false ib, cond_false, if_neg (fun h => h.elim na ib)]
      exact rMul_fin hk f m ha hb (by omega) (by omega) _ K
  · rw [decide_eq_false c2, cond_false, rClass_k k f hb, cls1, risNan_k k f ha, decide_eq_false za, cond_false, risNan_k k f hb, decide_eq_false zb, cond_false, risInf_k k f ha]
    by_cases ia : kd f a = 1
    · rw [decide_eq_true ia, cond_true, if_pos (.inl ia)]
      by_cases d2 : kd f b = 2
      · rw [decide_eq_true d2, cond_true, hnan, if_pos (.inr d2)]
      · rw [decide_eq_false d2, cond_false, hinf, if_neg (fun h => h.elim c2 d2)]; rfl
    · rw [decide_eq_false ia, cond_false, risInf_k k f hb]
      by_cases ib : kd f b = 1
      · have d2 : ¬ kd f b = 2 := by omega
        rw [decide_eq_true ib, cond_true, decide_eq_false d2, cond_false, hinf, if_pos (.inr ib), if_neg (fun h => h.elim c2 d2)]; rfl
      · rw [decide_eq_false ib, cond_false, if_neg (fun h => h.elim ia ib)]
        exact rMul_fin hk f m ha hb (by omega) (by omega) _ K

end Go.Proofs.Ytbnmnkofekcodaa.N
