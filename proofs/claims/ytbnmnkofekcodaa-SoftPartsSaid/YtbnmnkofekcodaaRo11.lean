/- Quotients by the reference: all kinds. Conditions: none. -/
import Derived.Test.YtbnmnkofekcodaaRo10
namespace Go.Proofs.Ytbnmnkofekcodaa.N
set_option linter.unusedVariables false
set_option linter.unusedSimpArgs false
open Go Go.Ab

theorem rDiv_k {R : Type} {k : Nat} (hk : 5000 ≤ k) (f m : Int) {a b : Nat} (ha : a < 2 ^ 64) (hb : b < 2 ^ 64) (K : Int → Option R) : plumblineref02_Div k f m (a : Int) (b : Int) K = K ((DivS f m a b : Nat) : Int) := by
  unfold plumblineref02_Div plumblineref02_DivT
  have hA : ∃ s : Bool, (kd f a ≠ 0 → s = bw f a) ∧ ∀ J : Bool → Option R, plumblineref02_Below k f (a : Int) J = J s := by
    by_cases h : kd f a = 0
    · obtain ⟨s, hs⟩ := rBelow_any (R := R) k f a
      exact ⟨s, fun hh => absurd h hh, hs⟩
    · exact ⟨bw f a, fun _ => rfl, fun J => rBelow_k k f ha h J⟩
  have hB : ∃ s : Bool, (kd f b ≠ 0 → s = bw f b) ∧ ∀ J : Bool → Option R, plumblineref02_Below k f (b : Int) J = J s := by
    by_cases h : kd f b = 0
    · obtain ⟨s, hs⟩ := rBelow_any (R := R) k f b
      exact ⟨s, fun hh => absurd h hh, hs⟩
    · exact ⟨bw f b, fun _ => rfl, fun J => rBelow_k k f hb h J⟩
  obtain ⟨s, hs1, hs2⟩ := hA
  obtain ⟨t, ht1, ht2⟩ := hB
  have hinf := fun (b : Bool) J => rInf_k (R := R) k f b J
  have hnan := fun J => rNan_k (R := R) k f J
  have hsg := fun (b : Bool) J => rsign_k (R := R) k f b J
  have hdv := fun h1 h2 (s : Bool) J => Div_c0_k (R := R) hk f m ha hb h1 h2 s J
  rw [hs2, ht2, rClass_k k f ha, rClass_k k f hb, risNan_k k f ha]
  have ne : (bw f a != bw f b) = !(bw f a == bw f b) := rfl
  unfold DivS
  rw [ne]
  by_cases za : kd f a = 0
  · rw [decide_eq_true za, cond_true, hnan, if_pos (.inl za)]
  rw [decide_eq_false za, cond_false, risNan_k k f hb]
  by_cases zb : kd f b = 0
  · rw [decide_eq_true zb, cond_true, hnan, if_pos (.inr (.inl zb))]
  have hsa := hs1 za
  subst hsa
  have htb := ht1 zb
  subst htb
  rw [decide_eq_false zb, cond_false, risInf_k k f ha]
  have CA := cls1 f a
  have CB := cls1 f b
  by_cases a1 : kd f a = 1
  · have CA' : (ClassS f a == 1) = false := by rw [CA]; exact decide_eq_false (by omega)
    rw [decide_eq_true a1, cond_true, risInf_k k f hb]
    by_cases b1 : kd f b = 1
    · rw [decide_eq_true b1, cond_true, hnan, if_pos (.inr (.inr ⟨by omega, by omega⟩))]
    · have c1 : ¬ (kd f a = 0 ∨ kd f b = 0 ∨ (kd f a = kd f b ∧ kd f a < 3)) := by omega
      rw [decide_eq_false b1, cond_false, CA', cond_false, risInf_k k f ha, decide_eq_true a1, cond_true, hinf, if_neg c1, if_pos (.inl a1)]
  · rw [decide_eq_false a1, cond_false]
    by_cases a2 : kd f a = 2
    · have CA' : (ClassS f a == 1) = true := by rw [CA]; exact decide_eq_true a2
      rw [CA', cond_true]
      by_cases b2 : kd f b = 2
      · have CB' : (ClassS f b == 1) = true := by rw [CB]; exact decide_eq_true b2
        rw [CB', cond_true, hnan, if_pos (.inr (.inr ⟨by omega, by omega⟩))]
      · have CB' : (ClassS f b == 1) = false := by rw [CB]; exact decide_eq_false b2
        have c1 : ¬ (kd f a = 0 ∨ kd f b = 0 ∨ (kd f a = kd f b ∧ kd f a < 3)) := by omega
        have c2 : ¬ (kd f a = 1 ∨ kd f b = 2) := by omega
        rw [CB', cond_false, risInf_k k f ha, decide_eq_false a1, cond_false, cond_false, risInf_k k f hb, if_neg c1, if_neg c2, if_pos (.inr a2)]
        by_cases b1 : kd f b = 1
        · rw [decide_eq_true b1, cond_true, hsg]
        · rw [decide_eq_false b1, cond_false, cond_true, hsg]
    · have CA' : (ClassS f a == 1) = false := by rw [CA]; exact decide_eq_false a2
      rw [CA', cond_false, risInf_k k f ha, decide_eq_false a1, cond_false]
      by_cases b2 : kd f b = 2
      · have CB' : (ClassS f b == 1) = true := by rw [CB]; exact decide_eq_true b2
        have c1 : ¬ (kd f a = 0 ∨ kd f b = 0 ∨ (kd f a = kd f b ∧ kd f a < 3)) := by omega
        rw [CB', cond_true, hinf, if_neg c1, if_pos (.inr b2)]
      · have CB' : (ClassS f b == 1) = false := by rw [CB]; exact decide_eq_false b2
        have c1 : ¬ (kd f a = 0 ∨ kd f b = 0 ∨ (kd f a = kd f b ∧ kd f a < 3)) := by
          rcases kd_vals f a with h | h | h | h <;> omega
        have c2 : ¬ (kd f a = 1 ∨ kd f b = 2) := by omega
        rw [CB', cond_false, risInf_k k f hb, if_neg c1, if_neg c2]
        by_cases b1 : kd f b = 1
        · rw [decide_eq_true b1, cond_true, hsg, if_pos (.inl b1)]
        · have c3 : ¬ (kd f b = 1 ∨ kd f a = 2) := by omega
          have h1 : kd f a = 3 := by rcases kd_vals f a with h | h | h | h <;> omega
          have h2 : kd f b = 3 := by rcases kd_vals f b with h | h | h | h <;> omega
          rw [decide_eq_false b1, cond_false, cond_false, if_neg c3]
          exact hdv h1 h2 _ _

end Go.Proofs.Ytbnmnkofekcodaa.N
