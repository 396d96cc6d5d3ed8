/- The law SoftMirrors, plain. Conditions: none. -/
import Derived.Test.YtbnmnkofekcodaaMth1
import Derived.Test.YtbnmnkofekcodaaNlawSoftMirrors
namespace Go.Proofs.Ytbnmnkofekcodaa.N
set_option linter.unusedVariables false
set_option linter.unusedSimpArgs false
open Go Go.Ab

theorem mirror (op f : Int) {a b : Nat} (ha : a < 2 ^ 64) (hb : b < 2 ^ 64) : NegS f (byS op f 1 a b) = byS op f 2 (NegS f a) (if op = 8 ∨ op = 9 then NegS f b else b) := by
  unfold byS
  by_cases c1 : op = 8
  · rw [if_pos c1, if_pos c1, if_pos (.inl c1), Neg_AddS f ha hb]
  · rw [if_neg c1, if_neg c1]
    by_cases c2 : op = 9
    · rw [if_pos c2, if_pos c2, if_pos (.inr c2), Neg_AddS f ha (Neg_lt f hb)]
    · have c3 : ¬ (op = 8 ∨ op = 9) := fun h => h.elim c1 c2
      rw [if_neg c2, if_neg c2, if_neg c3]
      by_cases c4 : op = 10
      · rw [if_pos c4, if_pos c4, Neg_MulS f ha]
      · rw [if_neg c4, if_neg c4, Neg_DivS f ha]

theorem SoftMirrors_pure : ∀ (y0 : Tup [.i .i64]) (y1 : Tup [.i .i64]) (y2 : Tup [.i .u64, .i .u64]), wfs (Tup.all [.i .i64] y0) → wfs (Tup.all [.i .i64] y1) → wfs (Tup.all [.i .u64, .i .u64] y2) → ∃ k, plumblinelaw02_SoftMirrors k (y0) (y1) (y2.1) (y2.2) (fun q => some q) = some true := by
  intro (op : Int) (f : Int) ⟨a, b⟩ h0 h1 h2
  obtain ⟨a, rfl, ha⟩ := u64_nat h2.1
  obtain ⟨b, rfl, hb⟩ := u64_nat h2.2.1
  refine ⟨5000, ?_⟩
  have hk : 5000 ≤ 5000 := Nat.le_refl _
  have hna := Neg_lt f ha
  have hnb := Neg_lt f hb
  have hm := mirror op f ha hb
  have hu := byS_lt op f 1 ha hb
  unfold plumblinelaw02_SoftMirrors plumblinelaw02_SoftMirrorsT
  rw [Neg_k _ f ha]
  by_cases c1 : op = 8
  · have e1 : (op == 8) = true := by rw [beq_iff_eq]; exact c1
    rw [if_pos (.inl c1)] at hm
    rw [e1, cond_true, Neg_k _ f hb, by_k hk op f 1 ha hb, by_k hk op f 2 hna hnb, live_k hk, cond_true, Neg_k _ f hu, hm]
    simp
  · have e1 : (op == 8) = false := by rw [beq_eq_false_iff_ne]; exact c1
    rw [e1, cond_false]
    by_cases c2 : op = 9
    · have e2 : (op == 9) = true := by rw [beq_iff_eq]; exact c2
      rw [if_pos (.inr c2)] at hm
      rw [e2, cond_true, Neg_k _ f hb, by_k hk op f 1 ha hb, by_k hk op f 2 hna hnb, live_k hk, cond_true, Neg_k _ f hu, hm]
      simp
    · have e2 : (op == 9) = false := by rw [beq_eq_false_iff_ne]; exact c2
      rw [if_neg (fun h : op = 8 ∨ op = 9 => h.elim c1 c2)] at hm
      rw [e2, cond_false, by_k hk op f 1 ha hb, by_k hk op f 2 hna hb, live_k hk, cond_true, Neg_k _ f hu, hm]
      simp

end Go.Proofs.Ytbnmnkofekcodaa.N
