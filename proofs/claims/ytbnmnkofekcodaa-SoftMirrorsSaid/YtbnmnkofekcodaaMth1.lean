/- What the laws of package soft share. Conditions: none. -/
import Derived.Test.YtbnmnkofekcodaaMs
import Derived.Test.YtbnmnkofekcodaaNlaw
import Derived.Test.YtbnmnkofekcodaaEng2
namespace Go.Proofs.Ytbnmnkofekcodaa.N
set_option linter.unusedVariables false
set_option linter.unusedSimpArgs false
open Go Go.Ab

theorem live_k {R : Type} {k : Nat} (hk : 5000 ≤ k) (K : Bool → Option R) : plumblinelaw02_live k K = K true := by
  unfold plumblinelaw02_live plumblinelaw02_liveT
  have d1 : DivS 0 0 4607182418800017408 4613937818241073152 = 4599676419421066581 := by decide +kernel
  have d2 : DivS 0 1 4607182418800017408 4613937818241073152 = 4599676419421066582 := by decide +kernel
  have d3 : AddS 0 0 4607182418800017408 4607182418800017408 = 4611686018427387904 := by decide +kernel
  have l1 : (4607182418800017408 : Int) = ((4607182418800017408 : Nat) : Int) := rfl
  have l2 : (4613937818241073152 : Int) = ((4613937818241073152 : Nat) : Int) := rfl
  have q1 : (((4599676419421066581 : Nat) : Int) == 4599676419421066581) = true := by decide
  have q2 : (((4599676419421066582 : Nat) : Int) == 4599676419421066582) = true := by decide
  have q3 : (((4611686018427387904 : Nat) : Int) == 4611686018427387904) = true := by decide
  rw [l1, l2, Div_k hk 0 0 (by decide) (by decide), d1, q1, cond_true, Div_k hk 0 1 (by decide) (by decide), d2, q2, cond_true, Add_k 0 0 (by decide) (by decide), d3, q3]

end Go.Proofs.Ytbnmnkofekcodaa.N

/- Two floats by an op. Conditions: none. -/
namespace Go.Proofs.Ytbnmnkofekcodaa.N
set_option linter.unusedVariables false
set_option linter.unusedSimpArgs false
open Go Go.Ab

/-- Two floats by an op. -/
def byS (op f m : Int) (a b : Nat) : Nat := if op = 8 then AddS f m a b else if op = 9 then AddS f m a (NegS f b) else if op = 10 then MulS f m a b else DivS f m a b

theorem by_k {R : Type} {k : Nat} (hk : 5000 ≤ k) (op f m : Int) {a b : Nat} (ha : a < 2 ^ 64) (hb : b < 2 ^ 64) (K : Int → Option R) : plumblinelaw02_by k op f m (a : Int) (b : Int) K = K ((byS op f m a b : Nat) : Int) := by
  unfold plumblinelaw02_by plumblinelaw02_byT byS
  by_cases c1 : op = 8
  · have e1 : (op == 8) = true := by rw [beq_iff_eq]; exact c1
    rw [e1, cond_true, if_pos c1]; exact Add_k f m ha hb K
  · have e1 : (op == 8) = false := by rw [beq_eq_false_iff_ne]; exact c1
    rw [e1, cond_false, if_neg c1]
    by_cases c2 : op = 9
    · have e2 : (op == 9) = true := by rw [beq_iff_eq]; exact c2
      rw [e2, cond_true, if_pos c2]; exact Sub_k f m ha hb (Neg_lt f hb) K
    · have e2 : (op == 9) = false := by rw [beq_eq_false_iff_ne]; exact c2
      rw [e2, cond_false, if_neg c2]
      by_cases c3 : op = 10
      · have e3 : (op == 10) = true := by rw [beq_iff_eq]; exact c3
        rw [e3, cond_true, if_pos c3]; exact Mul_k k f m ha hb K
      · have e3 : (op == 10) = false := by rw [beq_eq_false_iff_ne]; exact c3
        rw [e3, cond_false, if_neg c3]; exact Div_k hk f m ha hb K

theorem byS_lt (op f m : Int) {a b : Nat} (ha : a < 2 ^ 64) (hb : b < 2 ^ 64) : byS op f m a b < 2 ^ 64 := by
  unfold byS
  split
  · exact AddS_lt f m ha hb
  · split
    · exact AddS_lt f m ha (Neg_lt f hb)
    · split
      · exact MulS_lt ..
      · exact DivS_lt ..

end Go.Proofs.Ytbnmnkofekcodaa.N
