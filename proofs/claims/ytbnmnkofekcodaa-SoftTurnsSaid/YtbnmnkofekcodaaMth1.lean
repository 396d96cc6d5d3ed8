/- What the laws of package soft share. Conditions: none. -/
import Derived.Test.YtbnmnkofekcodaaMs
import Derived.Test.YtbnmnkofekcodaaNlaw
import Derived.Test.YtbnmnkofekcodaaEng2
namespace Go.Proofs.Ytbnmnkofekcodaa.N
set_option linter.unusedVariables false
set_option linter.unusedSimpArgs false
open Go Go.Ab

theorem live_k {R : Type} {k : Nat} (hk : 5000 ≤ k) (K : Bool → Option R) : plumblinelaw02_live k K = K true := by
  unfold plumblinelaw02_live plumblinelaw02_liveT
  have d1 : DivS 0 0 4607182418800017408 4613937818241073152 = 4599676419421066581 := by decide +kernel
  have d2 : DivS 0 1 4607182418800017408 4613937818241073152 = 4599676419421066582 := by decide +kernel
  have d3 : AddS 0 0 4607182418800017408 4607182418800017408 = 4611686018427387904 := by decide +kernel
  have l1 : (4607182418800017408 : Int) = ((4607182418800017408 : Nat) : Int) := rfl
  have l2 : (4613937818241073152 : Int) = ((4613937818241073152 : Nat) : Int) := rfl
  have q1 : (((4599676419421066581 : Nat) : Int) == 4599676419421066581) = true := by decide
  have q2 : (((4599676419421066582 : Nat) : Int) == 4599676419421066582) = true := by decide
  have q3 : (((4611686018427387904 : Nat) : Int) == 4611686018427387904) = true := by decide
  rw [l1, l2, Div_k hk 0 0 (by decide) (by decide), d1, q1, cond_true, Div_k hk 0 1 (by decide) (by decide), d2, q2, cond_true, Add_k 0 0 (by decide) (by decide), d3, q3]

end Go.Proofs.Ytbnmnkofekcodaa.N
