/- The law SoftRoots, plain. Conditions: none. -/
import Derived.Test.YtbnmnkofekcodaaMth1
import Derived.Test.YtbnmnkofekcodaaRo12
import Derived.Test.YtbnmnkofekcodaaNlawSoftRoots
namespace Go.Proofs.Ytbnmnkofekcodaa.N
set_option linter.unusedVariables false
set_option linter.unusedSimpArgs false
open Go Go.Ab

theorem SqS_fm (f m : Int) (a : Nat) : SqS (fm f) m a = SqS f m a := by unfold SqS SqX; rw [kd_fm, bw_fm, NAN_fm, nn_fm, ee_fm, Rd_fm]

theorem SoftRoots_pure : ∀ (y0 : Tup [.i .i64, .i .i64]) (y1 : Tup [.i .u64]), wfs (Tup.all [.i .i64, .i .i64] y0) → wfs (Tup.all [.i .u64] y1) → ∃ k, plumblinelaw02_SoftRoots k (y0.1) (y0.2) (y1) (fun q => some q) = some true := by
  intro ⟨f, m⟩ a h0 h1
  obtain ⟨a, rfl, ha⟩ := u64_nat h1.1
  refine ⟨5000, ?_⟩
  have hk : 5000 ≤ 5000 := Nat.le_refl _
  unfold plumblinelaw02_SoftRoots plumblinelaw02_SoftRootsT
  rw [live_k hk, cond_true, Sqrt_k hk f m ha, format_k, rSqrt_k hk (fm f) m ha, SqS_fm, beq_self_eq_true]

end Go.Proofs.Ytbnmnkofekcodaa.N
