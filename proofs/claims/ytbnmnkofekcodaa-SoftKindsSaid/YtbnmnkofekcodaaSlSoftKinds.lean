/- The law SoftKinds, plain. Conditions: none. -/
import Derived.Test.YtbnmnkofekcodaaMth1
import Derived.Test.YtbnmnkofekcodaaRo1
import Derived.Test.YtbnmnkofekcodaaNlawSoftKinds
namespace Go.Proofs.Ytbnmnkofekcodaa.N
set_option linter.unusedVariables false
set_option linter.unusedSimpArgs false
open Go Go.Ab

theorem SoftKinds_pure : ∀ (y0 : Tup [.i .i64]) (y1 : Tup [.i .u64]), wfs (Tup.all [.i .i64] y0) → wfs (Tup.all [.i .u64] y1) → ∃ k, plumblinelaw02_SoftKinds k (y0) (y1) (fun q => some q) = some true := by
  intro (f : Int) a h0 h1
  obtain ⟨a, rfl, ha⟩ := u64_nat h1.1
  refine ⟨5000, ?_⟩
  have hk : 5000 ≤ 5000 := Nat.le_refl _
  unfold plumblinelaw02_SoftKinds plumblinelaw02_SoftKindsT
  rw [format_k, live_k hk, cond_true, Class_k _ f ha, rClass_k _ (fm f) ha, ClassS_fm, beq_self_eq_true, cond_true, Neg_k _ f ha, rNeg_k _ (fm f) ha, NegS_fm, beq_self_eq_true, cond_true,
    Abs_k _ f ha, rAbs_k _ (fm f) ha, AbsS_fm, beq_self_eq_true, cond_true, Finite_k _ f ha, rFinite_k _ (fm f) ha, FinS_fm, beq_self_eq_true, cond_true,
    Most_k _ f, rMost_k _ (fm f), fI_fm, beq_self_eq_true, cond_true, Nan_k _ f, rNan_k _ (fm f), NAN_fm, beq_self_eq_true]

end Go.Proofs.Ytbnmnkofekcodaa.N
