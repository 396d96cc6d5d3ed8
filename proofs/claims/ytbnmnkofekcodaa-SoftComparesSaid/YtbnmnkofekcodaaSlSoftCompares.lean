/- The law SoftCompares, plain. Conditions: none. -/
import Derived.Test.YtbnmnkofekcodaaMth1
import Derived.Test.YtbnmnkofekcodaaRo1
import Derived.Test.YtbnmnkofekcodaaNlawSoftCompares
namespace Go.Proofs.Ytbnmnkofekcodaa.N
set_option linter.unusedVariables false
set_option linter.unusedSimpArgs false
open Go Go.Ab

theorem SoftCompares_pure : ∀ (y0 : Tup [.i .i64]) (y1 : Tup [.i .u64]) (y2 : Tup [.i .u64]), wfs (Tup.all [.i .i64] y0) → wfs (Tup.all [.i .u64] y1) → wfs (Tup.all [.i .u64] y2) → ∃ k, plumblinelaw02_SoftCompares k (y0) (y1) (y2) (fun q => some q) = some true := by
  intro (f : Int) a b h0 h1 h2
  obtain ⟨a, rfl, ha⟩ := u64_nat h1.1
  obtain ⟨b, rfl, hb⟩ := u64_nat h2.1
  refine ⟨5000, ?_⟩
  have hk : 5000 ≤ 5000 := Nat.le_refl _
  unfold plumblinelaw02_SoftCompares plumblinelaw02_SoftComparesT
  rw [Compare_k _ f ha hb, format_k, rCompare_k _ (fm f) ha hb, live_k hk, cond_true, CmpS_fm, beq_self_eq_true, cond_true, beq_self_eq_true, cond_true, beq_self_eq_true]

end Go.Proofs.Ytbnmnkofekcodaa.N
