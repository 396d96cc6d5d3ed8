/- The law SoftProducts, plain. Conditions: none. -/
import Derived.Test.YtbnmnkofekcodaaMth1
import Derived.Test.YtbnmnkofekcodaaRo5
import Derived.Test.YtbnmnkofekcodaaNlawSoftProducts
namespace Go.Proofs.Ytbnmnkofekcodaa.N
set_option linter.unusedVariables false
set_option linter.unusedSimpArgs false
open Go Go.Ab

theorem SoftProducts_pure : ∀ (y0 : Tup [.i .i64, .i .i64]) (y1 : Tup [.i .u64]) (y2 : Tup [.i .u64]), wfs (Tup.all [.i .i64, .i .i64] y0) → wfs (Tup.all [.i .u64] y1) → wfs (Tup.all [.i .u64] y2) → ∃ k, plumblinelaw02_SoftProducts k (y0.1) (y0.2) (y1) (y2) (fun q => some q) = some true := by
  intro ⟨f, m⟩ a b h0 h1 h2
  obtain ⟨a, rfl, ha⟩ := u64_nat h1.1
  obtain ⟨b, rfl, hb⟩ := u64_nat h2.1
  refine ⟨5000, ?_⟩
  have hk : 5000 ≤ 5000 := Nat.le_refl _
  unfold plumblinelaw02_SoftProducts plumblinelaw02_SoftProductsT
  rw [live_k hk, cond_true, Mul_k _ f m ha hb, format_k, rMul_k hk (fm f) m ha hb, MulS_fm, beq_self_eq_true]

end Go.Proofs.Ytbnmnkofekcodaa.N
