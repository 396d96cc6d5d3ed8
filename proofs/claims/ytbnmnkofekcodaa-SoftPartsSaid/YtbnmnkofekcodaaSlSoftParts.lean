/- The law SoftParts, plain. Conditions: none. -/
import Derived.Test.YtbnmnkofekcodaaMth1
import Derived.Test.YtbnmnkofekcodaaRo11
import Derived.Test.YtbnmnkofekcodaaNlawSoftParts
namespace Go.Proofs.Ytbnmnkofekcodaa.N
set_option linter.unusedVariables false
set_option linter.unusedSimpArgs false
open Go Go.Ab

theorem SoftParts_pure : ∀ (y0 : Tup [.i .i64, .i .i64]) (y1 : Tup [.i .u64]) (y2 : Tup [.i .u64]), wfs (Tup.all [.i .i64, .i .i64] y0) → wfs (Tup.all [.i .u64] y1) → wfs (Tup.all [.i .u64] y2) → ∃ k, plumblinelaw02_SoftParts k (y0.1) (y0.2) (y1) (y2) (fun q => some q) = some true := by
  intro ⟨f, m⟩ a b h0 h1 h2
  obtain ⟨a, rfl, ha⟩ := u64_nat h1.1
  obtain ⟨b, rfl, hb⟩ := u64_nat h2.1
  refine ⟨5000, ?_⟩
  have hk : 5000 ≤ 5000 := Nat.le_refl _
  unfold plumblinelaw02_SoftParts plumblinelaw02_SoftPartsT
  rw [live_k hk, cond_true, Div_k hk f m ha hb, format_k, rDiv_k hk (fm f) m ha hb, DivS_fm, beq_self_eq_true]

end Go.Proofs.Ytbnmnkofekcodaa.N
