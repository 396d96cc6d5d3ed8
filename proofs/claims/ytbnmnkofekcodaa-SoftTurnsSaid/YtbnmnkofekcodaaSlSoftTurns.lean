/- The law SoftTurns, plain. Conditions: none. -/
import Derived.Test.YtbnmnkofekcodaaMth1
import Derived.Test.YtbnmnkofekcodaaNlawSoftTurns
namespace Go.Proofs.Ytbnmnkofekcodaa.N
set_option linter.unusedVariables false
set_option linter.unusedSimpArgs false
open Go Go.Ab

theorem SoftTurns_pure : ∀ (y0 : Tup [.i .i64, .i .i64]) (y1 : Tup [.i .u64]) (y2 : Tup [.i .u64]), wfs (Tup.all [.i .i64, .i .i64] y0) → wfs (Tup.all [.i .u64] y1) → wfs (Tup.all [.i .u64] y2) → ∃ k, plumblinelaw02_SoftTurns k (y0.1) (y0.2) (y1) (y2) (fun q => some q) = some true := by
  intro ⟨f, m⟩ a b h0 h1 h2
  obtain ⟨a, rfl, ha⟩ := u64_nat h1.1
  obtain ⟨b, rfl, hb⟩ := u64_nat h2.1
  refine ⟨5000, ?_⟩
  have hk : 5000 ≤ 5000 := Nat.le_refl _
  unfold plumblinelaw02_SoftTurns plumblinelaw02_SoftTurnsT
  rw [live_k hk, cond_true, Add_k f m ha hb, Add_k f m hb ha, Mul_k _ f m ha hb, Mul_k _ f m hb ha, AddS_comm f m b a hb ha, MulS_comm f m b a]
  simp

end Go.Proofs.Ytbnmnkofekcodaa.N
