/- The law ConvTurns, plain. Conditions: none. -/
import Derived.Test.YtelifkahdhhmoaaMth1
import Derived.Test.YtelifkahdhhmoaaNlawConvTurns
namespace Go.Proofs.Ytelifkahdhhmoaa.N
set_option linter.unusedVariables false
set_option linter.unusedSimpArgs false
open Go Go.Ab

theorem rWiden_k {R : Type} {k : Nat} (hk : 5000 ≤ k) {a : Nat} (ha : a < 2 ^ 64) (K : Int → Option R) : plumblineref03_Widen k (a : Int) K = K ((TurnS 1 0 0 a : Nat) : Int) := by
  unfold plumblineref03_Widen plumblineref03_WidenT; rw [rturned_k hk 1 0 0 ha]
theorem rNarrow_k {R : Type} {k : Nat} (hk : 5000 ≤ k) (m : Int) {a : Nat} (ha : a < 2 ^ 64) (K : Int → Option R) : plumblineref03_Narrow k m (a : Int) K = K ((TurnS 0 1 m a : Nat) : Int) := by
  unfold plumblineref03_Narrow plumblineref03_NarrowT; rw [rturned_k hk 0 1 m ha]

theorem ConvTurns_pure : ∀ (y0 : Tup [.i .i64]) (y1 : Tup [.i .u64]), wfs (Tup.all [.i .i64] y0) → wfs (Tup.all [.i .u64] y1) → ∃ k, plumblinelaw03_ConvTurns k (y0) (y1) (fun q => some q) = some true := by
  intro (m : Int) a h0 h1
  obtain ⟨a, rfl, ha⟩ := u64_nat h1.1
  refine ⟨5000, ?_⟩
  have hk : 5000 ≤ 5000 := Nat.le_refl _
  unfold plumblinelaw03_ConvTurns plumblinelaw03_ConvTurnsT
  rw [clive_k hk, cond_true, cWiden_k _ ha, rWiden_k hk ha, beq_self_eq_true, cond_true, cNarrow_k _ m ha, rNarrow_k hk m ha, beq_self_eq_true]

end Go.Proofs.Ytelifkahdhhmoaa.N
