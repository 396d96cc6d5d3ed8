/- The law SoftSums, plain. Conditions: none. -/
import Derived.Test.YtbnmnkofekcodaaMth1
import Derived.Test.YtbnmnkofekcodaaRo8
import Derived.Test.YtbnmnkofekcodaaMt
import Derived.Test.YtbnmnkofekcodaaNlawSoftSums
namespace Go.Proofs.Ytbnmnkofekcodaa.N
set_option linter.unusedVariables false
set_option linter.unusedSimpArgs false
open Go Go.Ab

theorem SoftSums_pure : ∀ (y0 : Tup [.i .i64, .i .i64]) (y1 : Tup [.i .u64]) (y2 : Tup [.i .u64]), wfs (Tup.all [.i .i64, .i .i64] y0) → wfs (Tup.all [.i .u64] y1) → wfs (Tup.all [.i .u64] y2) → ∃ k, plumblinelaw02_SoftSums k (y0.1) (y0.2) (y1) (y2) (fun q => some q) = some true := by
  intro ⟨f, m⟩ a b h0 h1 h2
  obtain ⟨a, rfl, ha⟩ := u64_nat h1.1
  obtain ⟨b, rfl, hb⟩ := u64_nat h2.1
  refine ⟨5000, ?_⟩
  have hk : 5000 ≤ 5000 := Nat.le_refl _
  have hn : NegS f b < 2 ^ 64 := Neg_lt f hb
  unfold plumblinelaw02_SoftSums plumblinelaw02_SoftSumsT
  rw [format_k, live_k hk, cond_true, Add_k f m ha hb, rAdd_k hk (fm f) m ha hb, AddS_fm, beq_self_eq_true, cond_true, Sub_k f m ha hb hn]
  unfold plumblineref02_Sub plumblineref02_SubT
  rw [rNeg_k _ (fm f) hb, NegS_fm, rAdd_k hk (fm f) m ha hn, AddS_fm]
  show some _ = some true
  rw [beq_self_eq_true]

end Go.Proofs.Ytbnmnkofekcodaa.N
