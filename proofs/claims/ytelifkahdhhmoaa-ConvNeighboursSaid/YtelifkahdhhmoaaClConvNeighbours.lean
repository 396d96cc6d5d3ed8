/- The law ConvNeighbours, plain. Conditions: none. -/
import Derived.Test.YtelifkahdhhmoaaMth1
import Derived.Test.YtelifkahdhhmoaaNlawConvNeighbours
namespace Go.Proofs.Ytelifkahdhhmoaa.N
set_option linter.unusedVariables false
set_option linter.unusedSimpArgs false
open Go Go.Ab

theorem ConvNeighbours_pure : ∀ (y0 : Tup [.i .i64]) (y1 : Tup [.i .u64]), wfs (Tup.all [.i .i64] y0) → wfs (Tup.all [.i .u64] y1) → ∃ k, plumblinelaw03_ConvNeighbours k (y0) (y1) (fun q => some q) = some true := by
  intro (f : Int) a h0 h1
  obtain ⟨a, rfl, ha⟩ := u64_nat h1.1
  refine ⟨5000, ?_⟩
  have hk : 5000 ≤ 5000 := Nat.le_refl _
  unfold plumblinelaw03_ConvNeighbours plumblinelaw03_ConvNeighboursT
  rw [cformat_k, clive_k hk, cond_true, cNext_k _ f ha, rNext_k _ (fm f) ha, NextS_fm, beq_self_eq_true, cond_true, cPrev_k _ f ha, rPrev_k _ (fm f) ha, PrevS_fm, beq_self_eq_true, cond_true,
    cPlain_k _ f ha, rPlain_k _ (fm f) ha, PlainS_fm, beq_self_eq_true, cond_true, cHex_k hk f ha, rHex_k hk (fm f) ha, HexS_fm, toList_beq, decide_eq_true rfl]

end Go.Proofs.Ytelifkahdhhmoaa.N
