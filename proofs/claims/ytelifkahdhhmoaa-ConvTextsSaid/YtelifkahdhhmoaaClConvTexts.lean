/- The law ConvTexts, plain. Conditions: none. -/
import Derived.Test.YtelifkahdhhmoaaMth1
import Derived.Test.YtelifkahdhhmoaaNlawConvTexts
namespace Go.Proofs.Ytelifkahdhhmoaa.N
set_option linter.unusedVariables false
set_option linter.unusedSimpArgs false
open Go Go.Ab

theorem LitX_fm (f : Int) (X Y : Nat) : LitX (fm f) X Y = LitX f X Y := by unfold LitX DivX; rw [Rd_fm]
theorem LitS_fm (f : Int) (L : List Nat) : LitS (fm f) L = LitS f L := by unfold LitS; simp only [LitX_fm]

theorem ConvTexts_pure : ∀ (y0 : Tup [.i .i64]) (y1 : Tup [.s]), wfs (Tup.all [.i .i64] y0) → wfs (Tup.all [.s] y1) → ∃ k, plumblinelaw03_ConvTexts k (y0) (y1) (fun q => some q) = some true := by
  intro (f : Int) (s : ByteArray) h0 h1
  have hs : s.size ≤ maxLen := h1.1
  have hl : (bys s).length < 2 ^ 63 := by
    rw [← size_bys]
    have : maxLen < 2 ^ 63 := by decide
    omega
  refine ⟨5000 + (bys s).length + 1, ?_⟩
  have hk : 5000 ≤ 5000 + (bys s).length + 1 := by omega
  have hk2 : (bys s).length < 5000 + (bys s).length + 1 := by omega
  unfold plumblinelaw03_ConvTexts plumblinelaw03_ConvTextsT
  rw [cLiteral_k hk f s hl hk2, cformat_k, rLiteral_k hk (fm f) s hl hk2, LitS_fm, cInt_k hk s hl hk2, rInt_k hk s hl hk2, clive_k hk, cond_true, beq_self_eq_true, cond_true, beq_self_eq_true, cond_true, beq_self_eq_true, cond_true, beq_self_eq_true]

end Go.Proofs.Ytelifkahdhhmoaa.N
