/- Printed by wip/gen/emit.py: functions of the program as plain Lean functions, tied to the model by the evaluator. Conditions: none. -/
import Derived.Test.YtbnmnkofekcodaaNlaw
import Derived.Test.YtbnmnkofekcodaaNr02x2
import Derived.Test.YtbnmnkofekcodaaNsoft
namespace Go.Proofs.Ytbnmnkofekcodaa.N
set_option linter.unusedVariables false
set_option maxRecDepth 100000
open Go Go.Ab
-- function 6: plumbline/plumblinelaw02.SoftProducts
noncomputable def fi6 : FnI := ⟨6, Try.f6, []⟩
theorem en6 : Enters Try.prog 6 := enters_of Try.func6 (c := ((Try.f6).body.getD .skip)) (by kernel_rfl) (by kernel_rfl)
noncomputable def cx6 {R : Type} (k : Nat) : Cx R := mkCx Ty exts [(14, true, S14 k), (17, true, S17 k), (24, true, S24 k), (25, true, S25 k)] fi6 [] []
theorem cx6_ok {R : Type} (k : Nat) : CxOk Try.prog (cx6 k : Cx R) := mkCx_ok (c := ((Try.f6).body.getD .skip)) ty_ok mixed exts_ok (allSum_cons (S14_ok k) en14 (allSum_cons (S17_ok k) en17 (allSum_cons (S24_ok k) en24 (allSum_cons (S25_ok k) en25 allSum_nil)))) Try.func6 en6 (by kernel_rfl) (by kernel_rfl) allLoop_nil allCut_nil
@[reducible] def plumblinelaw02_SoftProductsY (R : Type) : Type := Nat → Int → Int → Int → Int → (Bool → Option R) → Option R
noncomputable def plumblinelaw02_SoftProductsT {R : Type} (plumblinelaw02_format : plumblinelaw02_formatY R) (plumblinelaw02_live : plumblinelaw02_liveY R) (plumblineref02_Mul : plumblineref02_MulY R) (soft_Mul : soft_MulY R) (k : Nat) (a1 : Int) (a2 : Int) (a3 : Int) (a4 : Int) (K0 : Bool → Option R) : Option R :=
  plumblinelaw02_live k (fun r1 =>
    cond r1 (
      soft_Mul k a1 a2 a3 a4 (fun r2 =>
        plumblinelaw02_format k a1 (fun r3 =>
          plumblineref02_Mul k r3 a2 a3 a4 (fun r4 =>
            K0 (r2 == r4))))) (
      K0 false))
noncomputable def plumblinelaw02_SoftProducts {R : Type} (k : Nat) (a1 : Int) (a2 : Int) (a3 : Int) (a4 : Int) (K0 : Bool → Option R) : Option R := plumblinelaw02_SoftProductsT plumblinelaw02_format plumblinelaw02_live plumblineref02_Mul soft_Mul k a1 a2 a3 a4 K0
theorem plumblinelaw02_SoftProducts_gen {R : Type} (plumblinelaw02_live : plumblinelaw02_liveY R) (plumblinelaw02_format : plumblinelaw02_formatY R) (soft_Mul : soft_MulY R) (plumblineref02_Mul : plumblineref02_MulY R) (k : Nat) (a1 : Int) (a2 : Int) (a3 : Int) (a4 : Int) (K : AV → Heap → Option R) :
    fnK (mkCx Ty exts [(14, true, S14G plumblinelaw02_live k), (17, true, S17G plumblinelaw02_format k), (24, true, S24G soft_Mul k), (25, true, S25G plumblineref02_Mul k)] fi6 [] []) 6 6 [.agg [.i .i64 a1, .i .i64 a2], .i .u64 a3, .i .u64 a4] ⟨0, []⟩ K = plumblinelaw02_SoftProductsT plumblinelaw02_format plumblinelaw02_live plumblineref02_Mul soft_Mul k a1 a2 a3 a4 (fun q1 => K (.b q1) ⟨0, []⟩) := by kernel_rfl
noncomputable def S6G {R : Type} (plumblinelaw02_SoftProducts : plumblinelaw02_SoftProductsY R) (k : Nat) : Sum R := fun args H K => match args, H with
  | [.agg [.i .i64 a1, .i .i64 a2], .i .u64 a3, .i .u64 a4], ⟨0, []⟩ => plumblinelaw02_SoftProducts k a1 a2 a3 a4 (fun q1 => K (.b q1) ⟨0, []⟩)
  | _, _ => none
noncomputable def S6 {R : Type} (k : Nat) : Sum R := S6G plumblinelaw02_SoftProducts k
theorem S6_ok0 {R : Type} (k : Nat) : SumOk Try.prog 6 false (S6 k : Sum R) := by
  intro args H K r h
  unfold S6 S6G at h
  split at h
  · exact fnK_sound (cx6_ok k) 6 6 _ _ K r ((plumblinelaw02_SoftProducts_gen plumblinelaw02_live plumblinelaw02_format soft_Mul plumblineref02_Mul k _ _ _ _ K).trans h)
  · cases h
theorem S6_ok {R : Type} (k : Nat) : SumOk Try.prog 6 true (S6 k : Sum R) := by
  refine sumOk_keep (S6_ok0 k) ?_
  intro args H K r h
  unfold S6 S6G at h ⊢
  split at h
  · refine Eq.trans ?_ h
    show plumblinelaw02_SoftProducts k _ _ _ _ _ = plumblinelaw02_SoftProducts k _ _ _ _ _
    congr 1
    all_goals first | exact (funext fun q1 => if_pos (keeps_app _ _ _ [])) | skip
  · cases h
end Go.Proofs.Ytbnmnkofekcodaa.N
