/- Printed by wip/gen/emit.py: functions of the program as plain Lean functions, tied to the model by the evaluator. Conditions: none. -/
import Derived.Test.YtbnmnkofekcodaaNlaw
import Derived.Test.YtbnmnkofekcodaaNr02
import Derived.Test.YtbnmnkofekcodaaNsoft
namespace Go.Proofs.Ytbnmnkofekcodaa.N
set_option linter.unusedVariables false
set_option maxRecDepth 100000
open Go Go.Ab
-- function 3: plumbline/plumblinelaw02.SoftParts
noncomputable def fi3 : FnI := ⟨3, Try.f3, []⟩
theorem en3 : Enters Try.prog 3 := enters_of Try.func3 (c := ((Try.f3).body.getD .skip)) (by kernel_rfl) (by kernel_rfl)
noncomputable def cx3 {R : Type} (k : Nat) : Cx R := mkCx Ty exts [(14, true, S14 k), (15, true, S15 k), (16, true, S16 k), (17, true, S17 k)] fi3 [] []
theorem cx3_ok {R : Type} (k : Nat) : CxOk Try.prog (cx3 k : Cx R) := mkCx_ok (c := ((Try.f3).body.getD .skip)) ty_ok mixed exts_ok (allSum_cons (S14_ok k) en14 (allSum_cons (S15_ok k) en15 (allSum_cons (S16_ok k) en16 (allSum_cons (S17_ok k) en17 allSum_nil)))) Try.func3 en3 (by kernel_rfl) (by kernel_rfl) allLoop_nil allCut_nil
@[reducible] def plumblinelaw02_SoftPartsY (R : Type) : Type := Nat → Int → Int → Int → Int → (Bool → Option R) → Option R
noncomputable def plumblinelaw02_SoftPartsT {R : Type} (plumblinelaw02_format : plumblinelaw02_formatY R) (plumblinelaw02_live : plumblinelaw02_liveY R) (plumblineref02_Div : plumblineref02_DivY R) (soft_Div : soft_DivY R) (k : Nat) (a1 : Int) (a2 : Int) (a3 : Int) (a4 : Int) (K0 : Bool → Option R) : Option R :=
  plumblinelaw02_live k (fun r1 =>
    cond r1 (
      soft_Div k a1 a2 a3 a4 (fun r2 =>
        plumblinelaw02_format k a1 (fun r3 =>
          plumblineref02_Div k r3 a2 a3 a4 (fun r4 =>
            K0 (r2 == r4))))) (
      K0 false))
noncomputable def plumblinelaw02_SoftParts {R : Type} (k : Nat) (a1 : Int) (a2 : Int) (a3 : Int) (a4 : Int) (K0 : Bool → Option R) : Option R := plumblinelaw02_SoftPartsT plumblinelaw02_format plumblinelaw02_live plumblineref02_Div soft_Div k a1 a2 a3 a4 K0
theorem plumblinelaw02_SoftParts_gen {R : Type} (plumblinelaw02_live : plumblinelaw02_liveY R) (soft_Div : soft_DivY R) (plumblineref02_Div : plumblineref02_DivY R) (plumblinelaw02_format : plumblinelaw02_formatY R) (k : Nat) (a1 : Int) (a2 : Int) (a3 : Int) (a4 : Int) (K : AV → Heap → Option R) :
    fnK (mkCx Ty exts [(14, true, S14G plumblinelaw02_live k), (15, true, S15G soft_Div k), (16, true, S16G plumblineref02_Div k), (17, true, S17G plumblinelaw02_format k)] fi3 [] []) 6 3 [.agg [.i .i64 a1, .i .i64 a2], .i .u64 a3, .i .u64 a4] ⟨0, []⟩ K = plumblinelaw02_SoftPartsT plumblinelaw02_format plumblinelaw02_live plumblineref02_Div soft_Div k a1 a2 a3 a4 (fun q1 => K (.b q1) ⟨0, []⟩) := by kernel_rfl
noncomputable def S3G {R : Type} (plumblinelaw02_SoftParts : plumblinelaw02_SoftPartsY R) (k : Nat) : Sum R := fun args H K => match args, H with
  | [.agg [.i .i64 a1, .i .i64 a2], .i .u64 a3, .i .u64 a4], ⟨0, []⟩ => plumblinelaw02_SoftParts k a1 a2 a3 a4 (fun q1 => K (.b q1) ⟨0, []⟩)
  | _, _ => none
noncomputable def S3 {R : Type} (k : Nat) : Sum R := S3G plumblinelaw02_SoftParts k
theorem S3_ok0 {R : Type} (k : Nat) : SumOk Try.prog 3 false (S3 k : Sum R) := by
  intro args H K r h
  unfold S3 S3G at h
  split at h
  · exact fnK_sound (cx3_ok k) 6 3 _ _ K r ((plumblinelaw02_SoftParts_gen plumblinelaw02_live soft_Div plumblineref02_Div plumblinelaw02_format k _ _ _ _ K).trans h)
  · cases h
theorem S3_ok {R : Type} (k : Nat) : SumOk Try.prog 3 true (S3 k : Sum R) := by
  refine sumOk_keep (S3_ok0 k) ?_
  intro args H K r h
  unfold S3 S3G at h ⊢
  split at h
  · refine Eq.trans ?_ h
    show plumblinelaw02_SoftParts k _ _ _ _ _ = plumblinelaw02_SoftParts k _ _ _ _ _
    congr 1
    all_goals first | exact (funext fun q1 => if_pos (keeps_app _ _ _ [])) | skip
  · cases h
end Go.Proofs.Ytbnmnkofekcodaa.N
