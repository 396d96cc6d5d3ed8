/- Printed by wip/gen/emit.py: functions of the program as plain Lean functions, tied to the model by the evaluator. Conditions: none. -/
import Derived.Test.YtbnmnkofekcodaaNlaw
import Derived.Test.YtbnmnkofekcodaaNr02
import Derived.Test.YtbnmnkofekcodaaNsoft
namespace Go.Proofs.Ytbnmnkofekcodaa.N
set_option linter.unusedVariables false
set_option maxRecDepth 100000
open Go Go.Ab
-- function 9: plumbline/plumblinelaw02.SoftCompares
noncomputable def fi9 : FnI := ⟨9, Try.f9, []⟩
theorem en9 : Enters Try.prog 9 := enters_of Try.func9 (c := ((Try.f9).body.getD .skip)) (by kernel_rfl) (by kernel_rfl)
noncomputable def cx9 {R : Type} (k : Nat) : Cx R := mkCx Ty exts [(14, true, S14 k), (17, true, S17 k), (38, true, S38 k), (39, true, S39 k)] fi9 [] []
theorem cx9_ok {R : Type} (k : Nat) : CxOk Try.prog (cx9 k : Cx R) := mkCx_ok (c := ((Try.f9).body.getD .skip)) ty_ok mixed exts_ok (allSum_cons (S14_ok k) en14 (allSum_cons (S17_ok k) en17 (allSum_cons (S38_ok k) en38 (allSum_cons (S39_ok k) en39 allSum_nil)))) Try.func9 en9 (by kernel_rfl) (by kernel_rfl) allLoop_nil allCut_nil
@[reducible] def plumblinelaw02_SoftComparesY (R : Type) : Type := Nat → Int → Int → Int → (Bool → Option R) → Option R
noncomputable def plumblinelaw02_SoftComparesT {R : Type} (plumblinelaw02_format : plumblinelaw02_formatY R) (plumblinelaw02_live : plumblinelaw02_liveY R) (plumblineref02_Compare : plumblineref02_CompareY R) (soft_Compare : soft_CompareY R) (k : Nat) (a1 : Int) (a2 : Int) (a3 : Int) (K0 : Bool → Option R) : Option R :=
  soft_Compare k a1 a2 a3 (fun r1 r2 =>
    plumblinelaw02_format k a1 (fun r3 =>
      plumblineref02_Compare k r3 a2 a3 (fun r4 r5 =>
        plumblinelaw02_live k (fun r6 =>
          cond r6 (
            cond (r2 == r5) (
              cond ((decide (r1 < 0)) == (decide (r4 < 0))) (
                K0 ((decide (r1 > 0)) == (decide (r4 > 0)))) (
                K0 false)) (
              K0 false)) (
            K0 false)))))
noncomputable def plumblinelaw02_SoftCompares {R : Type} (k : Nat) (a1 : Int) (a2 : Int) (a3 : Int) (K0 : Bool → Option R) : Option R := plumblinelaw02_SoftComparesT plumblinelaw02_format plumblinelaw02_live plumblineref02_Compare soft_Compare k a1 a2 a3 K0
theorem plumblinelaw02_SoftCompares_gen {R : Type} (plumblinelaw02_live : plumblinelaw02_liveY R) (plumblinelaw02_format : plumblinelaw02_formatY R) (soft_Compare : soft_CompareY R) (plumblineref02_Compare : plumblineref02_CompareY R) (k : Nat) (a1 : Int) (a2 : Int) (a3 : Int) (K : AV → Heap → Option R) :
    fnK (mkCx Ty exts [(14, true, S14G plumblinelaw02_live k), (17, true, S17G plumblinelaw02_format k), (38, true, S38G soft_Compare k), (39, true, S39G plumblineref02_Compare k)] fi9 [] []) 6 9 [.i .i64 a1, .i .u64 a2, .i .u64 a3] ⟨0, []⟩ K = plumblinelaw02_SoftComparesT plumblinelaw02_format plumblinelaw02_live plumblineref02_Compare soft_Compare k a1 a2 a3 (fun q1 => K (.b q1) ⟨0, []⟩) := by kernel_rfl
noncomputable def S9G {R : Type} (plumblinelaw02_SoftCompares : plumblinelaw02_SoftComparesY R) (k : Nat) : Sum R := fun args H K => match args, H with
  | [.i .i64 a1, .i .u64 a2, .i .u64 a3], ⟨0, []⟩ => plumblinelaw02_SoftCompares k a1 a2 a3 (fun q1 => K (.b q1) ⟨0, []⟩)
  | _, _ => none
noncomputable def S9 {R : Type} (k : Nat) : Sum R := S9G plumblinelaw02_SoftCompares k
theorem S9_ok0 {R : Type} (k : Nat) : SumOk Try.prog 9 false (S9 k : Sum R) := by
  intro args H K r h
  unfold S9 S9G at h
  split at h
  · exact fnK_sound (cx9_ok k) 6 9 _ _ K r ((plumblinelaw02_SoftCompares_gen plumblinelaw02_live plumblinelaw02_format soft_Compare plumblineref02_Compare k _ _ _ K).trans h)
  · cases h
theorem S9_ok {R : Type} (k : Nat) : SumOk Try.prog 9 true (S9 k : Sum R) := by
  refine sumOk_keep (S9_ok0 k) ?_
  intro args H K r h
  unfold S9 S9G at h ⊢
  split at h
  · refine Eq.trans ?_ h
    show plumblinelaw02_SoftCompares k _ _ _ _ = plumblinelaw02_SoftCompares k _ _ _ _
    congr 1
    all_goals first | exact (funext fun q1 => if_pos (keeps_app _ _ _ [])) | skip
  · cases h
end Go.Proofs.Ytbnmnkofekcodaa.N
