/- Printed by wip/gen/emit.py: functions of the program as plain Lean functions, tied to the model by the evaluator. Conditions: none. -/
import Derived.Test.YtbnmnkofekcodaaNlaw
import Derived.Test.YtbnmnkofekcodaaNsoft
namespace Go.Proofs.Ytbnmnkofekcodaa.N
set_option linter.unusedVariables false
set_option maxRecDepth 100000
open Go Go.Ab
-- function 10: plumbline/plumblinelaw02.SoftMirrors
noncomputable def fi10 : FnI := ⟨10, Try.f10, []⟩
theorem en10 : Enters Try.prog 10 := enters_of Try.func10 (c := ((Try.f10).body.getD .skip)) (by kernel_rfl) (by kernel_rfl)
noncomputable def cx10 {R : Type} (k : Nat) : Cx R := mkCx Ty exts [(14, true, S14 k), (28, true, S28 k), (40, true, S40 k)] fi10 [] []
theorem cx10_ok {R : Type} (k : Nat) : CxOk Try.prog (cx10 k : Cx R) := mkCx_ok (c := ((Try.f10).body.getD .skip)) ty_ok mixed exts_ok (allSum_cons (S14_ok k) en14 (allSum_cons (S28_ok k) en28 (allSum_cons (S40_ok k) en40 allSum_nil))) Try.func10 en10 (by kernel_rfl) (by kernel_rfl) allLoop_nil allCut_nil
@[reducible] def plumblinelaw02_SoftMirrorsY (R : Type) : Type := Nat → Int → Int → Int → Int → (Bool → Option R) → Option R
noncomputable def plumblinelaw02_SoftMirrorsT {R : Type} (plumblinelaw02_live : plumblinelaw02_liveY R) (soft_Neg : soft_NegY R) (plumblinelaw02_by : plumblinelaw02_byY R) (k : Nat) (a1 : Int) (a2 : Int) (a3 : Int) (a4 : Int) (K0 : Bool → Option R) : Option R :=
  soft_Neg k a2 a3 (fun r1 =>
    cond (a1 == 8) (
      soft_Neg k a2 a4 (fun r2 =>
        plumblinelaw02_by k a1 a2 1 a3 a4 (fun r3 =>
          plumblinelaw02_by k a1 a2 2 r1 r2 (fun r4 =>
            plumblinelaw02_live k (fun r5 =>
              cond r5 (
                soft_Neg k a2 r3 (fun r6 =>
                  K0 (r6 == r4))) (
                K0 false)))))) (
      cond (a1 == 9) (
        soft_Neg k a2 a4 (fun r7 =>
          plumblinelaw02_by k a1 a2 1 a3 a4 (fun r8 =>
            plumblinelaw02_by k a1 a2 2 r1 r7 (fun r9 =>
              plumblinelaw02_live k (fun r10 =>
                cond r10 (
                  soft_Neg k a2 r8 (fun r11 =>
                    K0 (r11 == r9))) (
                  K0 false)))))) (
        plumblinelaw02_by k a1 a2 1 a3 a4 (fun r12 =>
          plumblinelaw02_by k a1 a2 2 r1 a4 (fun r13 =>
            plumblinelaw02_live k (fun r14 =>
              cond r14 (
                soft_Neg k a2 r12 (fun r15 =>
                  K0 (r15 == r13))) (
                K0 false)))))))
noncomputable def plumblinelaw02_SoftMirrors {R : Type} (k : Nat) (a1 : Int) (a2 : Int) (a3 : Int) (a4 : Int) (K0 : Bool → Option R) : Option R := plumblinelaw02_SoftMirrorsT plumblinelaw02_live soft_Neg plumblinelaw02_by k a1 a2 a3 a4 K0
theorem plumblinelaw02_SoftMirrors_gen {R : Type} (plumblinelaw02_live : plumblinelaw02_liveY R) (soft_Neg : soft_NegY R) (plumblinelaw02_by : plumblinelaw02_byY R) (k : Nat) (a1 : Int) (a2 : Int) (a3 : Int) (a4 : Int) (K : AV → Heap → Option R) :
    fnK (mkCx Ty exts [(14, true, S14G plumblinelaw02_live k), (28, true, S28G soft_Neg k), (40, true, S40G plumblinelaw02_by k)] fi10 [] []) 6 10 [.i .i64 a1, .i .i64 a2, .agg [.i .u64 a3, .i .u64 a4]] ⟨0, []⟩ K = plumblinelaw02_SoftMirrorsT plumblinelaw02_live soft_Neg plumblinelaw02_by k a1 a2 a3 a4 (fun q1 => K (.b q1) ⟨0, []⟩) := by kernel_rfl
noncomputable def S10G {R : Type} (plumblinelaw02_SoftMirrors : plumblinelaw02_SoftMirrorsY R) (k : Nat) : Sum R := fun args H K => match args, H with
  | [.i .i64 a1, .i .i64 a2, .agg [.i .u64 a3, .i .u64 a4]], ⟨0, []⟩ => plumblinelaw02_SoftMirrors k a1 a2 a3 a4 (fun q1 => K (.b q1) ⟨0, []⟩)
  | _, _ => none
noncomputable def S10 {R : Type} (k : Nat) : Sum R := S10G plumblinelaw02_SoftMirrors k
theorem S10_ok0 {R : Type} (k : Nat) : SumOk Try.prog 10 false (S10 k : Sum R) := by
  intro args H K r h
  unfold S10 S10G at h
  split at h
  · exact fnK_sound (cx10_ok k) 6 10 _ _ K r ((plumblinelaw02_SoftMirrors_gen plumblinelaw02_live soft_Neg plumblinelaw02_by k _ _ _ _ K).trans h)
  · cases h
theorem S10_ok {R : Type} (k : Nat) : SumOk Try.prog 10 true (S10 k : Sum R) := by
  refine sumOk_keep (S10_ok0 k) ?_
  intro args H K r h
  unfold S10 S10G at h ⊢
  split at h
  · refine Eq.trans ?_ h
    show plumblinelaw02_SoftMirrors k _ _ _ _ _ = plumblinelaw02_SoftMirrors k _ _ _ _ _
    congr 1
    all_goals first | exact (funext fun q1 => if_pos (keeps_app _ _ _ [])) | skip
  · cases h
end Go.Proofs.Ytbnmnkofekcodaa.N
