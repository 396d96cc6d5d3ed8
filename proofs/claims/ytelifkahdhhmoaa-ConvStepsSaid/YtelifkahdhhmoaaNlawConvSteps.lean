/- Printed by wip/gen/emit.py: functions of the program as plain Lean functions, tied to the model by the evaluator. Conditions: none. -/
import Derived.Test.YtelifkahdhhmoaaNconv
import Derived.Test.YtelifkahdhhmoaaNlaw
import Derived.Test.YtelifkahdhhmoaaNsoft
namespace Go.Proofs.Ytelifkahdhhmoaa.N
set_option linter.unusedVariables false
set_option maxRecDepth 100000
open Go Go.Ab
-- function 10: plumbline/plumblinelaw03.ConvSteps
noncomputable def fi10 : FnI := ⟨10, Try.f10, []⟩
theorem en10 : Enters Try.prog 10 := enters_of Try.func10 (c := ((Try.f10).body.getD .skip)) (by kernel_rfl) (by kernel_rfl)
noncomputable def cx10 {R : Type} (k : Nat) : Cx R := mkCx Ty exts [(14, true, S14 k), (21, true, S21 k), (23, true, S23 k), (25, true, S25 k), (29, true, S29 k), (37, true, S37 k), (38, true, S38 k), (39, true, S39 k)] fi10 [] []
theorem cx10_ok {R : Type} (k : Nat) : CxOk Try.prog (cx10 k : Cx R) := mkCx_ok (c := ((Try.f10).body.getD .skip)) ty_ok mixed exts_ok (allSum_cons (S14_ok k) en14 (allSum_cons (S21_ok k) en21 (allSum_cons (S23_ok k) en23 (allSum_cons (S25_ok k) en25 (allSum_cons (S29_ok k) en29 (allSum_cons (S37_ok k) en37 (allSum_cons (S38_ok k) en38 (allSum_cons (S39_ok k) en39 allSum_nil)))))))) Try.func10 en10 (by kernel_rfl) (by kernel_rfl) allLoop_nil allCut_nil
@[reducible] def plumblinelaw03_ConvStepsY (R : Type) : Type := Nat → Int → Int → Int → (Bool → Option R) → Option R
noncomputable def plumblinelaw03_ConvStepsT {R : Type} (conv_Next : conv_NextY R) (conv_Plain : conv_PlainY R) (conv_Prev : conv_PrevY R) (plumblinelaw03_live : plumblinelaw03_liveY R) (soft_Compare : soft_CompareY R) (soft_Finite : soft_FiniteY R) (soft_Most : soft_MostY R) (soft_Nan : soft_NanY R) (k : Nat) (a1 : Int) (a2 : Int) (a3 : Int) (K0 : Bool → Option R) : Option R :=
  soft_Finite k a1 a2 (fun r1 =>
    cond (!r1) (
      plumblinelaw03_live k (fun r2 =>
        cond r2 (
          conv_Next k a1 a2 (fun r3 =>
            soft_Nan k a1 (fun r4 =>
              cond (r3 == r4) (
                conv_Prev k a1 a2 (fun r5 =>
                  soft_Nan k a1 (fun r6 =>
                    K0 (r5 == r6)))) (
                K0 false)))) (
          K0 false))) (
      conv_Plain k a1 a2 (fun r7 =>
        conv_Next k a1 r7 (fun r8 =>
          soft_Most k a1 (fun r9 =>
            cond (r7 == r9) (
              plumblinelaw03_live k (fun r10 =>
                cond r10 (
                  K0 (r8 == r7)) (
                  K0 false))) (
              conv_Prev k a1 r8 (fun r11 =>
                cond (r11 != r7) (
                  K0 false) (
                  soft_Finite k a1 r8 (fun r12 =>
                    cond (!r12) (
                      K0 false) (
                      soft_Compare k a1 r7 r8 (fun r13 r14 =>
                        soft_Compare k a1 r7 a3 (fun r15 r16 =>
                          soft_Compare k a1 a3 r8 (fun r17 r18 =>
                            plumblinelaw03_live k (fun r19 =>
                              cond r19 (
                                cond (decide (r13 < 0)) (
                                  cond (!r16) (
                                    K0 true) (
                                    cond (decide (r15 < 0)) (
                                      K0 (!(decide (r17 < 0)))) (
                                      K0 true))) (
                                  K0 false)) (
                                K0 false)))))))))))))))
noncomputable def plumblinelaw03_ConvSteps {R : Type} (k : Nat) (a1 : Int) (a2 : Int) (a3 : Int) (K0 : Bool → Option R) : Option R := plumblinelaw03_ConvStepsT conv_Next conv_Plain conv_Prev plumblinelaw03_live soft_Compare soft_Finite soft_Most soft_Nan k a1 a2 a3 K0
theorem plumblinelaw03_ConvSteps_gen {R : Type} (plumblinelaw03_live : plumblinelaw03_liveY R) (conv_Next : conv_NextY R) (conv_Prev : conv_PrevY R) (conv_Plain : conv_PlainY R) (soft_Compare : soft_CompareY R) (soft_Finite : soft_FiniteY R) (soft_Nan : soft_NanY R) (soft_Most : soft_MostY R) (k : Nat) (a1 : Int) (a2 : Int) (a3 : Int) (K : AV → Heap → Option R) :
    fnK (mkCx Ty exts [(14, true, S14G plumblinelaw03_live k), (21, true, S21G conv_Next k), (23, true, S23G conv_Prev k), (25, true, S25G conv_Plain k), (29, true, S29G soft_Compare k), (37, true, S37G soft_Finite k), (38, true, S38G soft_Nan k), (39, true, S39G soft_Most k)] fi10 [] []) 6 10 [.i .i64 a1, .i .u64 a2, .i .u64 a3] ⟨0, []⟩ K = plumblinelaw03_ConvStepsT conv_Next conv_Plain conv_Prev plumblinelaw03_live soft_Compare soft_Finite soft_Most soft_Nan k a1 a2 a3 (fun q1 => K (.b q1) ⟨0, []⟩) := by kernel_rfl
noncomputable def S10G {R : Type} (plumblinelaw03_ConvSteps : plumblinelaw03_ConvStepsY R) (k : Nat) : Sum R := fun args H K => match args, H with
  | [.i .i64 a1, .i .u64 a2, .i .u64 a3], ⟨0, []⟩ => plumblinelaw03_ConvSteps k a1 a2 a3 (fun q1 => K (.b q1) ⟨0, []⟩)
  | _, _ => none
noncomputable def S10 {R : Type} (k : Nat) : Sum R := S10G plumblinelaw03_ConvSteps k
theorem S10_ok0 {R : Type} (k : Nat) : SumOk Try.prog 10 false (S10 k : Sum R) := by
  intro args H K r h
  unfold S10 S10G at h
  split at h
  · exact fnK_sound (cx10_ok k) 6 10 _ _ K r ((plumblinelaw03_ConvSteps_gen plumblinelaw03_live conv_Next conv_Prev conv_Plain soft_Compare soft_Finite soft_Nan soft_Most k _ _ _ K).trans h)
  · cases h
theorem S10_ok {R : Type} (k : Nat) : SumOk Try.prog 10 true (S10 k : Sum R) := by
  refine sumOk_keep (S10_ok0 k) ?_
  intro args H K r h
  unfold S10 S10G at h ⊢
  split at h
  · refine Eq.trans ?_ h
    show plumblinelaw03_ConvSteps k _ _ _ _ = plumblinelaw03_ConvSteps k _ _ _ _
    congr 1
    all_goals first | exact (funext fun q1 => if_pos (keeps_app _ _ _ [])) | skip
  · cases h
end Go.Proofs.Ytelifkahdhhmoaa.N
