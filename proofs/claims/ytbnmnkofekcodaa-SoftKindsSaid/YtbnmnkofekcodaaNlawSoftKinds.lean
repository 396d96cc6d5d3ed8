/- Printed by wip/gen/emit.py: functions of the program as plain Lean functions, tied to the model by the evaluator. Conditions: none. -/
import Derived.Test.YtbnmnkofekcodaaNlaw
import Derived.Test.YtbnmnkofekcodaaNr02
import Derived.Test.YtbnmnkofekcodaaNsoft
namespace Go.Proofs.Ytbnmnkofekcodaa.N
set_option linter.unusedVariables false
set_option maxRecDepth 100000
open Go Go.Ab
-- function 8: plumbline/plumblinelaw02.SoftKinds
noncomputable def fi8 : FnI := ⟨8, Try.f8, []⟩
theorem en8 : Enters Try.prog 8 := enters_of Try.func8 (c := ((Try.f8).body.getD .skip)) (by kernel_rfl) (by kernel_rfl)
noncomputable def cx8 {R : Type} (k : Nat) : Cx R := mkCx Ty exts [(14, true, S14 k), (17, true, S17 k), (26, true, S26 k), (27, true, S27 k), (28, true, S28 k), (29, true, S29 k), (30, true, S30 k), (31, true, S31 k), (32, true, S32 k), (33, true, S33 k), (34, true, S34 k), (35, true, S35 k), (36, true, S36 k), (37, true, S37 k)] fi8 [] []
theorem cx8_ok {R : Type} (k : Nat) : CxOk Try.prog (cx8 k : Cx R) := mkCx_ok (c := ((Try.f8).body.getD .skip)) ty_ok mixed exts_ok (allSum_cons (S14_ok k) en14 (allSum_cons (S17_ok k) en17 (allSum_cons (S26_ok k) en26 (allSum_cons (S27_ok k) en27 (allSum_cons (S28_ok k) en28 (allSum_cons (S29_ok k) en29 (allSum_cons (S30_ok k) en30 (allSum_cons (S31_ok k) en31 (allSum_cons (S32_ok k) en32 (allSum_cons (S33_ok k) en33 (allSum_cons (S34_ok k) en34 (allSum_cons (S35_ok k) en35 (allSum_cons (S36_ok k) en36 (allSum_cons (S37_ok k) en37 allSum_nil)))))))))))))) Try.func8 en8 (by kernel_rfl) (by kernel_rfl) allLoop_nil allCut_nil
@[reducible] def plumblinelaw02_SoftKindsY (R : Type) : Type := Nat → Int → Int → (Bool → Option R) → Option R
noncomputable def plumblinelaw02_SoftKindsT {R : Type} (plumblinelaw02_format : plumblinelaw02_formatY R) (plumblinelaw02_live : plumblinelaw02_liveY R) (plumblineref02_Abs : plumblineref02_AbsY R) (plumblineref02_Class : plumblineref02_ClassY R) (plumblineref02_Finite : plumblineref02_FiniteY R) (plumblineref02_Most : plumblineref02_MostY R) (plumblineref02_Nan : plumblineref02_NanY R) (plumblineref02_Neg : plumblineref02_NegY R) (soft_Abs : soft_AbsY R) (soft_Class : soft_ClassY R) (soft_Finite : soft_FiniteY R) (soft_Most : soft_MostY R) (soft_Nan : soft_NanY R) (soft_Neg : soft_NegY R) (k : Nat) (a1 : Int) (a2 : Int) (K0 : Bool → Option R) : Option R :=
  plumblinelaw02_format k a1 (fun r1 =>
    plumblinelaw02_live k (fun r2 =>
      cond r2 (
        soft_Class k a1 a2 (fun r3 =>
          plumblineref02_Class k r1 a2 (fun r4 =>
            cond (r3 == r4) (
              soft_Neg k a1 a2 (fun r5 =>
                plumblineref02_Neg k r1 a2 (fun r6 =>
                  cond (r5 == r6) (
                    soft_Abs k a1 a2 (fun r7 =>
                      plumblineref02_Abs k r1 a2 (fun r8 =>
                        cond (r7 == r8) (
                          soft_Finite k a1 a2 (fun r9 =>
                            plumblineref02_Finite k r1 a2 (fun r10 =>
                              cond (r9 == r10) (
                                soft_Most k a1 (fun r11 =>
                                  plumblineref02_Most k r1 (fun r12 =>
                                    cond (r11 == r12) (
                                      soft_Nan k a1 (fun r13 =>
                                        plumblineref02_Nan k r1 (fun r14 =>
                                          K0 (r13 == r14)))) (
                                      K0 false)))) (
                                K0 false)))) (
                          K0 false)))) (
                    K0 false)))) (
              K0 false)))) (
        K0 false)))
noncomputable def plumblinelaw02_SoftKinds {R : Type} (k : Nat) (a1 : Int) (a2 : Int) (K0 : Bool → Option R) : Option R := plumblinelaw02_SoftKindsT plumblinelaw02_format plumblinelaw02_live plumblineref02_Abs plumblineref02_Class plumblineref02_Finite plumblineref02_Most plumblineref02_Nan plumblineref02_Neg soft_Abs soft_Class soft_Finite soft_Most soft_Nan soft_Neg k a1 a2 K0
theorem plumblinelaw02_SoftKinds_gen {R : Type} (plumblinelaw02_live : plumblinelaw02_liveY R) (plumblinelaw02_format : plumblinelaw02_formatY R) (soft_Class : soft_ClassY R) (plumblineref02_Class : plumblineref02_ClassY R) (soft_Neg : soft_NegY R) (plumblineref02_Neg : plumblineref02_NegY R) (soft_Abs : soft_AbsY R) (plumblineref02_Abs : plumblineref02_AbsY R) (soft_Finite : soft_FiniteY R) (plumblineref02_Finite : plumblineref02_FiniteY R) (soft_Most : soft_MostY R) (plumblineref02_Most : plumblineref02_MostY R) (soft_Nan : soft_NanY R) (plumblineref02_Nan : plumblineref02_NanY R) (k : Nat) (a1 : Int) (a2 : Int) (K : AV → Heap → Option R) :
    fnK (mkCx Ty exts [(14, true, S14G plumblinelaw02_live k), (17, true, S17G plumblinelaw02_format k), (26, true, S26G soft_Class k), (27, true, S27G plumblineref02_Class k), (28, true, S28G soft_Neg k), (29, true, S29G plumblineref02_Neg k), (30, true, S30G soft_Abs k), (31, true, S31G plumblineref02_Abs k), (32, true, S32G soft_Finite k), (33, true, S33G plumblineref02_Finite k), (34, true, S34G soft_Most k), (35, true, S35G plumblineref02_Most k), (36, true, S36G soft_Nan k), (37, true, S37G plumblineref02_Nan k)] fi8 [] []) 6 8 [.i .i64 a1, .i .u64 a2] ⟨0, []⟩ K = plumblinelaw02_SoftKindsT plumblinelaw02_format plumblinelaw02_live plumblineref02_Abs plumblineref02_Class plumblineref02_Finite plumblineref02_Most plumblineref02_Nan plumblineref02_Neg soft_Abs soft_Class soft_Finite soft_Most soft_Nan soft_Neg k a1 a2 (fun q1 => K (.b q1) ⟨0, []⟩) := by kernel_rfl
noncomputable def S8G {R : Type} (plumblinelaw02_SoftKinds : plumblinelaw02_SoftKindsY R) (k : Nat) : Sum R := fun args H K => match args, H with
  | [.i .i64 a1, .i .u64 a2], ⟨0, []⟩ => plumblinelaw02_SoftKinds k a1 a2 (fun q1 => K (.b q1) ⟨0, []⟩)
  | _, _ => none
noncomputable def S8 {R : Type} (k : Nat) : Sum R := S8G plumblinelaw02_SoftKinds k
theorem S8_ok0 {R : Type} (k : Nat) : SumOk Try.prog 8 false (S8 k : Sum R) := by
  intro args H K r h
  unfold S8 S8G at h
  split at h
  · exact fnK_sound (cx8_ok k) 6 8 _ _ K r ((plumblinelaw02_SoftKinds_gen plumblinelaw02_live plumblinelaw02_format soft_Class plumblineref02_Class soft_Neg plumblineref02_Neg soft_Abs plumblineref02_Abs soft_Finite plumblineref02_Finite soft_Most plumblineref02_Most soft_Nan plumblineref02_Nan k _ _ K).trans h)
  · cases h
theorem S8_ok {R : Type} (k : Nat) : SumOk Try.prog 8 true (S8 k : Sum R) := by
  refine sumOk_keep (S8_ok0 k) ?_
  intro args H K r h
  unfold S8 S8G at h ⊢
  split at h
  · refine Eq.trans ?_ h
    show plumblinelaw02_SoftKinds k _ _ _ = plumblinelaw02_SoftKinds k _ _ _
    congr 1
    all_goals first | exact (funext fun q1 => if_pos (keeps_app _ _ _ [])) | skip
  · cases h
end Go.Proofs.Ytbnmnkofekcodaa.N
