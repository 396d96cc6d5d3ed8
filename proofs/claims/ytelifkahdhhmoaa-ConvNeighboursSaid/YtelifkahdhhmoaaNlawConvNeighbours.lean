/- Printed by wip/gen/emit.py: functions of the program as plain Lean functions, tied to the model by the evaluator. Conditions: none. -/
import Derived.Test.YtelifkahdhhmoaaNconv
import Derived.Test.YtelifkahdhhmoaaNlaw
import Derived.Test.YtelifkahdhhmoaaNr03
namespace Go.Proofs.Ytelifkahdhhmoaa.N
set_option linter.unusedVariables false
set_option maxRecDepth 100000
open Go Go.Ab
-- function 6: plumbline/plumblinelaw03.ConvNeighbours
noncomputable def fi6 : FnI := ⟨6, Try.f6, []⟩
theorem en6 : Enters Try.prog 6 := enters_of Try.func6 (c := ((Try.f6).body.getD .skip)) (by kernel_rfl) (by kernel_rfl)
noncomputable def cx6 {R : Type} (k : Nat) : Cx R := mkCx Ty exts [(12, true, S12 k), (13, true, S13 k), (14, true, S14 k), (21, true, S21 k), (22, true, S22 k), (23, true, S23 k), (24, true, S24 k), (25, true, S25 k), (26, true, S26 k), (27, true, S27 k)] fi6 [] []
theorem cx6_ok {R : Type} (k : Nat) : CxOk Try.prog (cx6 k : Cx R) := mkCx_ok (c := ((Try.f6).body.getD .skip)) ty_ok mixed exts_ok (allSum_cons (S12_ok k) en12 (allSum_cons (S13_ok k) en13 (allSum_cons (S14_ok k) en14 (allSum_cons (S21_ok k) en21 (allSum_cons (S22_ok k) en22 (allSum_cons (S23_ok k) en23 (allSum_cons (S24_ok k) en24 (allSum_cons (S25_ok k) en25 (allSum_cons (S26_ok k) en26 (allSum_cons (S27_ok k) en27 allSum_nil)))))))))) Try.func6 en6 (by kernel_rfl) (by kernel_rfl) allLoop_nil allCut_nil
@[reducible] def plumblinelaw03_ConvNeighboursY (R : Type) : Type := Nat → Int → Int → (Bool → Option R) → Option R
noncomputable def plumblinelaw03_ConvNeighboursT {R : Type} (conv_Hex : conv_HexY R) (conv_Next : conv_NextY R) (conv_Plain : conv_PlainY R) (conv_Prev : conv_PrevY R) (plumblinelaw03_format : plumblinelaw03_formatY R) (plumblinelaw03_live : plumblinelaw03_liveY R) (plumblineref03_Hex : plumblineref03_HexY R) (plumblineref03_Next : plumblineref03_NextY R) (plumblineref03_Plain : plumblineref03_PlainY R) (plumblineref03_Prev : plumblineref03_PrevY R) (k : Nat) (a1 : Int) (a2 : Int) (K0 : Bool → Option R) : Option R :=
  plumblinelaw03_format k a1 (fun r1 =>
    plumblinelaw03_live k (fun r2 =>
      cond r2 (
        conv_Next k a1 a2 (fun r3 =>
          plumblineref03_Next k r1 a2 (fun r4 =>
            cond (r3 == r4) (
              conv_Prev k a1 a2 (fun r5 =>
                plumblineref03_Prev k r1 a2 (fun r6 =>
                  cond (r5 == r6) (
                    conv_Plain k a1 a2 (fun r7 =>
                      plumblineref03_Plain k r1 a2 (fun r8 =>
                        cond (r7 == r8) (
                          conv_Hex k a1 a2 (fun r9 =>
                            plumblineref03_Hex k r1 a2 (fun r10 =>
                              K0 (ByteArray.toList r9 == ByteArray.toList r10)))) (
                          K0 false)))) (
                    K0 false)))) (
              K0 false)))) (
        K0 false)))
noncomputable def plumblinelaw03_ConvNeighbours {R : Type} (k : Nat) (a1 : Int) (a2 : Int) (K0 : Bool → Option R) : Option R := plumblinelaw03_ConvNeighboursT conv_Hex conv_Next conv_Plain conv_Prev plumblinelaw03_format plumblinelaw03_live plumblineref03_Hex plumblineref03_Next plumblineref03_Plain plumblineref03_Prev k a1 a2 K0
theorem plumblinelaw03_ConvNeighbours_gen {R : Type} (plumblinelaw03_format : plumblinelaw03_formatY R) (conv_Hex : conv_HexY R) (plumblinelaw03_live : plumblinelaw03_liveY R) (conv_Next : conv_NextY R) (plumblineref03_Next : plumblineref03_NextY R) (conv_Prev : conv_PrevY R) (plumblineref03_Prev : plumblineref03_PrevY R) (conv_Plain : conv_PlainY R) (plumblineref03_Plain : plumblineref03_PlainY R) (plumblineref03_Hex : plumblineref03_HexY R) (k : Nat) (a1 : Int) (a2 : Int) (K : AV → Heap → Option R) :
    fnK (mkCx Ty exts [(12, true, S12G plumblinelaw03_format k), (13, true, S13G conv_Hex k), (14, true, S14G plumblinelaw03_live k), (21, true, S21G conv_Next k), (22, true, S22G plumblineref03_Next k), (23, true, S23G conv_Prev k), (24, true, S24G plumblineref03_Prev k), (25, true, S25G conv_Plain k), (26, true, S26G plumblineref03_Plain k), (27, true, S27G plumblineref03_Hex k)] fi6 [] []) 6 6 [.i .i64 a1, .i .u64 a2] ⟨0, []⟩ K = plumblinelaw03_ConvNeighboursT conv_Hex conv_Next conv_Plain conv_Prev plumblinelaw03_format plumblinelaw03_live plumblineref03_Hex plumblineref03_Next plumblineref03_Plain plumblineref03_Prev k a1 a2 (fun q1 => K (.b q1) ⟨0, []⟩) := by kernel_rfl
noncomputable def S6G {R : Type} (plumblinelaw03_ConvNeighbours : plumblinelaw03_ConvNeighboursY R) (k : Nat) : Sum R := fun args H K => match args, H with
  | [.i .i64 a1, .i .u64 a2], ⟨0, []⟩ => plumblinelaw03_ConvNeighbours k a1 a2 (fun q1 => K (.b q1) ⟨0, []⟩)
  | _, _ => none
noncomputable def S6 {R : Type} (k : Nat) : Sum R := S6G plumblinelaw03_ConvNeighbours k
theorem S6_ok0 {R : Type} (k : Nat) : SumOk Try.prog 6 false (S6 k : Sum R) := by
  intro args H K r h
  unfold S6 S6G at h
  split at h
  · exact fnK_sound (cx6_ok k) 6 6 _ _ K r ((plumblinelaw03_ConvNeighbours_gen plumblinelaw03_format conv_Hex plumblinelaw03_live conv_Next plumblineref03_Next conv_Prev plumblineref03_Prev conv_Plain plumblineref03_Plain plumblineref03_Hex k _ _ K).trans h)
  · cases h
theorem S6_ok {R : Type} (k : Nat) : SumOk Try.prog 6 true (S6 k : Sum R) := by
  refine sumOk_keep (S6_ok0 k) ?_
  intro args H K r h
  unfold S6 S6G at h ⊢
  split at h
  · refine Eq.trans ?_ h
    show plumblinelaw03_ConvNeighbours k _ _ _ = plumblinelaw03_ConvNeighbours k _ _ _
    congr 1
    all_goals first | exact (funext fun q1 => if_pos (keeps_app _ _ _ [])) | skip
  · cases h
end Go.Proofs.Ytelifkahdhhmoaa.N
