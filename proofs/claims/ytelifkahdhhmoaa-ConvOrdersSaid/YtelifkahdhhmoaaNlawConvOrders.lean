/- Printed by wip/gen/emit.py: functions of the program as plain Lean functions, tied to the model by the evaluator. Conditions: none. -/
import Derived.Test.YtelifkahdhhmoaaNconv
import Derived.Test.YtelifkahdhhmoaaNlaw
import Derived.Test.YtelifkahdhhmoaaNsoft
namespace Go.Proofs.Ytelifkahdhhmoaa.N
set_option linter.unusedVariables false
set_option maxRecDepth 100000
open Go Go.Ab
-- function 7: plumbline/plumblinelaw03.ConvOrders
noncomputable def fi7 : FnI := ⟨7, Try.f7, []⟩
theorem en7 : Enters Try.prog 7 := enters_of Try.func7 (c := ((Try.f7).body.getD .skip)) (by kernel_rfl) (by kernel_rfl)
noncomputable def cx7 {R : Type} (k : Nat) : Cx R := mkCx Ty exts [(14, true, S14 k), (15, true, S15 k), (28, true, S28 k), (29, true, S29 k)] fi7 [] []
theorem cx7_ok {R : Type} (k : Nat) : CxOk Try.prog (cx7 k : Cx R) := mkCx_ok (c := ((Try.f7).body.getD .skip)) ty_ok mixed exts_ok (allSum_cons (S14_ok k) en14 (allSum_cons (S15_ok k) en15 (allSum_cons (S28_ok k) en28 (allSum_cons (S29_ok k) en29 allSum_nil)))) Try.func7 en7 (by kernel_rfl) (by kernel_rfl) allLoop_nil allCut_nil
@[reducible] def plumblinelaw03_ConvOrdersY (R : Type) : Type := Nat → Int → Int → Int → (Bool → Option R) → Option R
noncomputable def plumblinelaw03_ConvOrdersT {R : Type} (conv_Literal : conv_LiteralY R) (plumblinelaw03_live : plumblinelaw03_liveY R) (plumblinelaw03_places : plumblinelaw03_placesY R) (soft_Compare : soft_CompareY R) (k : Nat) (a1 : Int) (a2 : Int) (a3 : Int) (K0 : Bool → Option R) : Option R :=
  cond (decide (a2 > a3)) (
    plumblinelaw03_places k a3 (fun r1 =>
      conv_Literal k a1 r1 (fun r2 r3 =>
        plumblinelaw03_places k a2 (fun r4 =>
          conv_Literal k a1 r4 (fun r5 r6 =>
            soft_Compare k a1 r2 r5 (fun r7 r8 =>
              plumblinelaw03_live k (fun r9 =>
                cond r9 (
                  cond (r3 == 0) (
                    cond (r6 == 0) (
                      cond r8 (
                        K0 (decide (r7 ≤ 0))) (
                        K0 false)) (
                      K0 false)) (
                    K0 false)) (
                  K0 false)))))))) (
    plumblinelaw03_places k a2 (fun r10 =>
      conv_Literal k a1 r10 (fun r11 r12 =>
        plumblinelaw03_places k a3 (fun r13 =>
          conv_Literal k a1 r13 (fun r14 r15 =>
            soft_Compare k a1 r11 r14 (fun r16 r17 =>
              plumblinelaw03_live k (fun r18 =>
                cond r18 (
                  cond (r12 == 0) (
                    cond (r15 == 0) (
                      cond r17 (
                        K0 (decide (r16 ≤ 0))) (
                        K0 false)) (
                      K0 false)) (
                    K0 false)) (
                  K0 false))))))))
noncomputable def plumblinelaw03_ConvOrders {R : Type} (k : Nat) (a1 : Int) (a2 : Int) (a3 : Int) (K0 : Bool → Option R) : Option R := plumblinelaw03_ConvOrdersT conv_Literal plumblinelaw03_live plumblinelaw03_places soft_Compare k a1 a2 a3 K0
theorem plumblinelaw03_ConvOrders_gen {R : Type} (plumblinelaw03_live : plumblinelaw03_liveY R) (conv_Literal : conv_LiteralY R) (plumblinelaw03_places : plumblinelaw03_placesY R) (soft_Compare : soft_CompareY R) (k : Nat) (a1 : Int) (a2 : Int) (a3 : Int) (K : AV → Heap → Option R) :
    fnK (mkCx Ty exts [(14, true, S14G plumblinelaw03_live k), (15, true, S15G conv_Literal k), (28, true, S28G plumblinelaw03_places k), (29, true, S29G soft_Compare k)] fi7 [] []) 6 7 [.i .i64 a1, .i .u32 a2, .i .u32 a3] ⟨0, []⟩ K = plumblinelaw03_ConvOrdersT conv_Literal plumblinelaw03_live plumblinelaw03_places soft_Compare k a1 a2 a3 (fun q1 => K (.b q1) ⟨0, []⟩) := by kernel_rfl
noncomputable def S7G {R : Type} (plumblinelaw03_ConvOrders : plumblinelaw03_ConvOrdersY R) (k : Nat) : Sum R := fun args H K => match args, H with
  | [.i .i64 a1, .i .u32 a2, .i .u32 a3], ⟨0, []⟩ => plumblinelaw03_ConvOrders k a1 a2 a3 (fun q1 => K (.b q1) ⟨0, []⟩)
  | _, _ => none
noncomputable def S7 {R : Type} (k : Nat) : Sum R := S7G plumblinelaw03_ConvOrders k
theorem S7_ok0 {R : Type} (k : Nat) : SumOk Try.prog 7 false (S7 k : Sum R) := by
  intro args H K r h
  unfold S7 S7G at h
  split at h
  · exact fnK_sound (cx7_ok k) 6 7 _ _ K r ((plumblinelaw03_ConvOrders_gen plumblinelaw03_live conv_Literal plumblinelaw03_places soft_Compare k _ _ _ K).trans h)
  · cases h
theorem S7_ok {R : Type} (k : Nat) : SumOk Try.prog 7 true (S7 k : Sum R) := by
  refine sumOk_keep (S7_ok0 k) ?_
  intro args H K r h
  unfold S7 S7G at h ⊢
  split at h
  · refine Eq.trans ?_ h
    show plumblinelaw03_ConvOrders k _ _ _ _ = plumblinelaw03_ConvOrders k _ _ _ _
    congr 1
    all_goals first | exact (funext fun q1 => if_pos (keeps_app _ _ _ [])) | skip
  · cases h
end Go.Proofs.Ytelifkahdhhmoaa.N
