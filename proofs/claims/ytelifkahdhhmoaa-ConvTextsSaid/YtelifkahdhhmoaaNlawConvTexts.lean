/- Printed by wip/gen/emit.py: functions of the program as plain Lean functions, tied to the model by the evaluator. Conditions: none. -/
import Derived.Test.YtelifkahdhhmoaaNconv
import Derived.Test.YtelifkahdhhmoaaNlaw
import Derived.Test.YtelifkahdhhmoaaNr03
namespace Go.Proofs.Ytelifkahdhhmoaa.N
set_option linter.unusedVariables false
set_option maxRecDepth 100000
open Go Go.Ab
-- function 4: plumbline/plumblinelaw03.ConvTexts
noncomputable def fi4 : FnI := ⟨4, Try.f4, []⟩
theorem en4 : Enters Try.prog 4 := enters_of Try.func4 (c := ((Try.f4).body.getD .skip)) (by kernel_rfl) (by kernel_rfl)
noncomputable def cx4 {R : Type} (k : Nat) : Cx R := mkCx Ty exts [(12, true, S12 k), (14, true, S14 k), (15, true, S15 k), (16, true, S16 k), (17, true, S17 k), (18, true, S18 k)] fi4 [] []
theorem cx4_ok {R : Type} (k : Nat) : CxOk Try.prog (cx4 k : Cx R) := mkCx_ok (c := ((Try.f4).body.getD .skip)) ty_ok mixed exts_ok (allSum_cons (S12_ok k) en12 (allSum_cons (S14_ok k) en14 (allSum_cons (S15_ok k) en15 (allSum_cons (S16_ok k) en16 (allSum_cons (S17_ok k) en17 (allSum_cons (S18_ok k) en18 allSum_nil)))))) Try.func4 en4 (by kernel_rfl) (by kernel_rfl) allLoop_nil allCut_nil
@[reducible] def plumblinelaw03_ConvTextsY (R : Type) : Type := Nat → Int → ByteArray → (Bool → Option R) → Option R
noncomputable def plumblinelaw03_ConvTextsT {R : Type} (conv_Int : conv_IntY R) (conv_Literal : conv_LiteralY R) (plumblinelaw03_format : plumblinelaw03_formatY R) (plumblinelaw03_live : plumblinelaw03_liveY R) (plumblineref03_Int : plumblineref03_IntY R) (plumblineref03_Literal : plumblineref03_LiteralY R) (k : Nat) (a1 : Int) (a2 : ByteArray) (K0 : Bool → Option R) : Option R :=
  conv_Literal k a1 a2 (fun r1 r2 =>
    plumblinelaw03_format k a1 (fun r3 =>
      plumblineref03_Literal k r3 a2 (fun r4 r5 =>
        conv_Int k a2 (fun r6 r7 =>
          plumblineref03_Int k a2 (fun r8 r9 =>
            plumblinelaw03_live k (fun r10 =>
              cond r10 (
                cond (r1 == r4) (
                  cond (r2 == r5) (
                    cond (r6 == r8) (
                      K0 (r7 == r9)) (
                      K0 false)) (
                    K0 false)) (
                  K0 false)) (
                K0 false)))))))
noncomputable def plumblinelaw03_ConvTexts {R : Type} (k : Nat) (a1 : Int) (a2 : ByteArray) (K0 : Bool → Option R) : Option R := plumblinelaw03_ConvTextsT conv_Int conv_Literal plumblinelaw03_format plumblinelaw03_live plumblineref03_Int plumblineref03_Literal k a1 a2 K0
theorem plumblinelaw03_ConvTexts_gen {R : Type} (plumblinelaw03_format : plumblinelaw03_formatY R) (plumblinelaw03_live : plumblinelaw03_liveY R) (conv_Literal : conv_LiteralY R) (plumblineref03_Literal : plumblineref03_LiteralY R) (conv_Int : conv_IntY R) (plumblineref03_Int : plumblineref03_IntY R) (k : Nat) (a1 : Int) (a2 : ByteArray) (K : AV → Heap → Option R) :
    fnK (mkCx Ty exts [(12, true, S12G plumblinelaw03_format k), (14, true, S14G plumblinelaw03_live k), (15, true, S15G conv_Literal k), (16, true, S16G plumblineref03_Literal k), (17, true, S17G conv_Int k), (18, true, S18G plumblineref03_Int k)] fi4 [] []) 6 4 [.i .i64 a1, .s a2] ⟨0, []⟩ K = plumblinelaw03_ConvTextsT conv_Int conv_Literal plumblinelaw03_format plumblinelaw03_live plumblineref03_Int plumblineref03_Literal k a1 a2 (fun q1 => K (.b q1) ⟨0, []⟩) := by kernel_rfl
noncomputable def S4G {R : Type} (plumblinelaw03_ConvTexts : plumblinelaw03_ConvTextsY R) (k : Nat) : Sum R := fun args H K => match args, H with
  | [.i .i64 a1, .s a2], ⟨0, []⟩ => plumblinelaw03_ConvTexts k a1 a2 (fun q1 => K (.b q1) ⟨0, []⟩)
  | _, _ => none
noncomputable def S4 {R : Type} (k : Nat) : Sum R := S4G plumblinelaw03_ConvTexts k
theorem S4_ok0 {R : Type} (k : Nat) : SumOk Try.prog 4 false (S4 k : Sum R) := by
  intro args H K r h
  unfold S4 S4G at h
  split at h
  · exact fnK_sound (cx4_ok k) 6 4 _ _ K r ((plumblinelaw03_ConvTexts_gen plumblinelaw03_format plumblinelaw03_live conv_Literal plumblineref03_Literal conv_Int plumblineref03_Int k _ _ K).trans h)
  · cases h
theorem S4_ok {R : Type} (k : Nat) : SumOk Try.prog 4 true (S4 k : Sum R) := by
  refine sumOk_keep (S4_ok0 k) ?_
  intro args H K r h
  unfold S4 S4G at h ⊢
  split at h
  · refine Eq.trans ?_ h
    show plumblinelaw03_ConvTexts k _ _ _ = plumblinelaw03_ConvTexts k _ _ _
    congr 1
    all_goals first | exact (funext fun q1 => if_pos (keeps_app _ _ _ [])) | skip
  · cases h
end Go.Proofs.Ytelifkahdhhmoaa.N
