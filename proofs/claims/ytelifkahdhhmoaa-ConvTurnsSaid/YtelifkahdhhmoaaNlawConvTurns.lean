/- Printed by wip/gen/emit.py: functions of the program as plain Lean functions, tied to the model by the evaluator. Conditions: none. -/
import Derived.Test.YtelifkahdhhmoaaNconv
import Derived.Test.YtelifkahdhhmoaaNlaw
import Derived.Test.YtelifkahdhhmoaaNr03
namespace Go.Proofs.Ytelifkahdhhmoaa.N
set_option linter.unusedVariables false
set_option maxRecDepth 100000
open Go Go.Ab
-- function 8: plumbline/plumblinelaw03.ConvTurns
noncomputable def fi8 : FnI := ⟨8, Try.f8, []⟩
theorem en8 : Enters Try.prog 8 := enters_of Try.func8 (c := ((Try.f8).body.getD .skip)) (by kernel_rfl) (by kernel_rfl)
noncomputable def cx8 {R : Type} (k : Nat) : Cx R := mkCx Ty exts [(14, true, S14 k), (30, true, S30 k), (31, true, S31 k), (32, true, S32 k), (33, true, S33 k)] fi8 [] []
theorem cx8_ok {R : Type} (k : Nat) : CxOk Try.prog (cx8 k : Cx R) := mkCx_ok (c := ((Try.f8).body.getD .skip)) ty_ok mixed exts_ok (allSum_cons (S14_ok k) en14 (allSum_cons (S30_ok k) en30 (allSum_cons (S31_ok k) en31 (allSum_cons (S32_ok k) en32 (allSum_cons (S33_ok k) en33 allSum_nil))))) Try.func8 en8 (by kernel_rfl) (by kernel_rfl) allLoop_nil allCut_nil
@[reducible] def plumblinelaw03_ConvTurnsY (R : Type) : Type := Nat → Int → Int → (Bool → Option R) → Option R
noncomputable def plumblinelaw03_ConvTurnsT {R : Type} (conv_Narrow : conv_NarrowY R) (conv_Widen : conv_WidenY R) (plumblinelaw03_live : plumblinelaw03_liveY R) (plumblineref03_Narrow : plumblineref03_NarrowY R) (plumblineref03_Widen : plumblineref03_WidenY R) (k : Nat) (a1 : Int) (a2 : Int) (K0 : Bool → Option R) : Option R :=
  plumblinelaw03_live k (fun r1 =>
    cond r1 (
      conv_Widen k a2 (fun r2 =>
        plumblineref03_Widen k a2 (fun r3 =>
          cond (r2 == r3) (
            conv_Narrow k a1 a2 (fun r4 =>
              plumblineref03_Narrow k a1 a2 (fun r5 =>
                K0 (r4 == r5)))) (
            K0 false)))) (
      K0 false))
noncomputable def plumblinelaw03_ConvTurns {R : Type} (k : Nat) (a1 : Int) (a2 : Int) (K0 : Bool → Option R) : Option R := plumblinelaw03_ConvTurnsT conv_Narrow conv_Widen plumblinelaw03_live plumblineref03_Narrow plumblineref03_Widen k a1 a2 K0
theorem plumblinelaw03_ConvTurns_gen {R : Type} (plumblinelaw03_live : plumblinelaw03_liveY R) (conv_Widen : conv_WidenY R) (plumblineref03_Widen : plumblineref03_WidenY R) (conv_Narrow : conv_NarrowY R) (plumblineref03_Narrow : plumblineref03_NarrowY R) (k : Nat) (a1 : Int) (a2 : Int) (K : AV → Heap → Option R) :
    fnK (mkCx Ty exts [(14, true, S14G plumblinelaw03_live k), (30, true, S30G conv_Widen k), (31, true, S31G plumblineref03_Widen k), (32, true, S32G conv_Narrow k), (33, true, S33G plumblineref03_Narrow k)] fi8 [] []) 6 8 [.i .i64 a1, .i .u64 a2] ⟨0, []⟩ K = plumblinelaw03_ConvTurnsT conv_Narrow conv_Widen plumblinelaw03_live plumblineref03_Narrow plumblineref03_Widen k a1 a2 (fun q1 => K (.b q1) ⟨0, []⟩) := by kernel_rfl
noncomputable def S8G {R : Type} (plumblinelaw03_ConvTurns : plumblinelaw03_ConvTurnsY R) (k : Nat) : Sum R := fun args H K => match args, H with
  | [.i .i64 a1, .i .u64 a2], ⟨0, []⟩ => plumblinelaw03_ConvTurns k a1 a2 (fun q1 => K (.b q1) ⟨0, []⟩)
  | _, _ => none
noncomputable def S8 {R : Type} (k : Nat) : Sum R := S8G plumblinelaw03_ConvTurns k
theorem S8_ok0 {R : Type} (k : Nat) : SumOk Try.prog 8 false (S8 k : Sum R) := by
  intro args H K r h
  unfold S8 S8G at h
  split at h
  · exact fnK_sound (cx8_ok k) 6 8 _ _ K r ((plumblinelaw03_ConvTurns_gen plumblinelaw03_live conv_Widen plumblineref03_Widen conv_Narrow plumblineref03_Narrow k _ _ K).trans h)
  · cases h
theorem S8_ok {R : Type} (k : Nat) : SumOk Try.prog 8 true (S8 k : Sum R) := by
  refine sumOk_keep (S8_ok0 k) ?_
  intro args H K r h
  unfold S8 S8G at h ⊢
  split at h
  · refine Eq.trans ?_ h
    show plumblinelaw03_ConvTurns k _ _ _ = plumblinelaw03_ConvTurns k _ _ _
    congr 1
    all_goals first | exact (funext fun q1 => if_pos (keeps_app _ _ _ [])) | skip
  · cases h
end Go.Proofs.Ytelifkahdhhmoaa.N
