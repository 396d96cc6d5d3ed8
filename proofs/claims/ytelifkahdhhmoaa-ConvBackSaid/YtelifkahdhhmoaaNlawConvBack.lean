/- Printed by wip/gen/emit.py: functions of the program as plain Lean functions, tied to the model by the evaluator. Conditions: none. -/
import Derived.Test.YtelifkahdhhmoaaNconv
import Derived.Test.YtelifkahdhhmoaaNlaw
import Derived.Test.YtelifkahdhhmoaaNr02
import Derived.Test.YtelifkahdhhmoaaNsoft
namespace Go.Proofs.Ytelifkahdhhmoaa.N
set_option linter.unusedVariables false
set_option maxRecDepth 100000
open Go Go.Ab
-- function 11: plumbline/plumblinelaw03.ConvBack
noncomputable def fi11 : FnI := ⟨11, Try.f11, []⟩
theorem en11 : Enters Try.prog 11 := enters_of Try.func11 (c := ((Try.f11).body.getD .skip)) (by kernel_rfl) (by kernel_rfl)
noncomputable def cx11 {R : Type} (k : Nat) : Cx R := mkCx Ty exts [(14, true, S14 k), (20, true, S20 k), (30, true, S30 k), (32, true, S32 k), (34, true, S34 k), (38, true, S38 k), (40, true, S40 k)] fi11 [] []
theorem cx11_ok {R : Type} (k : Nat) : CxOk Try.prog (cx11 k : Cx R) := mkCx_ok (c := ((Try.f11).body.getD .skip)) ty_ok mixed exts_ok (allSum_cons (S14_ok k) en14 (allSum_cons (S20_ok k) en20 (allSum_cons (S30_ok k) en30 (allSum_cons (S32_ok k) en32 (allSum_cons (S34_ok k) en34 (allSum_cons (S38_ok k) en38 (allSum_cons (S40_ok k) en40 allSum_nil))))))) Try.func11 en11 (by kernel_rfl) (by kernel_rfl) allLoop_nil allCut_nil
@[reducible] def plumblinelaw03_ConvBackY (R : Type) : Type := Nat → Int → Int → Int → (Bool → Option R) → Option R
noncomputable def plumblinelaw03_ConvBackT {R : Type} (conv_FromInt : conv_FromIntY R) (conv_Narrow : conv_NarrowY R) (conv_ToInt : conv_ToIntY R) (conv_Widen : conv_WidenY R) (plumblinelaw03_live : plumblinelaw03_liveY R) (plumblineref02_Class : plumblineref02_ClassY R) (soft_Nan : soft_NanY R) (k : Nat) (a1 : Int) (a2 : Int) (a3 : Int) (K0 : Bool → Option R) : Option R :=
  conv_Widen k (Int.tmod a2 4294967296) (fun r1 =>
    conv_Narrow k a1 r1 (fun r2 =>
      conv_FromInt k 0 a1 (Wi64 a3) (fun r3 =>
        conv_ToInt k 0 r3 (fun r4 r5 =>
          plumblineref02_Class k 1 (Int.tmod a2 4294967296) (fun r6 =>
            cond (r6 == 5) (
              soft_Nan k 1 (fun r7 =>
                plumblinelaw03_live k (fun r8 =>
                  cond r8 (
                    cond (r2 == r7) (
                      cond r5 (
                        K0 (r4 == (Wi64 a3))) (
                        K0 false)) (
                      K0 false)) (
                    K0 false)))) (
              plumblinelaw03_live k (fun r9 =>
                cond r9 (
                  cond (r2 == (Int.tmod a2 4294967296)) (
                    cond r5 (
                      K0 (r4 == (Wi64 a3))) (
                      K0 false)) (
                    K0 false)) (
                  K0 false))))))))
noncomputable def plumblinelaw03_ConvBack {R : Type} (k : Nat) (a1 : Int) (a2 : Int) (a3 : Int) (K0 : Bool → Option R) : Option R := plumblinelaw03_ConvBackT conv_FromInt conv_Narrow conv_ToInt conv_Widen plumblinelaw03_live plumblineref02_Class soft_Nan k a1 a2 a3 K0
theorem plumblinelaw03_ConvBack_gen {R : Type} (plumblinelaw03_live : plumblinelaw03_liveY R) (conv_FromInt : conv_FromIntY R) (conv_Widen : conv_WidenY R) (conv_Narrow : conv_NarrowY R) (conv_ToInt : conv_ToIntY R) (soft_Nan : soft_NanY R) (plumblineref02_Class : plumblineref02_ClassY R) (k : Nat) (a1 : Int) (a2 : Int) (a3 : Int) (K : AV → Heap → Option R) :
    fnK (mkCx Ty exts [(14, true, S14G plumblinelaw03_live k), (20, true, S20G conv_FromInt k), (30, true, S30G conv_Widen k), (32, true, S32G conv_Narrow k), (34, true, S34G conv_ToInt k), (38, true, S38G soft_Nan k), (40, true, S40G plumblineref02_Class k)] fi11 [] []) 6 11 [.i .i64 a1, .i .u64 a2, .i .i32 a3] ⟨0, []⟩ K = plumblinelaw03_ConvBackT conv_FromInt conv_Narrow conv_ToInt conv_Widen plumblinelaw03_live plumblineref02_Class soft_Nan k a1 a2 a3 (fun q1 => K (.b q1) ⟨0, []⟩) := by kernel_rfl
noncomputable def S11G {R : Type} (plumblinelaw03_ConvBack : plumblinelaw03_ConvBackY R) (k : Nat) : Sum R := fun args H K => match args, H with
  | [.i .i64 a1, .i .u64 a2, .i .i32 a3], ⟨0, []⟩ => plumblinelaw03_ConvBack k a1 a2 a3 (fun q1 => K (.b q1) ⟨0, []⟩)
  | _, _ => none
noncomputable def S11 {R : Type} (k : Nat) : Sum R := S11G plumblinelaw03_ConvBack k
theorem S11_ok0 {R : Type} (k : Nat) : SumOk Try.prog 11 false (S11 k : Sum R) := by
  intro args H K r h
  unfold S11 S11G at h
  split at h
  · exact fnK_sound (cx11_ok k) 6 11 _ _ K r ((plumblinelaw03_ConvBack_gen plumblinelaw03_live conv_FromInt conv_Widen conv_Narrow conv_ToInt soft_Nan plumblineref02_Class k _ _ _ K).trans h)
  · cases h
theorem S11_ok {R : Type} (k : Nat) : SumOk Try.prog 11 true (S11 k : Sum R) := by
  refine sumOk_keep (S11_ok0 k) ?_
  intro args H K r h
  unfold S11 S11G at h ⊢
  split at h
  · refine Eq.trans ?_ h
    show plumblinelaw03_ConvBack k _ _ _ _ = plumblinelaw03_ConvBack k _ _ _ _
    congr 1
    all_goals first | exact (funext fun q1 => if_pos (keeps_app _ _ _ [])) | skip
  · cases h
end Go.Proofs.Ytelifkahdhhmoaa.N
