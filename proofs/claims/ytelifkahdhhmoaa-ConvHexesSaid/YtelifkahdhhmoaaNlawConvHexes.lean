/- Printed by wip/gen/emit.py: functions of the program as plain Lean functions, tied to the model by the evaluator. Conditions: none. -/
import Derived.Test.YtelifkahdhhmoaaNconv
import Derived.Test.YtelifkahdhhmoaaNlaw
namespace Go.Proofs.Ytelifkahdhhmoaa.N
set_option linter.unusedVariables false
set_option maxRecDepth 100000
open Go Go.Ab
-- function 3: plumbline/plumblinelaw03.ConvHexes
noncomputable def fi3 : FnI := ⟨3, Try.f3, []⟩
theorem en3 : Enters Try.prog 3 := enters_of Try.func3 (c := ((Try.f3).body.getD .skip)) (by kernel_rfl) (by kernel_rfl)
noncomputable def cx3 {R : Type} (k : Nat) : Cx R := mkCx Ty exts [(12, true, S12 k), (13, true, S13 k), (14, true, S14 k)] fi3 [] []
theorem cx3_ok {R : Type} (k : Nat) : CxOk Try.prog (cx3 k : Cx R) := mkCx_ok (c := ((Try.f3).body.getD .skip)) ty_ok mixed exts_ok (allSum_cons (S12_ok k) en12 (allSum_cons (S13_ok k) en13 (allSum_cons (S14_ok k) en14 allSum_nil))) Try.func3 en3 (by kernel_rfl) (by kernel_rfl) allLoop_nil allCut_nil
@[reducible] def plumblinelaw03_ConvHexesY (R : Type) : Type := Nat → Int → Int → Int → (Bool → Option R) → Option R
noncomputable def plumblinelaw03_ConvHexesT {R : Type} (conv_Hex : conv_HexY R) (plumblinelaw03_format : plumblinelaw03_formatY R) (plumblinelaw03_live : plumblinelaw03_liveY R) (k : Nat) (a1 : Int) (a2 : Int) (a3 : Int) (K0 : Bool → Option R) : Option R :=
  plumblinelaw03_format k a1 (fun r1 =>
    cond (r1 == 1) (
      conv_Hex k r1 (Int.tmod a2 4294967296) (fun r2 =>
        conv_Hex k r1 (Int.tmod a3 4294967296) (fun r3 =>
          plumblinelaw03_live k (fun r4 =>
            cond r4 (
              cond ((ByteArray.toList r2 == ByteArray.toList r3) == ((Int.tmod a2 4294967296) == (Int.tmod a3 4294967296))) (
                cond (((ByteArray.size r2 : Nat) : Int) == 8) (
                  K0 (((ByteArray.size r3 : Nat) : Int) == 8)) (
                  K0 false)) (
                K0 false)) (
              K0 false))))) (
      conv_Hex k r1 a2 (fun r5 =>
        conv_Hex k r1 a3 (fun r6 =>
          plumblinelaw03_live k (fun r7 =>
            cond r7 (
              cond ((ByteArray.toList r5 == ByteArray.toList r6) == (a2 == a3)) (
                cond (((ByteArray.size r5 : Nat) : Int) == 16) (
                  K0 (((ByteArray.size r6 : Nat) : Int) == 16)) (
                  K0 false)) (
                K0 false)) (
              K0 false))))))
noncomputable def plumblinelaw03_ConvHexes {R : Type} (k : Nat) (a1 : Int) (a2 : Int) (a3 : Int) (K0 : Bool → Option R) : Option R := plumblinelaw03_ConvHexesT conv_Hex plumblinelaw03_format plumblinelaw03_live k a1 a2 a3 K0
theorem plumblinelaw03_ConvHexes_gen {R : Type} (plumblinelaw03_format : plumblinelaw03_formatY R) (conv_Hex : conv_HexY R) (plumblinelaw03_live : plumblinelaw03_liveY R) (k : Nat) (a1 : Int) (a2 : Int) (a3 : Int) (K : AV → Heap → Option R) :
    fnK (mkCx Ty exts [(12, true, S12G plumblinelaw03_format k), (13, true, S13G conv_Hex k), (14, true, S14G plumblinelaw03_live k)] fi3 [] []) 6 3 [.i .i64 a1, .i .u64 a2, .i .u64 a3] ⟨0, []⟩ K = plumblinelaw03_ConvHexesT conv_Hex plumblinelaw03_format plumblinelaw03_live k a1 a2 a3 (fun q1 => K (.b q1) ⟨0, []⟩) := by kernel_rfl
noncomputable def S3G {R : Type} (plumblinelaw03_ConvHexes : plumblinelaw03_ConvHexesY R) (k : Nat) : Sum R := fun args H K => match args, H with
  | [.i .i64 a1, .i .u64 a2, .i .u64 a3], ⟨0, []⟩ => plumblinelaw03_ConvHexes k a1 a2 a3 (fun q1 => K (.b q1) ⟨0, []⟩)
  | _, _ => none
noncomputable def S3 {R : Type} (k : Nat) : Sum R := S3G plumblinelaw03_ConvHexes k
theorem S3_ok0 {R : Type} (k : Nat) : SumOk Try.prog 3 false (S3 k : Sum R) := by
  intro args H K r h
  unfold S3 S3G at h
  split at h
  · exact fnK_sound (cx3_ok k) 6 3 _ _ K r ((plumblinelaw03_ConvHexes_gen plumblinelaw03_format conv_Hex plumblinelaw03_live k _ _ _ K).trans h)
  · cases h
theorem S3_ok {R : Type} (k : Nat) : SumOk Try.prog 3 true (S3 k : Sum R) := by
  refine sumOk_keep (S3_ok0 k) ?_
  intro args H K r h
  unfold S3 S3G at h ⊢
  split at h
  · refine Eq.trans ?_ h
    show plumblinelaw03_ConvHexes k _ _ _ _ = plumblinelaw03_ConvHexes k _ _ _ _
    congr 1
    all_goals first | exact (funext fun q1 => if_pos (keeps_app _ _ _ [])) | skip
  · cases h
end Go.Proofs.Ytelifkahdhhmoaa.N
