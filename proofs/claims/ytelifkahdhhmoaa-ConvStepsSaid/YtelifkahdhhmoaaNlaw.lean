/- Printed by wip/gen/emit.py: functions of the program as plain Lean functions, tied to the model by the evaluator. Conditions: none. -/
import Derived.Test.YtelifkahdhhmoaaNconv
namespace Go.Proofs.Ytelifkahdhhmoaa.N
set_option linter.unusedVariables false
set_option maxRecDepth 100000
open Go Go.Ab
-- function 14: plumbline/plumblinelaw03.live
noncomputable def fi14 : FnI := ⟨14, Try.f14, []⟩
theorem en14 : Enters Try.prog 14 := enters_of Try.func14 (c := ((Try.f14).body.getD .skip)) (by kernel_rfl) (by kernel_rfl)
noncomputable def cx14 {R : Type} (k : Nat) : Cx R := mkCx Ty exts [(13, true, S13 k), (15, true, S15 k), (20, true, S20 k), (21, true, S21 k)] fi14 [] []
theorem cx14_ok {R : Type} (k : Nat) : CxOk Try.prog (cx14 k : Cx R) := mkCx_ok (c := ((Try.f14).body.getD .skip)) ty_ok mixed exts_ok (allSum_cons (S13_ok k) en13 (allSum_cons (S15_ok k) en15 (allSum_cons (S20_ok k) en20 (allSum_cons (S21_ok k) en21 allSum_nil)))) Try.func14 en14 (by kernel_rfl) (by kernel_rfl) allLoop_nil allCut_nil
@[reducible] def plumblinelaw03_liveY (R : Type) : Type := Nat → (Bool → Option R) → Option R
noncomputable def plumblinelaw03_liveT {R : Type} (conv_FromInt : conv_FromIntY R) (conv_Hex : conv_HexY R) (conv_Literal : conv_LiteralY R) (conv_Next : conv_NextY R) (k : Nat) (K0 : Bool → Option R) : Option R :=
  conv_Literal k 0 ⟨#[48, 46, 49]⟩ (fun r1 r2 =>
    cond (r2 == 0) (
      cond (r1 == 4591870180066957722) (
        conv_FromInt k 1 0 3 (fun r3 =>
          cond (r3 == 1077936128) (
            conv_Next k 1 0 (fun r4 =>
              conv_Hex k 1 r4 (fun r5 =>
                K0 (ByteArray.toList r5 == ByteArray.toList ⟨#[48, 48, 48, 48, 48, 48, 48, 49]⟩)))) (
            K0 false))) (
        K0 false)) (
      K0 false))
noncomputable def plumblinelaw03_live {R : Type} (k : Nat) (K0 : Bool → Option R) : Option R := plumblinelaw03_liveT conv_FromInt conv_Hex conv_Literal conv_Next k K0
theorem plumblinelaw03_live_gen {R : Type} (conv_Hex : conv_HexY R) (conv_Literal : conv_LiteralY R) (conv_FromInt : conv_FromIntY R) (conv_Next : conv_NextY R) (k : Nat) (K : AV → Heap → Option R) :
    fnK (mkCx Ty exts [(13, true, S13G conv_Hex k), (15, true, S15G conv_Literal k), (20, true, S20G conv_FromInt k), (21, true, S21G conv_Next k)] fi14 [] []) 6 14 [] ⟨0, []⟩ K = plumblinelaw03_liveT conv_FromInt conv_Hex conv_Literal conv_Next k (fun q1 => K (.b q1) ⟨0, []⟩) := by kernel_rfl
noncomputable def S14G {R : Type} (plumblinelaw03_live : plumblinelaw03_liveY R) (k : Nat) : Sum R := fun args H K => match args, H with
  | [], ⟨0, []⟩ => plumblinelaw03_live k (fun q1 => K (.b q1) ⟨0, []⟩)
  | _, _ => none
noncomputable def S14 {R : Type} (k : Nat) : Sum R := S14G plumblinelaw03_live k
theorem S14_ok0 {R : Type} (k : Nat) : SumOk Try.prog 14 false (S14 k : Sum R) := by
  intro args H K r h
  unfold S14 S14G at h
  split at h
  · exact fnK_sound (cx14_ok k) 6 14 _ _ K r ((plumblinelaw03_live_gen conv_Hex conv_Literal conv_FromInt conv_Next k K).trans h)
  · cases h
theorem S14_ok {R : Type} (k : Nat) : SumOk Try.prog 14 true (S14 k : Sum R) := by
  refine sumOk_keep (S14_ok0 k) ?_
  intro args H K r h
  unfold S14 S14G at h ⊢
  split at h
  · refine Eq.trans ?_ h
    show plumblinelaw03_live k _ = plumblinelaw03_live k _
    congr 1
    all_goals first | exact (funext fun q1 => if_pos (keeps_app _ _ _ [])) | skip
  · cases h
-- function 12: plumbline/plumblinelaw03.format
noncomputable def fi12 : FnI := ⟨12, Try.f12, []⟩
theorem en12 : Enters Try.prog 12 := enters_of Try.func12 (c := ((Try.f12).body.getD .skip)) (by kernel_rfl) (by kernel_rfl)
noncomputable def cx12 {R : Type} (k : Nat) : Cx R := mkCx Ty exts [] fi12 [] []
theorem cx12_ok {R : Type} (k : Nat) : CxOk Try.prog (cx12 k : Cx R) := mkCx_ok (c := ((Try.f12).body.getD .skip)) ty_ok mixed exts_ok allSum_nil Try.func12 en12 (by kernel_rfl) (by kernel_rfl) allLoop_nil allCut_nil
@[reducible] def plumblinelaw03_formatY (R : Type) : Type := Nat → Int → (Int → Option R) → Option R
noncomputable def plumblinelaw03_formatT {R : Type} (k : Nat) (a1 : Int) (K0 : Int → Option R) : Option R :=
  cond (a1 == 1) (
    K0 a1) (
    K0 0)
noncomputable def plumblinelaw03_format {R : Type} (k : Nat) (a1 : Int) (K0 : Int → Option R) : Option R := plumblinelaw03_formatT k a1 K0
theorem plumblinelaw03_format_gen {R : Type} (k : Nat) (a1 : Int) (K : AV → Heap → Option R) :
    fnK (mkCx Ty exts [] fi12 [] []) 6 12 [.i .i64 a1] ⟨0, []⟩ K = plumblinelaw03_formatT k a1 (fun q1 => K (.i .i64 q1) ⟨0, []⟩) := by kernel_rfl
noncomputable def S12G {R : Type} (plumblinelaw03_format : plumblinelaw03_formatY R) (k : Nat) : Sum R := fun args H K => match args, H with
  | [.i .i64 a1], ⟨0, []⟩ => plumblinelaw03_format k a1 (fun q1 => K (.i .i64 q1) ⟨0, []⟩)
  | _, _ => none
noncomputable def S12 {R : Type} (k : Nat) : Sum R := S12G plumblinelaw03_format k
theorem S12_ok0 {R : Type} (k : Nat) : SumOk Try.prog 12 false (S12 k : Sum R) := by
  intro args H K r h
  unfold S12 S12G at h
  split at h
  · exact fnK_sound (cx12_ok k) 6 12 _ _ K r ((plumblinelaw03_format_gen k _ K).trans h)
  · cases h
theorem S12_ok {R : Type} (k : Nat) : SumOk Try.prog 12 true (S12 k : Sum R) := by
  refine sumOk_keep (S12_ok0 k) ?_
  intro args H K r h
  unfold S12 S12G at h ⊢
  split at h
  · refine Eq.trans ?_ h
    show plumblinelaw03_format k _ _ = plumblinelaw03_format k _ _
    congr 1
    all_goals first | exact (funext fun q1 => if_pos (keeps_app _ _ _ [])) | skip
  · cases h
end Go.Proofs.Ytelifkahdhhmoaa.N
