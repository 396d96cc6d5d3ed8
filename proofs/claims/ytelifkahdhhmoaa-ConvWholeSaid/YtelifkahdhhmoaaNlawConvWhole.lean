/- Printed by wip/gen/emit.py: functions of the program as plain Lean functions, tied to the model by the evaluator. Conditions: none. -/
import Derived.Test.YtelifkahdhhmoaaNconv
import Derived.Test.YtelifkahdhhmoaaNlaw
namespace Go.Proofs.Ytelifkahdhhmoaa.N
set_option linter.unusedVariables false
set_option maxRecDepth 100000
open Go Go.Ab
-- function 5: plumbline/plumblinelaw03.ConvWhole
noncomputable def fi5 : FnI := ⟨5, Try.f5, []⟩
theorem en5 : Enters Try.prog 5 := enters_of Try.func5 (c := ((Try.f5).body.getD .skip)) (by kernel_rfl) (by kernel_rfl)
noncomputable def cx5 {R : Type} (k : Nat) : Cx R := mkCx Ty exts [(14, true, S14 k), (15, true, S15 k), (17, true, S17 k), (19, false, S19 k), (20, true, S20 k)] fi5 [] []
theorem cx5_ok {R : Type} (k : Nat) : CxOk Try.prog (cx5 k : Cx R) := mkCx_ok (c := ((Try.f5).body.getD .skip)) ty_ok mixed exts_ok (allSum_cons (S14_ok k) en14 (allSum_cons (S15_ok k) en15 (allSum_cons (S17_ok k) en17 (allSum_cons (S19_ok k) en19 (allSum_cons (S20_ok k) en20 allSum_nil))))) Try.func5 en5 (by kernel_rfl) (by kernel_rfl) allLoop_nil allCut_nil
@[reducible] def plumblinelaw03_ConvWholeY (R : Type) : Type := Nat → Int → Int → (Bool → Option R) → Option R
noncomputable def plumblinelaw03_ConvWholeT {R : Type} (conv_FromInt : conv_FromIntY R) (conv_Int : conv_IntY R) (conv_Literal : conv_LiteralY R) (plumblinelaw03_digits : plumblinelaw03_digitsY R) (plumblinelaw03_live : plumblinelaw03_liveY R) (k : Nat) (a1 : Int) (a2 : Int) (K0 : Bool → Option R) : Option R :=
  plumblinelaw03_digits k (Wi64 a2) (fun r1 =>
    cond (Nat.ble (ByteArray.size r1 + ByteArray.size ⟨#[46, 48]⟩) 9223372036854775807) (
      conv_Literal k a1 (r1 ++ ⟨#[46, 48]⟩) (fun r2 r3 =>
        cond (Nat.ble (ByteArray.size ⟨#[48, 48]⟩ + ByteArray.size r1) 9223372036854775807) (
          cond (Nat.ble (ByteArray.size (⟨#[48, 48]⟩ ++ r1) + ByteArray.size ⟨#[46, 48, 48]⟩) 9223372036854775807) (
            conv_Literal k a1 ((⟨#[48, 48]⟩ ++ r1) ++ ⟨#[46, 48, 48]⟩) (fun r4 r5 =>
              conv_FromInt k a1 0 (Wi64 a2) (fun r6 =>
                conv_Int k r1 (fun r7 r8 =>
                  cond (decide (a2 > 2147483647)) (
                    plumblinelaw03_live k (fun r9 =>
                      cond r9 (
                        cond (r3 == 0) (
                          cond (r5 == 0) (
                            cond (r2 == r6) (
                              cond (r4 == r6) (
                                K0 (r8 == 2)) (
                                K0 false)) (
                              K0 false)) (
                            K0 false)) (
                          K0 false)) (
                        K0 false))) (
                    plumblinelaw03_live k (fun r10 =>
                      cond r10 (
                        cond (r3 == 0) (
                          cond (r5 == 0) (
                            cond (r2 == r6) (
                              cond (r4 == r6) (
                                cond (r8 == 0) (
                                  K0 (r7 == (Wi64 a2))) (
                                  K0 false)) (
                                K0 false)) (
                              K0 false)) (
                            K0 false)) (
                          K0 false)) (
                        K0 false))))))) (
            none)) (
          none))) (
      none))
noncomputable def plumblinelaw03_ConvWhole {R : Type} (k : Nat) (a1 : Int) (a2 : Int) (K0 : Bool → Option R) : Option R := plumblinelaw03_ConvWholeT conv_FromInt conv_Int conv_Literal plumblinelaw03_digits plumblinelaw03_live k a1 a2 K0
theorem plumblinelaw03_ConvWhole_gen {R : Type} (plumblinelaw03_live : plumblinelaw03_liveY R) (conv_Literal : conv_LiteralY R) (conv_Int : conv_IntY R) (plumblinelaw03_digits : plumblinelaw03_digitsY R) (conv_FromInt : conv_FromIntY R) (k : Nat) (a1 : Int) (a2 : Int) (K : AV → Heap → Option R) :
    fnK (mkCx Ty exts [(14, true, S14G plumblinelaw03_live k), (15, true, S15G conv_Literal k), (17, true, S17G conv_Int k), (19, false, S19G plumblinelaw03_digits k), (20, true, S20G conv_FromInt k)] fi5 [] []) 6 5 [.i .i64 a1, .i .u32 a2] ⟨0, []⟩ K = plumblinelaw03_ConvWholeT conv_FromInt conv_Int conv_Literal plumblinelaw03_digits plumblinelaw03_live k a1 a2 (fun q1 => K (.b q1) ⟨0, []⟩) := by kernel_rfl
noncomputable def S5G {R : Type} (plumblinelaw03_ConvWhole : plumblinelaw03_ConvWholeY R) (k : Nat) : Sum R := fun args H K => match args, H with
  | [.i .i64 a1, .i .u32 a2], ⟨0, []⟩ => plumblinelaw03_ConvWhole k a1 a2 (fun q1 => K (.b q1) ⟨0, []⟩)
  | _, _ => none
noncomputable def S5 {R : Type} (k : Nat) : Sum R := S5G plumblinelaw03_ConvWhole k
theorem S5_ok0 {R : Type} (k : Nat) : SumOk Try.prog 5 false (S5 k : Sum R) := by
  intro args H K r h
  unfold S5 S5G at h
  split at h
  · exact fnK_sound (cx5_ok k) 6 5 _ _ K r ((plumblinelaw03_ConvWhole_gen plumblinelaw03_live conv_Literal conv_Int plumblinelaw03_digits conv_FromInt k _ _ K).trans h)
  · cases h
theorem S5_ok {R : Type} (k : Nat) : SumOk Try.prog 5 true (S5 k : Sum R) := by
  refine sumOk_keep (S5_ok0 k) ?_
  intro args H K r h
  unfold S5 S5G at h ⊢
  split at h
  · refine Eq.trans ?_ h
    show plumblinelaw03_ConvWhole k _ _ _ = plumblinelaw03_ConvWhole k _ _ _
    congr 1
    all_goals first | exact (funext fun q1 => if_pos (keeps_app _ _ _ [])) | skip
  · cases h
end Go.Proofs.Ytelifkahdhhmoaa.N
