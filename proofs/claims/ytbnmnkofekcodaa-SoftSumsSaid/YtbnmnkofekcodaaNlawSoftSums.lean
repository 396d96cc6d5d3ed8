/- Printed by wip/gen/emit.py: functions of the program as plain Lean functions, tied to the model by the evaluator. Conditions: none. -/
import Derived.Test.YtbnmnkofekcodaaNlaw
import Derived.Test.YtbnmnkofekcodaaNr02x2
import Derived.Test.YtbnmnkofekcodaaNsoft
namespace Go.Proofs.Ytbnmnkofekcodaa.N
set_option linter.unusedVariables false
set_option maxRecDepth 100000
open Go Go.Ab
-- function 4: plumbline/plumblinelaw02.SoftSums
noncomputable def fi4 : FnI := ⟨4, Try.f4, []⟩
theorem en4 : Enters Try.prog 4 := enters_of Try.func4 (c := ((Try.f4).body.getD .skip)) (by kernel_rfl) (by kernel_rfl)
noncomputable def cx4 {R : Type} (k : Nat) : Cx R := mkCx Ty exts [(14, true, S14 k), (17, true, S17 k), (18, true, S18 k), (19, true, S19 k), (20, true, S20 k), (21, true, S21 k)] fi4 [] []
theorem cx4_ok {R : Type} (k : Nat) : CxOk Try.prog (cx4 k : Cx R) := mkCx_ok (c := ((Try.f4).body.getD .skip)) ty_ok mixed exts_ok (allSum_cons (S14_ok k) en14 (allSum_cons (S17_ok k) en17 (allSum_cons (S18_ok k) en18 (allSum_cons (S19_ok k) en19 (allSum_cons (S20_ok k) en20 (allSum_cons (S21_ok k) en21 allSum_nil)))))) Try.func4 en4 (by kernel_rfl) (by kernel_rfl) allLoop_nil allCut_nil
@[reducible] def plumblinelaw02_SoftSumsY (R : Type) : Type := Nat → Int → Int → Int → Int → (Bool → Option R) → Option R
noncomputable def plumblinelaw02_SoftSumsT {R : Type} (plumblinelaw02_format : plumblinelaw02_formatY R) (plumblinelaw02_live : plumblinelaw02_liveY R) (plumblineref02_Add : plumblineref02_AddY R) (plumblineref02_Sub : plumblineref02_SubY R) (soft_Add : soft_AddY R) (soft_Sub : soft_SubY R) (k : Nat) (a1 : Int) (a2 : Int) (a3 : Int) (a4 : Int) (K0 : Bool → Option R) : Option R :=
  plumblinelaw02_format k a1 (fun r1 =>
    plumblinelaw02_live k (fun r2 =>
      cond r2 (
        soft_Add k a1 a2 a3 a4 (fun r3 =>
          plumblineref02_Add k r1 a2 a3 a4 (fun r4 =>
            cond (r3 == r4) (
              soft_Sub k a1 a2 a3 a4 (fun r5 =>
                plumblineref02_Sub k r1 a2 a3 a4 (fun r6 =>
                  K0 (r5 == r6)))) (
              K0 false)))) (
        K0 false)))
noncomputable def plumblinelaw02_SoftSums {R : Type} (k : Nat) (a1 : Int) (a2 : Int) (a3 : Int) (a4 : Int) (K0 : Bool → Option R) : Option R := plumblinelaw02_SoftSumsT plumblinelaw02_format plumblinelaw02_live plumblineref02_Add plumblineref02_Sub soft_Add soft_Sub k a1 a2 a3 a4 K0
theorem plumblinelaw02_SoftSums_gen {R : Type} (plumblinelaw02_live : plumblinelaw02_liveY R) (plumblinelaw02_format : plumblinelaw02_formatY R) (soft_Add : soft_AddY R) (plumblineref02_Add : plumblineref02_AddY R) (soft_Sub : soft_SubY R) (plumblineref02_Sub : plumblineref02_SubY R) (k : Nat) (a1 : Int) (a2 : Int) (a3 : Int) (a4 : Int) (K : AV → Heap → Option R) :
    fnK (mkCx Ty exts [(14, true, S14G plumblinelaw02_live k), (17, true, S17G plumblinelaw02_format k), (18, true, S18G soft_Add k), (19, true, S19G plumblineref02_Add k), (20, true, S20G soft_Sub k), (21, true, S21G plumblineref02_Sub k)] fi4 [] []) 6 4 [.agg [.i .i64 a1, .i .i64 a2], .i .u64 a3, .i .u64 a4] ⟨0, []⟩ K = plumblinelaw02_SoftSumsT plumblinelaw02_format plumblinelaw02_live plumblineref02_Add plumblineref02_Sub soft_Add soft_Sub k a1 a2 a3 a4 (fun q1 => K (.b q1) ⟨0, []⟩) := by kernel_rfl
noncomputable def S4G {R : Type} (plumblinelaw02_SoftSums : plumblinelaw02_SoftSumsY R) (k : Nat) : Sum R := fun args H K => match args, H with
  | [.agg [.i .i64 a1, .i .i64 a2], .i .u64 a3, .i .u64 a4], ⟨0, []⟩ => plumblinelaw02_SoftSums k a1 a2 a3 a4 (fun q1 => K (.b q1) ⟨0, []⟩)
  | _, _ => none
noncomputable def S4 {R : Type} (k : Nat) : Sum R := S4G plumblinelaw02_SoftSums k
theorem S4_ok0 {R : Type} (k : Nat) : SumOk Try.prog 4 false (S4 k : Sum R) := by
  intro args H K r h
  unfold S4 S4G at h
  split at h
  · exact fnK_sound (cx4_ok k) 6 4 _ _ K r ((plumblinelaw02_SoftSums_gen plumblinelaw02_live plumblinelaw02_format soft_Add plumblineref02_Add soft_Sub plumblineref02_Sub k _ _ _ _ K).trans h)
  · cases h
theorem S4_ok {R : Type} (k : Nat) : SumOk Try.prog 4 true (S4 k : Sum R) := by
  refine sumOk_keep (S4_ok0 k) ?_
  intro args H K r h
  unfold S4 S4G at h ⊢
  split at h
  · refine Eq.trans ?_ h
    show plumblinelaw02_SoftSums k _ _ _ _ _ = plumblinelaw02_SoftSums k _ _ _ _ _
    congr 1
    all_goals first | exact (funext fun q1 => if_pos (keeps_app _ _ _ [])) | skip
  · cases h
end Go.Proofs.Ytbnmnkofekcodaa.N
