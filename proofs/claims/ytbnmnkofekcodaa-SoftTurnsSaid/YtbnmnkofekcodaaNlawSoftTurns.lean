/- Printed by wip/gen/emit.py: functions of the program as plain Lean functions, tied to the model by the evaluator. Conditions: none. -/
import Derived.Test.YtbnmnkofekcodaaNlaw
import Derived.Test.YtbnmnkofekcodaaNsoft
namespace Go.Proofs.Ytbnmnkofekcodaa.N
set_option linter.unusedVariables false
set_option maxRecDepth 100000
open Go Go.Ab
-- function 7: plumbline/plumblinelaw02.SoftTurns
noncomputable def fi7 : FnI := ⟨7, Try.f7, []⟩
theorem en7 : Enters Try.prog 7 := enters_of Try.func7 (c := ((Try.f7).body.getD .skip)) (by kernel_rfl) (by kernel_rfl)
noncomputable def cx7 {R : Type} (k : Nat) : Cx R := mkCx Ty exts [(14, true, S14 k), (18, true, S18 k), (24, true, S24 k)] fi7 [] []
theorem cx7_ok {R : Type} (k : Nat) : CxOk Try.prog (cx7 k : Cx R) := mkCx_ok (c := ((Try.f7).body.getD .skip)) ty_ok mixed exts_ok (allSum_cons (S14_ok k) en14 (allSum_cons (S18_ok k) en18 (allSum_cons (S24_ok k) en24 allSum_nil))) Try.func7 en7 (by kernel_rfl) (by kernel_rfl) allLoop_nil allCut_nil
@[reducible] def plumblinelaw02_SoftTurnsY (R : Type) : Type := Nat → Int → Int → Int → Int → (Bool → Option R) → Option R
noncomputable def plumblinelaw02_SoftTurnsT {R : Type} (plumblinelaw02_live : plumblinelaw02_liveY R) (soft_Add : soft_AddY R) (soft_Mul : soft_MulY R) (k : Nat) (a1 : Int) (a2 : Int) (a3 : Int) (a4 : Int) (K0 : Bool → Option R) : Option R :=
  plumblinelaw02_live k (fun r1 =>
    cond r1 (
      soft_Add k a1 a2 a3 a4 (fun r2 =>
        soft_Add k a1 a2 a4 a3 (fun r3 =>
          cond (r2 == r3) (
            soft_Mul k a1 a2 a3 a4 (fun r4 =>
              soft_Mul k a1 a2 a4 a3 (fun r5 =>
                K0 (r4 == r5)))) (
            K0 false)))) (
      K0 false))
noncomputable def plumblinelaw02_SoftTurns {R : Type} (k : Nat) (a1 : Int) (a2 : Int) (a3 : Int) (a4 : Int) (K0 : Bool → Option R) : Option R := plumblinelaw02_SoftTurnsT plumblinelaw02_live soft_Add soft_Mul k a1 a2 a3 a4 K0
theorem plumblinelaw02_SoftTurns_gen {R : Type} (plumblinelaw02_live : plumblinelaw02_liveY R) (soft_Add : soft_AddY R) (soft_Mul : soft_MulY R) (k : Nat) (a1 : Int) (a2 : Int) (a3 : Int) (a4 : Int) (K : AV → Heap → Option R) :
    fnK (mkCx Ty exts [(14, true, S14G plumblinelaw02_live k), (18, true, S18G soft_Add k), (24, true, S24G soft_Mul k)] fi7 [] []) 6 7 [.agg [.i .i64 a1, .i .i64 a2], .i .u64 a3, .i .u64 a4] ⟨0, []⟩ K = plumblinelaw02_SoftTurnsT plumblinelaw02_live soft_Add soft_Mul k a1 a2 a3 a4 (fun q1 => K (.b q1) ⟨0, []⟩) := by kernel_rfl
noncomputable def S7G {R : Type} (plumblinelaw02_SoftTurns : plumblinelaw02_SoftTurnsY R) (k : Nat) : Sum R := fun args H K => match args, H with
  | [.agg [.i .i64 a1, .i .i64 a2], .i .u64 a3, .i .u64 a4], ⟨0, []⟩ => plumblinelaw02_SoftTurns k a1 a2 a3 a4 (fun q1 => K (.b q1) ⟨0, []⟩)
  | _, _ => none
noncomputable def S7 {R : Type} (k : Nat) : Sum R := S7G plumblinelaw02_SoftTurns k
theorem S7_ok0 {R : Type} (k : Nat) : SumOk Try.prog 7 false (S7 k : Sum R) := by
  intro args H K r h
  unfold S7 S7G at h
  split at h
  · exact fnK_sound (cx7_ok k) 6 7 _ _ K r ((plumblinelaw02_SoftTurns_gen plumblinelaw02_live soft_Add soft_Mul k _ _ _ _ K).trans h)
  · cases h
theorem S7_ok {R : Type} (k : Nat) : SumOk Try.prog 7 true (S7 k : Sum R) := by
  refine sumOk_keep (S7_ok0 k) ?_
  intro args H K r h
  unfold S7 S7G at h ⊢
  split at h
  · refine Eq.trans ?_ h
    show plumblinelaw02_SoftTurns k _ _ _ _ _ = plumblinelaw02_SoftTurns k _ _ _ _ _
    congr 1
    all_goals first | exact (funext fun q1 => if_pos (keeps_app _ _ _ [])) | skip
  · cases h
end Go.Proofs.Ytbnmnkofekcodaa.N
