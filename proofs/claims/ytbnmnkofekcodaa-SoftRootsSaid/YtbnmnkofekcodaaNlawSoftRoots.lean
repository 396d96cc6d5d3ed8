/- Printed by wip/gen/emit.py: functions of the program as plain Lean functions, tied to the model by the evaluator. Conditions: none. -/
import Derived.Test.YtbnmnkofekcodaaNlaw
import Derived.Test.YtbnmnkofekcodaaNr02
import Derived.Test.YtbnmnkofekcodaaNsoft
namespace Go.Proofs.Ytbnmnkofekcodaa.N
set_option linter.unusedVariables false
set_option maxRecDepth 100000
open Go Go.Ab
-- function 12: plumbline/plumblinelaw02.SoftRoots
noncomputable def fi12 : FnI := ⟨12, Try.f12, []⟩
theorem en12 : Enters Try.prog 12 := enters_of Try.func12 (c := ((Try.f12).body.getD .skip)) (by kernel_rfl) (by kernel_rfl)
noncomputable def cx12 {R : Type} (k : Nat) : Cx R := mkCx Ty exts [(14, true, S14 k), (17, true, S17 k), (41, true, S41 k), (42, true, S42 k)] fi12 [] []
theorem cx12_ok {R : Type} (k : Nat) : CxOk Try.prog (cx12 k : Cx R) := mkCx_ok (c := ((Try.f12).body.getD .skip)) ty_ok mixed exts_ok (allSum_cons (S14_ok k) en14 (allSum_cons (S17_ok k) en17 (allSum_cons (S41_ok k) en41 (allSum_cons (S42_ok k) en42 allSum_nil)))) Try.func12 en12 (by kernel_rfl) (by kernel_rfl) allLoop_nil allCut_nil
@[reducible] def plumblinelaw02_SoftRootsY (R : Type) : Type := Nat → Int → Int → Int → (Bool → Option R) → Option R
noncomputable def plumblinelaw02_SoftRootsT {R : Type} (plumblinelaw02_format : plumblinelaw02_formatY R) (plumblinelaw02_live : plumblinelaw02_liveY R) (plumblineref02_Sqrt : plumblineref02_SqrtY R) (soft_Sqrt : soft_SqrtY R) (k : Nat) (a1 : Int) (a2 : Int) (a3 : Int) (K0 : Bool → Option R) : Option R :=
  plumblinelaw02_live k (fun r1 =>
    cond r1 (
      soft_Sqrt k a1 a2 a3 (fun r2 =>
        plumblinelaw02_format k a1 (fun r3 =>
          plumblineref02_Sqrt k r3 a2 a3 (fun r4 =>
            K0 (r2 == r4))))) (
      K0 false))
noncomputable def plumblinelaw02_SoftRoots {R : Type} (k : Nat) (a1 : Int) (a2 : Int) (a3 : Int) (K0 : Bool → Option R) : Option R := plumblinelaw02_SoftRootsT plumblinelaw02_format plumblinelaw02_live plumblineref02_Sqrt soft_Sqrt k a1 a2 a3 K0
theorem plumblinelaw02_SoftRoots_gen {R : Type} (plumblinelaw02_live : plumblinelaw02_liveY R) (plumblinelaw02_format : plumblinelaw02_formatY R) (soft_Sqrt : soft_SqrtY R) (plumblineref02_Sqrt : plumblineref02_SqrtY R) (k : Nat) (a1 : Int) (a2 : Int) (a3 : Int) (K : AV → Heap → Option R) :
    fnK (mkCx Ty exts [(14, true, S14G plumblinelaw02_live k), (17, true, S17G plumblinelaw02_format k), (41, true, S41G soft_Sqrt k), (42, true, S42G plumblineref02_Sqrt k)] fi12 [] []) 6 12 [.agg [.i .i64 a1, .i .i64 a2], .i .u64 a3] ⟨0, []⟩ K = plumblinelaw02_SoftRootsT plumblinelaw02_format plumblinelaw02_live plumblineref02_Sqrt soft_Sqrt k a1 a2 a3 (fun q1 => K (.b q1) ⟨0, []⟩) := by kernel_rfl
noncomputable def S12G {R : Type} (plumblinelaw02_SoftRoots : plumblinelaw02_SoftRootsY R) (k : Nat) : Sum R := fun args H K => match args, H with
  | [.agg [.i .i64 a1, .i .i64 a2], .i .u64 a3], ⟨0, []⟩ => plumblinelaw02_SoftRoots k a1 a2 a3 (fun q1 => K (.b q1) ⟨0, []⟩)
  | _, _ => none
noncomputable def S12 {R : Type} (k : Nat) : Sum R := S12G plumblinelaw02_SoftRoots k
theorem S12_ok0 {R : Type} (k : Nat) : SumOk Try.prog 12 false (S12 k : Sum R) := by
  intro args H K r h
  unfold S12 S12G at h
  split at h
  · exact fnK_sound (cx12_ok k) 6 12 _ _ K r ((plumblinelaw02_SoftRoots_gen plumblinelaw02_live plumblinelaw02_format soft_Sqrt plumblineref02_Sqrt k _ _ _ K).trans h)
  · cases h
theorem S12_ok {R : Type} (k : Nat) : SumOk Try.prog 12 true (S12 k : Sum R) := by
  refine sumOk_keep (S12_ok0 k) ?_
  intro args H K r h
  unfold S12 S12G at h ⊢
  split at h
  · refine Eq.trans ?_ h
    show plumblinelaw02_SoftRoots k _ _ _ _ = plumblinelaw02_SoftRoots k _ _ _ _
    congr 1
    all_goals first | exact (funext fun q1 => if_pos (keeps_app _ _ _ [])) | skip
  · cases h
end Go.Proofs.Ytbnmnkofekcodaa.N
