/- Printed by wip/gen/emit.py: functions of the program as plain Lean functions, tied to the model by the evaluator. Conditions: none. -/
import Derived.Test.YtbnmnkofekcodaaNlaw
import Derived.Test.YtbnmnkofekcodaaNr02
import Derived.Test.YtbnmnkofekcodaaNsoft
namespace Go.Proofs.Ytbnmnkofekcodaa.N
set_option linter.unusedVariables false
set_option maxRecDepth 100000
open Go Go.Ab
-- function 5: plumbline/plumblinelaw02.SoftRounds
noncomputable def fi5 : FnI := ⟨5, Try.f5, []⟩
theorem en5 : Enters Try.prog 5 := enters_of Try.func5 (c := ((Try.f5).body.getD .skip)) (by kernel_rfl) (by kernel_rfl)
noncomputable def cx5 {R : Type} (k : Nat) : Cx R := mkCx Ty exts [(14, true, S14 k), (17, true, S17 k), (22, true, S22 k), (23, true, S23 k)] fi5 [] []
theorem cx5_ok {R : Type} (k : Nat) : CxOk Try.prog (cx5 k : Cx R) := mkCx_ok (c := ((Try.f5).body.getD .skip)) ty_ok mixed exts_ok (allSum_cons (S14_ok k) en14 (allSum_cons (S17_ok k) en17 (allSum_cons (S22_ok k) en22 (allSum_cons (S23_ok k) en23 allSum_nil)))) Try.func5 en5 (by kernel_rfl) (by kernel_rfl) allLoop_nil allCut_nil
@[reducible] def plumblinelaw02_SoftRoundsY (R : Type) : Type := Nat → Int → Int → Bool → Bool → Int → Int → Int → (Bool → Option R) → Option R
noncomputable def plumblinelaw02_SoftRoundsT {R : Type} (plumblinelaw02_format : plumblinelaw02_formatY R) (plumblinelaw02_live : plumblinelaw02_liveY R) (plumblineref02_Round : plumblineref02_RoundY R) (soft_Round : soft_RoundY R) (k : Nat) (a1 : Int) (a2 : Int) (a3 : Bool) (a4 : Bool) (a5 : Int) (a6 : Int) (a7 : Int) (K0 : Bool → Option R) : Option R :=
  plumblinelaw02_live k (fun r1 =>
    cond r1 (
      soft_Round k a1 a2 a3 a5 a6 a7 a4 (fun r2 =>
        plumblinelaw02_format k a1 (fun r3 =>
          plumblineref02_Round k r3 a2 a3 a5 a6 a7 a4 (fun r4 =>
            K0 (r2 == r4))))) (
      K0 false))
noncomputable def plumblinelaw02_SoftRounds {R : Type} (k : Nat) (a1 : Int) (a2 : Int) (a3 : Bool) (a4 : Bool) (a5 : Int) (a6 : Int) (a7 : Int) (K0 : Bool → Option R) : Option R := plumblinelaw02_SoftRoundsT plumblinelaw02_format plumblinelaw02_live plumblineref02_Round soft_Round k a1 a2 a3 a4 a5 a6 a7 K0
theorem plumblinelaw02_SoftRounds_gen {R : Type} (plumblinelaw02_live : plumblinelaw02_liveY R) (plumblinelaw02_format : plumblinelaw02_formatY R) (soft_Round : soft_RoundY R) (plumblineref02_Round : plumblineref02_RoundY R) (k : Nat) (a1 : Int) (a2 : Int) (a3 : Bool) (a4 : Bool) (a5 : Int) (a6 : Int) (a7 : Int) (K : AV → Heap → Option R) :
    fnK (mkCx Ty exts [(14, true, S14G plumblinelaw02_live k), (17, true, S17G plumblinelaw02_format k), (22, true, S22G soft_Round k), (23, true, S23G plumblineref02_Round k)] fi5 [] []) 6 5 [.agg [.i .i64 a1, .i .i64 a2], .agg [.b a3, .b a4, .i .u64 a5, .i .u64 a6, .i .i64 a7]] ⟨0, []⟩ K = plumblinelaw02_SoftRoundsT plumblinelaw02_format plumblinelaw02_live plumblineref02_Round soft_Round k a1 a2 a3 a4 a5 a6 a7 (fun q1 => K (.b q1) ⟨0, []⟩) := by kernel_rfl
noncomputable def S5G {R : Type} (plumblinelaw02_SoftRounds : plumblinelaw02_SoftRoundsY R) (k : Nat) : Sum R := fun args H K => match args, H with
  | [.agg [.i .i64 a1, .i .i64 a2], .agg [.b a3, .b a4, .i .u64 a5, .i .u64 a6, .i .i64 a7]], ⟨0, []⟩ => plumblinelaw02_SoftRounds k a1 a2 a3 a4 a5 a6 a7 (fun q1 => K (.b q1) ⟨0, []⟩)
  | _, _ => none
noncomputable def S5 {R : Type} (k : Nat) : Sum R := S5G plumblinelaw02_SoftRounds k
theorem S5_ok0 {R : Type} (k : Nat) : SumOk Try.prog 5 false (S5 k : Sum R) := by
  intro args H K r h
  unfold S5 S5G at h
  split at h
  · exact fnK_sound (cx5_ok k) 6 5 _ _ K r ((plumblinelaw02_SoftRounds_gen plumblinelaw02_live plumblinelaw02_format soft_Round plumblineref02_Round k _ _ _ _ _ _ _ K).trans h)
  · cases h
theorem S5_ok {R : Type} (k : Nat) : SumOk Try.prog 5 true (S5 k : Sum R) := by
  refine sumOk_keep (S5_ok0 k) ?_
  intro args H K r h
  unfold S5 S5G at h ⊢
  split at h
  · refine Eq.trans ?_ h
    show plumblinelaw02_SoftRounds k _ _ _ _ _ _ _ _ = plumblinelaw02_SoftRounds k _ _ _ _ _ _ _ _
    congr 1
    all_goals first | exact (funext fun q1 => if_pos (keeps_app _ _ _ [])) | skip
  · cases h
end Go.Proofs.Ytbnmnkofekcodaa.N
