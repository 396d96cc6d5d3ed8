/- Printed by wip/gen/emit.py: functions of the program as plain Lean functions, tied to the model by the evaluator. Conditions: none. -/
import Derived.Test.YtejfnbjhcohkiaaNlaw
import Derived.Test.YtejfnbjhcohkiaaNsoft
namespace Go.Proofs.Ytejfnbjhcohkiaa.N
set_option linter.unusedVariables false
set_option maxRecDepth 100000
open Go Go.Ab
-- function 8: plumbline/plumblinetop.TopQuotients
noncomputable def fi8 : FnI := ⟨8, Try.f8, []⟩
theorem en8 : Enters Try.prog 8 := enters_of Try.func8 (c := ((Try.f8).body.getD .skip)) (by kernel_rfl) (by kernel_rfl)
noncomputable def cx8 {R : Type} (k : Nat) : Cx R := mkCx Ty exts [(22, true, S22 k), (23, true, S23 k), (24, true, S24 k), (25, true, S25 k), (27, true, S27 k), (33, true, S33 k)] fi8 [] []
theorem cx8_ok {R : Type} (k : Nat) : CxOk Try.prog (cx8 k : Cx R) := mkCx_ok (c := ((Try.f8).body.getD .skip)) ty_ok mixed exts_ok (allSum_cons (S22_ok k) en22 (allSum_cons (S23_ok k) en23 (allSum_cons (S24_ok k) en24 (allSum_cons (S25_ok k) en25 (allSum_cons (S27_ok k) en27 (allSum_cons (S33_ok k) en33 allSum_nil)))))) Try.func8 en8 (by kernel_rfl) (by kernel_rfl) allLoop_nil allCut_nil
@[reducible] def plumblinetop_TopQuotientsY (R : Type) : Type := Nat → Int → Int → Int → (Bool → Option R) → Option R
noncomputable def plumblinetop_TopQuotientsT {R : Type} (plumblinetop_format : plumblinetop_formatY R) (plumblinetop_not : plumblinetop_notY R) (plumblinetop_sound : plumblinetop_soundY R) (soft_Div : soft_DivY R) (soft_Finite : soft_FiniteY R) (soft_Mul : soft_MulY R) (k : Nat) (a1 : Int) (a2 : Int) (a3 : Int) (K0 : Bool → Option R) : Option R :=
  plumblinetop_format k a1 (fun r1 =>
    soft_Finite k r1 a2 (fun r2 =>
      cond (!r2) (
        plumblinetop_sound k (fun r3 =>
          K0 r3)) (
        soft_Finite k r1 a3 (fun r4 =>
          cond (!r4) (
            plumblinetop_sound k (fun r5 =>
              K0 r5)) (
            plumblinetop_not k r1 a2 0 (fun r6 =>
              cond r6 (
                plumblinetop_sound k (fun r7 =>
                  K0 r7)) (
                plumblinetop_not k r1 a3 0 (fun r8 =>
                  cond r8 (
                    plumblinetop_sound k (fun r9 =>
                      K0 r9)) (
                    soft_Div k r1 2 a2 a3 (fun r10 =>
                      soft_Div k r1 1 a2 a3 (fun r11 =>
                        plumblinetop_sound k (fun r12 =>
                          cond r12 (
                            soft_Mul k r1 2 r10 a3 (fun r13 =>
                              plumblinetop_not k r1 r13 a2 (fun r14 =>
                                cond r14 (
                                  soft_Mul k r1 1 r11 a3 (fun r15 =>
                                    plumblinetop_not k r1 a2 r15 (fun r16 =>
                                      K0 r16))) (
                                  K0 false)))) (
                            K0 false)))))))))))))
noncomputable def plumblinetop_TopQuotients {R : Type} (k : Nat) (a1 : Int) (a2 : Int) (a3 : Int) (K0 : Bool → Option R) : Option R := plumblinetop_TopQuotientsT plumblinetop_format plumblinetop_not plumblinetop_sound soft_Div soft_Finite soft_Mul k a1 a2 a3 K0
theorem plumblinetop_TopQuotients_gen {R : Type} (plumblinetop_not : plumblinetop_notY R) (plumblinetop_format : plumblinetop_formatY R) (soft_Finite : soft_FiniteY R) (plumblinetop_sound : plumblinetop_soundY R) (soft_Mul : soft_MulY R) (soft_Div : soft_DivY R) (k : Nat) (a1 : Int) (a2 : Int) (a3 : Int) (K : AV → Heap → Option R) :
    fnK (mkCx Ty exts [(22, true, S22G plumblinetop_not k), (23, true, S23G plumblinetop_format k), (24, true, S24G soft_Finite k), (25, true, S25G plumblinetop_sound k), (27, true, S27G soft_Mul k), (33, true, S33G soft_Div k)] fi8 [] []) 6 8 [.i .i64 a1, .i .u64 a2, .i .u64 a3] ⟨0, []⟩ K = plumblinetop_TopQuotientsT plumblinetop_format plumblinetop_not plumblinetop_sound soft_Div soft_Finite soft_Mul k a1 a2 a3 (fun q1 => K (.b q1) ⟨0, []⟩) := by kernel_rfl
noncomputable def S8G {R : Type} (plumblinetop_TopQuotients : plumblinetop_TopQuotientsY R) (k : Nat) : Sum R := fun args H K => match args, H with
  | [.i .i64 a1, .i .u64 a2, .i .u64 a3], ⟨0, []⟩ => plumblinetop_TopQuotients k a1 a2 a3 (fun q1 => K (.b q1) ⟨0, []⟩)
  | _, _ => none
noncomputable def S8 {R : Type} (k : Nat) : Sum R := S8G plumblinetop_TopQuotients k
theorem S8_ok0 {R : Type} (k : Nat) : SumOk Try.prog 8 false (S8 k : Sum R) := by
  intro args H K r h
  unfold S8 S8G at h
  split at h
  · exact fnK_sound (cx8_ok k) 6 8 _ _ K r ((plumblinetop_TopQuotients_gen plumblinetop_not plumblinetop_format soft_Finite plumblinetop_sound soft_Mul soft_Div k _ _ _ K).trans h)
  · cases h
theorem S8_ok {R : Type} (k : Nat) : SumOk Try.prog 8 true (S8 k : Sum R) := by
  refine sumOk_keep (S8_ok0 k) ?_
  intro args H K r h
  unfold S8 S8G at h ⊢
  split at h
  · refine Eq.trans ?_ h
    show plumblinetop_TopQuotients k _ _ _ _ = plumblinetop_TopQuotients k _ _ _ _
    exact congrArg (plumblinetop_TopQuotients k _ _ _) (funext fun q1 => if_pos (keeps_app _ _ _ []))
  · cases h
end Go.Proofs.Ytejfnbjhcohkiaa.N
