/- Printed by wip/gen/emit.py: functions of the program as plain Lean functions, tied to the model by the evaluator. Conditions: none. -/
import Derived.Test.YtejfnbjhcohkiaaNlaw
import Derived.Test.YtejfnbjhcohkiaaNsoft
namespace Go.Proofs.Ytejfnbjhcohkiaa.N
set_option linter.unusedVariables false
set_option maxRecDepth 100000
open Go Go.Ab
-- function 6: plumbline/plumblinetop.TopRoots
noncomputable def fi6 : FnI := ⟨6, Try.f6, []⟩
theorem en6 : Enters Try.prog 6 := enters_of Try.func6 (c := ((Try.f6).body.getD .skip)) (by kernel_rfl) (by kernel_rfl)
noncomputable def cx6 {R : Type} (k : Nat) : Cx R := mkCx Ty exts [(22, true, S22 k), (23, true, S23 k), (24, true, S24 k), (25, true, S25 k), (26, true, S26 k), (27, true, S27 k)] fi6 [] []
theorem cx6_ok {R : Type} (k : Nat) : CxOk Try.prog (cx6 k : Cx R) := mkCx_ok (c := ((Try.f6).body.getD .skip)) ty_ok mixed exts_ok (allSum_cons (S22_ok k) en22 (allSum_cons (S23_ok k) en23 (allSum_cons (S24_ok k) en24 (allSum_cons (S25_ok k) en25 (allSum_cons (S26_ok k) en26 (allSum_cons (S27_ok k) en27 allSum_nil)))))) Try.func6 en6 (by kernel_rfl) (by kernel_rfl) allLoop_nil allCut_nil
@[reducible] def plumblinetop_TopRootsY (R : Type) : Type := Nat → Int → Int → (Bool → Option R) → Option R
noncomputable def plumblinetop_TopRootsT {R : Type} (plumblinetop_format : plumblinetop_formatY R) (plumblinetop_not : plumblinetop_notY R) (plumblinetop_sound : plumblinetop_soundY R) (soft_Finite : soft_FiniteY R) (soft_Mul : soft_MulY R) (soft_Sqrt : soft_SqrtY R) (k : Nat) (a1 : Int) (a2 : Int) (K0 : Bool → Option R) : Option R :=
  plumblinetop_format k a1 (fun r1 =>
    soft_Finite k r1 a2 (fun r2 =>
      cond (!r2) (
        plumblinetop_sound k (fun r3 =>
          K0 r3)) (
        plumblinetop_not k r1 0 a2 (fun r4 =>
          cond (!r4) (
            plumblinetop_sound k (fun r5 =>
              K0 r5)) (
            soft_Sqrt k r1 2 a2 (fun r6 =>
              soft_Sqrt k r1 1 a2 (fun r7 =>
                plumblinetop_sound k (fun r8 =>
                  cond r8 (
                    soft_Mul k r1 2 r6 r6 (fun r9 =>
                      plumblinetop_not k r1 r9 a2 (fun r10 =>
                        cond r10 (
                          soft_Mul k r1 1 r7 r7 (fun r11 =>
                            plumblinetop_not k r1 a2 r11 (fun r12 =>
                              K0 r12))) (
                          K0 false)))) (
                    K0 false)))))))))
noncomputable def plumblinetop_TopRoots {R : Type} (k : Nat) (a1 : Int) (a2 : Int) (K0 : Bool → Option R) : Option R := plumblinetop_TopRootsT plumblinetop_format plumblinetop_not plumblinetop_sound soft_Finite soft_Mul soft_Sqrt k a1 a2 K0
theorem plumblinetop_TopRoots_gen {R : Type} (plumblinetop_not : plumblinetop_notY R) (plumblinetop_format : plumblinetop_formatY R) (soft_Finite : soft_FiniteY R) (plumblinetop_sound : plumblinetop_soundY R) (soft_Sqrt : soft_SqrtY R) (soft_Mul : soft_MulY R) (k : Nat) (a1 : Int) (a2 : Int) (K : AV → Heap → Option R) :
    fnK (mkCx Ty exts [(22, true, S22G plumblinetop_not k), (23, true, S23G plumblinetop_format k), (24, true, S24G soft_Finite k), (25, true, S25G plumblinetop_sound k), (26, true, S26G soft_Sqrt k), (27, true, S27G soft_Mul k)] fi6 [] []) 6 6 [.i .i64 a1, .i .u64 a2] ⟨0, []⟩ K = plumblinetop_TopRootsT plumblinetop_format plumblinetop_not plumblinetop_sound soft_Finite soft_Mul soft_Sqrt k a1 a2 (fun q1 => K (.b q1) ⟨0, []⟩) := by kernel_rfl
noncomputable def S6G {R : Type} (plumblinetop_TopRoots : plumblinetop_TopRootsY R) (k : Nat) : Sum R := fun args H K => match args, H with
  | [.i .i64 a1, .i .u64 a2], ⟨0, []⟩ => plumblinetop_TopRoots k a1 a2 (fun q1 => K (.b q1) ⟨0, []⟩)
  | _, _ => none
noncomputable def S6 {R : Type} (k : Nat) : Sum R := S6G plumblinetop_TopRoots k
theorem S6_ok0 {R : Type} (k : Nat) : SumOk Try.prog 6 false (S6 k : Sum R) := by
  intro args H K r h
  unfold S6 S6G at h
  split at h
  · exact fnK_sound (cx6_ok k) 6 6 _ _ K r ((plumblinetop_TopRoots_gen plumblinetop_not plumblinetop_format soft_Finite plumblinetop_sound soft_Sqrt soft_Mul k _ _ K).trans h)
  · cases h
theorem S6_ok {R : Type} (k : Nat) : SumOk Try.prog 6 true (S6 k : Sum R) := by
  refine sumOk_keep (S6_ok0 k) ?_
  intro args H K r h
  unfold S6 S6G at h ⊢
  split at h
  · refine Eq.trans ?_ h
    show plumblinetop_TopRoots k _ _ _ = plumblinetop_TopRoots k _ _ _
    exact congrArg (plumblinetop_TopRoots k _ _) (funext fun q1 => if_pos (keeps_app _ _ _ []))
  · cases h
end Go.Proofs.Ytejfnbjhcohkiaa.N
