/- Printed by wip/gen/emit.py: functions of the program as plain Lean functions, tied to the model by the evaluator. Conditions: none. -/
import Derived.Test.YtejfnbjhcohkiaaNconv
import Derived.Test.YtejfnbjhcohkiaaNlaw
import Derived.Test.YtejfnbjhcohkiaaNsoft
namespace Go.Proofs.Ytejfnbjhcohkiaa.N
set_option linter.unusedVariables false
set_option maxRecDepth 100000
open Go Go.Ab
-- function 5: plumbline/plumblinetop.TopNarrows
noncomputable def fi5 : FnI := ⟨5, Try.f5, []⟩
theorem en5 : Enters Try.prog 5 := enters_of Try.func5 (c := ((Try.f5).body.getD .skip)) (by kernel_rfl) (by kernel_rfl)
noncomputable def cx5 {R : Type} (k : Nat) : Cx R := mkCx Ty exts [(19, true, S19 k), (20, true, S20 k), (21, true, S21 k), (22, true, S22 k)] fi5 [] []
theorem cx5_ok {R : Type} (k : Nat) : CxOk Try.prog (cx5 k : Cx R) := mkCx_ok (c := ((Try.f5).body.getD .skip)) ty_ok mixed exts_ok (allSum_cons (S19_ok k) en19 (allSum_cons (S20_ok k) en20 (allSum_cons (S21_ok k) en21 (allSum_cons (S22_ok k) en22 allSum_nil)))) Try.func5 en5 (by kernel_rfl) (by kernel_rfl) allLoop_nil allCut_nil
@[reducible] def plumblinetop_TopNarrowsY (R : Type) : Type := Nat → Int → (Bool → Option R) → Option R
noncomputable def plumblinetop_TopNarrowsT {R : Type} (conv_Narrow : conv_NarrowY R) (conv_Widen : conv_WidenY R) (plumblinetop_not : plumblinetop_notY R) (soft_Class : soft_ClassY R) (k : Nat) (a1 : Int) (K0 : Bool → Option R) : Option R :=
  soft_Class k 0 a1 (fun r1 =>
    cond (r1 == 5) (
      conv_Widen k 1065353216 (fun r2 =>
        K0 (r2 == 4607182418800017408))) (
      conv_Narrow k 2 a1 (fun r3 =>
        conv_Narrow k 1 a1 (fun r4 =>
          conv_Narrow k 0 a1 (fun r5 =>
            conv_Widen k r3 (fun r6 =>
              plumblinetop_not k 0 r6 a1 (fun r7 =>
                cond r7 (
                  conv_Widen k r4 (fun r8 =>
                    plumblinetop_not k 0 a1 r8 (fun r9 =>
                      cond r9 (
                        cond (r5 == r3) (
                          conv_Widen k 1065353216 (fun r10 =>
                            K0 (r10 == 4607182418800017408))) (
                          cond (r5 == r4) (
                            conv_Widen k 1065353216 (fun r11 =>
                              K0 (r11 == 4607182418800017408))) (
                            K0 false))) (
                        K0 false)))) (
                  K0 false))))))))
noncomputable def plumblinetop_TopNarrows {R : Type} (k : Nat) (a1 : Int) (K0 : Bool → Option R) : Option R := plumblinetop_TopNarrowsT conv_Narrow conv_Widen plumblinetop_not soft_Class k a1 K0
theorem plumblinetop_TopNarrows_gen {R : Type} (soft_Class : soft_ClassY R) (conv_Widen : conv_WidenY R) (conv_Narrow : conv_NarrowY R) (plumblinetop_not : plumblinetop_notY R) (k : Nat) (a1 : Int) (K : AV → Heap → Option R) :
    fnK (mkCx Ty exts [(19, true, S19G soft_Class k), (20, true, S20G conv_Widen k), (21, true, S21G conv_Narrow k), (22, true, S22G plumblinetop_not k)] fi5 [] []) 6 5 [.i .u64 a1] ⟨0, []⟩ K = plumblinetop_TopNarrowsT conv_Narrow conv_Widen plumblinetop_not soft_Class k a1 (fun q1 => K (.b q1) ⟨0, []⟩) := by kernel_rfl
noncomputable def S5G {R : Type} (plumblinetop_TopNarrows : plumblinetop_TopNarrowsY R) (k : Nat) : Sum R := fun args H K => match args, H with
  | [.i .u64 a1], ⟨0, []⟩ => plumblinetop_TopNarrows k a1 (fun q1 => K (.b q1) ⟨0, []⟩)
  | _, _ => none
noncomputable def S5 {R : Type} (k : Nat) : Sum R := S5G plumblinetop_TopNarrows k
theorem S5_ok0 {R : Type} (k : Nat) : SumOk Try.prog 5 false (S5 k : Sum R) := by
  intro args H K r h
  unfold S5 S5G at h
  split at h
  · exact fnK_sound (cx5_ok k) 6 5 _ _ K r ((plumblinetop_TopNarrows_gen soft_Class conv_Widen conv_Narrow plumblinetop_not k _ K).trans h)
  · cases h
theorem S5_ok {R : Type} (k : Nat) : SumOk Try.prog 5 true (S5 k : Sum R) := by
  refine sumOk_keep (S5_ok0 k) ?_
  intro args H K r h
  unfold S5 S5G at h ⊢
  split at h
  · refine Eq.trans ?_ h
    show plumblinetop_TopNarrows k _ _ = plumblinetop_TopNarrows k _ _
    exact congrArg (plumblinetop_TopNarrows k _) (funext fun q1 => if_pos (keeps_app _ _ _ []))
  · cases h
end Go.Proofs.Ytejfnbjhcohkiaa.N
