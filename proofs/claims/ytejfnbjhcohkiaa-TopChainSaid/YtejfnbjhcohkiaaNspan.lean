/- Printed by wip/gen/emit.py: functions of the program as plain Lean functions, tied to the model by the evaluator. Conditions: none. -/
import Derived.Test.YtejfnbjhcohkiaaN0
namespace Go.Proofs.Ytejfnbjhcohkiaa.N
set_option linter.unusedVariables false
set_option maxRecDepth 100000
open Go Go.Ab
-- function 42: plumbline/span.IntRight
noncomputable def fi42 : FnI := ⟨42, Try.f42, []⟩
theorem en42 : Enters Try.prog 42 := enters_of Try.func42 (c := ((Try.f42).body.getD .skip)) (by kernel_rfl) (by kernel_rfl)
noncomputable def cx42 {R : Type} (k : Nat) : Cx R := mkCx Ty exts [] fi42 [] []
theorem cx42_ok {R : Type} (k : Nat) : CxOk Try.prog (cx42 k : Cx R) := mkCx_ok (c := ((Try.f42).body.getD .skip)) ty_ok mixed exts_ok allSum_nil Try.func42 en42 (by kernel_rfl) (by kernel_rfl) allLoop_nil allCut_nil
@[reducible] def span_IntRightY (R : Type) : Type := Nat → Bool → Int → Int → (Bool → Option R) → Option R
noncomputable def span_IntRightT {R : Type} (k : Nat) (a1 : Bool) (a2 : Int) (a3 : Int) (K0 : Bool → Option R) : Option R :=
  cond a1 (
    K0 ((a1 == true) && ((a2 == 0) && (a3 == 0)))) (
    cond (decide (a2 ≥ (-2147483648))) (
      cond (decide (a2 ≤ a3)) (
        K0 (decide (a3 ≤ 2147483647))) (
        K0 false)) (
      K0 false))
noncomputable def span_IntRight {R : Type} (k : Nat) (a1 : Bool) (a2 : Int) (a3 : Int) (K0 : Bool → Option R) : Option R := span_IntRightT k a1 a2 a3 K0
theorem span_IntRight_gen {R : Type} (k : Nat) (a1 : Bool) (a2 : Int) (a3 : Int) (K : AV → Heap → Option R) :
    fnK (mkCx Ty exts [] fi42 [] []) 6 42 [.agg [.b a1, .i .i64 a2, .i .i64 a3]] ⟨0, []⟩ K = span_IntRightT k a1 a2 a3 (fun q1 => K (.b q1) ⟨0, []⟩) := by kernel_rfl
noncomputable def S42G {R : Type} (span_IntRight : span_IntRightY R) (k : Nat) : Sum R := fun args H K => match args, H with
  | [.agg [.b a1, .i .i64 a2, .i .i64 a3]], ⟨0, []⟩ => span_IntRight k a1 a2 a3 (fun q1 => K (.b q1) ⟨0, []⟩)
  | _, _ => none
noncomputable def S42 {R : Type} (k : Nat) : Sum R := S42G span_IntRight k
theorem S42_ok0 {R : Type} (k : Nat) : SumOk Try.prog 42 false (S42 k : Sum R) := by
  intro args H K r h
  unfold S42 S42G at h
  split at h
  · exact fnK_sound (cx42_ok k) 6 42 _ _ K r ((span_IntRight_gen k _ _ _ K).trans h)
  · cases h
theorem S42_ok {R : Type} (k : Nat) : SumOk Try.prog 42 true (S42 k : Sum R) := by
  refine sumOk_keep (S42_ok0 k) ?_
  intro args H K r h
  unfold S42 S42G at h ⊢
  split at h
  · refine Eq.trans ?_ h
    show span_IntRight k _ _ _ _ = span_IntRight k _ _ _ _
    exact congrArg (span_IntRight k _ _ _) (funext fun q1 => if_pos (keeps_app _ _ _ []))
  · cases h
-- function 43: plumbline/span.IntOf
noncomputable def fi43 : FnI := ⟨43, Try.f43, []⟩
theorem en43 : Enters Try.prog 43 := enters_of Try.func43 (c := ((Try.f43).body.getD .skip)) (by kernel_rfl) (by kernel_rfl)
noncomputable def cx43 {R : Type} (k : Nat) : Cx R := mkCx Ty exts [(42, true, S42 k)] fi43 [] []
theorem cx43_ok {R : Type} (k : Nat) : CxOk Try.prog (cx43 k : Cx R) := mkCx_ok (c := ((Try.f43).body.getD .skip)) ty_ok mixed exts_ok (allSum_cons (S42_ok k) en42 allSum_nil) Try.func43 en43 (by kernel_rfl) (by kernel_rfl) allLoop_nil allCut_nil
@[reducible] def span_IntOfY (R : Type) : Type := Nat → Int → Int → (Bool → Int → Int → Option R) → Option R
noncomputable def span_IntOfT {R : Type} (span_IntRight : span_IntRightY R) (k : Nat) (a1 : Int) (a2 : Int) (K0 : Bool → Int → Int → Option R) : Option R :=
  span_IntRight k false a1 a2 (fun r1 =>
    cond (!r1) (
      K0 true 0 0) (
      K0 false a1 a2))
noncomputable def span_IntOf {R : Type} (k : Nat) (a1 : Int) (a2 : Int) (K0 : Bool → Int → Int → Option R) : Option R := span_IntOfT span_IntRight k a1 a2 K0
theorem span_IntOf_gen {R : Type} (span_IntRight : span_IntRightY R) (k : Nat) (a1 : Int) (a2 : Int) (K : AV → Heap → Option R) :
    fnK (mkCx Ty exts [(42, true, S42G span_IntRight k)] fi43 [] []) 6 43 [.i .i64 a1, .i .i64 a2] ⟨0, []⟩ K = span_IntOfT span_IntRight k a1 a2 (fun q1 q2 q3 => K (.agg [.b q1, .i .i64 q2, .i .i64 q3]) ⟨0, []⟩) := by kernel_rfl
noncomputable def S43G {R : Type} (span_IntOf : span_IntOfY R) (k : Nat) : Sum R := fun args H K => match args, H with
  | [.i .i64 a1, .i .i64 a2], ⟨0, []⟩ => span_IntOf k a1 a2 (fun q1 q2 q3 => K (.agg [.b q1, .i .i64 q2, .i .i64 q3]) ⟨0, []⟩)
  | _, _ => none
noncomputable def S43 {R : Type} (k : Nat) : Sum R := S43G span_IntOf k
theorem S43_ok0 {R : Type} (k : Nat) : SumOk Try.prog 43 false (S43 k : Sum R) := by
  intro args H K r h
  unfold S43 S43G at h
  split at h
  · exact fnK_sound (cx43_ok k) 6 43 _ _ K r ((span_IntOf_gen span_IntRight k _ _ K).trans h)
  · cases h
theorem S43_ok {R : Type} (k : Nat) : SumOk Try.prog 43 true (S43 k : Sum R) := by
  refine sumOk_keep (S43_ok0 k) ?_
  intro args H K r h
  unfold S43 S43G at h ⊢
  split at h
  · refine Eq.trans ?_ h
    show span_IntOf k _ _ _ = span_IntOf k _ _ _
    exact congrArg (span_IntOf k _ _) (funext fun q1 => funext fun q2 => funext fun q3 => if_pos (keeps_app _ _ _ []))
  · cases h
end Go.Proofs.Ytejfnbjhcohkiaa.N
