/- Printed by wip/gen/emit.py: functions of the program as plain Lean functions, tied to the model by the evaluator. Conditions: none. -/
import Derived.Test.YtejfnbjhcohkiaaNsoft
import Derived.Test.YtejfnbjhcohkiaaNwide
namespace Go.Proofs.Ytejfnbjhcohkiaa.N
set_option linter.unusedVariables false
set_option maxRecDepth 100000
open Go Go.Ab
-- function 22: plumbline/plumblinetop.not
noncomputable def fi22 : FnI := ⟨22, Try.f22, []⟩
theorem en22 : Enters Try.prog 22 := enters_of Try.func22 (c := ((Try.f22).body.getD .skip)) (by kernel_rfl) (by kernel_rfl)
noncomputable def cx22 {R : Type} (k : Nat) : Cx R := mkCx Ty exts [(48, true, S48 k)] fi22 [] []
theorem cx22_ok {R : Type} (k : Nat) : CxOk Try.prog (cx22 k : Cx R) := mkCx_ok (c := ((Try.f22).body.getD .skip)) ty_ok mixed exts_ok (allSum_cons (S48_ok k) en48 allSum_nil) Try.func22 en22 (by kernel_rfl) (by kernel_rfl) allLoop_nil allCut_nil
@[reducible] def plumblinetop_notY (R : Type) : Type := Nat → Int → Int → Int → (Bool → Option R) → Option R
noncomputable def plumblinetop_notT {R : Type} (soft_Compare : soft_CompareY R) (k : Nat) (a1 : Int) (a2 : Int) (a3 : Int) (K0 : Bool → Option R) : Option R :=
  soft_Compare k a1 a2 a3 (fun r1 r2 =>
    cond r2 (
      K0 (decide (r1 ≤ 0))) (
      K0 false))
noncomputable def plumblinetop_not {R : Type} (k : Nat) (a1 : Int) (a2 : Int) (a3 : Int) (K0 : Bool → Option R) : Option R := plumblinetop_notT soft_Compare k a1 a2 a3 K0
theorem plumblinetop_not_gen {R : Type} (soft_Compare : soft_CompareY R) (k : Nat) (a1 : Int) (a2 : Int) (a3 : Int) (K : AV → Heap → Option R) :
    fnK (mkCx Ty exts [(48, true, S48G soft_Compare k)] fi22 [] []) 6 22 [.i .i64 a1, .i .u64 a2, .i .u64 a3] ⟨0, []⟩ K = plumblinetop_notT soft_Compare k a1 a2 a3 (fun q1 => K (.b q1) ⟨0, []⟩) := by kernel_rfl
noncomputable def S22G {R : Type} (plumblinetop_not : plumblinetop_notY R) (k : Nat) : Sum R := fun args H K => match args, H with
  | [.i .i64 a1, .i .u64 a2, .i .u64 a3], ⟨0, []⟩ => plumblinetop_not k a1 a2 a3 (fun q1 => K (.b q1) ⟨0, []⟩)
  | _, _ => none
noncomputable def S22 {R : Type} (k : Nat) : Sum R := S22G plumblinetop_not k
theorem S22_ok0 {R : Type} (k : Nat) : SumOk Try.prog 22 false (S22 k : Sum R) := by
  intro args H K r h
  unfold S22 S22G at h
  split at h
  · exact fnK_sound (cx22_ok k) 6 22 _ _ K r ((plumblinetop_not_gen soft_Compare k _ _ _ K).trans h)
  · cases h
theorem S22_ok {R : Type} (k : Nat) : SumOk Try.prog 22 true (S22 k : Sum R) := by
  refine sumOk_keep (S22_ok0 k) ?_
  intro args H K r h
  unfold S22 S22G at h ⊢
  split at h
  · refine Eq.trans ?_ h
    show plumblinetop_not k _ _ _ _ = plumblinetop_not k _ _ _ _
    exact congrArg (plumblinetop_not k _ _ _) (funext fun q1 => if_pos (keeps_app _ _ _ []))
  · cases h
-- function 23: plumbline/plumblinetop.format
noncomputable def fi23 : FnI := ⟨23, Try.f23, []⟩
theorem en23 : Enters Try.prog 23 := enters_of Try.func23 (c := ((Try.f23).body.getD .skip)) (by kernel_rfl) (by kernel_rfl)
noncomputable def cx23 {R : Type} (k : Nat) : Cx R := mkCx Ty exts [] fi23 [] []
theorem cx23_ok {R : Type} (k : Nat) : CxOk Try.prog (cx23 k : Cx R) := mkCx_ok (c := ((Try.f23).body.getD .skip)) ty_ok mixed exts_ok allSum_nil Try.func23 en23 (by kernel_rfl) (by kernel_rfl) allLoop_nil allCut_nil
@[reducible] def plumblinetop_formatY (R : Type) : Type := Nat → Int → (Int → Option R) → Option R
noncomputable def plumblinetop_formatT {R : Type} (k : Nat) (a1 : Int) (K0 : Int → Option R) : Option R :=
  cond (a1 == 1) (
    K0 a1) (
    K0 0)
noncomputable def plumblinetop_format {R : Type} (k : Nat) (a1 : Int) (K0 : Int → Option R) : Option R := plumblinetop_formatT k a1 K0
theorem plumblinetop_format_gen {R : Type} (k : Nat) (a1 : Int) (K : AV → Heap → Option R) :
    fnK (mkCx Ty exts [] fi23 [] []) 6 23 [.i .i64 a1] ⟨0, []⟩ K = plumblinetop_formatT k a1 (fun q1 => K (.i .i64 q1) ⟨0, []⟩) := by kernel_rfl
noncomputable def S23G {R : Type} (plumblinetop_format : plumblinetop_formatY R) (k : Nat) : Sum R := fun args H K => match args, H with
  | [.i .i64 a1], ⟨0, []⟩ => plumblinetop_format k a1 (fun q1 => K (.i .i64 q1) ⟨0, []⟩)
  | _, _ => none
noncomputable def S23 {R : Type} (k : Nat) : Sum R := S23G plumblinetop_format k
theorem S23_ok0 {R : Type} (k : Nat) : SumOk Try.prog 23 false (S23 k : Sum R) := by
  intro args H K r h
  unfold S23 S23G at h
  split at h
  · exact fnK_sound (cx23_ok k) 6 23 _ _ K r ((plumblinetop_format_gen k _ K).trans h)
  · cases h
theorem S23_ok {R : Type} (k : Nat) : SumOk Try.prog 23 true (S23 k : Sum R) := by
  refine sumOk_keep (S23_ok0 k) ?_
  intro args H K r h
  unfold S23 S23G at h ⊢
  split at h
  · refine Eq.trans ?_ h
    show plumblinetop_format k _ _ = plumblinetop_format k _ _
    exact congrArg (plumblinetop_format k _) (funext fun q1 => if_pos (keeps_app _ _ _ []))
  · cases h
-- function 25: plumbline/plumblinetop.sound
noncomputable def fi25 : FnI := ⟨25, Try.f25, []⟩
theorem en25 : Enters Try.prog 25 := enters_of Try.func25 (c := ((Try.f25).body.getD .skip)) (by kernel_rfl) (by kernel_rfl)
noncomputable def cx25 {R : Type} (k : Nat) : Cx R := mkCx Ty exts [(29, true, S29 k), (49, true, S49 k)] fi25 [] []
theorem cx25_ok {R : Type} (k : Nat) : CxOk Try.prog (cx25 k : Cx R) := mkCx_ok (c := ((Try.f25).body.getD .skip)) ty_ok mixed exts_ok (allSum_cons (S29_ok k) en29 (allSum_cons (S49_ok k) en49 allSum_nil)) Try.func25 en25 (by kernel_rfl) (by kernel_rfl) allLoop_nil allCut_nil
@[reducible] def plumblinetop_soundY (R : Type) : Type := Nat → (Bool → Option R) → Option R
noncomputable def plumblinetop_soundT {R : Type} (soft_Add : soft_AddY R) (wide_Mul : wide_MulY R) (k : Nat) (K0 : Bool → Option R) : Option R :=
  soft_Add k 0 0 4607182418800017408 4607182418800017408 (fun r1 =>
    cond (r1 == 4611686018427387904) (
      wide_Mul k 3 5 (fun r2 r3 =>
        K0 ((r2 == 0) && (r3 == 15)))) (
      K0 false))
noncomputable def plumblinetop_sound {R : Type} (k : Nat) (K0 : Bool → Option R) : Option R := plumblinetop_soundT soft_Add wide_Mul k K0
theorem plumblinetop_sound_gen {R : Type} (soft_Add : soft_AddY R) (wide_Mul : wide_MulY R) (k : Nat) (K : AV → Heap → Option R) :
    fnK (mkCx Ty exts [(29, true, S29G soft_Add k), (49, true, S49G wide_Mul k)] fi25 [] []) 6 25 [] ⟨0, []⟩ K = plumblinetop_soundT soft_Add wide_Mul k (fun q1 => K (.b q1) ⟨0, []⟩) := by kernel_rfl
noncomputable def S25G {R : Type} (plumblinetop_sound : plumblinetop_soundY R) (k : Nat) : Sum R := fun args H K => match args, H with
  | [], ⟨0, []⟩ => plumblinetop_sound k (fun q1 => K (.b q1) ⟨0, []⟩)
  | _, _ => none
noncomputable def S25 {R : Type} (k : Nat) : Sum R := S25G plumblinetop_sound k
theorem S25_ok0 {R : Type} (k : Nat) : SumOk Try.prog 25 false (S25 k : Sum R) := by
  intro args H K r h
  unfold S25 S25G at h
  split at h
  · exact fnK_sound (cx25_ok k) 6 25 _ _ K r ((plumblinetop_sound_gen soft_Add wide_Mul k K).trans h)
  · cases h
theorem S25_ok {R : Type} (k : Nat) : SumOk Try.prog 25 true (S25 k : Sum R) := by
  refine sumOk_keep (S25_ok0 k) ?_
  intro args H K r h
  unfold S25 S25G at h ⊢
  split at h
  · refine Eq.trans ?_ h
    show plumblinetop_sound k _ = plumblinetop_sound k _
    exact congrArg (plumblinetop_sound k) (funext fun q1 => if_pos (keeps_app _ _ _ []))
  · cases h
end Go.Proofs.Ytejfnbjhcohkiaa.N
