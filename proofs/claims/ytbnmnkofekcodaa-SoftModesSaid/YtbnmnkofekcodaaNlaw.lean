/- Printed by wip/gen/emit.py: functions of the program as plain Lean functions, tied to the model by the evaluator. Conditions: none. -/
import Derived.Test.YtbnmnkofekcodaaNsoft
namespace Go.Proofs.Ytbnmnkofekcodaa.N
set_option linter.unusedVariables false
set_option maxRecDepth 100000
open Go Go.Ab
-- function 17: plumbline/plumblinelaw02.format
noncomputable def fi17 : FnI := ⟨17, Try.f17, []⟩
theorem en17 : Enters Try.prog 17 := enters_of Try.func17 (c := ((Try.f17).body.getD .skip)) (by kernel_rfl) (by kernel_rfl)
noncomputable def cx17 {R : Type} (k : Nat) : Cx R := mkCx Ty exts [] fi17 [] []
theorem cx17_ok {R : Type} (k : Nat) : CxOk Try.prog (cx17 k : Cx R) := mkCx_ok (c := ((Try.f17).body.getD .skip)) ty_ok mixed exts_ok allSum_nil Try.func17 en17 (by kernel_rfl) (by kernel_rfl) allLoop_nil allCut_nil
@[reducible] def plumblinelaw02_formatY (R : Type) : Type := Nat → Int → (Int → Option R) → Option R
noncomputable def plumblinelaw02_formatT {R : Type} (k : Nat) (a1 : Int) (K0 : Int → Option R) : Option R :=
  cond (a1 == 1) (
    K0 a1) (
    K0 0)
noncomputable def plumblinelaw02_format {R : Type} (k : Nat) (a1 : Int) (K0 : Int → Option R) : Option R := plumblinelaw02_formatT k a1 K0
theorem plumblinelaw02_format_gen {R : Type} (k : Nat) (a1 : Int) (K : AV → Heap → Option R) :
    fnK (mkCx Ty exts [] fi17 [] []) 6 17 [.i .i64 a1] ⟨0, []⟩ K = plumblinelaw02_formatT k a1 (fun q1 => K (.i .i64 q1) ⟨0, []⟩) := by kernel_rfl
noncomputable def S17G {R : Type} (plumblinelaw02_format : plumblinelaw02_formatY R) (k : Nat) : Sum R := fun args H K => match args, H with
  | [.i .i64 a1], ⟨0, []⟩ => plumblinelaw02_format k a1 (fun q1 => K (.i .i64 q1) ⟨0, []⟩)
  | _, _ => none
noncomputable def S17 {R : Type} (k : Nat) : Sum R := S17G plumblinelaw02_format k
theorem S17_ok0 {R : Type} (k : Nat) : SumOk Try.prog 17 false (S17 k : Sum R) := by
  intro args H K r h
  unfold S17 S17G at h
  split at h
  · exact fnK_sound (cx17_ok k) 6 17 _ _ K r ((plumblinelaw02_format_gen k _ K).trans h)
  · cases h
theorem S17_ok {R : Type} (k : Nat) : SumOk Try.prog 17 true (S17 k : Sum R) := by
  refine sumOk_keep (S17_ok0 k) ?_
  intro args H K r h
  unfold S17 S17G at h ⊢
  split at h
  · refine Eq.trans ?_ h
    show plumblinelaw02_format k _ _ = plumblinelaw02_format k _ _
    congr 1
    all_goals first | exact (funext fun q1 => if_pos (keeps_app _ _ _ [])) | skip
  · cases h
-- function 14: plumbline/plumblinelaw02.live
noncomputable def fi14 : FnI := ⟨14, Try.f14, []⟩
theorem en14 : Enters Try.prog 14 := enters_of Try.func14 (c := ((Try.f14).body.getD .skip)) (by kernel_rfl) (by kernel_rfl)
noncomputable def cx14 {R : Type} (k : Nat) : Cx R := mkCx Ty exts [(15, true, S15 k), (18, true, S18 k)] fi14 [] []
theorem cx14_ok {R : Type} (k : Nat) : CxOk Try.prog (cx14 k : Cx R) := mkCx_ok (c := ((Try.f14).body.getD .skip)) ty_ok mixed exts_ok (allSum_cons (S15_ok k) en15 (allSum_cons (S18_ok k) en18 allSum_nil)) Try.func14 en14 (by kernel_rfl) (by kernel_rfl) allLoop_nil allCut_nil
@[reducible] def plumblinelaw02_liveY (R : Type) : Type := Nat → (Bool → Option R) → Option R
noncomputable def plumblinelaw02_liveT {R : Type} (soft_Add : soft_AddY R) (soft_Div : soft_DivY R) (k : Nat) (K0 : Bool → Option R) : Option R :=
  soft_Div k 0 0 4607182418800017408 4613937818241073152 (fun r1 =>
    cond (r1 == 4599676419421066581) (
      soft_Div k 0 1 4607182418800017408 4613937818241073152 (fun r2 =>
        cond (r2 == 4599676419421066582) (
          soft_Add k 0 0 4607182418800017408 4607182418800017408 (fun r3 =>
            K0 (r3 == 4611686018427387904))) (
          K0 false))) (
      K0 false))
noncomputable def plumblinelaw02_live {R : Type} (k : Nat) (K0 : Bool → Option R) : Option R := plumblinelaw02_liveT soft_Add soft_Div k K0
theorem plumblinelaw02_live_gen {R : Type} (soft_Div : soft_DivY R) (soft_Add : soft_AddY R) (k : Nat) (K : AV → Heap → Option R) :
    fnK (mkCx Ty exts [(15, true, S15G soft_Div k), (18, true, S18G soft_Add k)] fi14 [] []) 6 14 [] ⟨0, []⟩ K = plumblinelaw02_liveT soft_Add soft_Div k (fun q1 => K (.b q1) ⟨0, []⟩) := by kernel_rfl
noncomputable def S14G {R : Type} (plumblinelaw02_live : plumblinelaw02_liveY R) (k : Nat) : Sum R := fun args H K => match args, H with
  | [], ⟨0, []⟩ => plumblinelaw02_live k (fun q1 => K (.b q1) ⟨0, []⟩)
  | _, _ => none
noncomputable def S14 {R : Type} (k : Nat) : Sum R := S14G plumblinelaw02_live k
theorem S14_ok0 {R : Type} (k : Nat) : SumOk Try.prog 14 false (S14 k : Sum R) := by
  intro args H K r h
  unfold S14 S14G at h
  split at h
  · exact fnK_sound (cx14_ok k) 6 14 _ _ K r ((plumblinelaw02_live_gen soft_Div soft_Add k K).trans h)
  · cases h
theorem S14_ok {R : Type} (k : Nat) : SumOk Try.prog 14 true (S14 k : Sum R) := by
  refine sumOk_keep (S14_ok0 k) ?_
  intro args H K r h
  unfold S14 S14G at h ⊢
  split at h
  · refine Eq.trans ?_ h
    show plumblinelaw02_live k _ = plumblinelaw02_live k _
    congr 1
    all_goals first | exact (funext fun q1 => if_pos (keeps_app _ _ _ [])) | skip
  · cases h
-- function 40: plumbline/plumblinelaw02.by
noncomputable def fi40 : FnI := ⟨40, Try.f40, []⟩
theorem en40 : Enters Try.prog 40 := enters_of Try.func40 (c := ((Try.f40).body.getD .skip)) (by kernel_rfl) (by kernel_rfl)
noncomputable def cx40 {R : Type} (k : Nat) : Cx R := mkCx Ty exts [(15, true, S15 k), (18, true, S18 k), (20, true, S20 k), (24, true, S24 k)] fi40 [] []
theorem cx40_ok {R : Type} (k : Nat) : CxOk Try.prog (cx40 k : Cx R) := mkCx_ok (c := ((Try.f40).body.getD .skip)) ty_ok mixed exts_ok (allSum_cons (S15_ok k) en15 (allSum_cons (S18_ok k) en18 (allSum_cons (S20_ok k) en20 (allSum_cons (S24_ok k) en24 allSum_nil)))) Try.func40 en40 (by kernel_rfl) (by kernel_rfl) allLoop_nil allCut_nil
@[reducible] def plumblinelaw02_byY (R : Type) : Type := Nat → Int → Int → Int → Int → Int → (Int → Option R) → Option R
noncomputable def plumblinelaw02_byT {R : Type} (soft_Add : soft_AddY R) (soft_Div : soft_DivY R) (soft_Mul : soft_MulY R) (soft_Sub : soft_SubY R) (k : Nat) (a1 : Int) (a2 : Int) (a3 : Int) (a4 : Int) (a5 : Int) (K0 : Int → Option R) : Option R :=
  cond (a1 == 8) (
    soft_Add k a2 a3 a4 a5 (fun r1 =>
      K0 r1)) (
    cond (a1 == 9) (
      soft_Sub k a2 a3 a4 a5 (fun r2 =>
        K0 r2)) (
      cond (a1 == 10) (
        soft_Mul k a2 a3 a4 a5 (fun r3 =>
          K0 r3)) (
        soft_Div k a2 a3 a4 a5 (fun r4 =>
          K0 r4))))
noncomputable def plumblinelaw02_by {R : Type} (k : Nat) (a1 : Int) (a2 : Int) (a3 : Int) (a4 : Int) (a5 : Int) (K0 : Int → Option R) : Option R := plumblinelaw02_byT soft_Add soft_Div soft_Mul soft_Sub k a1 a2 a3 a4 a5 K0
theorem plumblinelaw02_by_gen {R : Type} (soft_Div : soft_DivY R) (soft_Add : soft_AddY R) (soft_Sub : soft_SubY R) (soft_Mul : soft_MulY R) (k : Nat) (a1 : Int) (a2 : Int) (a3 : Int) (a4 : Int) (a5 : Int) (K : AV → Heap → Option R) :
    fnK (mkCx Ty exts [(15, true, S15G soft_Div k), (18, true, S18G soft_Add k), (20, true, S20G soft_Sub k), (24, true, S24G soft_Mul k)] fi40 [] []) 6 40 [.i .i64 a1, .i .i64 a2, .i .i64 a3, .i .u64 a4, .i .u64 a5] ⟨0, []⟩ K = plumblinelaw02_byT soft_Add soft_Div soft_Mul soft_Sub k a1 a2 a3 a4 a5 (fun q1 => K (.i .u64 q1) ⟨0, []⟩) := by kernel_rfl
noncomputable def S40G {R : Type} (plumblinelaw02_by : plumblinelaw02_byY R) (k : Nat) : Sum R := fun args H K => match args, H with
  | [.i .i64 a1, .i .i64 a2, .i .i64 a3, .i .u64 a4, .i .u64 a5], ⟨0, []⟩ => plumblinelaw02_by k a1 a2 a3 a4 a5 (fun q1 => K (.i .u64 q1) ⟨0, []⟩)
  | _, _ => none
noncomputable def S40 {R : Type} (k : Nat) : Sum R := S40G plumblinelaw02_by k
theorem S40_ok0 {R : Type} (k : Nat) : SumOk Try.prog 40 false (S40 k : Sum R) := by
  intro args H K r h
  unfold S40 S40G at h
  split at h
  · exact fnK_sound (cx40_ok k) 6 40 _ _ K r ((plumblinelaw02_by_gen soft_Div soft_Add soft_Sub soft_Mul k _ _ _ _ _ K).trans h)
  · cases h
theorem S40_ok {R : Type} (k : Nat) : SumOk Try.prog 40 true (S40 k : Sum R) := by
  refine sumOk_keep (S40_ok0 k) ?_
  intro args H K r h
  unfold S40 S40G at h ⊢
  split at h
  · refine Eq.trans ?_ h
    show plumblinelaw02_by k _ _ _ _ _ _ = plumblinelaw02_by k _ _ _ _ _ _
    congr 1
    all_goals first | exact (funext fun q1 => if_pos (keeps_app _ _ _ [])) | skip
  · cases h
end Go.Proofs.Ytbnmnkofekcodaa.N
