/- Printed by wip/gen/emit.py: functions of the program as plain Lean functions, tied to the model by the evaluator. Conditions: none. -/
import Derived.Test.YtelifkahdhhmoaaNlib
namespace Go.Proofs.Ytelifkahdhhmoaa.N
set_option linter.unusedVariables false
set_option maxRecDepth 100000
open Go Go.Ab
-- function 45: plumbline/wide.Len
noncomputable def fi45 : FnI := ⟨45, Try.f45, []⟩
theorem en45 : Enters Try.prog 45 := enters_of Try.func45 (c := ((Try.f45).body.getD .skip)) (by kernel_rfl) (by kernel_rfl)
noncomputable def cx45 {R : Type} (k : Nat) : Cx R := mkCx Ty exts [(73, true, S73 k)] fi45 [] []
theorem cx45_ok {R : Type} (k : Nat) : CxOk Try.prog (cx45 k : Cx R) := mkCx_ok (c := ((Try.f45).body.getD .skip)) ty_ok mixed exts_ok (allSum_cons (S73_ok k) en73 allSum_nil) Try.func45 en45 (by kernel_rfl) (by kernel_rfl) allLoop_nil allCut_nil
@[reducible] def wide_LenY (R : Type) : Type := Nat → Int → Int → (Int → Option R) → Option R
noncomputable def wide_LenT {R : Type} (bits_Len64 : bits_Len64Y R) (k : Nat) (a1 : Int) (a2 : Int) (K0 : Int → Option R) : Option R :=
  cond (a1 != 0) (
    bits_Len64 k a1 (fun r1 =>
      K0 (Wi64 (64 + r1)))) (
    bits_Len64 k a2 (fun r2 =>
      K0 r2))
noncomputable def wide_Len {R : Type} (k : Nat) (a1 : Int) (a2 : Int) (K0 : Int → Option R) : Option R := wide_LenT bits_Len64 k a1 a2 K0
theorem wide_Len_gen {R : Type} (bits_Len64 : bits_Len64Y R) (k : Nat) (a1 : Int) (a2 : Int) (K : AV → Heap → Option R) :
    fnK (mkCx Ty exts [(73, true, S73G bits_Len64 k)] fi45 [] []) 6 45 [.agg [.i .u64 a1, .i .u64 a2]] ⟨0, []⟩ K = wide_LenT bits_Len64 k a1 a2 (fun q1 => K (.i .i64 q1) ⟨0, []⟩) := by kernel_rfl
noncomputable def S45G {R : Type} (wide_Len : wide_LenY R) (k : Nat) : Sum R := fun args H K => match args, H with
  | [.agg [.i .u64 a1, .i .u64 a2]], ⟨0, []⟩ => wide_Len k a1 a2 (fun q1 => K (.i .i64 q1) ⟨0, []⟩)
  | _, _ => none
noncomputable def S45 {R : Type} (k : Nat) : Sum R := S45G wide_Len k
theorem S45_ok0 {R : Type} (k : Nat) : SumOk Try.prog 45 false (S45 k : Sum R) := by
  intro args H K r h
  unfold S45 S45G at h
  split at h
  · exact fnK_sound (cx45_ok k) 6 45 _ _ K r ((wide_Len_gen bits_Len64 k _ _ K).trans h)
  · cases h
theorem S45_ok {R : Type} (k : Nat) : SumOk Try.prog 45 true (S45 k : Sum R) := by
  refine sumOk_keep (S45_ok0 k) ?_
  intro args H K r h
  unfold S45 S45G at h ⊢
  split at h
  · refine Eq.trans ?_ h
    show wide_Len k _ _ _ = wide_Len k _ _ _
    congr 1
    all_goals first | exact (funext fun q1 => if_pos (keeps_app _ _ _ [])) | skip
  · cases h
-- function 47: plumbline/wide.Shl
noncomputable def fi47 : FnI := ⟨47, Try.f47, []⟩
theorem en47 : Enters Try.prog 47 := enters_of Try.func47 (c := ((Try.f47).body.getD .skip)) (by kernel_rfl) (by kernel_rfl)
noncomputable def cx47 {R : Type} (k : Nat) : Cx R := mkCx Ty exts [] fi47 [] []
theorem cx47_ok {R : Type} (k : Nat) : CxOk Try.prog (cx47 k : Cx R) := mkCx_ok (c := ((Try.f47).body.getD .skip)) ty_ok mixed exts_ok allSum_nil Try.func47 en47 (by kernel_rfl) (by kernel_rfl) allLoop_nil allCut_nil
@[reducible] def wide_ShlY (R : Type) : Type := Nat → Int → Int → Int → (Int → Int → Option R) → Option R
noncomputable def wide_ShlT {R : Type} (k : Nat) (a1 : Int) (a2 : Int) (a3 : Int) (K0 : Int → Int → Option R) : Option R :=
  cond (decide (a3 ≤ 0)) (
    K0 a1 a2) (
    cond (decide (a3 ≥ 64)) (
      cond (decide ((Wi64 (a3 - 64)) < 0)) (
        none) (
        K0 (shl .u64 a2 (Wi64 (a3 - 64))) 0)) (
      cond (decide (a3 < 0)) (
        none) (
        cond (decide ((Wi64 (64 - a3)) < 0)) (
          none) (
          cond (decide (a3 < 0)) (
            none) (
            K0 (bOr .u64 (shl .u64 a1 a3) (shr .u64 a2 (Wi64 (64 - a3)))) (shl .u64 a2 a3))))))
noncomputable def wide_Shl {R : Type} (k : Nat) (a1 : Int) (a2 : Int) (a3 : Int) (K0 : Int → Int → Option R) : Option R := wide_ShlT k a1 a2 a3 K0
theorem wide_Shl_gen {R : Type} (k : Nat) (a1 : Int) (a2 : Int) (a3 : Int) (K : AV → Heap → Option R) :
    fnK (mkCx Ty exts [] fi47 [] []) 6 47 [.agg [.i .u64 a1, .i .u64 a2], .i .i64 a3] ⟨0, []⟩ K = wide_ShlT k a1 a2 a3 (fun q1 q2 => K (.agg [.i .u64 q1, .i .u64 q2]) ⟨0, []⟩) := by kernel_rfl
noncomputable def S47G {R : Type} (wide_Shl : wide_ShlY R) (k : Nat) : Sum R := fun args H K => match args, H with
  | [.agg [.i .u64 a1, .i .u64 a2], .i .i64 a3], ⟨0, []⟩ => wide_Shl k a1 a2 a3 (fun q1 q2 => K (.agg [.i .u64 q1, .i .u64 q2]) ⟨0, []⟩)
  | _, _ => none
noncomputable def S47 {R : Type} (k : Nat) : Sum R := S47G wide_Shl k
theorem S47_ok0 {R : Type} (k : Nat) : SumOk Try.prog 47 false (S47 k : Sum R) := by
  intro args H K r h
  unfold S47 S47G at h
  split at h
  · exact fnK_sound (cx47_ok k) 6 47 _ _ K r ((wide_Shl_gen k _ _ _ K).trans h)
  · cases h
theorem S47_ok {R : Type} (k : Nat) : SumOk Try.prog 47 true (S47 k : Sum R) := by
  refine sumOk_keep (S47_ok0 k) ?_
  intro args H K r h
  unfold S47 S47G at h ⊢
  split at h
  · refine Eq.trans ?_ h
    show wide_Shl k _ _ _ _ = wide_Shl k _ _ _ _
    congr 1
    all_goals first | exact (funext fun q1 => funext fun q2 => if_pos (keeps_app _ _ _ [])) | skip
  · cases h
-- function 46: plumbline/wide.Div
noncomputable def fi46 : FnI := ⟨46, Try.f46, []⟩
theorem en46 : Enters Try.prog 46 := enters_of Try.func46 (c := ((Try.f46).body.getD .skip)) (by kernel_rfl) (by kernel_rfl)
noncomputable def cx46 {R : Type} (k : Nat) : Cx R := mkCx Ty exts [(74, true, S74 k)] fi46 [] []
theorem cx46_ok {R : Type} (k : Nat) : CxOk Try.prog (cx46 k : Cx R) := mkCx_ok (c := ((Try.f46).body.getD .skip)) ty_ok mixed exts_ok (allSum_cons (S74_ok k) en74 allSum_nil) Try.func46 en46 (by kernel_rfl) (by kernel_rfl) allLoop_nil allCut_nil
@[reducible] def wide_DivY (R : Type) : Type := Nat → Int → Int → Int → (Int → Int → Int → Option R) → Option R
noncomputable def wide_DivT {R : Type} (bits_Div64 : bits_Div64Y R) (k : Nat) (a1 : Int) (a2 : Int) (a3 : Int) (K0 : Int → Int → Int → Option R) : Option R :=
  cond (a3 == 0) (
    K0 0 0 0) (
    cond (decide (a3 = 0)) (
      none) (
      cond (decide (a3 = 0)) (
        none) (
        bits_Div64 k (Int.tmod a1 a3) a2 a3 (fun r1 r2 =>
          K0 (Wu64 (Int.tdiv a1 a3)) r1 r2))))
noncomputable def wide_Div {R : Type} (k : Nat) (a1 : Int) (a2 : Int) (a3 : Int) (K0 : Int → Int → Int → Option R) : Option R := wide_DivT bits_Div64 k a1 a2 a3 K0
theorem wide_Div_gen {R : Type} (bits_Div64 : bits_Div64Y R) (k : Nat) (a1 : Int) (a2 : Int) (a3 : Int) (K : AV → Heap → Option R) :
    fnK (mkCx Ty exts [(74, true, S74G bits_Div64 k)] fi46 [] []) 6 46 [.agg [.i .u64 a1, .i .u64 a2], .i .u64 a3] ⟨0, []⟩ K = wide_DivT bits_Div64 k a1 a2 a3 (fun q1 q2 q3 => K (.tup [.agg [.i .u64 q1, .i .u64 q2], .i .u64 q3]) ⟨0, []⟩) := by kernel_rfl
noncomputable def S46G {R : Type} (wide_Div : wide_DivY R) (k : Nat) : Sum R := fun args H K => match args, H with
  | [.agg [.i .u64 a1, .i .u64 a2], .i .u64 a3], ⟨0, []⟩ => wide_Div k a1 a2 a3 (fun q1 q2 q3 => K (.tup [.agg [.i .u64 q1, .i .u64 q2], .i .u64 q3]) ⟨0, []⟩)
  | _, _ => none
noncomputable def S46 {R : Type} (k : Nat) : Sum R := S46G wide_Div k
theorem S46_ok0 {R : Type} (k : Nat) : SumOk Try.prog 46 false (S46 k : Sum R) := by
  intro args H K r h
  unfold S46 S46G at h
  split at h
  · exact fnK_sound (cx46_ok k) 6 46 _ _ K r ((wide_Div_gen bits_Div64 k _ _ _ K).trans h)
  · cases h
theorem S46_ok {R : Type} (k : Nat) : SumOk Try.prog 46 true (S46 k : Sum R) := by
  refine sumOk_keep (S46_ok0 k) ?_
  intro args H K r h
  unfold S46 S46G at h ⊢
  split at h
  · refine Eq.trans ?_ h
    show wide_Div k _ _ _ _ = wide_Div k _ _ _ _
    congr 1
    all_goals first | exact (funext fun q1 => funext fun q2 => funext fun q3 => if_pos (keeps_app _ _ _ [])) | skip
  · cases h
-- function 66: plumbline/wide.Shr
noncomputable def fi66 : FnI := ⟨66, Try.f66, []⟩
theorem en66 : Enters Try.prog 66 := enters_of Try.func66 (c := ((Try.f66).body.getD .skip)) (by kernel_rfl) (by kernel_rfl)
noncomputable def cx66 {R : Type} (k : Nat) : Cx R := mkCx Ty exts [(47, true, S47 k)] fi66 [] []
theorem cx66_ok {R : Type} (k : Nat) : CxOk Try.prog (cx66 k : Cx R) := mkCx_ok (c := ((Try.f66).body.getD .skip)) ty_ok mixed exts_ok (allSum_cons (S47_ok k) en47 allSum_nil) Try.func66 en66 (by kernel_rfl) (by kernel_rfl) allLoop_nil allCut_nil
@[reducible] def wide_ShrY (R : Type) : Type := Nat → Int → Int → Int → (Int → Int → Bool → Option R) → Option R
noncomputable def wide_ShrT {R : Type} (wide_Shl : wide_ShlY R) (k : Nat) (a1 : Int) (a2 : Int) (a3 : Int) (K0 : Int → Int → Bool → Option R) : Option R :=
  cond (decide (a3 ≤ 0)) (
    K0 a1 a2 false) (
    cond (decide (a3 ≥ 128)) (
      wide_Shl k 0 0 a3 (fun r1 r2 =>
        K0 0 0 (!((r1 == a1) && (r2 == a2))))) (
      cond (decide (a3 ≥ 64)) (
        cond (decide ((Wi64 (a3 - 64)) < 0)) (
          none) (
          wide_Shl k 0 (shr .u64 a1 (Wi64 (a3 - 64))) a3 (fun r3 r4 =>
            K0 0 (shr .u64 a1 (Wi64 (a3 - 64))) (!((r3 == a1) && (r4 == a2)))))) (
        cond (decide (a3 < 0)) (
          none) (
          cond (decide (a3 < 0)) (
            none) (
            cond (decide ((Wi64 (64 - a3)) < 0)) (
              none) (
              wide_Shl k (shr .u64 a1 a3) (bOr .u64 (shr .u64 a2 a3) (shl .u64 a1 (Wi64 (64 - a3)))) a3 (fun r5 r6 =>
                K0 (shr .u64 a1 a3) (bOr .u64 (shr .u64 a2 a3) (shl .u64 a1 (Wi64 (64 - a3)))) (!((r5 == a1) && (r6 == a2))))))))))
noncomputable def wide_Shr {R : Type} (k : Nat) (a1 : Int) (a2 : Int) (a3 : Int) (K0 : Int → Int → Bool → Option R) : Option R := wide_ShrT wide_Shl k a1 a2 a3 K0
theorem wide_Shr_gen {R : Type} (wide_Shl : wide_ShlY R) (k : Nat) (a1 : Int) (a2 : Int) (a3 : Int) (K : AV → Heap → Option R) :
    fnK (mkCx Ty exts [(47, true, S47G wide_Shl k)] fi66 [] []) 6 66 [.agg [.i .u64 a1, .i .u64 a2], .i .i64 a3] ⟨0, []⟩ K = wide_ShrT wide_Shl k a1 a2 a3 (fun q1 q2 q3 => K (.tup [.agg [.i .u64 q1, .i .u64 q2], .b q3]) ⟨0, []⟩) := by kernel_rfl
noncomputable def S66G {R : Type} (wide_Shr : wide_ShrY R) (k : Nat) : Sum R := fun args H K => match args, H with
  | [.agg [.i .u64 a1, .i .u64 a2], .i .i64 a3], ⟨0, []⟩ => wide_Shr k a1 a2 a3 (fun q1 q2 q3 => K (.tup [.agg [.i .u64 q1, .i .u64 q2], .b q3]) ⟨0, []⟩)
  | _, _ => none
noncomputable def S66 {R : Type} (k : Nat) : Sum R := S66G wide_Shr k
theorem S66_ok0 {R : Type} (k : Nat) : SumOk Try.prog 66 false (S66 k : Sum R) := by
  intro args H K r h
  unfold S66 S66G at h
  split at h
  · exact fnK_sound (cx66_ok k) 6 66 _ _ K r ((wide_Shr_gen wide_Shl k _ _ _ K).trans h)
  · cases h
theorem S66_ok {R : Type} (k : Nat) : SumOk Try.prog 66 true (S66 k : Sum R) := by
  refine sumOk_keep (S66_ok0 k) ?_
  intro args H K r h
  unfold S66 S66G at h ⊢
  split at h
  · refine Eq.trans ?_ h
    show wide_Shr k _ _ _ _ = wide_Shr k _ _ _ _
    congr 1
    all_goals first | exact (funext fun q1 => funext fun q2 => funext fun q3 => if_pos (keeps_app _ _ _ [])) | skip
  · cases h
end Go.Proofs.Ytelifkahdhhmoaa.N
