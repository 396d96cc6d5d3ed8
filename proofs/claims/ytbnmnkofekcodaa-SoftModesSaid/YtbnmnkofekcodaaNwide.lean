/- Printed by wip/gen/emit.py: functions of the program as plain Lean functions, tied to the model by the evaluator. Conditions: none. -/
import Derived.Test.YtbnmnkofekcodaaNlib
namespace Go.Proofs.Ytbnmnkofekcodaa.N
set_option linter.unusedVariables false
set_option maxRecDepth 100000
open Go Go.Ab
-- function 47: plumbline/wide.Len
noncomputable def fi47 : FnI := ⟨47, Try.f47, []⟩
theorem en47 : Enters Try.prog 47 := enters_of Try.func47 (c := ((Try.f47).body.getD .skip)) (by kernel_rfl) (by kernel_rfl)
noncomputable def cx47 {R : Type} (k : Nat) : Cx R := mkCx Ty exts [(80, true, S80 k)] fi47 [] []
theorem cx47_ok {R : Type} (k : Nat) : CxOk Try.prog (cx47 k : Cx R) := mkCx_ok (c := ((Try.f47).body.getD .skip)) ty_ok mixed exts_ok (allSum_cons (S80_ok k) en80 allSum_nil) Try.func47 en47 (by kernel_rfl) (by kernel_rfl) allLoop_nil allCut_nil
@[reducible] def wide_LenY (R : Type) : Type := Nat → Int → Int → (Int → Option R) → Option R
noncomputable def wide_LenT {R : Type} (bits_Len64 : bits_Len64Y R) (k : Nat) (a1 : Int) (a2 : Int) (K0 : Int → Option R) : Option R :=
  cond (a1 != 0) (
    bits_Len64 k a1 (fun r1 =>
      K0 (Wi64 (64 + r1)))) (
    bits_Len64 k a2 (fun r2 =>
      K0 r2))
noncomputable def wide_Len {R : Type} (k : Nat) (a1 : Int) (a2 : Int) (K0 : Int → Option R) : Option R := wide_LenT bits_Len64 k a1 a2 K0
theorem wide_Len_gen {R : Type} (bits_Len64 : bits_Len64Y R) (k : Nat) (a1 : Int) (a2 : Int) (K : AV → Heap → Option R) :
    fnK (mkCx Ty exts [(80, true, S80G bits_Len64 k)] fi47 [] []) 6 47 [.agg [.i .u64 a1, .i .u64 a2]] ⟨0, []⟩ K = wide_LenT bits_Len64 k a1 a2 (fun q1 => K (.i .i64 q1) ⟨0, []⟩) := by kernel_rfl
noncomputable def S47G {R : Type} (wide_Len : wide_LenY R) (k : Nat) : Sum R := fun args H K => match args, H with
  | [.agg [.i .u64 a1, .i .u64 a2]], ⟨0, []⟩ => wide_Len k a1 a2 (fun q1 => K (.i .i64 q1) ⟨0, []⟩)
  | _, _ => none
noncomputable def S47 {R : Type} (k : Nat) : Sum R := S47G wide_Len k
theorem S47_ok0 {R : Type} (k : Nat) : SumOk Try.prog 47 false (S47 k : Sum R) := by
  intro args H K r h
  unfold S47 S47G at h
  split at h
  · exact fnK_sound (cx47_ok k) 6 47 _ _ K r ((wide_Len_gen bits_Len64 k _ _ K).trans h)
  · cases h
theorem S47_ok {R : Type} (k : Nat) : SumOk Try.prog 47 true (S47 k : Sum R) := by
  refine sumOk_keep (S47_ok0 k) ?_
  intro args H K r h
  unfold S47 S47G at h ⊢
  split at h
  · refine Eq.trans ?_ h
    show wide_Len k _ _ _ = wide_Len k _ _ _
    congr 1
    all_goals first | exact (funext fun q1 => if_pos (keeps_app _ _ _ [])) | skip
  · cases h
-- function 49: plumbline/wide.Shl
noncomputable def fi49 : FnI := ⟨49, Try.f49, []⟩
theorem en49 : Enters Try.prog 49 := enters_of Try.func49 (c := ((Try.f49).body.getD .skip)) (by kernel_rfl) (by kernel_rfl)
noncomputable def cx49 {R : Type} (k : Nat) : Cx R := mkCx Ty exts [] fi49 [] []
theorem cx49_ok {R : Type} (k : Nat) : CxOk Try.prog (cx49 k : Cx R) := mkCx_ok (c := ((Try.f49).body.getD .skip)) ty_ok mixed exts_ok allSum_nil Try.func49 en49 (by kernel_rfl) (by kernel_rfl) allLoop_nil allCut_nil
@[reducible] def wide_ShlY (R : Type) : Type := Nat → Int → Int → Int → (Int → Int → Option R) → Option R
noncomputable def wide_ShlT {R : Type} (k : Nat) (a1 : Int) (a2 : Int) (a3 : Int) (K0 : Int → Int → Option R) : Option R :=
  cond (decide (a3 ≤ 0)) (
    K0 a1 a2) (
    cond (decide (a3 ≥ 64)) (
      cond (decide ((Wi64 (a3 - 64)) < 0)) (
        none) (
        K0 (shl .u64 a2 (Wi64 (a3 - 64))) 0)) (
      cond (decide (a3 < 0)) (
        none) (
        cond (decide ((Wi64 (64 - a3)) < 0)) (
          none) (
          cond (decide (a3 < 0)) (
            none) (
            K0 (bOr .u64 (shl .u64 a1 a3) (shr .u64 a2 (Wi64 (64 - a3)))) (shl .u64 a2 a3))))))
noncomputable def wide_Shl {R : Type} (k : Nat) (a1 : Int) (a2 : Int) (a3 : Int) (K0 : Int → Int → Option R) : Option R := wide_ShlT k a1 a2 a3 K0
theorem wide_Shl_gen {R : Type} (k : Nat) (a1 : Int) (a2 : Int) (a3 : Int) (K : AV → Heap → Option R) :
    fnK (mkCx Ty exts [] fi49 [] []) 6 49 [.agg [.i .u64 a1, .i .u64 a2], .i .i64 a3] ⟨0, []⟩ K = wide_ShlT k a1 a2 a3 (fun q1 q2 => K (.agg [.i .u64 q1, .i .u64 q2]) ⟨0, []⟩) := by kernel_rfl
noncomputable def S49G {R : Type} (wide_Shl : wide_ShlY R) (k : Nat) : Sum R := fun args H K => match args, H with
  | [.agg [.i .u64 a1, .i .u64 a2], .i .i64 a3], ⟨0, []⟩ => wide_Shl k a1 a2 a3 (fun q1 q2 => K (.agg [.i .u64 q1, .i .u64 q2]) ⟨0, []⟩)
  | _, _ => none
noncomputable def S49 {R : Type} (k : Nat) : Sum R := S49G wide_Shl k
theorem S49_ok0 {R : Type} (k : Nat) : SumOk Try.prog 49 false (S49 k : Sum R) := by
  intro args H K r h
  unfold S49 S49G at h
  split at h
  · exact fnK_sound (cx49_ok k) 6 49 _ _ K r ((wide_Shl_gen k _ _ _ K).trans h)
  · cases h
theorem S49_ok {R : Type} (k : Nat) : SumOk Try.prog 49 true (S49 k : Sum R) := by
  refine sumOk_keep (S49_ok0 k) ?_
  intro args H K r h
  unfold S49 S49G at h ⊢
  split at h
  · refine Eq.trans ?_ h
    show wide_Shl k _ _ _ _ = wide_Shl k _ _ _ _
    congr 1
    all_goals first | exact (funext fun q1 => funext fun q2 => if_pos (keeps_app _ _ _ [])) | skip
  · cases h
-- function 48: plumbline/wide.Div
noncomputable def fi48 : FnI := ⟨48, Try.f48, []⟩
theorem en48 : Enters Try.prog 48 := enters_of Try.func48 (c := ((Try.f48).body.getD .skip)) (by kernel_rfl) (by kernel_rfl)
noncomputable def cx48 {R : Type} (k : Nat) : Cx R := mkCx Ty exts [(81, true, S81 k)] fi48 [] []
theorem cx48_ok {R : Type} (k : Nat) : CxOk Try.prog (cx48 k : Cx R) := mkCx_ok (c := ((Try.f48).body.getD .skip)) ty_ok mixed exts_ok (allSum_cons (S81_ok k) en81 allSum_nil) Try.func48 en48 (by kernel_rfl) (by kernel_rfl) allLoop_nil allCut_nil
@[reducible] def wide_DivY (R : Type) : Type := Nat → Int → Int → Int → (Int → Int → Int → Option R) → Option R
noncomputable def wide_DivT {R : Type} (bits_Div64 : bits_Div64Y R) (k : Nat) (a1 : Int) (a2 : Int) (a3 : Int) (K0 : Int → Int → Int → Option R) : Option R :=
  cond (a3 == 0) (
    K0 0 0 0) (
    cond (decide (a3 = 0)) (
      none) (
      cond (decide (a3 = 0)) (
        none) (
        bits_Div64 k (Int.tmod a1 a3) a2 a3 (fun r1 r2 =>
          K0 (Wu64 (Int.tdiv a1 a3)) r1 r2))))
noncomputable def wide_Div {R : Type} (k : Nat) (a1 : Int) (a2 : Int) (a3 : Int) (K0 : Int → Int → Int → Option R) : Option R := wide_DivT bits_Div64 k a1 a2 a3 K0
theorem wide_Div_gen {R : Type} (bits_Div64 : bits_Div64Y R) (k : Nat) (a1 : Int) (a2 : Int) (a3 : Int) (K : AV → Heap → Option R) :
    fnK (mkCx Ty exts [(81, true, S81G bits_Div64 k)] fi48 [] []) 6 48 [.agg [.i .u64 a1, .i .u64 a2], .i .u64 a3] ⟨0, []⟩ K = wide_DivT bits_Div64 k a1 a2 a3 (fun q1 q2 q3 => K (.tup [.agg [.i .u64 q1, .i .u64 q2], .i .u64 q3]) ⟨0, []⟩) := by kernel_rfl
noncomputable def S48G {R : Type} (wide_Div : wide_DivY R) (k : Nat) : Sum R := fun args H K => match args, H with
  | [.agg [.i .u64 a1, .i .u64 a2], .i .u64 a3], ⟨0, []⟩ => wide_Div k a1 a2 a3 (fun q1 q2 q3 => K (.tup [.agg [.i .u64 q1, .i .u64 q2], .i .u64 q3]) ⟨0, []⟩)
  | _, _ => none
noncomputable def S48 {R : Type} (k : Nat) : Sum R := S48G wide_Div k
theorem S48_ok0 {R : Type} (k : Nat) : SumOk Try.prog 48 false (S48 k : Sum R) := by
  intro args H K r h
  unfold S48 S48G at h
  split at h
  · exact fnK_sound (cx48_ok k) 6 48 _ _ K r ((wide_Div_gen bits_Div64 k _ _ _ K).trans h)
  · cases h
theorem S48_ok {R : Type} (k : Nat) : SumOk Try.prog 48 true (S48 k : Sum R) := by
  refine sumOk_keep (S48_ok0 k) ?_
  intro args H K r h
  unfold S48 S48G at h ⊢
  split at h
  · refine Eq.trans ?_ h
    show wide_Div k _ _ _ _ = wide_Div k _ _ _ _
    congr 1
    all_goals first | exact (funext fun q1 => funext fun q2 => funext fun q3 => if_pos (keeps_app _ _ _ [])) | skip
  · cases h
-- function 83: plumbline/wide.Shr
noncomputable def fi83 : FnI := ⟨83, Try.f83, []⟩
theorem en83 : Enters Try.prog 83 := enters_of Try.func83 (c := ((Try.f83).body.getD .skip)) (by kernel_rfl) (by kernel_rfl)
noncomputable def cx83 {R : Type} (k : Nat) : Cx R := mkCx Ty exts [(49, true, S49 k)] fi83 [] []
theorem cx83_ok {R : Type} (k : Nat) : CxOk Try.prog (cx83 k : Cx R) := mkCx_ok (c := ((Try.f83).body.getD .skip)) ty_ok mixed exts_ok (allSum_cons (S49_ok k) en49 allSum_nil) Try.func83 en83 (by kernel_rfl) (by kernel_rfl) allLoop_nil allCut_nil
@[reducible] def wide_ShrY (R : Type) : Type := Nat → Int → Int → Int → (Int → Int → Bool → Option R) → Option R
noncomputable def wide_ShrT {R : Type} (wide_Shl : wide_ShlY R) (k : Nat) (a1 : Int) (a2 : Int) (a3 : Int) (K0 : Int → Int → Bool → Option R) : Option R :=
  cond (decide (a3 ≤ 0)) (
    K0 a1 a2 false) (
    cond (decide (a3 ≥ 128)) (
      wide_Shl k 0 0 a3 (fun r1 r2 =>
        K0 0 0 (!((r1 == a1) && (r2 == a2))))) (
      cond (decide (a3 ≥ 64)) (
        cond (decide ((Wi64 (a3 - 64)) < 0)) (
          none) (
          wide_Shl k 0 (shr .u64 a1 (Wi64 (a3 - 64))) a3 (fun r3 r4 =>
            K0 0 (shr .u64 a1 (Wi64 (a3 - 64))) (!((r3 == a1) && (r4 == a2)))))) (
        cond (decide (a3 < 0)) (
          none) (
          cond (decide (a3 < 0)) (
            none) (
            cond (decide ((Wi64 (64 - a3)) < 0)) (
              none) (
              wide_Shl k (shr .u64 a1 a3) (bOr .u64 (shr .u64 a2 a3) (shl .u64 a1 (Wi64 (64 - a3)))) a3 (fun r5 r6 =>
                K0 (shr .u64 a1 a3) (bOr .u64 (shr .u64 a2 a3) (shl .u64 a1 (Wi64 (64 - a3)))) (!((r5 == a1) && (r6 == a2))))))))))
noncomputable def wide_Shr {R : Type} (k : Nat) (a1 : Int) (a2 : Int) (a3 : Int) (K0 : Int → Int → Bool → Option R) : Option R := wide_ShrT wide_Shl k a1 a2 a3 K0
theorem wide_Shr_gen {R : Type} (wide_Shl : wide_ShlY R) (k : Nat) (a1 : Int) (a2 : Int) (a3 : Int) (K : AV → Heap → Option R) :
    fnK (mkCx Ty exts [(49, true, S49G wide_Shl k)] fi83 [] []) 6 83 [.agg [.i .u64 a1, .i .u64 a2], .i .i64 a3] ⟨0, []⟩ K = wide_ShrT wide_Shl k a1 a2 a3 (fun q1 q2 q3 => K (.tup [.agg [.i .u64 q1, .i .u64 q2], .b q3]) ⟨0, []⟩) := by kernel_rfl
noncomputable def S83G {R : Type} (wide_Shr : wide_ShrY R) (k : Nat) : Sum R := fun args H K => match args, H with
  | [.agg [.i .u64 a1, .i .u64 a2], .i .i64 a3], ⟨0, []⟩ => wide_Shr k a1 a2 a3 (fun q1 q2 q3 => K (.tup [.agg [.i .u64 q1, .i .u64 q2], .b q3]) ⟨0, []⟩)
  | _, _ => none
noncomputable def S83 {R : Type} (k : Nat) : Sum R := S83G wide_Shr k
theorem S83_ok0 {R : Type} (k : Nat) : SumOk Try.prog 83 false (S83 k : Sum R) := by
  intro args H K r h
  unfold S83 S83G at h
  split at h
  · exact fnK_sound (cx83_ok k) 6 83 _ _ K r ((wide_Shr_gen wide_Shl k _ _ _ K).trans h)
  · cases h
theorem S83_ok {R : Type} (k : Nat) : SumOk Try.prog 83 true (S83 k : Sum R) := by
  refine sumOk_keep (S83_ok0 k) ?_
  intro args H K r h
  unfold S83 S83G at h ⊢
  split at h
  · refine Eq.trans ?_ h
    show wide_Shr k _ _ _ _ = wide_Shr k _ _ _ _
    congr 1
    all_goals first | exact (funext fun q1 => funext fun q2 => funext fun q3 => if_pos (keeps_app _ _ _ [])) | skip
  · cases h
-- function 87: plumbline/wide.Add
noncomputable def fi87 : FnI := ⟨87, Try.f87, []⟩
theorem en87 : Enters Try.prog 87 := enters_of Try.func87 (c := ((Try.f87).body.getD .skip)) (by kernel_rfl) (by kernel_rfl)
noncomputable def cx87 {R : Type} (k : Nat) : Cx R := mkCx Ty exts [] fi87 [] []
theorem cx87_ok {R : Type} (k : Nat) : CxOk Try.prog (cx87 k : Cx R) := mkCx_ok (c := ((Try.f87).body.getD .skip)) ty_ok mixed exts_ok allSum_nil Try.func87 en87 (by kernel_rfl) (by kernel_rfl) allLoop_nil allCut_nil
@[reducible] def wide_AddY (R : Type) : Type := Nat → Int → Int → Int → Int → (Int → Int → Bool → Option R) → Option R
noncomputable def wide_AddT {R : Type} (k : Nat) (a1 : Int) (a2 : Int) (a3 : Int) (a4 : Int) (K0 : Int → Int → Bool → Option R) : Option R :=
  cond (decide ((carry64 a2 a4 0) ≤ 1)) (
    K0 (add64 a1 a3 (carry64 a2 a4 0)) (add64 a2 a4 0) ((carry64 a1 a3 (carry64 a2 a4 0)) == 1)) (
    none)
noncomputable def wide_Add {R : Type} (k : Nat) (a1 : Int) (a2 : Int) (a3 : Int) (a4 : Int) (K0 : Int → Int → Bool → Option R) : Option R := wide_AddT k a1 a2 a3 a4 K0
theorem wide_Add_gen {R : Type} (k : Nat) (a1 : Int) (a2 : Int) (a3 : Int) (a4 : Int) (K : AV → Heap → Option R) :
    fnK (mkCx Ty exts [] fi87 [] []) 6 87 [.agg [.i .u64 a1, .i .u64 a2], .agg [.i .u64 a3, .i .u64 a4]] ⟨0, []⟩ K = wide_AddT k a1 a2 a3 a4 (fun q1 q2 q3 => K (.tup [.agg [.i .u64 q1, .i .u64 q2], .b q3]) ⟨0, []⟩) := by kernel_rfl
noncomputable def S87G {R : Type} (wide_Add : wide_AddY R) (k : Nat) : Sum R := fun args H K => match args, H with
  | [.agg [.i .u64 a1, .i .u64 a2], .agg [.i .u64 a3, .i .u64 a4]], ⟨0, []⟩ => wide_Add k a1 a2 a3 a4 (fun q1 q2 q3 => K (.tup [.agg [.i .u64 q1, .i .u64 q2], .b q3]) ⟨0, []⟩)
  | _, _ => none
noncomputable def S87 {R : Type} (k : Nat) : Sum R := S87G wide_Add k
theorem S87_ok0 {R : Type} (k : Nat) : SumOk Try.prog 87 false (S87 k : Sum R) := by
  intro args H K r h
  unfold S87 S87G at h
  split at h
  · exact fnK_sound (cx87_ok k) 6 87 _ _ K r ((wide_Add_gen k _ _ _ _ K).trans h)
  · cases h
theorem S87_ok {R : Type} (k : Nat) : SumOk Try.prog 87 true (S87 k : Sum R) := by
  refine sumOk_keep (S87_ok0 k) ?_
  intro args H K r h
  unfold S87 S87G at h ⊢
  split at h
  · refine Eq.trans ?_ h
    show wide_Add k _ _ _ _ _ = wide_Add k _ _ _ _ _
    congr 1
    all_goals first | exact (funext fun q1 => funext fun q2 => funext fun q3 => if_pos (keeps_app _ _ _ [])) | skip
  · cases h
-- function 88: plumbline/wide.Sub
noncomputable def fi88 : FnI := ⟨88, Try.f88, []⟩
theorem en88 : Enters Try.prog 88 := enters_of Try.func88 (c := ((Try.f88).body.getD .skip)) (by kernel_rfl) (by kernel_rfl)
noncomputable def cx88 {R : Type} (k : Nat) : Cx R := mkCx Ty exts [] fi88 [] []
theorem cx88_ok {R : Type} (k : Nat) : CxOk Try.prog (cx88 k : Cx R) := mkCx_ok (c := ((Try.f88).body.getD .skip)) ty_ok mixed exts_ok allSum_nil Try.func88 en88 (by kernel_rfl) (by kernel_rfl) allLoop_nil allCut_nil
@[reducible] def wide_SubY (R : Type) : Type := Nat → Int → Int → Int → Int → (Int → Int → Bool → Option R) → Option R
noncomputable def wide_SubT {R : Type} (k : Nat) (a1 : Int) (a2 : Int) (a3 : Int) (a4 : Int) (K0 : Int → Int → Bool → Option R) : Option R :=
  cond (decide ((borrow64 a2 a4 0) ≤ 1)) (
    K0 (sub64 a1 a3 (borrow64 a2 a4 0)) (sub64 a2 a4 0) ((borrow64 a1 a3 (borrow64 a2 a4 0)) == 1)) (
    none)
noncomputable def wide_Sub {R : Type} (k : Nat) (a1 : Int) (a2 : Int) (a3 : Int) (a4 : Int) (K0 : Int → Int → Bool → Option R) : Option R := wide_SubT k a1 a2 a3 a4 K0
theorem wide_Sub_gen {R : Type} (k : Nat) (a1 : Int) (a2 : Int) (a3 : Int) (a4 : Int) (K : AV → Heap → Option R) :
    fnK (mkCx Ty exts [] fi88 [] []) 6 88 [.agg [.i .u64 a1, .i .u64 a2], .agg [.i .u64 a3, .i .u64 a4]] ⟨0, []⟩ K = wide_SubT k a1 a2 a3 a4 (fun q1 q2 q3 => K (.tup [.agg [.i .u64 q1, .i .u64 q2], .b q3]) ⟨0, []⟩) := by kernel_rfl
noncomputable def S88G {R : Type} (wide_Sub : wide_SubY R) (k : Nat) : Sum R := fun args H K => match args, H with
  | [.agg [.i .u64 a1, .i .u64 a2], .agg [.i .u64 a3, .i .u64 a4]], ⟨0, []⟩ => wide_Sub k a1 a2 a3 a4 (fun q1 q2 q3 => K (.tup [.agg [.i .u64 q1, .i .u64 q2], .b q3]) ⟨0, []⟩)
  | _, _ => none
noncomputable def S88 {R : Type} (k : Nat) : Sum R := S88G wide_Sub k
theorem S88_ok0 {R : Type} (k : Nat) : SumOk Try.prog 88 false (S88 k : Sum R) := by
  intro args H K r h
  unfold S88 S88G at h
  split at h
  · exact fnK_sound (cx88_ok k) 6 88 _ _ K r ((wide_Sub_gen k _ _ _ _ K).trans h)
  · cases h
theorem S88_ok {R : Type} (k : Nat) : SumOk Try.prog 88 true (S88 k : Sum R) := by
  refine sumOk_keep (S88_ok0 k) ?_
  intro args H K r h
  unfold S88 S88G at h ⊢
  split at h
  · refine Eq.trans ?_ h
    show wide_Sub k _ _ _ _ _ = wide_Sub k _ _ _ _ _
    congr 1
    all_goals first | exact (funext fun q1 => funext fun q2 => funext fun q3 => if_pos (keeps_app _ _ _ [])) | skip
  · cases h
-- function 67: plumbline/wide.Mul
noncomputable def fi67 : FnI := ⟨67, Try.f67, []⟩
theorem en67 : Enters Try.prog 67 := enters_of Try.func67 (c := ((Try.f67).body.getD .skip)) (by kernel_rfl) (by kernel_rfl)
noncomputable def cx67 {R : Type} (k : Nat) : Cx R := mkCx Ty exts [(89, true, S89 k)] fi67 [] []
theorem cx67_ok {R : Type} (k : Nat) : CxOk Try.prog (cx67 k : Cx R) := mkCx_ok (c := ((Try.f67).body.getD .skip)) ty_ok mixed exts_ok (allSum_cons (S89_ok k) en89 allSum_nil) Try.func67 en67 (by kernel_rfl) (by kernel_rfl) allLoop_nil allCut_nil
@[reducible] def wide_MulY (R : Type) : Type := Nat → Int → Int → (Int → Int → Option R) → Option R
noncomputable def wide_MulT {R : Type} (bits_Mul64 : bits_Mul64Y R) (k : Nat) (a1 : Int) (a2 : Int) (K0 : Int → Int → Option R) : Option R :=
  bits_Mul64 k a1 a2 (fun r1 r2 =>
    K0 r1 r2)
noncomputable def wide_Mul {R : Type} (k : Nat) (a1 : Int) (a2 : Int) (K0 : Int → Int → Option R) : Option R := wide_MulT bits_Mul64 k a1 a2 K0
theorem wide_Mul_gen {R : Type} (bits_Mul64 : bits_Mul64Y R) (k : Nat) (a1 : Int) (a2 : Int) (K : AV → Heap → Option R) :
    fnK (mkCx Ty exts [(89, true, S89G bits_Mul64 k)] fi67 [] []) 6 67 [.i .u64 a1, .i .u64 a2] ⟨0, []⟩ K = wide_MulT bits_Mul64 k a1 a2 (fun q1 q2 => K (.agg [.i .u64 q1, .i .u64 q2]) ⟨0, []⟩) := by kernel_rfl
noncomputable def S67G {R : Type} (wide_Mul : wide_MulY R) (k : Nat) : Sum R := fun args H K => match args, H with
  | [.i .u64 a1, .i .u64 a2], ⟨0, []⟩ => wide_Mul k a1 a2 (fun q1 q2 => K (.agg [.i .u64 q1, .i .u64 q2]) ⟨0, []⟩)
  | _, _ => none
noncomputable def S67 {R : Type} (k : Nat) : Sum R := S67G wide_Mul k
theorem S67_ok0 {R : Type} (k : Nat) : SumOk Try.prog 67 false (S67 k : Sum R) := by
  intro args H K r h
  unfold S67 S67G at h
  split at h
  · exact fnK_sound (cx67_ok k) 6 67 _ _ K r ((wide_Mul_gen bits_Mul64 k _ _ K).trans h)
  · cases h
theorem S67_ok {R : Type} (k : Nat) : SumOk Try.prog 67 true (S67 k : Sum R) := by
  refine sumOk_keep (S67_ok0 k) ?_
  intro args H K r h
  unfold S67 S67G at h ⊢
  split at h
  · refine Eq.trans ?_ h
    show wide_Mul k _ _ _ = wide_Mul k _ _ _
    congr 1
    all_goals first | exact (funext fun q1 => funext fun q2 => if_pos (keeps_app _ _ _ [])) | skip
  · cases h
-- function 101: plumbline/wide.words
noncomputable def fi101 : FnI := ⟨101, Try.f101, []⟩
theorem en101 : Enters Try.prog 101 := enters_of Try.func101 (c := ((Try.f101).body.getD .skip)) (by kernel_rfl) (by kernel_rfl)
noncomputable def cx101 {R : Type} (k : Nat) : Cx R := mkCx Ty exts [] fi101 [] []
theorem cx101_ok {R : Type} (k : Nat) : CxOk Try.prog (cx101 k : Cx R) := mkCx_ok (c := ((Try.f101).body.getD .skip)) ty_ok mixed exts_ok allSum_nil Try.func101 en101 (by kernel_rfl) (by kernel_rfl) allLoop_nil allCut_nil
@[reducible] def wide_wordsY (R : Type) : Type := Nat → Int → Int → (Option R) → Option R
noncomputable def wide_wordsT {R : Type} (k : Nat) (a1 : Int) (a2 : Int) (K0 : Option R) : Option R :=
  K0
noncomputable def wide_words {R : Type} (k : Nat) (a1 : Int) (a2 : Int) (K0 : Option R) : Option R := wide_wordsT k a1 a2 K0
theorem wide_words_gen {R : Type} (k : Nat) (a1 : Int) (a2 : Int) (K : AV → Heap → Option R) :
    fnK (mkCx Ty exts [] fi101 [] []) 6 101 [.agg [.i .u64 a1, .i .u64 a2]] ⟨0, []⟩ K = wide_wordsT k a1 a2 (K (.agg [.i .u64 a1, .i .u64 a2]) ⟨0, []⟩) := by kernel_rfl
noncomputable def S101G {R : Type} (wide_words : wide_wordsY R) (k : Nat) : Sum R := fun args H K => match args, H with
  | [.agg [.i .u64 a1, .i .u64 a2]], ⟨0, []⟩ => wide_words k a1 a2 (K (.agg [.i .u64 a1, .i .u64 a2]) ⟨0, []⟩)
  | _, _ => none
noncomputable def S101 {R : Type} (k : Nat) : Sum R := S101G wide_words k
theorem S101_ok0 {R : Type} (k : Nat) : SumOk Try.prog 101 false (S101 k : Sum R) := by
  intro args H K r h
  unfold S101 S101G at h
  split at h
  · exact fnK_sound (cx101_ok k) 6 101 _ _ K r ((wide_words_gen k _ _ K).trans h)
  · cases h
theorem S101_ok {R : Type} (k : Nat) : SumOk Try.prog 101 true (S101 k : Sum R) := by
  refine sumOk_keep (S101_ok0 k) ?_
  intro args H K r h
  unfold S101 S101G at h ⊢
  split at h
  · refine Eq.trans ?_ h
    show wide_words k _ _ _ = wide_words k _ _ _
    congr 1
    all_goals first | exact (if_pos (keeps_app _ _ _ [])) | skip
  · cases h
-- function 92: plumbline/wide.Compare
noncomputable def fi92 : FnI := ⟨92, Try.f92, []⟩
theorem en92 : Enters Try.prog 92 := enters_of Try.func92 (c := ((Try.f92).body.getD .skip)) (by kernel_rfl) (by kernel_rfl)
noncomputable def cx92 {R : Type} (k : Nat) : Cx R := mkCx Ty exts [(101, true, S101 k), (102, true, S102 k), (103, true, S103 k)] fi92 [] []
theorem cx92_ok {R : Type} (k : Nat) : CxOk Try.prog (cx92 k : Cx R) := mkCx_ok (c := ((Try.f92).body.getD .skip)) ty_ok mixed exts_ok (allSum_cons (S101_ok k) en101 (allSum_cons (S102_ok k) en102 (allSum_cons (S103_ok k) en103 allSum_nil))) Try.func92 en92 (by kernel_rfl) (by kernel_rfl) allLoop_nil allCut_nil
@[reducible] def wide_CompareY (R : Type) : Type := Nat → Int → Int → Int → Int → (Int → Option R) → Option R
noncomputable def wide_CompareT {R : Type} (cmp_Compare_uint64 : cmp_Compare_uint64Y R) (cmp_Or_int : cmp_Or_intY R) (wide_words : wide_wordsY R) (k : Nat) (a1 : Int) (a2 : Int) (a3 : Int) (a4 : Int) (K0 : Int → Option R) : Option R :=
  wide_words k a1 a2 (
    wide_words k a3 a4 (
      cmp_Compare_uint64 k a1 a3 (fun r1 =>
        cmp_Compare_uint64 k a2 a4 (fun r2 =>
          cmp_Or_int k [r1, r2] (fun r3 =>
            K0 r3)))))
noncomputable def wide_Compare {R : Type} (k : Nat) (a1 : Int) (a2 : Int) (a3 : Int) (a4 : Int) (K0 : Int → Option R) : Option R := wide_CompareT cmp_Compare_uint64 cmp_Or_int wide_words k a1 a2 a3 a4 K0
theorem wide_Compare_gen {R : Type} (wide_words : wide_wordsY R) (cmp_Or_int : cmp_Or_intY R) (cmp_Compare_uint64 : cmp_Compare_uint64Y R) (k : Nat) (a1 : Int) (a2 : Int) (a3 : Int) (a4 : Int) (K : AV → Heap → Option R) :
    fnK (mkCx Ty exts [(101, true, S101G wide_words k), (102, true, S102G cmp_Or_int k), (103, true, S103G cmp_Compare_uint64 k)] fi92 [] []) 6 92 [.agg [.i .u64 a1, .i .u64 a2], .agg [.i .u64 a3, .i .u64 a4]] ⟨0, []⟩ K = wide_CompareT cmp_Compare_uint64 cmp_Or_int wide_words k a1 a2 a3 a4 (fun q1 => K (.i .i64 q1) ⟨0, []⟩) := by kernel_rfl
noncomputable def S92G {R : Type} (wide_Compare : wide_CompareY R) (k : Nat) : Sum R := fun args H K => match args, H with
  | [.agg [.i .u64 a1, .i .u64 a2], .agg [.i .u64 a3, .i .u64 a4]], ⟨0, []⟩ => wide_Compare k a1 a2 a3 a4 (fun q1 => K (.i .i64 q1) ⟨0, []⟩)
  | _, _ => none
noncomputable def S92 {R : Type} (k : Nat) : Sum R := S92G wide_Compare k
theorem S92_ok0 {R : Type} (k : Nat) : SumOk Try.prog 92 false (S92 k : Sum R) := by
  intro args H K r h
  unfold S92 S92G at h
  split at h
  · exact fnK_sound (cx92_ok k) 6 92 _ _ K r ((wide_Compare_gen wide_words cmp_Or_int cmp_Compare_uint64 k _ _ _ _ K).trans h)
  · cases h
theorem S92_ok {R : Type} (k : Nat) : SumOk Try.prog 92 true (S92 k : Sum R) := by
  refine sumOk_keep (S92_ok0 k) ?_
  intro args H K r h
  unfold S92 S92G at h ⊢
  split at h
  · refine Eq.trans ?_ h
    show wide_Compare k _ _ _ _ _ = wide_Compare k _ _ _ _ _
    congr 1
    all_goals first | exact (funext fun q1 => if_pos (keeps_app _ _ _ [])) | skip
  · cases h
-- function 75: plumbline/wide.Sqrt
noncomputable def fi75 : FnI := ⟨75, Try.f75, [(200000, [1, 3, 4, 5, 6]), (3000000, [2, 3])]⟩
theorem en75 : Enters Try.prog 75 := enters_of Try.func75 (c := ((Try.f75).body.getD .skip)) (by kernel_rfl) (by kernel_rfl)
@[reducible] def wide_Sqrt_l0Y (R : Type) : Type := Nat → Nat → Int → Int → Int → Int → Int → Int → Int → Int → (Int → Int → Int → Option R) → Option R
noncomputable def wide_Sqrt_l0B {R : Type} (wide_Compare : wide_CompareY R) (wide_Shl : wide_ShlY R) (wide_Shr : wide_ShrY R) (wide_Sub : wide_SubY R) (k : Nat) (rec : Int → Int → Int → Int → Int → Int → Int → Int → Option R) (x1 : Int) (x2 : Int) (x3 : Int) (x4 : Int) (x5 : Int) (x6 : Int) (x7 : Int) (x8 : Int) (K0 : Int → Int → Int → Option R) : Option R :=
  wide_Shr k x3 x4 x2 (fun yr1 yr2 yr3 =>
    wide_Shl k x7 x8 2 (fun yr4 yr5 =>
      wide_Compare k yr4 (bOr .u64 yr5 (bAnd .u64 yr2 3)) (shr .u64 x1 62) (bOr .u64 (shl .u64 x1 2) 1) (fun yr6 =>
        cond (decide (yr6 ≥ 0)) (
          wide_Sub k yr4 (bOr .u64 yr5 (bAnd .u64 yr2 3)) (shr .u64 x1 62) (bOr .u64 (shl .u64 x1 2) 1) (fun yr7 yr8 yr9 =>
            cond (decide ((Wi64 (x2 - 2)) ≥ 0)) (
              rec (bOr .u64 (shl .u64 x1 1) 1) (Wi64 (x2 - 2)) x3 x4 x5 x6 yr7 yr8) (
              K0 (bOr .u64 (shl .u64 x1 1) 1) yr7 yr8))) (
          cond (decide ((Wi64 (x2 - 2)) ≥ 0)) (
            rec (shl .u64 x1 1) (Wi64 (x2 - 2)) x3 x4 x5 x6 yr4 (bOr .u64 yr5 (bAnd .u64 yr2 3))) (
            K0 (shl .u64 x1 1) yr4 (bOr .u64 yr5 (bAnd .u64 yr2 3)))))))
noncomputable def wide_Sqrt_l0 {R : Type} (k : Nat) : Nat → Int → Int → Int → Int → Int → Int → Int → Int → (Int → Int → Int → Option R) → Option R
  | 0, _, _, _, _, _, _, _, _, _ => none
  | n + 1, x1, x2, x3, x4, x5, x6, x7, x8, K0 => wide_Sqrt_l0B wide_Compare wide_Shl wide_Shr wide_Sub k (fun x1 x2 x3 x4 x5 x6 x7 x8 => wide_Sqrt_l0 k n x1 x2 x3 x4 x5 x6 x7 x8 K0) x1 x2 x3 x4 x5 x6 x7 x8 K0
noncomputable def cx75_1000000 {R : Type} (k : Nat) : Cx R := mkCx Ty exts [(49, true, S49 k), (83, true, S83 k), (88, true, S88 k), (92, true, S92 k)] fi75 [] []
theorem cx75_1000000_ok {R : Type} (k : Nat) : CxOk Try.prog (cx75_1000000 k : Cx R) := mkCx_ok (c := ((Try.f75).body.getD .skip)) ty_ok mixed exts_ok (allSum_cons (S49_ok k) en49 (allSum_cons (S83_ok k) en83 (allSum_cons (S88_ok k) en88 (allSum_cons (S92_ok k) en92 allSum_nil)))) Try.func75 en75 (by kernel_rfl) (by kernel_rfl) allLoop_nil allCut_nil
noncomputable def L75_1000000G {R : Type} (wide_Sqrt_l0 : wide_Sqrt_l0Y R) (k n : Nat) : LSum R := fun pin T H K => match pin, T, H with
  | 0, [(1, .ptr 0 0 0 0 0), (3, .ptr 1 0 0 0 0), (4, .i .u64 x1), (5, .ptr 2 0 0 0 0), (6, .i .i64 x2)], ⟨3, [(0, some ⟨0, false, .cells [.i .u64 x3, .i .u64 x4]⟩), (1, some ⟨1, false, .cells [.i .u64 x5, .i .u64 x6]⟩), (2, some ⟨2, false, .cells [.i .u64 x7, .i .u64 x8]⟩)]⟩ => wide_Sqrt_l0 k n x1 x2 x3 x4 x5 x6 x7 x8 (fun q1 q2 q3 => K .ret [(2, .i .u64 q1), (3, .ptr 0 0 0 0 0)] ⟨1, [(0, some ⟨0, false, .cells [.i .u64 q2, .i .u64 q3]⟩)]⟩)
  | _, _, _ => none
noncomputable def L75_1000000 {R : Type} (k n : Nat) : LSum R := L75_1000000G wide_Sqrt_l0 k n
theorem wide_Sqrt_l0_gen {R : Type} (wide_Shl : wide_ShlY R) (wide_Shr : wide_ShrY R) (wide_Sub : wide_SubY R) (wide_Compare : wide_CompareY R) (wide_Sqrt_l0 : wide_Sqrt_l0Y R) (k n : Nat) (x1 : Int) (x2 : Int) (x3 : Int) (x4 : Int) (x5 : Int) (x6 : Int) (x7 : Int) (x8 : Int) (K : Kont R) :
    (fun C => codeK C (run C 4)) (mkCx Ty exts [(49, true, S49G wide_Shl k), (83, true, S83G wide_Shr k), (88, true, S88G wide_Sub k), (92, true, S92G wide_Compare k)] fi75 [] []) 0 fi75 (restAt ((Try.f75).body.getD .skip) 0) [(1, .ptr 0 0 0 0 0), (3, .ptr 1 0 0 0 0), (4, .i .u64 x1), (5, .ptr 2 0 0 0 0), (6, .i .i64 x2)] ⟨3, [(0, some ⟨0, false, .cells [.i .u64 x3, .i .u64 x4]⟩), (1, some ⟨1, false, .cells [.i .u64 x5, .i .u64 x6]⟩), (2, some ⟨2, false, .cells [.i .u64 x7, .i .u64 x8]⟩)]⟩ (fun ex T H => match (generalizing := false) ex with
      | .goto l' => cond (Nat.beq l' 0) (normAt (some [1, 3, 4, 5, 6]) 0 T H (fun T H => L75_1000000G wide_Sqrt_l0 k n 0 T H K)) (match findLabel (scopeAt ((Try.f75).body.getD .skip) 0) l' with | some _ => none | none => exitNorm fi75.ann 1000000 0 K (.goto l') T H)
      | ex => exitNorm fi75.ann 1000000 0 K ex T H) =
    wide_Sqrt_l0B wide_Compare wide_Shl wide_Shr wide_Sub k (fun x1 x2 x3 x4 x5 x6 x7 x8 => wide_Sqrt_l0 k n x1 x2 x3 x4 x5 x6 x7 x8 (fun q1 q2 q3 => K .ret [(2, .i .u64 q1), (3, .ptr 0 0 0 0 0)] ⟨1, [(0, some ⟨0, false, .cells [.i .u64 q2, .i .u64 q3]⟩)]⟩)) x1 x2 x3 x4 x5 x6 x7 x8 (fun q1 q2 q3 => K .ret [(2, .i .u64 q1), (3, .ptr 0 0 0 0 0)] ⟨1, [(0, some ⟨0, false, .cells [.i .u64 q2, .i .u64 q3]⟩)]⟩) := by kernel_rfl
theorem L75_1000000_cok {R : Type} (k : Nat) : CodeOk Try.prog (cx75_1000000 k : Cx R) fi75 (restAt ((Try.f75).body.getD .skip) 0) := restAt_ok (((cx75_1000000_ok k).fns 75 fi75 (by kernel_rfl)).2.2.2 ((Try.f75).body.getD .skip) (by kernel_rfl))
theorem L75_1000000_ok {R : Type} (k : Nat) : ∀ n, JumpOk Try.prog (Try.f75).ntmps (scopeAt ((Try.f75).body.getD .skip) 0) (restAt ((Try.f75).body.getD .skip) 0) (L75_1000000 k n : LSum R)
  | 0 => by
    intro pin T H K r h
    unfold L75_1000000 L75_1000000G at h
    split at h
    all_goals exact nomatch (show (none : Option R) = some r from h)
  | n + 1 => by
    intro pin T H K r h
    unfold L75_1000000 L75_1000000G at h
    split at h
    · obtain ⟨ex, T1, H1, h, hb⟩ := codeK_sound (cx75_1000000_ok k) (run_sound (cx75_1000000_ok k) 4) _ fi75 _ _ _ _ _ (L75_1000000_cok k) ((wide_Sqrt_l0_gen wide_Shl wide_Shr wide_Sub wide_Compare wide_Sqrt_l0 k n _ _ _ _ _ _ _ _ K).trans h)
      exact jump_step (by kernel_rfl) (fun T H hh => L75_1000000_ok k n _ T H K r hh) hb h
    · cases h
noncomputable def cx75 {R : Type} (k : Nat) : Cx R := mkCx Ty exts [(49, true, S49 k), (83, true, S83 k), (88, true, S88 k), (92, true, S92 k)] fi75 [(1000000, L75_1000000 k k)] []
theorem cx75_ok {R : Type} (k : Nat) : CxOk Try.prog (cx75 k : Cx R) := mkCx_ok (c := ((Try.f75).body.getD .skip)) ty_ok mixed exts_ok (allSum_cons (S49_ok k) en49 (allSum_cons (S83_ok k) en83 (allSum_cons (S88_ok k) en88 (allSum_cons (S92_ok k) en92 allSum_nil)))) Try.func75 en75 (by kernel_rfl) (by kernel_rfl) (allLoop_jump (by kernel_rfl) (L75_1000000_ok k k) (by kernel_rfl) allLoop_nil) allCut_nil
@[reducible] def wide_SqrtY (R : Type) : Type := Nat → Int → Int → (Int → Int → Int → Option R) → Option R
noncomputable def wide_SqrtT {R : Type} (wide_Compare : wide_CompareY R) (wide_Shl : wide_ShlY R) (wide_Shr : wide_ShrY R) (wide_Sqrt_l0 : wide_Sqrt_l0Y R) (wide_Sub : wide_SubY R) (k : Nat) (a1 : Int) (a2 : Int) (K0 : Int → Int → Int → Option R) : Option R :=
  wide_Shr k a1 a2 126 (fun r1 r2 r3 =>
    wide_Shl k 0 0 2 (fun r4 r5 =>
      wide_Compare k r4 (bOr .u64 r5 (bAnd .u64 r2 3)) 0 1 (fun r6 =>
        cond (decide (r6 ≥ 0)) (
          wide_Sub k r4 (bOr .u64 r5 (bAnd .u64 r2 3)) 0 1 (fun r7 r8 r9 =>
            wide_Sqrt_l0 k k 1 124 a1 a2 0 0 r7 r8 (fun r10 r11 r12 =>
              K0 r10 r11 r12))) (
          wide_Sqrt_l0 k k 0 124 a1 a2 0 0 r4 (bOr .u64 r5 (bAnd .u64 r2 3)) (fun r13 r14 r15 =>
            K0 r13 r14 r15)))))
noncomputable def wide_Sqrt {R : Type} (k : Nat) (a1 : Int) (a2 : Int) (K0 : Int → Int → Int → Option R) : Option R := wide_SqrtT wide_Compare wide_Shl wide_Shr wide_Sqrt_l0 wide_Sub k a1 a2 K0
theorem wide_Sqrt_gen {R : Type} (wide_Shl : wide_ShlY R) (wide_Shr : wide_ShrY R) (wide_Sub : wide_SubY R) (wide_Compare : wide_CompareY R) (wide_Sqrt_l0 : wide_Sqrt_l0Y R) (k : Nat) (a1 : Int) (a2 : Int) (K : AV → Heap → Option R) :
    fnK (mkCx Ty exts [(49, true, S49G wide_Shl k), (83, true, S83G wide_Shr k), (88, true, S88G wide_Sub k), (92, true, S92G wide_Compare k)] fi75 [(1000000, L75_1000000G wide_Sqrt_l0 k k)] []) 6 75 [.agg [.i .u64 a1, .i .u64 a2]] ⟨0, []⟩ K = wide_SqrtT wide_Compare wide_Shl wide_Shr wide_Sqrt_l0 wide_Sub k a1 a2 (fun q1 q2 q3 => K (.tup [.i .u64 q1, .agg [.i .u64 q2, .i .u64 q3]]) ⟨0, []⟩) := by kernel_rfl
noncomputable def S75G {R : Type} (wide_Sqrt : wide_SqrtY R) (k : Nat) : Sum R := fun args H K => match args, H with
  | [.agg [.i .u64 a1, .i .u64 a2]], ⟨0, []⟩ => wide_Sqrt k a1 a2 (fun q1 q2 q3 => K (.tup [.i .u64 q1, .agg [.i .u64 q2, .i .u64 q3]]) ⟨0, []⟩)
  | _, _ => none
noncomputable def S75 {R : Type} (k : Nat) : Sum R := S75G wide_Sqrt k
theorem S75_ok0 {R : Type} (k : Nat) : SumOk Try.prog 75 false (S75 k : Sum R) := by
  intro args H K r h
  unfold S75 S75G at h
  split at h
  · exact fnK_sound (cx75_ok k) 6 75 _ _ K r ((wide_Sqrt_gen wide_Shl wide_Shr wide_Sub wide_Compare wide_Sqrt_l0 k _ _ K).trans h)
  · cases h
theorem S75_ok {R : Type} (k : Nat) : SumOk Try.prog 75 true (S75 k : Sum R) := by
  refine sumOk_keep (S75_ok0 k) ?_
  intro args H K r h
  unfold S75 S75G at h ⊢
  split at h
  · refine Eq.trans ?_ h
    show wide_Sqrt k _ _ _ = wide_Sqrt k _ _ _
    congr 1
    all_goals first | exact (funext fun q1 => funext fun q2 => funext fun q3 => if_pos (keeps_app _ _ _ [])) | skip
  · cases h
end Go.Proofs.Ytbnmnkofekcodaa.N
