/- Printed by wip/gen/emit.py: functions of the program as plain Lean functions, tied to the model by the evaluator. Conditions: none. -/
import Derived.Test.YtejfnbjhcohkiaaNlib
namespace Go.Proofs.Ytejfnbjhcohkiaa.N
set_option linter.unusedVariables false
set_option maxRecDepth 100000
open Go Go.Ab
-- function 51: plumbline/wide.Len
noncomputable def fi51 : FnI := ⟨51, Try.f51, []⟩
theorem en51 : Enters Try.prog 51 := enters_of Try.func51 (c := ((Try.f51).body.getD .skip)) (by kernel_rfl) (by kernel_rfl)
noncomputable def cx51 {R : Type} (k : Nat) : Cx R := mkCx Ty exts [(76, true, S76 k)] fi51 [] []
theorem cx51_ok {R : Type} (k : Nat) : CxOk Try.prog (cx51 k : Cx R) := mkCx_ok (c := ((Try.f51).body.getD .skip)) ty_ok mixed exts_ok (allSum_cons (S76_ok k) en76 allSum_nil) Try.func51 en51 (by kernel_rfl) (by kernel_rfl) allLoop_nil allCut_nil
@[reducible] def wide_LenY (R : Type) : Type := Nat → Int → Int → (Int → Option R) → Option R
noncomputable def wide_LenT {R : Type} (bits_Len64 : bits_Len64Y R) (k : Nat) (a1 : Int) (a2 : Int) (K0 : Int → Option R) : Option R :=
  cond (a1 != 0) (
    bits_Len64 k a1 (fun r1 =>
      K0 (Wi64 (64 + r1)))) (
    bits_Len64 k a2 (fun r2 =>
      K0 r2))
noncomputable def wide_Len {R : Type} (k : Nat) (a1 : Int) (a2 : Int) (K0 : Int → Option R) : Option R := wide_LenT bits_Len64 k a1 a2 K0
theorem wide_Len_gen {R : Type} (bits_Len64 : bits_Len64Y R) (k : Nat) (a1 : Int) (a2 : Int) (K : AV → Heap → Option R) :
    fnK (mkCx Ty exts [(76, true, S76G bits_Len64 k)] fi51 [] []) 6 51 [.agg [.i .u64 a1, .i .u64 a2]] ⟨0, []⟩ K = wide_LenT bits_Len64 k a1 a2 (fun q1 => K (.i .i64 q1) ⟨0, []⟩) := by kernel_rfl
noncomputable def S51G {R : Type} (wide_Len : wide_LenY R) (k : Nat) : Sum R := fun args H K => match args, H with
  | [.agg [.i .u64 a1, .i .u64 a2]], ⟨0, []⟩ => wide_Len k a1 a2 (fun q1 => K (.i .i64 q1) ⟨0, []⟩)
  | _, _ => none
noncomputable def S51 {R : Type} (k : Nat) : Sum R := S51G wide_Len k
theorem S51_ok0 {R : Type} (k : Nat) : SumOk Try.prog 51 false (S51 k : Sum R) := by
  intro args H K r h
  unfold S51 S51G at h
  split at h
  · exact fnK_sound (cx51_ok k) 6 51 _ _ K r ((wide_Len_gen bits_Len64 k _ _ K).trans h)
  · cases h
theorem S51_ok {R : Type} (k : Nat) : SumOk Try.prog 51 true (S51 k : Sum R) := by
  refine sumOk_keep (S51_ok0 k) ?_
  intro args H K r h
  unfold S51 S51G at h ⊢
  split at h
  · refine Eq.trans ?_ h
    show wide_Len k _ _ _ = wide_Len k _ _ _
    exact congrArg (wide_Len k _ _) (funext fun q1 => if_pos (keeps_app _ _ _ []))
  · cases h
-- function 53: plumbline/wide.Shl
noncomputable def fi53 : FnI := ⟨53, Try.f53, []⟩
theorem en53 : Enters Try.prog 53 := enters_of Try.func53 (c := ((Try.f53).body.getD .skip)) (by kernel_rfl) (by kernel_rfl)
noncomputable def cx53 {R : Type} (k : Nat) : Cx R := mkCx Ty exts [] fi53 [] []
theorem cx53_ok {R : Type} (k : Nat) : CxOk Try.prog (cx53 k : Cx R) := mkCx_ok (c := ((Try.f53).body.getD .skip)) ty_ok mixed exts_ok allSum_nil Try.func53 en53 (by kernel_rfl) (by kernel_rfl) allLoop_nil allCut_nil
@[reducible] def wide_ShlY (R : Type) : Type := Nat → Int → Int → Int → (Int → Int → Option R) → Option R
noncomputable def wide_ShlT {R : Type} (k : Nat) (a1 : Int) (a2 : Int) (a3 : Int) (K0 : Int → Int → Option R) : Option R :=
  cond (decide (a3 ≤ 0)) (
    K0 a1 a2) (
    cond (decide (a3 ≥ 64)) (
      cond (decide ((Wi64 (a3 - 64)) < 0)) (
        none) (
        K0 (shl .u64 a2 (Wi64 (a3 - 64))) 0)) (
      cond (decide (a3 < 0)) (
        none) (
        cond (decide ((Wi64 (64 - a3)) < 0)) (
          none) (
          cond (decide (a3 < 0)) (
            none) (
            K0 (bOr .u64 (shl .u64 a1 a3) (shr .u64 a2 (Wi64 (64 - a3)))) (shl .u64 a2 a3))))))
noncomputable def wide_Shl {R : Type} (k : Nat) (a1 : Int) (a2 : Int) (a3 : Int) (K0 : Int → Int → Option R) : Option R := wide_ShlT k a1 a2 a3 K0
theorem wide_Shl_gen {R : Type} (k : Nat) (a1 : Int) (a2 : Int) (a3 : Int) (K : AV → Heap → Option R) :
    fnK (mkCx Ty exts [] fi53 [] []) 6 53 [.agg [.i .u64 a1, .i .u64 a2], .i .i64 a3] ⟨0, []⟩ K = wide_ShlT k a1 a2 a3 (fun q1 q2 => K (.agg [.i .u64 q1, .i .u64 q2]) ⟨0, []⟩) := by kernel_rfl
noncomputable def S53G {R : Type} (wide_Shl : wide_ShlY R) (k : Nat) : Sum R := fun args H K => match args, H with
  | [.agg [.i .u64 a1, .i .u64 a2], .i .i64 a3], ⟨0, []⟩ => wide_Shl k a1 a2 a3 (fun q1 q2 => K (.agg [.i .u64 q1, .i .u64 q2]) ⟨0, []⟩)
  | _, _ => none
noncomputable def S53 {R : Type} (k : Nat) : Sum R := S53G wide_Shl k
theorem S53_ok0 {R : Type} (k : Nat) : SumOk Try.prog 53 false (S53 k : Sum R) := by
  intro args H K r h
  unfold S53 S53G at h
  split at h
  · exact fnK_sound (cx53_ok k) 6 53 _ _ K r ((wide_Shl_gen k _ _ _ K).trans h)
  · cases h
theorem S53_ok {R : Type} (k : Nat) : SumOk Try.prog 53 true (S53 k : Sum R) := by
  refine sumOk_keep (S53_ok0 k) ?_
  intro args H K r h
  unfold S53 S53G at h ⊢
  split at h
  · refine Eq.trans ?_ h
    show wide_Shl k _ _ _ _ = wide_Shl k _ _ _ _
    exact congrArg (wide_Shl k _ _ _) (funext fun q1 => funext fun q2 => if_pos (keeps_app _ _ _ []))
  · cases h
-- function 61: plumbline/wide.Shr
noncomputable def fi61 : FnI := ⟨61, Try.f61, []⟩
theorem en61 : Enters Try.prog 61 := enters_of Try.func61 (c := ((Try.f61).body.getD .skip)) (by kernel_rfl) (by kernel_rfl)
noncomputable def cx61 {R : Type} (k : Nat) : Cx R := mkCx Ty exts [(53, true, S53 k)] fi61 [] []
theorem cx61_ok {R : Type} (k : Nat) : CxOk Try.prog (cx61 k : Cx R) := mkCx_ok (c := ((Try.f61).body.getD .skip)) ty_ok mixed exts_ok (allSum_cons (S53_ok k) en53 allSum_nil) Try.func61 en61 (by kernel_rfl) (by kernel_rfl) allLoop_nil allCut_nil
@[reducible] def wide_ShrY (R : Type) : Type := Nat → Int → Int → Int → (Int → Int → Bool → Option R) → Option R
noncomputable def wide_ShrT {R : Type} (wide_Shl : wide_ShlY R) (k : Nat) (a1 : Int) (a2 : Int) (a3 : Int) (K0 : Int → Int → Bool → Option R) : Option R :=
  cond (decide (a3 ≤ 0)) (
    K0 a1 a2 false) (
    cond (decide (a3 ≥ 128)) (
      wide_Shl k 0 0 a3 (fun r1 r2 =>
        K0 0 0 (!((r1 == a1) && (r2 == a2))))) (
      cond (decide (a3 ≥ 64)) (
        cond (decide ((Wi64 (a3 - 64)) < 0)) (
          none) (
          wide_Shl k 0 (shr .u64 a1 (Wi64 (a3 - 64))) a3 (fun r3 r4 =>
            K0 0 (shr .u64 a1 (Wi64 (a3 - 64))) (!((r3 == a1) && (r4 == a2)))))) (
        cond (decide (a3 < 0)) (
          none) (
          cond (decide (a3 < 0)) (
            none) (
            cond (decide ((Wi64 (64 - a3)) < 0)) (
              none) (
              wide_Shl k (shr .u64 a1 a3) (bOr .u64 (shr .u64 a2 a3) (shl .u64 a1 (Wi64 (64 - a3)))) a3 (fun r5 r6 =>
                K0 (shr .u64 a1 a3) (bOr .u64 (shr .u64 a2 a3) (shl .u64 a1 (Wi64 (64 - a3)))) (!((r5 == a1) && (r6 == a2))))))))))
noncomputable def wide_Shr {R : Type} (k : Nat) (a1 : Int) (a2 : Int) (a3 : Int) (K0 : Int → Int → Bool → Option R) : Option R := wide_ShrT wide_Shl k a1 a2 a3 K0
theorem wide_Shr_gen {R : Type} (wide_Shl : wide_ShlY R) (k : Nat) (a1 : Int) (a2 : Int) (a3 : Int) (K : AV → Heap → Option R) :
    fnK (mkCx Ty exts [(53, true, S53G wide_Shl k)] fi61 [] []) 6 61 [.agg [.i .u64 a1, .i .u64 a2], .i .i64 a3] ⟨0, []⟩ K = wide_ShrT wide_Shl k a1 a2 a3 (fun q1 q2 q3 => K (.tup [.agg [.i .u64 q1, .i .u64 q2], .b q3]) ⟨0, []⟩) := by kernel_rfl
noncomputable def S61G {R : Type} (wide_Shr : wide_ShrY R) (k : Nat) : Sum R := fun args H K => match args, H with
  | [.agg [.i .u64 a1, .i .u64 a2], .i .i64 a3], ⟨0, []⟩ => wide_Shr k a1 a2 a3 (fun q1 q2 q3 => K (.tup [.agg [.i .u64 q1, .i .u64 q2], .b q3]) ⟨0, []⟩)
  | _, _ => none
noncomputable def S61 {R : Type} (k : Nat) : Sum R := S61G wide_Shr k
theorem S61_ok0 {R : Type} (k : Nat) : SumOk Try.prog 61 false (S61 k : Sum R) := by
  intro args H K r h
  unfold S61 S61G at h
  split at h
  · exact fnK_sound (cx61_ok k) 6 61 _ _ K r ((wide_Shr_gen wide_Shl k _ _ _ K).trans h)
  · cases h
theorem S61_ok {R : Type} (k : Nat) : SumOk Try.prog 61 true (S61 k : Sum R) := by
  refine sumOk_keep (S61_ok0 k) ?_
  intro args H K r h
  unfold S61 S61G at h ⊢
  split at h
  · refine Eq.trans ?_ h
    show wide_Shr k _ _ _ _ = wide_Shr k _ _ _ _
    exact congrArg (wide_Shr k _ _ _) (funext fun q1 => funext fun q2 => funext fun q3 => if_pos (keeps_app _ _ _ []))
  · cases h
-- function 81: plumbline/wide.Add
noncomputable def fi81 : FnI := ⟨81, Try.f81, []⟩
theorem en81 : Enters Try.prog 81 := enters_of Try.func81 (c := ((Try.f81).body.getD .skip)) (by kernel_rfl) (by kernel_rfl)
noncomputable def cx81 {R : Type} (k : Nat) : Cx R := mkCx Ty exts [] fi81 [] []
theorem cx81_ok {R : Type} (k : Nat) : CxOk Try.prog (cx81 k : Cx R) := mkCx_ok (c := ((Try.f81).body.getD .skip)) ty_ok mixed exts_ok allSum_nil Try.func81 en81 (by kernel_rfl) (by kernel_rfl) allLoop_nil allCut_nil
@[reducible] def wide_AddY (R : Type) : Type := Nat → Int → Int → Int → Int → (Int → Int → Bool → Option R) → Option R
noncomputable def wide_AddT {R : Type} (k : Nat) (a1 : Int) (a2 : Int) (a3 : Int) (a4 : Int) (K0 : Int → Int → Bool → Option R) : Option R :=
  cond (decide ((carry64 a2 a4 0) ≤ 1)) (
    K0 (add64 a1 a3 (carry64 a2 a4 0)) (add64 a2 a4 0) ((carry64 a1 a3 (carry64 a2 a4 0)) == 1)) (
    none)
noncomputable def wide_Add {R : Type} (k : Nat) (a1 : Int) (a2 : Int) (a3 : Int) (a4 : Int) (K0 : Int → Int → Bool → Option R) : Option R := wide_AddT k a1 a2 a3 a4 K0
theorem wide_Add_gen {R : Type} (k : Nat) (a1 : Int) (a2 : Int) (a3 : Int) (a4 : Int) (K : AV → Heap → Option R) :
    fnK (mkCx Ty exts [] fi81 [] []) 6 81 [.agg [.i .u64 a1, .i .u64 a2], .agg [.i .u64 a3, .i .u64 a4]] ⟨0, []⟩ K = wide_AddT k a1 a2 a3 a4 (fun q1 q2 q3 => K (.tup [.agg [.i .u64 q1, .i .u64 q2], .b q3]) ⟨0, []⟩) := by kernel_rfl
noncomputable def S81G {R : Type} (wide_Add : wide_AddY R) (k : Nat) : Sum R := fun args H K => match args, H with
  | [.agg [.i .u64 a1, .i .u64 a2], .agg [.i .u64 a3, .i .u64 a4]], ⟨0, []⟩ => wide_Add k a1 a2 a3 a4 (fun q1 q2 q3 => K (.tup [.agg [.i .u64 q1, .i .u64 q2], .b q3]) ⟨0, []⟩)
  | _, _ => none
noncomputable def S81 {R : Type} (k : Nat) : Sum R := S81G wide_Add k
theorem S81_ok0 {R : Type} (k : Nat) : SumOk Try.prog 81 false (S81 k : Sum R) := by
  intro args H K r h
  unfold S81 S81G at h
  split at h
  · exact fnK_sound (cx81_ok k) 6 81 _ _ K r ((wide_Add_gen k _ _ _ _ K).trans h)
  · cases h
theorem S81_ok {R : Type} (k : Nat) : SumOk Try.prog 81 true (S81 k : Sum R) := by
  refine sumOk_keep (S81_ok0 k) ?_
  intro args H K r h
  unfold S81 S81G at h ⊢
  split at h
  · refine Eq.trans ?_ h
    show wide_Add k _ _ _ _ _ = wide_Add k _ _ _ _ _
    exact congrArg (wide_Add k _ _ _ _) (funext fun q1 => funext fun q2 => funext fun q3 => if_pos (keeps_app _ _ _ []))
  · cases h
-- function 78: plumbline/wide.Sub
noncomputable def fi78 : FnI := ⟨78, Try.f78, []⟩
theorem en78 : Enters Try.prog 78 := enters_of Try.func78 (c := ((Try.f78).body.getD .skip)) (by kernel_rfl) (by kernel_rfl)
noncomputable def cx78 {R : Type} (k : Nat) : Cx R := mkCx Ty exts [] fi78 [] []
theorem cx78_ok {R : Type} (k : Nat) : CxOk Try.prog (cx78 k : Cx R) := mkCx_ok (c := ((Try.f78).body.getD .skip)) ty_ok mixed exts_ok allSum_nil Try.func78 en78 (by kernel_rfl) (by kernel_rfl) allLoop_nil allCut_nil
@[reducible] def wide_SubY (R : Type) : Type := Nat → Int → Int → Int → Int → (Int → Int → Bool → Option R) → Option R
noncomputable def wide_SubT {R : Type} (k : Nat) (a1 : Int) (a2 : Int) (a3 : Int) (a4 : Int) (K0 : Int → Int → Bool → Option R) : Option R :=
  cond (decide ((borrow64 a2 a4 0) ≤ 1)) (
    K0 (sub64 a1 a3 (borrow64 a2 a4 0)) (sub64 a2 a4 0) ((borrow64 a1 a3 (borrow64 a2 a4 0)) == 1)) (
    none)
noncomputable def wide_Sub {R : Type} (k : Nat) (a1 : Int) (a2 : Int) (a3 : Int) (a4 : Int) (K0 : Int → Int → Bool → Option R) : Option R := wide_SubT k a1 a2 a3 a4 K0
theorem wide_Sub_gen {R : Type} (k : Nat) (a1 : Int) (a2 : Int) (a3 : Int) (a4 : Int) (K : AV → Heap → Option R) :
    fnK (mkCx Ty exts [] fi78 [] []) 6 78 [.agg [.i .u64 a1, .i .u64 a2], .agg [.i .u64 a3, .i .u64 a4]] ⟨0, []⟩ K = wide_SubT k a1 a2 a3 a4 (fun q1 q2 q3 => K (.tup [.agg [.i .u64 q1, .i .u64 q2], .b q3]) ⟨0, []⟩) := by kernel_rfl
noncomputable def S78G {R : Type} (wide_Sub : wide_SubY R) (k : Nat) : Sum R := fun args H K => match args, H with
  | [.agg [.i .u64 a1, .i .u64 a2], .agg [.i .u64 a3, .i .u64 a4]], ⟨0, []⟩ => wide_Sub k a1 a2 a3 a4 (fun q1 q2 q3 => K (.tup [.agg [.i .u64 q1, .i .u64 q2], .b q3]) ⟨0, []⟩)
  | _, _ => none
noncomputable def S78 {R : Type} (k : Nat) : Sum R := S78G wide_Sub k
theorem S78_ok0 {R : Type} (k : Nat) : SumOk Try.prog 78 false (S78 k : Sum R) := by
  intro args H K r h
  unfold S78 S78G at h
  split at h
  · exact fnK_sound (cx78_ok k) 6 78 _ _ K r ((wide_Sub_gen k _ _ _ _ K).trans h)
  · cases h
theorem S78_ok {R : Type} (k : Nat) : SumOk Try.prog 78 true (S78 k : Sum R) := by
  refine sumOk_keep (S78_ok0 k) ?_
  intro args H K r h
  unfold S78 S78G at h ⊢
  split at h
  · refine Eq.trans ?_ h
    show wide_Sub k _ _ _ _ _ = wide_Sub k _ _ _ _ _
    exact congrArg (wide_Sub k _ _ _ _) (funext fun q1 => funext fun q2 => funext fun q3 => if_pos (keeps_app _ _ _ []))
  · cases h
-- function 49: plumbline/wide.Mul
noncomputable def fi49 : FnI := ⟨49, Try.f49, []⟩
theorem en49 : Enters Try.prog 49 := enters_of Try.func49 (c := ((Try.f49).body.getD .skip)) (by kernel_rfl) (by kernel_rfl)
noncomputable def cx49 {R : Type} (k : Nat) : Cx R := mkCx Ty exts [(75, true, S75 k)] fi49 [] []
theorem cx49_ok {R : Type} (k : Nat) : CxOk Try.prog (cx49 k : Cx R) := mkCx_ok (c := ((Try.f49).body.getD .skip)) ty_ok mixed exts_ok (allSum_cons (S75_ok k) en75 allSum_nil) Try.func49 en49 (by kernel_rfl) (by kernel_rfl) allLoop_nil allCut_nil
@[reducible] def wide_MulY (R : Type) : Type := Nat → Int → Int → (Int → Int → Option R) → Option R
noncomputable def wide_MulT {R : Type} (bits_Mul64 : bits_Mul64Y R) (k : Nat) (a1 : Int) (a2 : Int) (K0 : Int → Int → Option R) : Option R :=
  bits_Mul64 k a1 a2 (fun r1 r2 =>
    K0 r1 r2)
noncomputable def wide_Mul {R : Type} (k : Nat) (a1 : Int) (a2 : Int) (K0 : Int → Int → Option R) : Option R := wide_MulT bits_Mul64 k a1 a2 K0
theorem wide_Mul_gen {R : Type} (bits_Mul64 : bits_Mul64Y R) (k : Nat) (a1 : Int) (a2 : Int) (K : AV → Heap → Option R) :
    fnK (mkCx Ty exts [(75, true, S75G bits_Mul64 k)] fi49 [] []) 6 49 [.i .u64 a1, .i .u64 a2] ⟨0, []⟩ K = wide_MulT bits_Mul64 k a1 a2 (fun q1 q2 => K (.agg [.i .u64 q1, .i .u64 q2]) ⟨0, []⟩) := by kernel_rfl
noncomputable def S49G {R : Type} (wide_Mul : wide_MulY R) (k : Nat) : Sum R := fun args H K => match args, H with
  | [.i .u64 a1, .i .u64 a2], ⟨0, []⟩ => wide_Mul k a1 a2 (fun q1 q2 => K (.agg [.i .u64 q1, .i .u64 q2]) ⟨0, []⟩)
  | _, _ => none
noncomputable def S49 {R : Type} (k : Nat) : Sum R := S49G wide_Mul k
theorem S49_ok0 {R : Type} (k : Nat) : SumOk Try.prog 49 false (S49 k : Sum R) := by
  intro args H K r h
  unfold S49 S49G at h
  split at h
  · exact fnK_sound (cx49_ok k) 6 49 _ _ K r ((wide_Mul_gen bits_Mul64 k _ _ K).trans h)
  · cases h
theorem S49_ok {R : Type} (k : Nat) : SumOk Try.prog 49 true (S49 k : Sum R) := by
  refine sumOk_keep (S49_ok0 k) ?_
  intro args H K r h
  unfold S49 S49G at h ⊢
  split at h
  · refine Eq.trans ?_ h
    show wide_Mul k _ _ _ = wide_Mul k _ _ _
    exact congrArg (wide_Mul k _ _) (funext fun q1 => funext fun q2 => if_pos (keeps_app _ _ _ []))
  · cases h
-- function 92: plumbline/wide.words
noncomputable def fi92 : FnI := ⟨92, Try.f92, []⟩
theorem en92 : Enters Try.prog 92 := enters_of Try.func92 (c := ((Try.f92).body.getD .skip)) (by kernel_rfl) (by kernel_rfl)
noncomputable def cx92 {R : Type} (k : Nat) : Cx R := mkCx Ty exts [] fi92 [] []
theorem cx92_ok {R : Type} (k : Nat) : CxOk Try.prog (cx92 k : Cx R) := mkCx_ok (c := ((Try.f92).body.getD .skip)) ty_ok mixed exts_ok allSum_nil Try.func92 en92 (by kernel_rfl) (by kernel_rfl) allLoop_nil allCut_nil
@[reducible] def wide_wordsY (R : Type) : Type := Nat → Int → Int → (Option R) → Option R
noncomputable def wide_wordsT {R : Type} (k : Nat) (a1 : Int) (a2 : Int) (K0 : Option R) : Option R :=
  K0
noncomputable def wide_words {R : Type} (k : Nat) (a1 : Int) (a2 : Int) (K0 : Option R) : Option R := wide_wordsT k a1 a2 K0
theorem wide_words_gen {R : Type} (k : Nat) (a1 : Int) (a2 : Int) (K : AV → Heap → Option R) :
    fnK (mkCx Ty exts [] fi92 [] []) 6 92 [.agg [.i .u64 a1, .i .u64 a2]] ⟨0, []⟩ K = wide_wordsT k a1 a2 (K (.agg [.i .u64 a1, .i .u64 a2]) ⟨0, []⟩) := by kernel_rfl
noncomputable def S92G {R : Type} (wide_words : wide_wordsY R) (k : Nat) : Sum R := fun args H K => match args, H with
  | [.agg [.i .u64 a1, .i .u64 a2]], ⟨0, []⟩ => wide_words k a1 a2 (K (.agg [.i .u64 a1, .i .u64 a2]) ⟨0, []⟩)
  | _, _ => none
noncomputable def S92 {R : Type} (k : Nat) : Sum R := S92G wide_words k
theorem S92_ok0 {R : Type} (k : Nat) : SumOk Try.prog 92 false (S92 k : Sum R) := by
  intro args H K r h
  unfold S92 S92G at h
  split at h
  · exact fnK_sound (cx92_ok k) 6 92 _ _ K r ((wide_words_gen k _ _ K).trans h)
  · cases h
theorem S92_ok {R : Type} (k : Nat) : SumOk Try.prog 92 true (S92 k : Sum R) := by
  refine sumOk_keep (S92_ok0 k) ?_
  intro args H K r h
  unfold S92 S92G at h ⊢
  split at h
  · refine Eq.trans ?_ h
    show wide_words k _ _ _ = wide_words k _ _ _
    exact congrArg (wide_words k _ _) (if_pos (keeps_app _ _ _ []))
  · cases h
-- function 77: plumbline/wide.Compare
noncomputable def fi77 : FnI := ⟨77, Try.f77, []⟩
theorem en77 : Enters Try.prog 77 := enters_of Try.func77 (c := ((Try.f77).body.getD .skip)) (by kernel_rfl) (by kernel_rfl)
noncomputable def cx77 {R : Type} (k : Nat) : Cx R := mkCx Ty exts [(92, true, S92 k), (93, true, S93 k), (94, true, S94 k)] fi77 [] []
theorem cx77_ok {R : Type} (k : Nat) : CxOk Try.prog (cx77 k : Cx R) := mkCx_ok (c := ((Try.f77).body.getD .skip)) ty_ok mixed exts_ok (allSum_cons (S92_ok k) en92 (allSum_cons (S93_ok k) en93 (allSum_cons (S94_ok k) en94 allSum_nil))) Try.func77 en77 (by kernel_rfl) (by kernel_rfl) allLoop_nil allCut_nil
@[reducible] def wide_CompareY (R : Type) : Type := Nat → Int → Int → Int → Int → (Int → Option R) → Option R
noncomputable def wide_CompareT {R : Type} (cmp_Compare_uint64 : cmp_Compare_uint64Y R) (cmp_Or_int : cmp_Or_intY R) (wide_words : wide_wordsY R) (k : Nat) (a1 : Int) (a2 : Int) (a3 : Int) (a4 : Int) (K0 : Int → Option R) : Option R :=
  wide_words k a1 a2 (
    wide_words k a3 a4 (
      cmp_Compare_uint64 k a1 a3 (fun r1 =>
        cmp_Compare_uint64 k a2 a4 (fun r2 =>
          cmp_Or_int k [r1, r2] (fun r3 =>
            K0 r3)))))
noncomputable def wide_Compare {R : Type} (k : Nat) (a1 : Int) (a2 : Int) (a3 : Int) (a4 : Int) (K0 : Int → Option R) : Option R := wide_CompareT cmp_Compare_uint64 cmp_Or_int wide_words k a1 a2 a3 a4 K0
theorem wide_Compare_gen {R : Type} (wide_words : wide_wordsY R) (cmp_Or_int : cmp_Or_intY R) (cmp_Compare_uint64 : cmp_Compare_uint64Y R) (k : Nat) (a1 : Int) (a2 : Int) (a3 : Int) (a4 : Int) (K : AV → Heap → Option R) :
    fnK (mkCx Ty exts [(92, true, S92G wide_words k), (93, true, S93G cmp_Or_int k), (94, true, S94G cmp_Compare_uint64 k)] fi77 [] []) 6 77 [.agg [.i .u64 a1, .i .u64 a2], .agg [.i .u64 a3, .i .u64 a4]] ⟨0, []⟩ K = wide_CompareT cmp_Compare_uint64 cmp_Or_int wide_words k a1 a2 a3 a4 (fun q1 => K (.i .i64 q1) ⟨0, []⟩) := by kernel_rfl
noncomputable def S77G {R : Type} (wide_Compare : wide_CompareY R) (k : Nat) : Sum R := fun args H K => match args, H with
  | [.agg [.i .u64 a1, .i .u64 a2], .agg [.i .u64 a3, .i .u64 a4]], ⟨0, []⟩ => wide_Compare k a1 a2 a3 a4 (fun q1 => K (.i .i64 q1) ⟨0, []⟩)
  | _, _ => none
noncomputable def S77 {R : Type} (k : Nat) : Sum R := S77G wide_Compare k
theorem S77_ok0 {R : Type} (k : Nat) : SumOk Try.prog 77 false (S77 k : Sum R) := by
  intro args H K r h
  unfold S77 S77G at h
  split at h
  · exact fnK_sound (cx77_ok k) 6 77 _ _ K r ((wide_Compare_gen wide_words cmp_Or_int cmp_Compare_uint64 k _ _ _ _ K).trans h)
  · cases h
theorem S77_ok {R : Type} (k : Nat) : SumOk Try.prog 77 true (S77 k : Sum R) := by
  refine sumOk_keep (S77_ok0 k) ?_
  intro args H K r h
  unfold S77 S77G at h ⊢
  split at h
  · refine Eq.trans ?_ h
    show wide_Compare k _ _ _ _ _ = wide_Compare k _ _ _ _ _
    exact congrArg (wide_Compare k _ _ _ _) (funext fun q1 => if_pos (keeps_app _ _ _ []))
  · cases h
-- function 52: plumbline/wide.Sqrt
noncomputable def fi52 : FnI := ⟨52, Try.f52, [(200000, [1, 3, 4, 5, 6]), (3000000, [2, 3])]⟩
theorem en52 : Enters Try.prog 52 := enters_of Try.func52 (c := ((Try.f52).body.getD .skip)) (by kernel_rfl) (by kernel_rfl)
@[reducible] def wide_Sqrt_l0Y (R : Type) : Type := Nat → Nat → Int → Int → Int → Int → Int → Int → Int → Int → (Int → Int → Int → Option R) → Option R
noncomputable def wide_Sqrt_l0B {R : Type} (wide_Compare : wide_CompareY R) (wide_Shl : wide_ShlY R) (wide_Shr : wide_ShrY R) (wide_Sub : wide_SubY R) (k : Nat) (rec : Int → Int → Int → Int → Int → Int → Int → Int → Option R) (x1 : Int) (x2 : Int) (x3 : Int) (x4 : Int) (x5 : Int) (x6 : Int) (x7 : Int) (x8 : Int) (K0 : Int → Int → Int → Option R) : Option R :=
  wide_Shr k x3 x4 x2 (fun yr1 yr2 yr3 =>
    wide_Shl k x7 x8 2 (fun yr4 yr5 =>
      wide_Compare k yr4 (bOr .u64 yr5 (bAnd .u64 yr2 3)) (shr .u64 x1 62) (bOr .u64 (shl .u64 x1 2) 1) (fun yr6 =>
        cond (decide (yr6 ≥ 0)) (
          wide_Sub k yr4 (bOr .u64 yr5 (bAnd .u64 yr2 3)) (shr .u64 x1 62) (bOr .u64 (shl .u64 x1 2) 1) (fun yr7 yr8 yr9 =>
            cond (decide ((Wi64 (x2 - 2)) ≥ 0)) (
              rec (bOr .u64 (shl .u64 x1 1) 1) (Wi64 (x2 - 2)) x3 x4 x5 x6 yr7 yr8) (
              K0 (bOr .u64 (shl .u64 x1 1) 1) yr7 yr8))) (
          cond (decide ((Wi64 (x2 - 2)) ≥ 0)) (
            rec (shl .u64 x1 1) (Wi64 (x2 - 2)) x3 x4 x5 x6 yr4 (bOr .u64 yr5 (bAnd .u64 yr2 3))) (
            K0 (shl .u64 x1 1) yr4 (bOr .u64 yr5 (bAnd .u64 yr2 3)))))))
noncomputable def wide_Sqrt_l0 {R : Type} (k : Nat) : Nat → Int → Int → Int → Int → Int → Int → Int → Int → (Int → Int → Int → Option R) → Option R
  | 0, _, _, _, _, _, _, _, _, _ => none
  | n + 1, x1, x2, x3, x4, x5, x6, x7, x8, K0 => wide_Sqrt_l0B wide_Compare wide_Shl wide_Shr wide_Sub k (fun x1 x2 x3 x4 x5 x6 x7 x8 => wide_Sqrt_l0 k n x1 x2 x3 x4 x5 x6 x7 x8 K0) x1 x2 x3 x4 x5 x6 x7 x8 K0
noncomputable def cx52_1000000 {R : Type} (k : Nat) : Cx R := mkCx Ty exts [(53, true, S53 k), (61, true, S61 k), (77, true, S77 k), (78, true, S78 k)] fi52 [] []
theorem cx52_1000000_ok {R : Type} (k : Nat) : CxOk Try.prog (cx52_1000000 k : Cx R) := mkCx_ok (c := ((Try.f52).body.getD .skip)) ty_ok mixed exts_ok (allSum_cons (S53_ok k) en53 (allSum_cons (S61_ok k) en61 (allSum_cons (S77_ok k) en77 (allSum_cons (S78_ok k) en78 allSum_nil)))) Try.func52 en52 (by kernel_rfl) (by kernel_rfl) allLoop_nil allCut_nil
noncomputable def L52_1000000G {R : Type} (wide_Sqrt_l0 : wide_Sqrt_l0Y R) (k n : Nat) : LSum R := fun pin T H K => match pin, T, H with
  | 0, [(1, .ptr 0 0 0 0 0), (3, .ptr 1 0 0 0 0), (4, .i .u64 x1), (5, .ptr 2 0 0 0 0), (6, .i .i64 x2)], ⟨3, [(0, some ⟨0, false, .cells [.i .u64 x3, .i .u64 x4]⟩), (1, some ⟨1, false, .cells [.i .u64 x5, .i .u64 x6]⟩), (2, some ⟨2, false, .cells [.i .u64 x7, .i .u64 x8]⟩)]⟩ => wide_Sqrt_l0 k n x1 x2 x3 x4 x5 x6 x7 x8 (fun q1 q2 q3 => K .ret [(2, .i .u64 q1), (3, .ptr 0 0 0 0 0)] ⟨1, [(0, some ⟨0, false, .cells [.i .u64 q2, .i .u64 q3]⟩)]⟩)
  | _, _, _ => none
noncomputable def L52_1000000 {R : Type} (k n : Nat) : LSum R := L52_1000000G wide_Sqrt_l0 k n
theorem wide_Sqrt_l0_gen {R : Type} (wide_Shl : wide_ShlY R) (wide_Shr : wide_ShrY R) (wide_Compare : wide_CompareY R) (wide_Sub : wide_SubY R) (wide_Sqrt_l0 : wide_Sqrt_l0Y R) (k n : Nat) (x1 : Int) (x2 : Int) (x3 : Int) (x4 : Int) (x5 : Int) (x6 : Int) (x7 : Int) (x8 : Int) (K : Kont R) :
    (fun C => codeK C (run C 4)) (mkCx Ty exts [(53, true, S53G wide_Shl k), (61, true, S61G wide_Shr k), (77, true, S77G wide_Compare k), (78, true, S78G wide_Sub k)] fi52 [] []) 0 fi52 (restAt ((Try.f52).body.getD .skip) 0) [(1, .ptr 0 0 0 0 0), (3, .ptr 1 0 0 0 0), (4, .i .u64 x1), (5, .ptr 2 0 0 0 0), (6, .i .i64 x2)] ⟨3, [(0, some ⟨0, false, .cells [.i .u64 x3, .i .u64 x4]⟩), (1, some ⟨1, false, .cells [.i .u64 x5, .i .u64 x6]⟩), (2, some ⟨2, false, .cells [.i .u64 x7, .i .u64 x8]⟩)]⟩ (fun ex T H => match (generalizing := false) ex with
      | .goto l' => cond (Nat.beq l' 0) (normAt (some [1, 3, 4, 5, 6]) 0 T H (fun T H => L52_1000000G wide_Sqrt_l0 k n 0 T H K)) (match findLabel (scopeAt ((Try.f52).body.getD .skip) 0) l' with | some _ => none | none => exitNorm fi52.ann 1000000 0 K (.goto l') T H)
      | ex => exitNorm fi52.ann 1000000 0 K ex T H) =
    wide_Sqrt_l0B wide_Compare wide_Shl wide_Shr wide_Sub k (fun x1 x2 x3 x4 x5 x6 x7 x8 => wide_Sqrt_l0 k n x1 x2 x3 x4 x5 x6 x7 x8 (fun q1 q2 q3 => K .ret [(2, .i .u64 q1), (3, .ptr 0 0 0 0 0)] ⟨1, [(0, some ⟨0, false, .cells [.i .u64 q2, .i .u64 q3]⟩)]⟩)) x1 x2 x3 x4 x5 x6 x7 x8 (fun q1 q2 q3 => K .ret [(2, .i .u64 q1), (3, .ptr 0 0 0 0 0)] ⟨1, [(0, some ⟨0, false, .cells [.i .u64 q2, .i .u64 q3]⟩)]⟩) := by kernel_rfl
theorem L52_1000000_cok {R : Type} (k : Nat) : CodeOk Try.prog (cx52_1000000 k : Cx R) fi52 (restAt ((Try.f52).body.getD .skip) 0) := restAt_ok (((cx52_1000000_ok k).fns 52 fi52 (by kernel_rfl)).2.2.2 ((Try.f52).body.getD .skip) (by kernel_rfl))
theorem L52_1000000_ok {R : Type} (k : Nat) : ∀ n, JumpOk Try.prog (Try.f52).ntmps (scopeAt ((Try.f52).body.getD .skip) 0) (restAt ((Try.f52).body.getD .skip) 0) (L52_1000000 k n : LSum R)
  | 0 => by
    intro pin T H K r h
    unfold L52_1000000 L52_1000000G at h
    split at h
    all_goals exact nomatch (show (none : Option R) = some r from h)
  | n + 1 => by
    intro pin T H K r h
    unfold L52_1000000 L52_1000000G at h
    split at h
    · obtain ⟨ex, T1, H1, h, hb⟩ := codeK_sound (cx52_1000000_ok k) (run_sound (cx52_1000000_ok k) 4) _ fi52 _ _ _ _ _ (L52_1000000_cok k) ((wide_Sqrt_l0_gen wide_Shl wide_Shr wide_Compare wide_Sub wide_Sqrt_l0 k n _ _ _ _ _ _ _ _ K).trans h)
      exact jump_step (by kernel_rfl) (fun T H hh => L52_1000000_ok k n _ T H K r hh) hb h
    · cases h
noncomputable def cx52 {R : Type} (k : Nat) : Cx R := mkCx Ty exts [(53, true, S53 k), (61, true, S61 k), (77, true, S77 k), (78, true, S78 k)] fi52 [(1000000, L52_1000000 k k)] []
theorem cx52_ok {R : Type} (k : Nat) : CxOk Try.prog (cx52 k : Cx R) := mkCx_ok (c := ((Try.f52).body.getD .skip)) ty_ok mixed exts_ok (allSum_cons (S53_ok k) en53 (allSum_cons (S61_ok k) en61 (allSum_cons (S77_ok k) en77 (allSum_cons (S78_ok k) en78 allSum_nil)))) Try.func52 en52 (by kernel_rfl) (by kernel_rfl) (allLoop_jump (by kernel_rfl) (L52_1000000_ok k k) (by kernel_rfl) allLoop_nil) allCut_nil
@[reducible] def wide_SqrtY (R : Type) : Type := Nat → Int → Int → (Int → Int → Int → Option R) → Option R
noncomputable def wide_SqrtT {R : Type} (wide_Compare : wide_CompareY R) (wide_Shl : wide_ShlY R) (wide_Shr : wide_ShrY R) (wide_Sqrt_l0 : wide_Sqrt_l0Y R) (wide_Sub : wide_SubY R) (k : Nat) (a1 : Int) (a2 : Int) (K0 : Int → Int → Int → Option R) : Option R :=
  wide_Shr k a1 a2 126 (fun r1 r2 r3 =>
    wide_Shl k 0 0 2 (fun r4 r5 =>
      wide_Compare k r4 (bOr .u64 r5 (bAnd .u64 r2 3)) 0 1 (fun r6 =>
        cond (decide (r6 ≥ 0)) (
          wide_Sub k r4 (bOr .u64 r5 (bAnd .u64 r2 3)) 0 1 (fun r7 r8 r9 =>
            wide_Sqrt_l0 k k 1 124 a1 a2 0 0 r7 r8 (fun r10 r11 r12 =>
              K0 r10 r11 r12))) (
          wide_Sqrt_l0 k k 0 124 a1 a2 0 0 r4 (bOr .u64 r5 (bAnd .u64 r2 3)) (fun r13 r14 r15 =>
            K0 r13 r14 r15)))))
noncomputable def wide_Sqrt {R : Type} (k : Nat) (a1 : Int) (a2 : Int) (K0 : Int → Int → Int → Option R) : Option R := wide_SqrtT wide_Compare wide_Shl wide_Shr wide_Sqrt_l0 wide_Sub k a1 a2 K0
theorem wide_Sqrt_gen {R : Type} (wide_Shl : wide_ShlY R) (wide_Shr : wide_ShrY R) (wide_Compare : wide_CompareY R) (wide_Sub : wide_SubY R) (wide_Sqrt_l0 : wide_Sqrt_l0Y R) (k : Nat) (a1 : Int) (a2 : Int) (K : AV → Heap → Option R) :
    fnK (mkCx Ty exts [(53, true, S53G wide_Shl k), (61, true, S61G wide_Shr k), (77, true, S77G wide_Compare k), (78, true, S78G wide_Sub k)] fi52 [(1000000, L52_1000000G wide_Sqrt_l0 k k)] []) 6 52 [.agg [.i .u64 a1, .i .u64 a2]] ⟨0, []⟩ K = wide_SqrtT wide_Compare wide_Shl wide_Shr wide_Sqrt_l0 wide_Sub k a1 a2 (fun q1 q2 q3 => K (.tup [.i .u64 q1, .agg [.i .u64 q2, .i .u64 q3]]) ⟨0, []⟩) := by kernel_rfl
noncomputable def S52G {R : Type} (wide_Sqrt : wide_SqrtY R) (k : Nat) : Sum R := fun args H K => match args, H with
  | [.agg [.i .u64 a1, .i .u64 a2]], ⟨0, []⟩ => wide_Sqrt k a1 a2 (fun q1 q2 q3 => K (.tup [.i .u64 q1, .agg [.i .u64 q2, .i .u64 q3]]) ⟨0, []⟩)
  | _, _ => none
noncomputable def S52 {R : Type} (k : Nat) : Sum R := S52G wide_Sqrt k
theorem S52_ok0 {R : Type} (k : Nat) : SumOk Try.prog 52 false (S52 k : Sum R) := by
  intro args H K r h
  unfold S52 S52G at h
  split at h
  · exact fnK_sound (cx52_ok k) 6 52 _ _ K r ((wide_Sqrt_gen wide_Shl wide_Shr wide_Compare wide_Sub wide_Sqrt_l0 k _ _ K).trans h)
  · cases h
theorem S52_ok {R : Type} (k : Nat) : SumOk Try.prog 52 true (S52 k : Sum R) := by
  refine sumOk_keep (S52_ok0 k) ?_
  intro args H K r h
  unfold S52 S52G at h ⊢
  split at h
  · refine Eq.trans ?_ h
    show wide_Sqrt k _ _ _ = wide_Sqrt k _ _ _
    exact congrArg (wide_Sqrt k _ _) (funext fun q1 => funext fun q2 => funext fun q3 => if_pos (keeps_app _ _ _ []))
  · cases h
-- function 64: plumbline/wide.Div
noncomputable def fi64 : FnI := ⟨64, Try.f64, []⟩
theorem en64 : Enters Try.prog 64 := enters_of Try.func64 (c := ((Try.f64).body.getD .skip)) (by kernel_rfl) (by kernel_rfl)
noncomputable def cx64 {R : Type} (k : Nat) : Cx R := mkCx Ty exts [(85, true, S85 k)] fi64 [] []
theorem cx64_ok {R : Type} (k : Nat) : CxOk Try.prog (cx64 k : Cx R) := mkCx_ok (c := ((Try.f64).body.getD .skip)) ty_ok mixed exts_ok (allSum_cons (S85_ok k) en85 allSum_nil) Try.func64 en64 (by kernel_rfl) (by kernel_rfl) allLoop_nil allCut_nil
@[reducible] def wide_DivY (R : Type) : Type := Nat → Int → Int → Int → (Int → Int → Int → Option R) → Option R
noncomputable def wide_DivT {R : Type} (bits_Div64 : bits_Div64Y R) (k : Nat) (a1 : Int) (a2 : Int) (a3 : Int) (K0 : Int → Int → Int → Option R) : Option R :=
  cond (a3 == 0) (
    K0 0 0 0) (
    cond (decide (a3 = 0)) (
      none) (
      cond (decide (a3 = 0)) (
        none) (
        bits_Div64 k (Int.tmod a1 a3) a2 a3 (fun r1 r2 =>
          K0 (Wu64 (Int.tdiv a1 a3)) r1 r2))))
noncomputable def wide_Div {R : Type} (k : Nat) (a1 : Int) (a2 : Int) (a3 : Int) (K0 : Int → Int → Int → Option R) : Option R := wide_DivT bits_Div64 k a1 a2 a3 K0
theorem wide_Div_gen {R : Type} (bits_Div64 : bits_Div64Y R) (k : Nat) (a1 : Int) (a2 : Int) (a3 : Int) (K : AV → Heap → Option R) :
    fnK (mkCx Ty exts [(85, true, S85G bits_Div64 k)] fi64 [] []) 6 64 [.agg [.i .u64 a1, .i .u64 a2], .i .u64 a3] ⟨0, []⟩ K = wide_DivT bits_Div64 k a1 a2 a3 (fun q1 q2 q3 => K (.tup [.agg [.i .u64 q1, .i .u64 q2], .i .u64 q3]) ⟨0, []⟩) := by kernel_rfl
noncomputable def S64G {R : Type} (wide_Div : wide_DivY R) (k : Nat) : Sum R := fun args H K => match args, H with
  | [.agg [.i .u64 a1, .i .u64 a2], .i .u64 a3], ⟨0, []⟩ => wide_Div k a1 a2 a3 (fun q1 q2 q3 => K (.tup [.agg [.i .u64 q1, .i .u64 q2], .i .u64 q3]) ⟨0, []⟩)
  | _, _ => none
noncomputable def S64 {R : Type} (k : Nat) : Sum R := S64G wide_Div k
theorem S64_ok0 {R : Type} (k : Nat) : SumOk Try.prog 64 false (S64 k : Sum R) := by
  intro args H K r h
  unfold S64 S64G at h
  split at h
  · exact fnK_sound (cx64_ok k) 6 64 _ _ K r ((wide_Div_gen bits_Div64 k _ _ _ K).trans h)
  · cases h
theorem S64_ok {R : Type} (k : Nat) : SumOk Try.prog 64 true (S64 k : Sum R) := by
  refine sumOk_keep (S64_ok0 k) ?_
  intro args H K r h
  unfold S64 S64G at h ⊢
  split at h
  · refine Eq.trans ?_ h
    show wide_Div k _ _ _ _ = wide_Div k _ _ _ _
    exact congrArg (wide_Div k _ _ _) (funext fun q1 => funext fun q2 => funext fun q3 => if_pos (keeps_app _ _ _ []))
  · cases h
end Go.Proofs.Ytejfnbjhcohkiaa.N
