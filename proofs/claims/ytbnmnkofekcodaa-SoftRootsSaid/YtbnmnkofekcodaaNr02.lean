/- Printed by wip/gen/emit.py: functions of the program as plain Lean functions, tied to the model by the evaluator. Conditions: none. -/
import Derived.Test.YtbnmnkofekcodaaNr01
namespace Go.Proofs.Ytbnmnkofekcodaa.N
set_option linter.unusedVariables false
set_option maxRecDepth 100000
open Go Go.Ab
-- function 69: plumbline/plumblineref02.Size
noncomputable def fi69 : FnI := ⟨69, Try.f69, []⟩
theorem en69 : Enters Try.prog 69 := enters_of Try.func69 (c := ((Try.f69).body.getD .skip)) (by kernel_rfl) (by kernel_rfl)
noncomputable def cx69 {R : Type} (k : Nat) : Cx R := mkCx Ty exts [] fi69 [] []
theorem cx69_ok {R : Type} (k : Nat) : CxOk Try.prog (cx69 k : Cx R) := mkCx_ok (c := ((Try.f69).body.getD .skip)) ty_ok mixed exts_ok allSum_nil Try.func69 en69 (by kernel_rfl) (by kernel_rfl) allLoop_nil allCut_nil
@[reducible] def plumblineref02_SizeY (R : Type) : Type := Nat → Int → (Int → Int → Int → Option R) → Option R
noncomputable def plumblineref02_SizeT {R : Type} (k : Nat) (a1 : Int) (K0 : Int → Int → Int → Option R) : Option R :=
  cond (a1 == 1) (
    K0 23 8 (-149)) (
    K0 52 11 (-1074))
noncomputable def plumblineref02_Size {R : Type} (k : Nat) (a1 : Int) (K0 : Int → Int → Int → Option R) : Option R := plumblineref02_SizeT k a1 K0
theorem plumblineref02_Size_gen {R : Type} (k : Nat) (a1 : Int) (K : AV → Heap → Option R) :
    fnK (mkCx Ty exts [] fi69 [] []) 6 69 [.i .i64 a1] ⟨0, []⟩ K = plumblineref02_SizeT k a1 (fun q1 q2 q3 => K (.tup [.i .i64 q1, .i .i64 q2, .i .i64 q3]) ⟨0, []⟩) := by kernel_rfl
noncomputable def S69G {R : Type} (plumblineref02_Size : plumblineref02_SizeY R) (k : Nat) : Sum R := fun args H K => match args, H with
  | [.i .i64 a1], ⟨0, []⟩ => plumblineref02_Size k a1 (fun q1 q2 q3 => K (.tup [.i .i64 q1, .i .i64 q2, .i .i64 q3]) ⟨0, []⟩)
  | _, _ => none
noncomputable def S69 {R : Type} (k : Nat) : Sum R := S69G plumblineref02_Size k
theorem S69_ok0 {R : Type} (k : Nat) : SumOk Try.prog 69 false (S69 k : Sum R) := by
  intro args H K r h
  unfold S69 S69G at h
  split at h
  · exact fnK_sound (cx69_ok k) 6 69 _ _ K r ((plumblineref02_Size_gen k _ K).trans h)
  · cases h
theorem S69_ok {R : Type} (k : Nat) : SumOk Try.prog 69 true (S69 k : Sum R) := by
  refine sumOk_keep (S69_ok0 k) ?_
  intro args H K r h
  unfold S69 S69G at h ⊢
  split at h
  · refine Eq.trans ?_ h
    show plumblineref02_Size k _ _ = plumblineref02_Size k _ _
    congr 1
    all_goals first | exact (funext fun q1 => funext fun q2 => funext fun q3 => if_pos (keeps_app _ _ _ [])) | skip
  · cases h
-- function 70: plumbline/plumblineref02.parts
noncomputable def fi70 : FnI := ⟨70, Try.f70, []⟩
theorem en70 : Enters Try.prog 70 := enters_of Try.func70 (c := ((Try.f70).body.getD .skip)) (by kernel_rfl) (by kernel_rfl)
noncomputable def cx70 {R : Type} (k : Nat) : Cx R := mkCx Ty exts [(69, true, S69 k)] fi70 [] []
theorem cx70_ok {R : Type} (k : Nat) : CxOk Try.prog (cx70 k : Cx R) := mkCx_ok (c := ((Try.f70).body.getD .skip)) ty_ok mixed exts_ok (allSum_cons (S69_ok k) en69 allSum_nil) Try.func70 en70 (by kernel_rfl) (by kernel_rfl) allLoop_nil allCut_nil
@[reducible] def plumblineref02_partsY (R : Type) : Type := Nat → Int → Int → (Int → Int → Option R) → Option R
noncomputable def plumblineref02_partsT {R : Type} (plumblineref02_Size : plumblineref02_SizeY R) (k : Nat) (a1 : Int) (a2 : Int) (K0 : Int → Int → Option R) : Option R :=
  plumblineref02_Size k a1 (fun r1 r2 r3 =>
    cond (decide (r1 < 0)) (
      none) (
      cond (decide (r2 < 0)) (
        none) (
        cond (decide (r1 < 0)) (
          none) (
          K0 (bAnd .u64 (shr .u64 a2 r1) (Wu64 ((shl .u64 1 r2) - 1))) (bAnd .u64 a2 (Wu64 ((shl .u64 1 r1) - 1)))))))
noncomputable def plumblineref02_parts {R : Type} (k : Nat) (a1 : Int) (a2 : Int) (K0 : Int → Int → Option R) : Option R := plumblineref02_partsT plumblineref02_Size k a1 a2 K0
theorem plumblineref02_parts_gen {R : Type} (plumblineref02_Size : plumblineref02_SizeY R) (k : Nat) (a1 : Int) (a2 : Int) (K : AV → Heap → Option R) :
    fnK (mkCx Ty exts [(69, true, S69G plumblineref02_Size k)] fi70 [] []) 6 70 [.i .i64 a1, .i .u64 a2] ⟨0, []⟩ K = plumblineref02_partsT plumblineref02_Size k a1 a2 (fun q1 q2 => K (.tup [.i .u64 q1, .i .u64 q2]) ⟨0, []⟩) := by kernel_rfl
noncomputable def S70G {R : Type} (plumblineref02_parts : plumblineref02_partsY R) (k : Nat) : Sum R := fun args H K => match args, H with
  | [.i .i64 a1, .i .u64 a2], ⟨0, []⟩ => plumblineref02_parts k a1 a2 (fun q1 q2 => K (.tup [.i .u64 q1, .i .u64 q2]) ⟨0, []⟩)
  | _, _ => none
noncomputable def S70 {R : Type} (k : Nat) : Sum R := S70G plumblineref02_parts k
theorem S70_ok0 {R : Type} (k : Nat) : SumOk Try.prog 70 false (S70 k : Sum R) := by
  intro args H K r h
  unfold S70 S70G at h
  split at h
  · exact fnK_sound (cx70_ok k) 6 70 _ _ K r ((plumblineref02_parts_gen plumblineref02_Size k _ _ K).trans h)
  · cases h
theorem S70_ok {R : Type} (k : Nat) : SumOk Try.prog 70 true (S70 k : Sum R) := by
  refine sumOk_keep (S70_ok0 k) ?_
  intro args H K r h
  unfold S70 S70G at h ⊢
  split at h
  · refine Eq.trans ?_ h
    show plumblineref02_parts k _ _ _ = plumblineref02_parts k _ _ _
    congr 1
    all_goals first | exact (funext fun q1 => funext fun q2 => if_pos (keeps_app _ _ _ [])) | skip
  · cases h
-- function 27: plumbline/plumblineref02.Class
noncomputable def fi27 : FnI := ⟨27, Try.f27, []⟩
theorem en27 : Enters Try.prog 27 := enters_of Try.func27 (c := ((Try.f27).body.getD .skip)) (by kernel_rfl) (by kernel_rfl)
noncomputable def cx27 {R : Type} (k : Nat) : Cx R := mkCx Ty exts [(69, true, S69 k), (70, true, S70 k)] fi27 [] []
theorem cx27_ok {R : Type} (k : Nat) : CxOk Try.prog (cx27 k : Cx R) := mkCx_ok (c := ((Try.f27).body.getD .skip)) ty_ok mixed exts_ok (allSum_cons (S69_ok k) en69 (allSum_cons (S70_ok k) en70 allSum_nil)) Try.func27 en27 (by kernel_rfl) (by kernel_rfl) allLoop_nil allCut_nil
@[reducible] def plumblineref02_ClassY (R : Type) : Type := Nat → Int → Int → (Int → Option R) → Option R
noncomputable def plumblineref02_ClassT {R : Type} (plumblineref02_Size : plumblineref02_SizeY R) (plumblineref02_parts : plumblineref02_partsY R) (k : Nat) (a1 : Int) (a2 : Int) (K0 : Int → Option R) : Option R :=
  plumblineref02_Size k a1 (fun r1 r2 r3 =>
    cond (a1 == 1) (
      cond ((shr .u64 a2 32) != 0) (
        K0 0) (
        plumblineref02_parts k a1 a2 (fun r4 r5 =>
          cond (decide (r2 < 0)) (
            none) (
            cond (r4 == (Wu64 ((shl .u64 1 r2) - 1))) (
              cond (r5 != 0) (
                K0 5) (
                cond (decide (r2 < 0)) (
                  none) (
                  cond (r4 == (Wu64 ((shl .u64 1 r2) - 1))) (
                    K0 4) (
                    cond (r4 == 0) (
                      cond (r5 == 0) (
                        K0 1) (
                        cond (r4 == 0) (
                          K0 2) (
                          K0 3))) (
                      cond (r4 == 0) (
                        K0 2) (
                        K0 3)))))) (
              cond (decide (r2 < 0)) (
                none) (
                cond (r4 == (Wu64 ((shl .u64 1 r2) - 1))) (
                  K0 4) (
                  cond (r4 == 0) (
                    cond (r5 == 0) (
                      K0 1) (
                      cond (r4 == 0) (
                        K0 2) (
                        K0 3))) (
                    cond (r4 == 0) (
                      K0 2) (
                      K0 3))))))))) (
      plumblineref02_parts k a1 a2 (fun r6 r7 =>
        cond (decide (r2 < 0)) (
          none) (
          cond (r6 == (Wu64 ((shl .u64 1 r2) - 1))) (
            cond (r7 != 0) (
              K0 5) (
              cond (decide (r2 < 0)) (
                none) (
                cond (r6 == (Wu64 ((shl .u64 1 r2) - 1))) (
                  K0 4) (
                  cond (r6 == 0) (
                    cond (r7 == 0) (
                      K0 1) (
                      cond (r6 == 0) (
                        K0 2) (
                        K0 3))) (
                    cond (r6 == 0) (
                      K0 2) (
                      K0 3)))))) (
            cond (decide (r2 < 0)) (
              none) (
              cond (r6 == (Wu64 ((shl .u64 1 r2) - 1))) (
                K0 4) (
                cond (r6 == 0) (
                  cond (r7 == 0) (
                    K0 1) (
                    cond (r6 == 0) (
                      K0 2) (
                      K0 3))) (
                  cond (r6 == 0) (
                    K0 2) (
                    K0 3)))))))))
noncomputable def plumblineref02_Class {R : Type} (k : Nat) (a1 : Int) (a2 : Int) (K0 : Int → Option R) : Option R := plumblineref02_ClassT plumblineref02_Size plumblineref02_parts k a1 a2 K0
theorem plumblineref02_Class_gen {R : Type} (plumblineref02_Size : plumblineref02_SizeY R) (plumblineref02_parts : plumblineref02_partsY R) (k : Nat) (a1 : Int) (a2 : Int) (K : AV → Heap → Option R) :
    fnK (mkCx Ty exts [(69, true, S69G plumblineref02_Size k), (70, true, S70G plumblineref02_parts k)] fi27 [] []) 6 27 [.i .i64 a1, .i .u64 a2] ⟨0, []⟩ K = plumblineref02_ClassT plumblineref02_Size plumblineref02_parts k a1 a2 (fun q1 => K (.i .i64 q1) ⟨0, []⟩) := by kernel_rfl
noncomputable def S27G {R : Type} (plumblineref02_Class : plumblineref02_ClassY R) (k : Nat) : Sum R := fun args H K => match args, H with
  | [.i .i64 a1, .i .u64 a2], ⟨0, []⟩ => plumblineref02_Class k a1 a2 (fun q1 => K (.i .i64 q1) ⟨0, []⟩)
  | _, _ => none
noncomputable def S27 {R : Type} (k : Nat) : Sum R := S27G plumblineref02_Class k
theorem S27_ok0 {R : Type} (k : Nat) : SumOk Try.prog 27 false (S27 k : Sum R) := by
  intro args H K r h
  unfold S27 S27G at h
  split at h
  · exact fnK_sound (cx27_ok k) 6 27 _ _ K r ((plumblineref02_Class_gen plumblineref02_Size plumblineref02_parts k _ _ K).trans h)
  · cases h
theorem S27_ok {R : Type} (k : Nat) : SumOk Try.prog 27 true (S27 k : Sum R) := by
  refine sumOk_keep (S27_ok0 k) ?_
  intro args H K r h
  unfold S27 S27G at h ⊢
  split at h
  · refine Eq.trans ?_ h
    show plumblineref02_Class k _ _ _ = plumblineref02_Class k _ _ _
    congr 1
    all_goals first | exact (funext fun q1 => if_pos (keeps_app _ _ _ [])) | skip
  · cases h
-- function 52: plumbline/plumblineref02.isNan
noncomputable def fi52 : FnI := ⟨52, Try.f52, []⟩
theorem en52 : Enters Try.prog 52 := enters_of Try.func52 (c := ((Try.f52).body.getD .skip)) (by kernel_rfl) (by kernel_rfl)
noncomputable def cx52 {R : Type} (k : Nat) : Cx R := mkCx Ty exts [(27, true, S27 k)] fi52 [] []
theorem cx52_ok {R : Type} (k : Nat) : CxOk Try.prog (cx52 k : Cx R) := mkCx_ok (c := ((Try.f52).body.getD .skip)) ty_ok mixed exts_ok (allSum_cons (S27_ok k) en27 allSum_nil) Try.func52 en52 (by kernel_rfl) (by kernel_rfl) allLoop_nil allCut_nil
@[reducible] def plumblineref02_isNanY (R : Type) : Type := Nat → Int → Int → (Bool → Option R) → Option R
noncomputable def plumblineref02_isNanT {R : Type} (plumblineref02_Class : plumblineref02_ClassY R) (k : Nat) (a1 : Int) (a2 : Int) (K0 : Bool → Option R) : Option R :=
  plumblineref02_Class k a1 a2 (fun r1 =>
    cond (r1 == 5) (
      K0 true) (
      K0 (r1 == 0)))
noncomputable def plumblineref02_isNan {R : Type} (k : Nat) (a1 : Int) (a2 : Int) (K0 : Bool → Option R) : Option R := plumblineref02_isNanT plumblineref02_Class k a1 a2 K0
theorem plumblineref02_isNan_gen {R : Type} (plumblineref02_Class : plumblineref02_ClassY R) (k : Nat) (a1 : Int) (a2 : Int) (K : AV → Heap → Option R) :
    fnK (mkCx Ty exts [(27, true, S27G plumblineref02_Class k)] fi52 [] []) 6 52 [.i .i64 a1, .i .u64 a2] ⟨0, []⟩ K = plumblineref02_isNanT plumblineref02_Class k a1 a2 (fun q1 => K (.b q1) ⟨0, []⟩) := by kernel_rfl
noncomputable def S52G {R : Type} (plumblineref02_isNan : plumblineref02_isNanY R) (k : Nat) : Sum R := fun args H K => match args, H with
  | [.i .i64 a1, .i .u64 a2], ⟨0, []⟩ => plumblineref02_isNan k a1 a2 (fun q1 => K (.b q1) ⟨0, []⟩)
  | _, _ => none
noncomputable def S52 {R : Type} (k : Nat) : Sum R := S52G plumblineref02_isNan k
theorem S52_ok0 {R : Type} (k : Nat) : SumOk Try.prog 52 false (S52 k : Sum R) := by
  intro args H K r h
  unfold S52 S52G at h
  split at h
  · exact fnK_sound (cx52_ok k) 6 52 _ _ K r ((plumblineref02_isNan_gen plumblineref02_Class k _ _ K).trans h)
  · cases h
theorem S52_ok {R : Type} (k : Nat) : SumOk Try.prog 52 true (S52 k : Sum R) := by
  refine sumOk_keep (S52_ok0 k) ?_
  intro args H K r h
  unfold S52 S52G at h ⊢
  split at h
  · refine Eq.trans ?_ h
    show plumblineref02_isNan k _ _ _ = plumblineref02_isNan k _ _ _
    congr 1
    all_goals first | exact (funext fun q1 => if_pos (keeps_app _ _ _ [])) | skip
  · cases h
-- function 37: plumbline/plumblineref02.Nan
noncomputable def fi37 : FnI := ⟨37, Try.f37, []⟩
theorem en37 : Enters Try.prog 37 := enters_of Try.func37 (c := ((Try.f37).body.getD .skip)) (by kernel_rfl) (by kernel_rfl)
noncomputable def cx37 {R : Type} (k : Nat) : Cx R := mkCx Ty exts [(69, true, S69 k)] fi37 [] []
theorem cx37_ok {R : Type} (k : Nat) : CxOk Try.prog (cx37 k : Cx R) := mkCx_ok (c := ((Try.f37).body.getD .skip)) ty_ok mixed exts_ok (allSum_cons (S69_ok k) en69 allSum_nil) Try.func37 en37 (by kernel_rfl) (by kernel_rfl) allLoop_nil allCut_nil
@[reducible] def plumblineref02_NanY (R : Type) : Type := Nat → Int → (Int → Option R) → Option R
noncomputable def plumblineref02_NanT {R : Type} (plumblineref02_Size : plumblineref02_SizeY R) (k : Nat) (a1 : Int) (K0 : Int → Option R) : Option R :=
  plumblineref02_Size k a1 (fun r1 r2 r3 =>
    cond (decide ((Wi64 (r1 - 1)) < 0)) (
      none) (
      cond (decide (r2 < 0)) (
        none) (
        cond (decide (r1 < 0)) (
          none) (
          K0 (bOr .u64 (shl .u64 1 (Wi64 (r1 - 1))) (shl .u64 (Wu64 ((shl .u64 1 r2) - 1)) r1))))))
noncomputable def plumblineref02_Nan {R : Type} (k : Nat) (a1 : Int) (K0 : Int → Option R) : Option R := plumblineref02_NanT plumblineref02_Size k a1 K0
theorem plumblineref02_Nan_gen {R : Type} (plumblineref02_Size : plumblineref02_SizeY R) (k : Nat) (a1 : Int) (K : AV → Heap → Option R) :
    fnK (mkCx Ty exts [(69, true, S69G plumblineref02_Size k)] fi37 [] []) 6 37 [.i .i64 a1] ⟨0, []⟩ K = plumblineref02_NanT plumblineref02_Size k a1 (fun q1 => K (.i .u64 q1) ⟨0, []⟩) := by kernel_rfl
noncomputable def S37G {R : Type} (plumblineref02_Nan : plumblineref02_NanY R) (k : Nat) : Sum R := fun args H K => match args, H with
  | [.i .i64 a1], ⟨0, []⟩ => plumblineref02_Nan k a1 (fun q1 => K (.i .u64 q1) ⟨0, []⟩)
  | _, _ => none
noncomputable def S37 {R : Type} (k : Nat) : Sum R := S37G plumblineref02_Nan k
theorem S37_ok0 {R : Type} (k : Nat) : SumOk Try.prog 37 false (S37 k : Sum R) := by
  intro args H K r h
  unfold S37 S37G at h
  split at h
  · exact fnK_sound (cx37_ok k) 6 37 _ _ K r ((plumblineref02_Nan_gen plumblineref02_Size k _ K).trans h)
  · cases h
theorem S37_ok {R : Type} (k : Nat) : SumOk Try.prog 37 true (S37 k : Sum R) := by
  refine sumOk_keep (S37_ok0 k) ?_
  intro args H K r h
  unfold S37 S37G at h ⊢
  split at h
  · refine Eq.trans ?_ h
    show plumblineref02_Nan k _ _ = plumblineref02_Nan k _ _
    congr 1
    all_goals first | exact (funext fun q1 => if_pos (keeps_app _ _ _ [])) | skip
  · cases h
-- function 55: plumbline/plumblineref02.sign
noncomputable def fi55 : FnI := ⟨55, Try.f55, []⟩
theorem en55 : Enters Try.prog 55 := enters_of Try.func55 (c := ((Try.f55).body.getD .skip)) (by kernel_rfl) (by kernel_rfl)
noncomputable def cx55 {R : Type} (k : Nat) : Cx R := mkCx Ty exts [(69, true, S69 k)] fi55 [] []
theorem cx55_ok {R : Type} (k : Nat) : CxOk Try.prog (cx55 k : Cx R) := mkCx_ok (c := ((Try.f55).body.getD .skip)) ty_ok mixed exts_ok (allSum_cons (S69_ok k) en69 allSum_nil) Try.func55 en55 (by kernel_rfl) (by kernel_rfl) allLoop_nil allCut_nil
@[reducible] def plumblineref02_signY (R : Type) : Type := Nat → Int → Bool → (Int → Option R) → Option R
noncomputable def plumblineref02_signT {R : Type} (plumblineref02_Size : plumblineref02_SizeY R) (k : Nat) (a1 : Int) (a2 : Bool) (K0 : Int → Option R) : Option R :=
  plumblineref02_Size k a1 (fun r1 r2 r3 =>
    cond a2 (
      cond (decide ((Wi64 (r1 + r2)) < 0)) (
        none) (
        K0 (shl .u64 1 (Wi64 (r1 + r2))))) (
      K0 0))
noncomputable def plumblineref02_sign {R : Type} (k : Nat) (a1 : Int) (a2 : Bool) (K0 : Int → Option R) : Option R := plumblineref02_signT plumblineref02_Size k a1 a2 K0
theorem plumblineref02_sign_gen {R : Type} (plumblineref02_Size : plumblineref02_SizeY R) (k : Nat) (a1 : Int) (a2 : Bool) (K : AV → Heap → Option R) :
    fnK (mkCx Ty exts [(69, true, S69G plumblineref02_Size k)] fi55 [] []) 6 55 [.i .i64 a1, .b a2] ⟨0, []⟩ K = plumblineref02_signT plumblineref02_Size k a1 a2 (fun q1 => K (.i .u64 q1) ⟨0, []⟩) := by kernel_rfl
noncomputable def S55G {R : Type} (plumblineref02_sign : plumblineref02_signY R) (k : Nat) : Sum R := fun args H K => match args, H with
  | [.i .i64 a1, .b a2], ⟨0, []⟩ => plumblineref02_sign k a1 a2 (fun q1 => K (.i .u64 q1) ⟨0, []⟩)
  | _, _ => none
noncomputable def S55 {R : Type} (k : Nat) : Sum R := S55G plumblineref02_sign k
theorem S55_ok0 {R : Type} (k : Nat) : SumOk Try.prog 55 false (S55 k : Sum R) := by
  intro args H K r h
  unfold S55 S55G at h
  split at h
  · exact fnK_sound (cx55_ok k) 6 55 _ _ K r ((plumblineref02_sign_gen plumblineref02_Size k _ _ K).trans h)
  · cases h
theorem S55_ok {R : Type} (k : Nat) : SumOk Try.prog 55 true (S55 k : Sum R) := by
  refine sumOk_keep (S55_ok0 k) ?_
  intro args H K r h
  unfold S55 S55G at h ⊢
  split at h
  · refine Eq.trans ?_ h
    show plumblineref02_sign k _ _ _ = plumblineref02_sign k _ _ _
    congr 1
    all_goals first | exact (funext fun q1 => if_pos (keeps_app _ _ _ [])) | skip
  · cases h
-- function 29: plumbline/plumblineref02.Neg
noncomputable def fi29 : FnI := ⟨29, Try.f29, []⟩
theorem en29 : Enters Try.prog 29 := enters_of Try.func29 (c := ((Try.f29).body.getD .skip)) (by kernel_rfl) (by kernel_rfl)
noncomputable def cx29 {R : Type} (k : Nat) : Cx R := mkCx Ty exts [(37, true, S37 k), (52, true, S52 k), (55, true, S55 k)] fi29 [] []
theorem cx29_ok {R : Type} (k : Nat) : CxOk Try.prog (cx29 k : Cx R) := mkCx_ok (c := ((Try.f29).body.getD .skip)) ty_ok mixed exts_ok (allSum_cons (S37_ok k) en37 (allSum_cons (S52_ok k) en52 (allSum_cons (S55_ok k) en55 allSum_nil))) Try.func29 en29 (by kernel_rfl) (by kernel_rfl) allLoop_nil allCut_nil
@[reducible] def plumblineref02_NegY (R : Type) : Type := Nat → Int → Int → (Int → Option R) → Option R
noncomputable def plumblineref02_NegT {R : Type} (plumblineref02_Nan : plumblineref02_NanY R) (plumblineref02_isNan : plumblineref02_isNanY R) (plumblineref02_sign : plumblineref02_signY R) (k : Nat) (a1 : Int) (a2 : Int) (K0 : Int → Option R) : Option R :=
  plumblineref02_isNan k a1 a2 (fun r1 =>
    cond r1 (
      plumblineref02_Nan k a1 (fun r2 =>
        K0 r2)) (
      plumblineref02_sign k a1 true (fun r3 =>
        K0 (bXor .u64 a2 r3))))
noncomputable def plumblineref02_Neg {R : Type} (k : Nat) (a1 : Int) (a2 : Int) (K0 : Int → Option R) : Option R := plumblineref02_NegT plumblineref02_Nan plumblineref02_isNan plumblineref02_sign k a1 a2 K0
theorem plumblineref02_Neg_gen {R : Type} (plumblineref02_Nan : plumblineref02_NanY R) (plumblineref02_isNan : plumblineref02_isNanY R) (plumblineref02_sign : plumblineref02_signY R) (k : Nat) (a1 : Int) (a2 : Int) (K : AV → Heap → Option R) :
    fnK (mkCx Ty exts [(37, true, S37G plumblineref02_Nan k), (52, true, S52G plumblineref02_isNan k), (55, true, S55G plumblineref02_sign k)] fi29 [] []) 6 29 [.i .i64 a1, .i .u64 a2] ⟨0, []⟩ K = plumblineref02_NegT plumblineref02_Nan plumblineref02_isNan plumblineref02_sign k a1 a2 (fun q1 => K (.i .u64 q1) ⟨0, []⟩) := by kernel_rfl
noncomputable def S29G {R : Type} (plumblineref02_Neg : plumblineref02_NegY R) (k : Nat) : Sum R := fun args H K => match args, H with
  | [.i .i64 a1, .i .u64 a2], ⟨0, []⟩ => plumblineref02_Neg k a1 a2 (fun q1 => K (.i .u64 q1) ⟨0, []⟩)
  | _, _ => none
noncomputable def S29 {R : Type} (k : Nat) : Sum R := S29G plumblineref02_Neg k
theorem S29_ok0 {R : Type} (k : Nat) : SumOk Try.prog 29 false (S29 k : Sum R) := by
  intro args H K r h
  unfold S29 S29G at h
  split at h
  · exact fnK_sound (cx29_ok k) 6 29 _ _ K r ((plumblineref02_Neg_gen plumblineref02_Nan plumblineref02_isNan plumblineref02_sign k _ _ K).trans h)
  · cases h
theorem S29_ok {R : Type} (k : Nat) : SumOk Try.prog 29 true (S29 k : Sum R) := by
  refine sumOk_keep (S29_ok0 k) ?_
  intro args H K r h
  unfold S29 S29G at h ⊢
  split at h
  · refine Eq.trans ?_ h
    show plumblineref02_Neg k _ _ _ = plumblineref02_Neg k _ _ _
    congr 1
    all_goals first | exact (funext fun q1 => if_pos (keeps_app _ _ _ [])) | skip
  · cases h
-- function 31: plumbline/plumblineref02.Abs
noncomputable def fi31 : FnI := ⟨31, Try.f31, []⟩
theorem en31 : Enters Try.prog 31 := enters_of Try.func31 (c := ((Try.f31).body.getD .skip)) (by kernel_rfl) (by kernel_rfl)
noncomputable def cx31 {R : Type} (k : Nat) : Cx R := mkCx Ty exts [(37, true, S37 k), (52, true, S52 k), (55, true, S55 k)] fi31 [] []
theorem cx31_ok {R : Type} (k : Nat) : CxOk Try.prog (cx31 k : Cx R) := mkCx_ok (c := ((Try.f31).body.getD .skip)) ty_ok mixed exts_ok (allSum_cons (S37_ok k) en37 (allSum_cons (S52_ok k) en52 (allSum_cons (S55_ok k) en55 allSum_nil))) Try.func31 en31 (by kernel_rfl) (by kernel_rfl) allLoop_nil allCut_nil
@[reducible] def plumblineref02_AbsY (R : Type) : Type := Nat → Int → Int → (Int → Option R) → Option R
noncomputable def plumblineref02_AbsT {R : Type} (plumblineref02_Nan : plumblineref02_NanY R) (plumblineref02_isNan : plumblineref02_isNanY R) (plumblineref02_sign : plumblineref02_signY R) (k : Nat) (a1 : Int) (a2 : Int) (K0 : Int → Option R) : Option R :=
  plumblineref02_isNan k a1 a2 (fun r1 =>
    cond r1 (
      plumblineref02_Nan k a1 (fun r2 =>
        K0 r2)) (
      plumblineref02_sign k a1 true (fun r3 =>
        K0 (bAndNot .u64 a2 r3))))
noncomputable def plumblineref02_Abs {R : Type} (k : Nat) (a1 : Int) (a2 : Int) (K0 : Int → Option R) : Option R := plumblineref02_AbsT plumblineref02_Nan plumblineref02_isNan plumblineref02_sign k a1 a2 K0
theorem plumblineref02_Abs_gen {R : Type} (plumblineref02_Nan : plumblineref02_NanY R) (plumblineref02_isNan : plumblineref02_isNanY R) (plumblineref02_sign : plumblineref02_signY R) (k : Nat) (a1 : Int) (a2 : Int) (K : AV → Heap → Option R) :
    fnK (mkCx Ty exts [(37, true, S37G plumblineref02_Nan k), (52, true, S52G plumblineref02_isNan k), (55, true, S55G plumblineref02_sign k)] fi31 [] []) 6 31 [.i .i64 a1, .i .u64 a2] ⟨0, []⟩ K = plumblineref02_AbsT plumblineref02_Nan plumblineref02_isNan plumblineref02_sign k a1 a2 (fun q1 => K (.i .u64 q1) ⟨0, []⟩) := by kernel_rfl
noncomputable def S31G {R : Type} (plumblineref02_Abs : plumblineref02_AbsY R) (k : Nat) : Sum R := fun args H K => match args, H with
  | [.i .i64 a1, .i .u64 a2], ⟨0, []⟩ => plumblineref02_Abs k a1 a2 (fun q1 => K (.i .u64 q1) ⟨0, []⟩)
  | _, _ => none
noncomputable def S31 {R : Type} (k : Nat) : Sum R := S31G plumblineref02_Abs k
theorem S31_ok0 {R : Type} (k : Nat) : SumOk Try.prog 31 false (S31 k : Sum R) := by
  intro args H K r h
  unfold S31 S31G at h
  split at h
  · exact fnK_sound (cx31_ok k) 6 31 _ _ K r ((plumblineref02_Abs_gen plumblineref02_Nan plumblineref02_isNan plumblineref02_sign k _ _ K).trans h)
  · cases h
theorem S31_ok {R : Type} (k : Nat) : SumOk Try.prog 31 true (S31 k : Sum R) := by
  refine sumOk_keep (S31_ok0 k) ?_
  intro args H K r h
  unfold S31 S31G at h ⊢
  split at h
  · refine Eq.trans ?_ h
    show plumblineref02_Abs k _ _ _ = plumblineref02_Abs k _ _ _
    congr 1
    all_goals first | exact (funext fun q1 => if_pos (keeps_app _ _ _ [])) | skip
  · cases h
-- function 33: plumbline/plumblineref02.Finite
noncomputable def fi33 : FnI := ⟨33, Try.f33, []⟩
theorem en33 : Enters Try.prog 33 := enters_of Try.func33 (c := ((Try.f33).body.getD .skip)) (by kernel_rfl) (by kernel_rfl)
noncomputable def cx33 {R : Type} (k : Nat) : Cx R := mkCx Ty exts [(27, true, S27 k)] fi33 [] []
theorem cx33_ok {R : Type} (k : Nat) : CxOk Try.prog (cx33 k : Cx R) := mkCx_ok (c := ((Try.f33).body.getD .skip)) ty_ok mixed exts_ok (allSum_cons (S27_ok k) en27 allSum_nil) Try.func33 en33 (by kernel_rfl) (by kernel_rfl) allLoop_nil allCut_nil
@[reducible] def plumblineref02_FiniteY (R : Type) : Type := Nat → Int → Int → (Bool → Option R) → Option R
noncomputable def plumblineref02_FiniteT {R : Type} (plumblineref02_Class : plumblineref02_ClassY R) (k : Nat) (a1 : Int) (a2 : Int) (K0 : Bool → Option R) : Option R :=
  plumblineref02_Class k a1 a2 (fun r1 =>
    cond (r1 == 1) (
      K0 true) (
      cond (r1 == 2) (
        K0 true) (
        K0 (r1 == 3))))
noncomputable def plumblineref02_Finite {R : Type} (k : Nat) (a1 : Int) (a2 : Int) (K0 : Bool → Option R) : Option R := plumblineref02_FiniteT plumblineref02_Class k a1 a2 K0
theorem plumblineref02_Finite_gen {R : Type} (plumblineref02_Class : plumblineref02_ClassY R) (k : Nat) (a1 : Int) (a2 : Int) (K : AV → Heap → Option R) :
    fnK (mkCx Ty exts [(27, true, S27G plumblineref02_Class k)] fi33 [] []) 6 33 [.i .i64 a1, .i .u64 a2] ⟨0, []⟩ K = plumblineref02_FiniteT plumblineref02_Class k a1 a2 (fun q1 => K (.b q1) ⟨0, []⟩) := by kernel_rfl
noncomputable def S33G {R : Type} (plumblineref02_Finite : plumblineref02_FiniteY R) (k : Nat) : Sum R := fun args H K => match args, H with
  | [.i .i64 a1, .i .u64 a2], ⟨0, []⟩ => plumblineref02_Finite k a1 a2 (fun q1 => K (.b q1) ⟨0, []⟩)
  | _, _ => none
noncomputable def S33 {R : Type} (k : Nat) : Sum R := S33G plumblineref02_Finite k
theorem S33_ok0 {R : Type} (k : Nat) : SumOk Try.prog 33 false (S33 k : Sum R) := by
  intro args H K r h
  unfold S33 S33G at h
  split at h
  · exact fnK_sound (cx33_ok k) 6 33 _ _ K r ((plumblineref02_Finite_gen plumblineref02_Class k _ _ K).trans h)
  · cases h
theorem S33_ok {R : Type} (k : Nat) : SumOk Try.prog 33 true (S33 k : Sum R) := by
  refine sumOk_keep (S33_ok0 k) ?_
  intro args H K r h
  unfold S33 S33G at h ⊢
  split at h
  · refine Eq.trans ?_ h
    show plumblineref02_Finite k _ _ _ = plumblineref02_Finite k _ _ _
    congr 1
    all_goals first | exact (funext fun q1 => if_pos (keeps_app _ _ _ [])) | skip
  · cases h
-- function 35: plumbline/plumblineref02.Most
noncomputable def fi35 : FnI := ⟨35, Try.f35, []⟩
theorem en35 : Enters Try.prog 35 := enters_of Try.func35 (c := ((Try.f35).body.getD .skip)) (by kernel_rfl) (by kernel_rfl)
noncomputable def cx35 {R : Type} (k : Nat) : Cx R := mkCx Ty exts [(69, true, S69 k)] fi35 [] []
theorem cx35_ok {R : Type} (k : Nat) : CxOk Try.prog (cx35 k : Cx R) := mkCx_ok (c := ((Try.f35).body.getD .skip)) ty_ok mixed exts_ok (allSum_cons (S69_ok k) en69 allSum_nil) Try.func35 en35 (by kernel_rfl) (by kernel_rfl) allLoop_nil allCut_nil
@[reducible] def plumblineref02_MostY (R : Type) : Type := Nat → Int → (Int → Option R) → Option R
noncomputable def plumblineref02_MostT {R : Type} (plumblineref02_Size : plumblineref02_SizeY R) (k : Nat) (a1 : Int) (K0 : Int → Option R) : Option R :=
  plumblineref02_Size k a1 (fun r1 r2 r3 =>
    cond (decide (r2 < 0)) (
      none) (
      cond (decide (r1 < 0)) (
        none) (
        K0 (Wu64 ((shl .u64 (Wu64 ((shl .u64 1 r2) - 1)) r1) - 1)))))
noncomputable def plumblineref02_Most {R : Type} (k : Nat) (a1 : Int) (K0 : Int → Option R) : Option R := plumblineref02_MostT plumblineref02_Size k a1 K0
theorem plumblineref02_Most_gen {R : Type} (plumblineref02_Size : plumblineref02_SizeY R) (k : Nat) (a1 : Int) (K : AV → Heap → Option R) :
    fnK (mkCx Ty exts [(69, true, S69G plumblineref02_Size k)] fi35 [] []) 6 35 [.i .i64 a1] ⟨0, []⟩ K = plumblineref02_MostT plumblineref02_Size k a1 (fun q1 => K (.i .u64 q1) ⟨0, []⟩) := by kernel_rfl
noncomputable def S35G {R : Type} (plumblineref02_Most : plumblineref02_MostY R) (k : Nat) : Sum R := fun args H K => match args, H with
  | [.i .i64 a1], ⟨0, []⟩ => plumblineref02_Most k a1 (fun q1 => K (.i .u64 q1) ⟨0, []⟩)
  | _, _ => none
noncomputable def S35 {R : Type} (k : Nat) : Sum R := S35G plumblineref02_Most k
theorem S35_ok0 {R : Type} (k : Nat) : SumOk Try.prog 35 false (S35 k : Sum R) := by
  intro args H K r h
  unfold S35 S35G at h
  split at h
  · exact fnK_sound (cx35_ok k) 6 35 _ _ K r ((plumblineref02_Most_gen plumblineref02_Size k _ K).trans h)
  · cases h
theorem S35_ok {R : Type} (k : Nat) : SumOk Try.prog 35 true (S35 k : Sum R) := by
  refine sumOk_keep (S35_ok0 k) ?_
  intro args H K r h
  unfold S35 S35G at h ⊢
  split at h
  · refine Eq.trans ?_ h
    show plumblineref02_Most k _ _ = plumblineref02_Most k _ _
    congr 1
    all_goals first | exact (funext fun q1 => if_pos (keeps_app _ _ _ [])) | skip
  · cases h
-- function 51: plumbline/plumblineref02.Below
noncomputable def fi51 : FnI := ⟨51, Try.f51, []⟩
theorem en51 : Enters Try.prog 51 := enters_of Try.func51 (c := ((Try.f51).body.getD .skip)) (by kernel_rfl) (by kernel_rfl)
noncomputable def cx51 {R : Type} (k : Nat) : Cx R := mkCx Ty exts [(55, true, S55 k)] fi51 [] []
theorem cx51_ok {R : Type} (k : Nat) : CxOk Try.prog (cx51 k : Cx R) := mkCx_ok (c := ((Try.f51).body.getD .skip)) ty_ok mixed exts_ok (allSum_cons (S55_ok k) en55 allSum_nil) Try.func51 en51 (by kernel_rfl) (by kernel_rfl) allLoop_nil allCut_nil
@[reducible] def plumblineref02_BelowY (R : Type) : Type := Nat → Int → Int → (Bool → Option R) → Option R
noncomputable def plumblineref02_BelowT {R : Type} (plumblineref02_sign : plumblineref02_signY R) (k : Nat) (a1 : Int) (a2 : Int) (K0 : Bool → Option R) : Option R :=
  plumblineref02_sign k a1 true (fun r1 =>
    K0 ((bAnd .u64 a2 r1) != 0))
noncomputable def plumblineref02_Below {R : Type} (k : Nat) (a1 : Int) (a2 : Int) (K0 : Bool → Option R) : Option R := plumblineref02_BelowT plumblineref02_sign k a1 a2 K0
theorem plumblineref02_Below_gen {R : Type} (plumblineref02_sign : plumblineref02_signY R) (k : Nat) (a1 : Int) (a2 : Int) (K : AV → Heap → Option R) :
    fnK (mkCx Ty exts [(55, true, S55G plumblineref02_sign k)] fi51 [] []) 6 51 [.i .i64 a1, .i .u64 a2] ⟨0, []⟩ K = plumblineref02_BelowT plumblineref02_sign k a1 a2 (fun q1 => K (.b q1) ⟨0, []⟩) := by kernel_rfl
noncomputable def S51G {R : Type} (plumblineref02_Below : plumblineref02_BelowY R) (k : Nat) : Sum R := fun args H K => match args, H with
  | [.i .i64 a1, .i .u64 a2], ⟨0, []⟩ => plumblineref02_Below k a1 a2 (fun q1 => K (.b q1) ⟨0, []⟩)
  | _, _ => none
noncomputable def S51 {R : Type} (k : Nat) : Sum R := S51G plumblineref02_Below k
theorem S51_ok0 {R : Type} (k : Nat) : SumOk Try.prog 51 false (S51 k : Sum R) := by
  intro args H K r h
  unfold S51 S51G at h
  split at h
  · exact fnK_sound (cx51_ok k) 6 51 _ _ K r ((plumblineref02_Below_gen plumblineref02_sign k _ _ K).trans h)
  · cases h
theorem S51_ok {R : Type} (k : Nat) : SumOk Try.prog 51 true (S51 k : Sum R) := by
  refine sumOk_keep (S51_ok0 k) ?_
  intro args H K r h
  unfold S51 S51G at h ⊢
  split at h
  · refine Eq.trans ?_ h
    show plumblineref02_Below k _ _ _ = plumblineref02_Below k _ _ _
    congr 1
    all_goals first | exact (funext fun q1 => if_pos (keeps_app _ _ _ [])) | skip
  · cases h
-- function 74: plumbline/plumblineref02.rank
noncomputable def fi74 : FnI := ⟨74, Try.f74, []⟩
theorem en74 : Enters Try.prog 74 := enters_of Try.func74 (c := ((Try.f74).body.getD .skip)) (by kernel_rfl) (by kernel_rfl)
noncomputable def cx74 {R : Type} (k : Nat) : Cx R := mkCx Ty exts [(51, true, S51 k), (55, true, S55 k)] fi74 [] []
theorem cx74_ok {R : Type} (k : Nat) : CxOk Try.prog (cx74 k : Cx R) := mkCx_ok (c := ((Try.f74).body.getD .skip)) ty_ok mixed exts_ok (allSum_cons (S51_ok k) en51 (allSum_cons (S55_ok k) en55 allSum_nil)) Try.func74 en74 (by kernel_rfl) (by kernel_rfl) allLoop_nil allCut_nil
@[reducible] def plumblineref02_rankY (R : Type) : Type := Nat → Int → Int → (Int → Option R) → Option R
noncomputable def plumblineref02_rankT {R : Type} (plumblineref02_Below : plumblineref02_BelowY R) (plumblineref02_sign : plumblineref02_signY R) (k : Nat) (a1 : Int) (a2 : Int) (K0 : Int → Option R) : Option R :=
  plumblineref02_sign k a1 true (fun r1 =>
    plumblineref02_Below k a1 a2 (fun r2 =>
      cond r2 (
        K0 (Wi64 (0 - (Wi64 (bAndNot .u64 a2 r1))))) (
        K0 (Wi64 (bAndNot .u64 a2 r1)))))
noncomputable def plumblineref02_rank {R : Type} (k : Nat) (a1 : Int) (a2 : Int) (K0 : Int → Option R) : Option R := plumblineref02_rankT plumblineref02_Below plumblineref02_sign k a1 a2 K0
theorem plumblineref02_rank_gen {R : Type} (plumblineref02_Below : plumblineref02_BelowY R) (plumblineref02_sign : plumblineref02_signY R) (k : Nat) (a1 : Int) (a2 : Int) (K : AV → Heap → Option R) :
    fnK (mkCx Ty exts [(51, true, S51G plumblineref02_Below k), (55, true, S55G plumblineref02_sign k)] fi74 [] []) 6 74 [.i .i64 a1, .i .u64 a2] ⟨0, []⟩ K = plumblineref02_rankT plumblineref02_Below plumblineref02_sign k a1 a2 (fun q1 => K (.i .i64 q1) ⟨0, []⟩) := by kernel_rfl
noncomputable def S74G {R : Type} (plumblineref02_rank : plumblineref02_rankY R) (k : Nat) : Sum R := fun args H K => match args, H with
  | [.i .i64 a1, .i .u64 a2], ⟨0, []⟩ => plumblineref02_rank k a1 a2 (fun q1 => K (.i .i64 q1) ⟨0, []⟩)
  | _, _ => none
noncomputable def S74 {R : Type} (k : Nat) : Sum R := S74G plumblineref02_rank k
theorem S74_ok0 {R : Type} (k : Nat) : SumOk Try.prog 74 false (S74 k : Sum R) := by
  intro args H K r h
  unfold S74 S74G at h
  split at h
  · exact fnK_sound (cx74_ok k) 6 74 _ _ K r ((plumblineref02_rank_gen plumblineref02_Below plumblineref02_sign k _ _ K).trans h)
  · cases h
theorem S74_ok {R : Type} (k : Nat) : SumOk Try.prog 74 true (S74 k : Sum R) := by
  refine sumOk_keep (S74_ok0 k) ?_
  intro args H K r h
  unfold S74 S74G at h ⊢
  split at h
  · refine Eq.trans ?_ h
    show plumblineref02_rank k _ _ _ = plumblineref02_rank k _ _ _
    congr 1
    all_goals first | exact (funext fun q1 => if_pos (keeps_app _ _ _ [])) | skip
  · cases h
-- function 39: plumbline/plumblineref02.Compare
noncomputable def fi39 : FnI := ⟨39, Try.f39, []⟩
theorem en39 : Enters Try.prog 39 := enters_of Try.func39 (c := ((Try.f39).body.getD .skip)) (by kernel_rfl) (by kernel_rfl)
noncomputable def cx39 {R : Type} (k : Nat) : Cx R := mkCx Ty exts [(52, true, S52 k), (74, true, S74 k)] fi39 [] []
theorem cx39_ok {R : Type} (k : Nat) : CxOk Try.prog (cx39 k : Cx R) := mkCx_ok (c := ((Try.f39).body.getD .skip)) ty_ok mixed exts_ok (allSum_cons (S52_ok k) en52 (allSum_cons (S74_ok k) en74 allSum_nil)) Try.func39 en39 (by kernel_rfl) (by kernel_rfl) allLoop_nil allCut_nil
@[reducible] def plumblineref02_CompareY (R : Type) : Type := Nat → Int → Int → Int → (Int → Bool → Option R) → Option R
noncomputable def plumblineref02_CompareT {R : Type} (plumblineref02_isNan : plumblineref02_isNanY R) (plumblineref02_rank : plumblineref02_rankY R) (k : Nat) (a1 : Int) (a2 : Int) (a3 : Int) (K0 : Int → Bool → Option R) : Option R :=
  plumblineref02_isNan k a1 a2 (fun r1 =>
    cond r1 (
      K0 0 false) (
      plumblineref02_isNan k a1 a3 (fun r2 =>
        cond r2 (
          K0 0 false) (
          plumblineref02_rank k a1 a2 (fun r3 =>
            plumblineref02_rank k a1 a3 (fun r4 =>
              cond (decide (r3 < r4)) (
                K0 (-1) true) (
                cond (decide (r3 > r4)) (
                  K0 1 true) (
                  K0 0 true))))))))
noncomputable def plumblineref02_Compare {R : Type} (k : Nat) (a1 : Int) (a2 : Int) (a3 : Int) (K0 : Int → Bool → Option R) : Option R := plumblineref02_CompareT plumblineref02_isNan plumblineref02_rank k a1 a2 a3 K0
theorem plumblineref02_Compare_gen {R : Type} (plumblineref02_isNan : plumblineref02_isNanY R) (plumblineref02_rank : plumblineref02_rankY R) (k : Nat) (a1 : Int) (a2 : Int) (a3 : Int) (K : AV → Heap → Option R) :
    fnK (mkCx Ty exts [(52, true, S52G plumblineref02_isNan k), (74, true, S74G plumblineref02_rank k)] fi39 [] []) 6 39 [.i .i64 a1, .i .u64 a2, .i .u64 a3] ⟨0, []⟩ K = plumblineref02_CompareT plumblineref02_isNan plumblineref02_rank k a1 a2 a3 (fun q1 q2 => K (.tup [.i .i64 q1, .b q2]) ⟨0, []⟩) := by kernel_rfl
noncomputable def S39G {R : Type} (plumblineref02_Compare : plumblineref02_CompareY R) (k : Nat) : Sum R := fun args H K => match args, H with
  | [.i .i64 a1, .i .u64 a2, .i .u64 a3], ⟨0, []⟩ => plumblineref02_Compare k a1 a2 a3 (fun q1 q2 => K (.tup [.i .i64 q1, .b q2]) ⟨0, []⟩)
  | _, _ => none
noncomputable def S39 {R : Type} (k : Nat) : Sum R := S39G plumblineref02_Compare k
theorem S39_ok0 {R : Type} (k : Nat) : SumOk Try.prog 39 false (S39 k : Sum R) := by
  intro args H K r h
  unfold S39 S39G at h
  split at h
  · exact fnK_sound (cx39_ok k) 6 39 _ _ K r ((plumblineref02_Compare_gen plumblineref02_isNan plumblineref02_rank k _ _ _ K).trans h)
  · cases h
theorem S39_ok {R : Type} (k : Nat) : SumOk Try.prog 39 true (S39 k : Sum R) := by
  refine sumOk_keep (S39_ok0 k) ?_
  intro args H K r h
  unfold S39 S39G at h ⊢
  split at h
  · refine Eq.trans ?_ h
    show plumblineref02_Compare k _ _ _ _ = plumblineref02_Compare k _ _ _ _
    congr 1
    all_goals first | exact (funext fun q1 => funext fun q2 => if_pos (keeps_app _ _ _ [])) | skip
  · cases h
-- function 53: plumbline/plumblineref02.isInf
noncomputable def fi53 : FnI := ⟨53, Try.f53, []⟩
theorem en53 : Enters Try.prog 53 := enters_of Try.func53 (c := ((Try.f53).body.getD .skip)) (by kernel_rfl) (by kernel_rfl)
noncomputable def cx53 {R : Type} (k : Nat) : Cx R := mkCx Ty exts [(27, true, S27 k)] fi53 [] []
theorem cx53_ok {R : Type} (k : Nat) : CxOk Try.prog (cx53 k : Cx R) := mkCx_ok (c := ((Try.f53).body.getD .skip)) ty_ok mixed exts_ok (allSum_cons (S27_ok k) en27 allSum_nil) Try.func53 en53 (by kernel_rfl) (by kernel_rfl) allLoop_nil allCut_nil
@[reducible] def plumblineref02_isInfY (R : Type) : Type := Nat → Int → Int → (Bool → Option R) → Option R
noncomputable def plumblineref02_isInfT {R : Type} (plumblineref02_Class : plumblineref02_ClassY R) (k : Nat) (a1 : Int) (a2 : Int) (K0 : Bool → Option R) : Option R :=
  plumblineref02_Class k a1 a2 (fun r1 =>
    K0 (r1 == 4))
noncomputable def plumblineref02_isInf {R : Type} (k : Nat) (a1 : Int) (a2 : Int) (K0 : Bool → Option R) : Option R := plumblineref02_isInfT plumblineref02_Class k a1 a2 K0
theorem plumblineref02_isInf_gen {R : Type} (plumblineref02_Class : plumblineref02_ClassY R) (k : Nat) (a1 : Int) (a2 : Int) (K : AV → Heap → Option R) :
    fnK (mkCx Ty exts [(27, true, S27G plumblineref02_Class k)] fi53 [] []) 6 53 [.i .i64 a1, .i .u64 a2] ⟨0, []⟩ K = plumblineref02_isInfT plumblineref02_Class k a1 a2 (fun q1 => K (.b q1) ⟨0, []⟩) := by kernel_rfl
noncomputable def S53G {R : Type} (plumblineref02_isInf : plumblineref02_isInfY R) (k : Nat) : Sum R := fun args H K => match args, H with
  | [.i .i64 a1, .i .u64 a2], ⟨0, []⟩ => plumblineref02_isInf k a1 a2 (fun q1 => K (.b q1) ⟨0, []⟩)
  | _, _ => none
noncomputable def S53 {R : Type} (k : Nat) : Sum R := S53G plumblineref02_isInf k
theorem S53_ok0 {R : Type} (k : Nat) : SumOk Try.prog 53 false (S53 k : Sum R) := by
  intro args H K r h
  unfold S53 S53G at h
  split at h
  · exact fnK_sound (cx53_ok k) 6 53 _ _ K r ((plumblineref02_isInf_gen plumblineref02_Class k _ _ K).trans h)
  · cases h
theorem S53_ok {R : Type} (k : Nat) : SumOk Try.prog 53 true (S53 k : Sum R) := by
  refine sumOk_keep (S53_ok0 k) ?_
  intro args H K r h
  unfold S53 S53G at h ⊢
  split at h
  · refine Eq.trans ?_ h
    show plumblineref02_isInf k _ _ _ = plumblineref02_isInf k _ _ _
    congr 1
    all_goals first | exact (funext fun q1 => if_pos (keeps_app _ _ _ [])) | skip
  · cases h
-- function 56: plumbline/plumblineref02.value
noncomputable def fi56 : FnI := ⟨56, Try.f56, []⟩
theorem en56 : Enters Try.prog 56 := enters_of Try.func56 (c := ((Try.f56).body.getD .skip)) (by kernel_rfl) (by kernel_rfl)
noncomputable def cx56 {R : Type} (k : Nat) : Cx R := mkCx Ty exts [(69, true, S69 k), (70, true, S70 k)] fi56 [] []
theorem cx56_ok {R : Type} (k : Nat) : CxOk Try.prog (cx56 k : Cx R) := mkCx_ok (c := ((Try.f56).body.getD .skip)) ty_ok mixed exts_ok (allSum_cons (S69_ok k) en69 (allSum_cons (S70_ok k) en70 allSum_nil)) Try.func56 en56 (by kernel_rfl) (by kernel_rfl) allLoop_nil allCut_nil
@[reducible] def plumblineref02_valueY (R : Type) : Type := Nat → Int → Int → (Int → Int → Option R) → Option R
noncomputable def plumblineref02_valueT {R : Type} (plumblineref02_Size : plumblineref02_SizeY R) (plumblineref02_parts : plumblineref02_partsY R) (k : Nat) (a1 : Int) (a2 : Int) (K0 : Int → Int → Option R) : Option R :=
  plumblineref02_Size k a1 (fun r1 r2 r3 =>
    plumblineref02_parts k a1 a2 (fun r4 r5 =>
      cond (r4 == 0) (
        K0 r5 r3) (
        cond (decide (r1 < 0)) (
          none) (
          K0 (bOr .u64 r5 (shl .u64 1 r1)) (Wi64 ((Wi64 ((Wi64 r4) - 1)) + r3))))))
noncomputable def plumblineref02_value {R : Type} (k : Nat) (a1 : Int) (a2 : Int) (K0 : Int → Int → Option R) : Option R := plumblineref02_valueT plumblineref02_Size plumblineref02_parts k a1 a2 K0
theorem plumblineref02_value_gen {R : Type} (plumblineref02_Size : plumblineref02_SizeY R) (plumblineref02_parts : plumblineref02_partsY R) (k : Nat) (a1 : Int) (a2 : Int) (K : AV → Heap → Option R) :
    fnK (mkCx Ty exts [(69, true, S69G plumblineref02_Size k), (70, true, S70G plumblineref02_parts k)] fi56 [] []) 6 56 [.i .i64 a1, .i .u64 a2] ⟨0, []⟩ K = plumblineref02_valueT plumblineref02_Size plumblineref02_parts k a1 a2 (fun q1 q2 => K (.tup [.i .u64 q1, .i .i64 q2]) ⟨0, []⟩) := by kernel_rfl
noncomputable def S56G {R : Type} (plumblineref02_value : plumblineref02_valueY R) (k : Nat) : Sum R := fun args H K => match args, H with
  | [.i .i64 a1, .i .u64 a2], ⟨0, []⟩ => plumblineref02_value k a1 a2 (fun q1 q2 => K (.tup [.i .u64 q1, .i .i64 q2]) ⟨0, []⟩)
  | _, _ => none
noncomputable def S56 {R : Type} (k : Nat) : Sum R := S56G plumblineref02_value k
theorem S56_ok0 {R : Type} (k : Nat) : SumOk Try.prog 56 false (S56 k : Sum R) := by
  intro args H K r h
  unfold S56 S56G at h
  split at h
  · exact fnK_sound (cx56_ok k) 6 56 _ _ K r ((plumblineref02_value_gen plumblineref02_Size plumblineref02_parts k _ _ K).trans h)
  · cases h
theorem S56_ok {R : Type} (k : Nat) : SumOk Try.prog 56 true (S56 k : Sum R) := by
  refine sumOk_keep (S56_ok0 k) ?_
  intro args H K r h
  unfold S56 S56G at h ⊢
  split at h
  · refine Eq.trans ?_ h
    show plumblineref02_value k _ _ _ = plumblineref02_value k _ _ _
    congr 1
    all_goals first | exact (funext fun q1 => funext fun q2 => if_pos (keeps_app _ _ _ [])) | skip
  · cases h
-- function 58: plumbline/plumblineref02.bits
noncomputable def fi58 : FnI := ⟨58, Try.f58, [(100002, [0, 3]), (3002000, [3])]⟩
theorem en58 : Enters Try.prog 58 := enters_of Try.func58 (c := ((Try.f58).body.getD .skip)) (by kernel_rfl) (by kernel_rfl)
@[reducible] def plumblineref02_bits_l0Y (R : Type) : Type := Nat → Nat → Int → (List Bool) → ((List Bool) → Option R) → Option R
noncomputable def plumblineref02_bits_l0B {R : Type} (k : Nat) (rec : Int → (List Bool) → Option R) (x1 : Int) (x2 : List Bool) (K0 : (List Bool) → Option R) : Option R :=
  cond (decide (x1 > 0)) (
    cond (Nat.ble (((List.length x2) + 1) * 1) 70368744177664) (
      rec (Wu64 (Int.tdiv x1 2)) (x2 ++ [((Int.tmod x1 2) == 1)])) (
      none)) (
    K0 x2)
noncomputable def plumblineref02_bits_l0 {R : Type} (k : Nat) : Nat → Int → (List Bool) → ((List Bool) → Option R) → Option R
  | 0, _, _, _ => none
  | n + 1, x1, x2, K0 => plumblineref02_bits_l0B k (fun x1 x2 => plumblineref02_bits_l0 k n x1 x2 K0) x1 x2 K0
@[reducible] def plumblineref02_bits_l1Y (R : Type) : Type := Nat → Nat → Int → ((List Bool) → Option R) → (Option R) → Option R
noncomputable def plumblineref02_bits_l1B {R : Type} (k : Nat) (rec : Int → Option R) (o_plumblineref02_bits_l0 : Int → (List Bool) → ((List Bool) → Option R) → Option R) (x1 : Int) (K0 : (List Bool) → Option R) (K1 : Option R) : Option R :=
  cond (decide (x1 > 0)) (
    o_plumblineref02_bits_l0 (Wu64 (Int.tdiv x1 2)) [((Int.tmod x1 2) == 1)] (fun yr1 =>
      K0 yr1)) (
    K1)
noncomputable def plumblineref02_bits_l1 {R : Type} (k : Nat) : Nat → Int → ((List Bool) → Option R) → (Option R) → Option R
  | 0, _, _, _ => none
  | n + 1, x1, K0, K1 => plumblineref02_bits_l1B k (fun x1 => plumblineref02_bits_l1 k n x1 K0 K1) (plumblineref02_bits_l0 k n) x1 K0 K1
noncomputable def cx58_2 {R : Type} (k : Nat) : Cx R := mkCx Ty exts [] fi58 [] []
theorem cx58_2_ok {R : Type} (k : Nat) : CxOk Try.prog (cx58_2 k : Cx R) := mkCx_ok (c := ((Try.f58).body.getD .skip)) ty_ok mixed exts_ok allSum_nil Try.func58 en58 (by kernel_rfl) (by kernel_rfl) allLoop_nil allCut_nil
noncomputable def L58_2G {R : Type} (plumblineref02_bits_l0 : plumblineref02_bits_l0Y R) (plumblineref02_bits_l1 : plumblineref02_bits_l1Y R) (k n : Nat) : LSum R := fun pin T H K => match pin, T, H with
  | 0, [(0, .i .u64 x1), (3, .sw 0)], ⟨1, [(0, some ⟨0, false, .row [.b] x2⟩)]⟩ => plumblineref02_bits_l0 k n x1 x2 (fun q1 => K (.exit 0) [(3, .sw 0)] ⟨1, [(0, some ⟨0, false, .row [.b] q1⟩)]⟩)
  | 0, [(0, .i .u64 x1), (3, .nsl)], ⟨0, []⟩ => plumblineref02_bits_l1 k n x1 (fun q1 => K (.exit 0) [(3, .sw 0)] ⟨1, [(0, some ⟨0, false, .row [.b] q1⟩)]⟩) (K (.exit 0) [(3, .nsl)] ⟨0, []⟩)
  | _, _, _ => none
noncomputable def L58_2 {R : Type} (k n : Nat) : LSum R := L58_2G plumblineref02_bits_l0 plumblineref02_bits_l1 k n
theorem plumblineref02_bits_l0_gen {R : Type} (plumblineref02_bits_l0 : plumblineref02_bits_l0Y R) (plumblineref02_bits_l1 : plumblineref02_bits_l1Y R) (k n : Nat) (x1 : Int) (x2 : List Bool) (K : Kont R) :
    (fun C => codeK C (run C 4)) (mkCx Ty exts [] fi58 [] []) 0 fi58 (loopAt ((Try.f58).body.getD .skip) 2) [(0, .i .u64 x1), (3, .sw 0)] ⟨1, [(0, some ⟨0, false, .row [.b] x2⟩)]⟩ (fun ex T H => match (generalizing := false) ex with
      | .normal => normAt (some [0, 3]) 0 T H (fun T H => L58_2G plumblineref02_bits_l0 plumblineref02_bits_l1 k n 0 T H K)
      | ex => exitNorm fi58.ann 2 0 K ex T H) =
    plumblineref02_bits_l0B k (fun x1 x2 => plumblineref02_bits_l0 k n x1 x2 (fun q1 => K (.exit 0) [(3, .sw 0)] ⟨1, [(0, some ⟨0, false, .row [.b] q1⟩)]⟩)) x1 x2 (fun q1 => K (.exit 0) [(3, .sw 0)] ⟨1, [(0, some ⟨0, false, .row [.b] q1⟩)]⟩) := by kernel_rfl
theorem plumblineref02_bits_l1_gen {R : Type} (plumblineref02_bits_l0 : plumblineref02_bits_l0Y R) (plumblineref02_bits_l1 : plumblineref02_bits_l1Y R) (k n : Nat) (x1 : Int) (K : Kont R) :
    (fun C => codeK C (run C 4)) (mkCx Ty exts [] fi58 [] []) 0 fi58 (loopAt ((Try.f58).body.getD .skip) 2) [(0, .i .u64 x1), (3, .nsl)] ⟨0, []⟩ (fun ex T H => match (generalizing := false) ex with
      | .normal => normAt (some [0, 3]) 0 T H (fun T H => L58_2G plumblineref02_bits_l0 plumblineref02_bits_l1 k n 0 T H K)
      | ex => exitNorm fi58.ann 2 0 K ex T H) =
    plumblineref02_bits_l1B k (fun x1 => plumblineref02_bits_l1 k n x1 (fun q1 => K (.exit 0) [(3, .sw 0)] ⟨1, [(0, some ⟨0, false, .row [.b] q1⟩)]⟩) (K (.exit 0) [(3, .nsl)] ⟨0, []⟩)) (plumblineref02_bits_l0 k n) x1 (fun q1 => K (.exit 0) [(3, .sw 0)] ⟨1, [(0, some ⟨0, false, .row [.b] q1⟩)]⟩) (K (.exit 0) [(3, .nsl)] ⟨0, []⟩) := by kernel_rfl
theorem L58_2_cok {R : Type} (k : Nat) : CodeOk Try.prog (cx58_2 k : Cx R) fi58 (loopAt ((Try.f58).body.getD .skip) 2) := loopAt_ok (((cx58_2_ok k).fns 58 fi58 (by kernel_rfl)).2.2.2 ((Try.f58).body.getD .skip) (by kernel_rfl))
theorem L58_2_ok {R : Type} (k : Nat) : ∀ n, LoopOk Try.prog (Try.f58).ntmps (loopAt ((Try.f58).body.getD .skip) 2) (L58_2 k n : LSum R)
  | 0 => by
    intro pin T H K r h
    unfold L58_2 L58_2G at h
    split at h
    all_goals exact nomatch (show (none : Option R) = some r from h)
  | n + 1 => by
    intro pin T H K r h
    unfold L58_2 L58_2G at h
    split at h
    · obtain ⟨ex, T1, H1, h, hb⟩ := codeK_sound (cx58_2_ok k) (run_sound (cx58_2_ok k) 4) _ fi58 _ _ _ _ _ (L58_2_cok k) ((plumblineref02_bits_l0_gen plumblineref02_bits_l0 plumblineref02_bits_l1 k n _ _ K).trans h)
      exact loop_step (fun T H hh => L58_2_ok k n _ T H K r hh) hb h
    · obtain ⟨ex, T1, H1, h, hb⟩ := codeK_sound (cx58_2_ok k) (run_sound (cx58_2_ok k) 4) _ fi58 _ _ _ _ _ (L58_2_cok k) ((plumblineref02_bits_l1_gen plumblineref02_bits_l0 plumblineref02_bits_l1 k n _ K).trans h)
      exact loop_step (fun T H hh => L58_2_ok k n _ T H K r hh) hb h
    · cases h
noncomputable def cx58 {R : Type} (k : Nat) : Cx R := mkCx Ty exts [] fi58 [(2, L58_2 k k)] []
theorem cx58_ok {R : Type} (k : Nat) : CxOk Try.prog (cx58 k : Cx R) := mkCx_ok (c := ((Try.f58).body.getD .skip)) ty_ok mixed exts_ok allSum_nil Try.func58 en58 (by kernel_rfl) (by kernel_rfl) (allLoop_loop (by kernel_rfl) (L58_2_ok k k) allLoop_nil) allCut_nil
@[reducible] def plumblineref02_bitsY (R : Type) : Type := Nat → Int → ((List Bool) → Option R) → (Option R) → Option R
noncomputable def plumblineref02_bitsT {R : Type} (plumblineref02_bits_l1 : plumblineref02_bits_l1Y R) (k : Nat) (a1 : Int) (K0 : (List Bool) → Option R) (K1 : Option R) : Option R :=
  plumblineref02_bits_l1 k k a1 (fun r1 =>
    K0 r1) (
    K1)
noncomputable def plumblineref02_bits {R : Type} (k : Nat) (a1 : Int) (K0 : (List Bool) → Option R) (K1 : Option R) : Option R := plumblineref02_bitsT plumblineref02_bits_l1 k a1 K0 K1
theorem plumblineref02_bits_gen {R : Type} (plumblineref02_bits_l0 : plumblineref02_bits_l0Y R) (plumblineref02_bits_l1 : plumblineref02_bits_l1Y R) (k : Nat) (a1 : Int) (K : AV → Heap → Option R) :
    fnK (mkCx Ty exts [] fi58 [(2, L58_2G plumblineref02_bits_l0 plumblineref02_bits_l1 k k)] []) 6 58 [.i .u64 a1] ⟨0, []⟩ K = plumblineref02_bitsT plumblineref02_bits_l1 k a1 (fun q1 => K (.sw 0) ⟨1, [(0, some ⟨0, false, .row [.b] q1⟩)]⟩) (K .nsl ⟨0, []⟩) := by kernel_rfl
noncomputable def S58G {R : Type} (plumblineref02_bits : plumblineref02_bitsY R) (k : Nat) : Sum R := fun args H K => match args, H with
  | [.i .u64 a1], ⟨0, []⟩ => plumblineref02_bits k a1 (fun q1 => K (.sw 0) ⟨1, [(0, some ⟨0, false, .row [.b] q1⟩)]⟩) (K .nsl ⟨0, []⟩)
  | _, _ => none
noncomputable def S58 {R : Type} (k : Nat) : Sum R := S58G plumblineref02_bits k
theorem S58_ok0 {R : Type} (k : Nat) : SumOk Try.prog 58 false (S58 k : Sum R) := by
  intro args H K r h
  unfold S58 S58G at h
  split at h
  · exact fnK_sound (cx58_ok k) 6 58 _ _ K r ((plumblineref02_bits_gen plumblineref02_bits_l0 plumblineref02_bits_l1 k _ K).trans h)
  · cases h
theorem S58_ok {R : Type} (k : Nat) : SumOk Try.prog 58 true (S58 k : Sum R) := by
  refine sumOk_keep (S58_ok0 k) ?_
  intro args H K r h
  unfold S58 S58G at h ⊢
  split at h
  · refine Eq.trans ?_ h
    show plumblineref02_bits k _ _ _ = plumblineref02_bits k _ _ _
    congr 1
    all_goals first | exact (funext fun q1 => if_pos (keeps_app _ _ _ [(0, some ⟨0, false, .row [.b] q1⟩)])) | skip
    all_goals first | exact (if_pos (keeps_app _ _ _ [])) | skip
  · cases h
-- function 86: plumbline/plumblineref02.length
noncomputable def fi86 : FnI := ⟨86, Try.f86, [(100002, [0, 3]), (3002000, [3])]⟩
theorem en86 : Enters Try.prog 86 := enters_of Try.func86 (c := ((Try.f86).body.getD .skip)) (by kernel_rfl) (by kernel_rfl)
@[reducible] def plumblineref02_length_l0Y (R : Type) : Type := Nat → Nat → Int → (List Bool) → (Int → Option R) → Option R
noncomputable def plumblineref02_length_l0B {R : Type} (k : Nat) (rec : Int → (List Bool) → Option R) (x1 : Int) (x2 : List Bool) (K0 : Int → Option R) : Option R :=
  cond (decide (x1 > 0)) (
    cond (decide (0 ≤ (Wi64 (x1 - 1)))) (
      cond (decide ((Wi64 (x1 - 1)) < (((List.length x2) : Nat) : Int))) (
        Option.bind (x2[(Int.toNat (Wi64 (x1 - 1)))]?) fun ye1 =>
        cond (!ye1) (
          rec (Wi64 (x1 - 1)) x2) (
          K0 x1)) (
        none)) (
      none)) (
    K0 x1)
noncomputable def plumblineref02_length_l0 {R : Type} (k : Nat) : Nat → Int → (List Bool) → (Int → Option R) → Option R
  | 0, _, _, _ => none
  | n + 1, x1, x2, K0 => plumblineref02_length_l0B k (fun x1 x2 => plumblineref02_length_l0 k n x1 x2 K0) x1 x2 K0
@[reducible] def plumblineref02_length_n0_l0Y (R : Type) : Type := Nat → Nat → Int → (Option R) → Option R
noncomputable def plumblineref02_length_n0_l0B {R : Type} (k : Nat) (rec : Int → Option R) (x1 : Int) (K0 : Option R) : Option R :=
  cond (decide (x1 > 0)) (
    none) (
    K0)
noncomputable def plumblineref02_length_n0_l0 {R : Type} (k : Nat) : Nat → Int → (Option R) → Option R
  | 0, _, _ => none
  | n + 1, x1, K0 => plumblineref02_length_n0_l0B k (fun x1 => plumblineref02_length_n0_l0 k n x1 K0) x1 K0
noncomputable def cx86_2 {R : Type} (k : Nat) : Cx R := mkCx Ty exts [] fi86 [] []
theorem cx86_2_ok {R : Type} (k : Nat) : CxOk Try.prog (cx86_2 k : Cx R) := mkCx_ok (c := ((Try.f86).body.getD .skip)) ty_ok mixed exts_ok allSum_nil Try.func86 en86 (by kernel_rfl) (by kernel_rfl) allLoop_nil allCut_nil
noncomputable def L86_2G {R : Type} (plumblineref02_length_l0 : plumblineref02_length_l0Y R) (plumblineref02_length_n0_l0 : plumblineref02_length_n0_l0Y R) (k n : Nat) : LSum R := fun pin T H K => match pin, T, H with
  | 1, [(0, .sw 0), (3, .i .i64 x1)], ⟨1, [(0, some ⟨0, false, .row [.b] x2⟩)]⟩ => plumblineref02_length_l0 k n x1 x2 (fun q1 => K (.exit 0) [(3, .i .i64 q1)] ⟨1, [(0, some ⟨0, false, .row [.b] x2⟩)]⟩)
  | 0, [(0, .nsl), (3, .i .i64 x1)], ⟨0, []⟩ => plumblineref02_length_n0_l0 k n x1 (K (.exit 0) [(3, .i .i64 x1)] ⟨0, []⟩)
  | _, _, _ => none
noncomputable def L86_2 {R : Type} (k n : Nat) : LSum R := L86_2G plumblineref02_length_l0 plumblineref02_length_n0_l0 k n
theorem plumblineref02_length_l0_gen {R : Type} (plumblineref02_length_l0 : plumblineref02_length_l0Y R) (plumblineref02_length_n0_l0 : plumblineref02_length_n0_l0Y R) (k n : Nat) (x1 : Int) (x2 : List Bool) (K : Kont R) :
    (fun C => codeK C (run C 4)) (mkCx Ty exts [] fi86 [] []) 1 fi86 (loopAt ((Try.f86).body.getD .skip) 2) [(0, .sw 0), (3, .i .i64 x1)] ⟨1, [(0, some ⟨0, false, .row [.b] x2⟩)]⟩ (fun ex T H => match (generalizing := false) ex with
      | .normal => normAt (some [0, 3]) 1 T H (fun T H => L86_2G plumblineref02_length_l0 plumblineref02_length_n0_l0 k n 1 T H K)
      | ex => exitNorm fi86.ann 2 1 K ex T H) =
    plumblineref02_length_l0B k (fun x1 x2 => plumblineref02_length_l0 k n x1 x2 (fun q1 => K (.exit 0) [(3, .i .i64 q1)] ⟨1, [(0, some ⟨0, false, .row [.b] x2⟩)]⟩)) x1 x2 (fun q1 => K (.exit 0) [(3, .i .i64 q1)] ⟨1, [(0, some ⟨0, false, .row [.b] x2⟩)]⟩) := by kernel_rfl
theorem plumblineref02_length_n0_l0_gen {R : Type} (plumblineref02_length_l0 : plumblineref02_length_l0Y R) (plumblineref02_length_n0_l0 : plumblineref02_length_n0_l0Y R) (k n : Nat) (x1 : Int) (K : Kont R) :
    (fun C => codeK C (run C 4)) (mkCx Ty exts [] fi86 [] []) 0 fi86 (loopAt ((Try.f86).body.getD .skip) 2) [(0, .nsl), (3, .i .i64 x1)] ⟨0, []⟩ (fun ex T H => match (generalizing := false) ex with
      | .normal => normAt (some [0, 3]) 0 T H (fun T H => L86_2G plumblineref02_length_l0 plumblineref02_length_n0_l0 k n 0 T H K)
      | ex => exitNorm fi86.ann 2 0 K ex T H) =
    plumblineref02_length_n0_l0B k (fun x1 => plumblineref02_length_n0_l0 k n x1 (K (.exit 0) [(3, .i .i64 x1)] ⟨0, []⟩)) x1 (K (.exit 0) [(3, .i .i64 x1)] ⟨0, []⟩) := by kernel_rfl
theorem L86_2_cok {R : Type} (k : Nat) : CodeOk Try.prog (cx86_2 k : Cx R) fi86 (loopAt ((Try.f86).body.getD .skip) 2) := loopAt_ok (((cx86_2_ok k).fns 86 fi86 (by kernel_rfl)).2.2.2 ((Try.f86).body.getD .skip) (by kernel_rfl))
theorem L86_2_ok {R : Type} (k : Nat) : ∀ n, LoopOk Try.prog (Try.f86).ntmps (loopAt ((Try.f86).body.getD .skip) 2) (L86_2 k n : LSum R)
  | 0 => by
    intro pin T H K r h
    unfold L86_2 L86_2G at h
    split at h
    all_goals exact nomatch (show (none : Option R) = some r from h)
  | n + 1 => by
    intro pin T H K r h
    unfold L86_2 L86_2G at h
    split at h
    · obtain ⟨ex, T1, H1, h, hb⟩ := codeK_sound (cx86_2_ok k) (run_sound (cx86_2_ok k) 4) _ fi86 _ _ _ _ _ (L86_2_cok k) ((plumblineref02_length_l0_gen plumblineref02_length_l0 plumblineref02_length_n0_l0 k n _ _ K).trans h)
      exact loop_step (fun T H hh => L86_2_ok k n _ T H K r hh) hb h
    · obtain ⟨ex, T1, H1, h, hb⟩ := codeK_sound (cx86_2_ok k) (run_sound (cx86_2_ok k) 4) _ fi86 _ _ _ _ _ (L86_2_cok k) ((plumblineref02_length_n0_l0_gen plumblineref02_length_l0 plumblineref02_length_n0_l0 k n _ K).trans h)
      exact loop_step (fun T H hh => L86_2_ok k n _ T H K r hh) hb h
    · cases h
noncomputable def cx86 {R : Type} (k : Nat) : Cx R := mkCx Ty exts [] fi86 [(2, L86_2 k k)] []
theorem cx86_ok {R : Type} (k : Nat) : CxOk Try.prog (cx86 k : Cx R) := mkCx_ok (c := ((Try.f86).body.getD .skip)) ty_ok mixed exts_ok allSum_nil Try.func86 en86 (by kernel_rfl) (by kernel_rfl) (allLoop_loop (by kernel_rfl) (L86_2_ok k k) allLoop_nil) allCut_nil
@[reducible] def plumblineref02_lengthY (R : Type) : Type := Nat → (List Bool) → (Int → Option R) → Option R
noncomputable def plumblineref02_lengthT {R : Type} (plumblineref02_length_l0 : plumblineref02_length_l0Y R) (k : Nat) (a1 : List Bool) (K0 : Int → Option R) : Option R :=
  plumblineref02_length_l0 k k (((List.length a1) : Nat) : Int) a1 (fun r1 =>
    K0 r1)
noncomputable def plumblineref02_length {R : Type} (k : Nat) (a1 : List Bool) (K0 : Int → Option R) : Option R := plumblineref02_lengthT plumblineref02_length_l0 k a1 K0
theorem plumblineref02_length_gen {R : Type} (plumblineref02_length_l0 : plumblineref02_length_l0Y R) (plumblineref02_length_n0_l0 : plumblineref02_length_n0_l0Y R) (k : Nat) (a1 : List Bool) (K : AV → Heap → Option R) :
    fnK (mkCx Ty exts [] fi86 [(2, L86_2G plumblineref02_length_l0 plumblineref02_length_n0_l0 k k)] []) 6 86 [.sw 0] ⟨1, [(0, some ⟨0, false, .row [.b] a1⟩)]⟩ K = plumblineref02_lengthT plumblineref02_length_l0 k a1 (fun q1 => K (.i .i64 q1) ⟨1, [(0, some ⟨0, false, .row [.b] a1⟩)]⟩) := by kernel_rfl
@[reducible] def plumblineref02_length_n0Y (R : Type) : Type := Nat → (Int → Option R) → Option R
noncomputable def plumblineref02_length_n0T {R : Type} (plumblineref02_length_n0_l0 : plumblineref02_length_n0_l0Y R) (k : Nat) (K0 : Int → Option R) : Option R :=
  plumblineref02_length_n0_l0 k k 0 (
    K0 0)
noncomputable def plumblineref02_length_n0 {R : Type} (k : Nat) (K0 : Int → Option R) : Option R := plumblineref02_length_n0T plumblineref02_length_n0_l0 k K0
theorem plumblineref02_length_n0_gen {R : Type} (plumblineref02_length_l0 : plumblineref02_length_l0Y R) (plumblineref02_length_n0_l0 : plumblineref02_length_n0_l0Y R) (k : Nat) (K : AV → Heap → Option R) :
    fnK (mkCx Ty exts [] fi86 [(2, L86_2G plumblineref02_length_l0 plumblineref02_length_n0_l0 k k)] []) 6 86 [.nsl] ⟨0, []⟩ K = plumblineref02_length_n0T plumblineref02_length_n0_l0 k (fun q1 => K (.i .i64 q1) ⟨0, []⟩) := by kernel_rfl
noncomputable def S86G {R : Type} (plumblineref02_length : plumblineref02_lengthY R) (plumblineref02_length_n0 : plumblineref02_length_n0Y R) (k : Nat) : Sum R := fun args H K => match args, H with
  | [.sw 0], ⟨1, [(0, some ⟨0, false, .row [.b] a1⟩)]⟩ => plumblineref02_length k a1 (fun q1 => K (.i .i64 q1) ⟨1, [(0, some ⟨0, false, .row [.b] a1⟩)]⟩)
  | [.nsl], ⟨0, []⟩ => plumblineref02_length_n0 k (fun q1 => K (.i .i64 q1) ⟨0, []⟩)
  | _, _ => none
noncomputable def S86 {R : Type} (k : Nat) : Sum R := S86G plumblineref02_length plumblineref02_length_n0 k
theorem S86_ok0 {R : Type} (k : Nat) : SumOk Try.prog 86 false (S86 k : Sum R) := by
  intro args H K r h
  unfold S86 S86G at h
  split at h
  · exact fnK_sound (cx86_ok k) 6 86 _ _ K r ((plumblineref02_length_gen plumblineref02_length_l0 plumblineref02_length_n0_l0 k _ K).trans h)
  · exact fnK_sound (cx86_ok k) 6 86 _ _ K r ((plumblineref02_length_n0_gen plumblineref02_length_l0 plumblineref02_length_n0_l0 k K).trans h)
  · cases h
theorem S86_ok {R : Type} (k : Nat) : SumOk Try.prog 86 true (S86 k : Sum R) := by
  refine sumOk_keep (S86_ok0 k) ?_
  intro args H K r h
  unfold S86 S86G at h ⊢
  split at h
  · refine Eq.trans ?_ h
    show plumblineref02_length k _ _ = plumblineref02_length k _ _
    congr 1
    all_goals first | exact (funext fun q1 => if_pos (keeps_app _ _ _ [])) | skip
  · refine Eq.trans ?_ h
    show plumblineref02_length_n0 k _ = plumblineref02_length_n0 k _
    congr 1
    all_goals first | exact (funext fun q1 => if_pos (keeps_app _ _ _ [])) | skip
  · cases h
-- function 54: plumbline/plumblineref02.Inf
noncomputable def fi54 : FnI := ⟨54, Try.f54, []⟩
theorem en54 : Enters Try.prog 54 := enters_of Try.func54 (c := ((Try.f54).body.getD .skip)) (by kernel_rfl) (by kernel_rfl)
noncomputable def cx54 {R : Type} (k : Nat) : Cx R := mkCx Ty exts [(55, true, S55 k), (69, true, S69 k)] fi54 [] []
theorem cx54_ok {R : Type} (k : Nat) : CxOk Try.prog (cx54 k : Cx R) := mkCx_ok (c := ((Try.f54).body.getD .skip)) ty_ok mixed exts_ok (allSum_cons (S55_ok k) en55 (allSum_cons (S69_ok k) en69 allSum_nil)) Try.func54 en54 (by kernel_rfl) (by kernel_rfl) allLoop_nil allCut_nil
@[reducible] def plumblineref02_InfY (R : Type) : Type := Nat → Int → Bool → (Int → Option R) → Option R
noncomputable def plumblineref02_InfT {R : Type} (plumblineref02_Size : plumblineref02_SizeY R) (plumblineref02_sign : plumblineref02_signY R) (k : Nat) (a1 : Int) (a2 : Bool) (K0 : Int → Option R) : Option R :=
  plumblineref02_Size k a1 (fun r1 r2 r3 =>
    plumblineref02_sign k a1 a2 (fun r4 =>
      cond (decide (r2 < 0)) (
        none) (
        cond (decide (r1 < 0)) (
          none) (
          K0 (bOr .u64 r4 (shl .u64 (Wu64 ((shl .u64 1 r2) - 1)) r1))))))
noncomputable def plumblineref02_Inf {R : Type} (k : Nat) (a1 : Int) (a2 : Bool) (K0 : Int → Option R) : Option R := plumblineref02_InfT plumblineref02_Size plumblineref02_sign k a1 a2 K0
theorem plumblineref02_Inf_gen {R : Type} (plumblineref02_sign : plumblineref02_signY R) (plumblineref02_Size : plumblineref02_SizeY R) (k : Nat) (a1 : Int) (a2 : Bool) (K : AV → Heap → Option R) :
    fnK (mkCx Ty exts [(55, true, S55G plumblineref02_sign k), (69, true, S69G plumblineref02_Size k)] fi54 [] []) 6 54 [.i .i64 a1, .b a2] ⟨0, []⟩ K = plumblineref02_InfT plumblineref02_Size plumblineref02_sign k a1 a2 (fun q1 => K (.i .u64 q1) ⟨0, []⟩) := by kernel_rfl
noncomputable def S54G {R : Type} (plumblineref02_Inf : plumblineref02_InfY R) (k : Nat) : Sum R := fun args H K => match args, H with
  | [.i .i64 a1, .b a2], ⟨0, []⟩ => plumblineref02_Inf k a1 a2 (fun q1 => K (.i .u64 q1) ⟨0, []⟩)
  | _, _ => none
noncomputable def S54 {R : Type} (k : Nat) : Sum R := S54G plumblineref02_Inf k
theorem S54_ok0 {R : Type} (k : Nat) : SumOk Try.prog 54 false (S54 k : Sum R) := by
  intro args H K r h
  unfold S54 S54G at h
  split at h
  · exact fnK_sound (cx54_ok k) 6 54 _ _ K r ((plumblineref02_Inf_gen plumblineref02_sign plumblineref02_Size k _ _ K).trans h)
  · cases h
theorem S54_ok {R : Type} (k : Nat) : SumOk Try.prog 54 true (S54 k : Sum R) := by
  refine sumOk_keep (S54_ok0 k) ?_
  intro args H K r h
  unfold S54 S54G at h ⊢
  split at h
  · refine Eq.trans ?_ h
    show plumblineref02_Inf k _ _ _ = plumblineref02_Inf k _ _ _
    congr 1
    all_goals first | exact (funext fun q1 => if_pos (keeps_app _ _ _ [])) | skip
  · cases h
-- function 59: plumbline/plumblineref02.Rounded
noncomputable def fi59 : FnI := ⟨59, Try.f59, [(100010, [0, 1, 2, 3, 4, 11, 12, 13, 14, 15, 16, 17]), (100018, [0, 1, 2, 3, 4, 11, 12, 13, 14, 15, 16, 18, 19, 20]), (600008, [0, 1, 2, 3, 4, 11, 12, 13, 14, 15]), (600022, [0, 1, 2, 3, 4, 11, 12, 13, 14, 15, 16, 18, 19, 20]), (600032, [0, 1, 2, 11, 12, 13, 15, 16, 21]), (600034, [0, 1, 2, 11, 12, 13, 15, 16]), (600037, [0, 1, 2, 11, 12, 13, 15, 16]), (600040, [0, 1, 2, 11, 12, 16, 22]), (2500008, [10]), (2500032, [10]), (2500034, [10]), (2500037, [10]), (2500040, [10]), (3010000, [0, 1, 2, 3, 4, 11, 12, 13, 14, 15, 16]), (3018002, [0, 1, 2, 11, 12, 13, 15, 16, 18, 19]), (5500022, [0, 1, 2, 3, 4, 11, 12, 13, 14, 15, 16, 18, 19, 20])]⟩
theorem en59 : Enters Try.prog 59 := enters_of Try.func59 (c := ((Try.f59).body.getD .skip)) (by kernel_rfl) (by kernel_rfl)
@[reducible] def plumblineref02_Rounded_l0Y (R : Type) : Type := Nat → Nat → Int → Int → Bool → Int → Int → Int → Int → Int → Int → Int → Int → (List Bool) → (Int → Option R) → Option R
noncomputable def plumblineref02_Rounded_l0B {R : Type} (k : Nat) (rec : Int → Int → Bool → Int → Int → Int → Int → Int → Int → Int → Int → (List Bool) → Option R) (x1 : Int) (x2 : Int) (x3 : Bool) (x4 : Int) (x5 : Int) (x6 : Int) (x7 : Int) (x8 : Int) (x9 : Int) (x10 : Int) (x11 : Int) (x12 : List Bool) (K0 : Int → Option R) : Option R :=
  cond (decide (x11 ≥ 0)) (
    cond (decide ((Wi64 (x4 + x11)) ≥ x9)) (
      cond (decide ((Wi64 ((Wi64 (x4 + x11)) - x9)) < 0)) (
        none) (
        cond (decide (0 ≤ x11)) (
          cond (decide (x11 < (((List.length x12) : Nat) : Int))) (
            Option.bind (x12[(Int.toNat x11)]?) fun yye1 =>
            cond (!yye1) (
              cond (decide ((Wi64 (x4 + x11)) ≥ x9)) (
                cond (decide ((Wi64 ((Wi64 (x4 + x11)) - x9)) < 0)) (
                  none) (
                  rec x1 x2 x3 x4 x5 x6 x7 x8 x9 (bAndNot .u64 (bOr .u64 x10 (shl .u64 1 (Wi64 ((Wi64 (x4 + x11)) - x9)))) (shl .u64 1 (Wi64 ((Wi64 (x4 + x11)) - x9)))) (Wi64 (x11 - 1)) x12)) (
                rec x1 x2 x3 x4 x5 x6 x7 x8 x9 (bOr .u64 x10 (shl .u64 1 (Wi64 ((Wi64 (x4 + x11)) - x9)))) (Wi64 (x11 - 1)) x12)) (
              rec x1 x2 x3 x4 x5 x6 x7 x8 x9 (bOr .u64 x10 (shl .u64 1 (Wi64 ((Wi64 (x4 + x11)) - x9)))) (Wi64 (x11 - 1)) x12)) (
            none)) (
          none))) (
      cond (decide (0 ≤ x11)) (
        cond (decide (x11 < (((List.length x12) : Nat) : Int))) (
          Option.bind (x12[(Int.toNat x11)]?) fun yye2 =>
          cond (!yye2) (
            cond (decide ((Wi64 (x4 + x11)) ≥ x9)) (
              cond (decide ((Wi64 ((Wi64 (x4 + x11)) - x9)) < 0)) (
                none) (
                rec x1 x2 x3 x4 x5 x6 x7 x8 x9 (bAndNot .u64 x10 (shl .u64 1 (Wi64 ((Wi64 (x4 + x11)) - x9)))) (Wi64 (x11 - 1)) x12)) (
              rec x1 x2 x3 x4 x5 x6 x7 x8 x9 x10 (Wi64 (x11 - 1)) x12)) (
            rec x1 x2 x3 x4 x5 x6 x7 x8 x9 x10 (Wi64 (x11 - 1)) x12)) (
          none)) (
        none))) (
    K0 x10)
noncomputable def plumblineref02_Rounded_l0 {R : Type} (k : Nat) : Nat → Int → Int → Bool → Int → Int → Int → Int → Int → Int → Int → Int → (List Bool) → (Int → Option R) → Option R
  | 0, _, _, _, _, _, _, _, _, _, _, _, _, _ => none
  | n + 1, x1, x2, x3, x4, x5, x6, x7, x8, x9, x10, x11, x12, K0 => plumblineref02_Rounded_l0B k (fun x1 x2 x3 x4 x5 x6 x7 x8 x9 x10 x11 x12 => plumblineref02_Rounded_l0 k n x1 x2 x3 x4 x5 x6 x7 x8 x9 x10 x11 x12 K0) x1 x2 x3 x4 x5 x6 x7 x8 x9 x10 x11 x12 K0
@[reducible] def plumblineref02_Rounded_n3_l0Y (R : Type) : Type := Nat → Nat → Int → Int → Bool → Int → Int → Int → Int → Int → Int → Int → Int → (Option R) → Option R
noncomputable def plumblineref02_Rounded_n3_l0B {R : Type} (k : Nat) (rec : Int → Int → Bool → Int → Int → Int → Int → Int → Int → Int → Int → Option R) (x1 : Int) (x2 : Int) (x3 : Bool) (x4 : Int) (x5 : Int) (x6 : Int) (x7 : Int) (x8 : Int) (x9 : Int) (x10 : Int) (x11 : Int) (K0 : Option R) : Option R :=
  cond (decide (x11 ≥ 0)) (
    cond (decide ((Wi64 (x4 + x11)) ≥ x9)) (
      cond (decide ((Wi64 ((Wi64 (x4 + x11)) - x9)) < 0)) (
        none) (
        none)) (
      none)) (
    K0)
noncomputable def plumblineref02_Rounded_n3_l0 {R : Type} (k : Nat) : Nat → Int → Int → Bool → Int → Int → Int → Int → Int → Int → Int → Int → (Option R) → Option R
  | 0, _, _, _, _, _, _, _, _, _, _, _, _ => none
  | n + 1, x1, x2, x3, x4, x5, x6, x7, x8, x9, x10, x11, K0 => plumblineref02_Rounded_n3_l0B k (fun x1 x2 x3 x4 x5 x6 x7 x8 x9 x10 x11 => plumblineref02_Rounded_n3_l0 k n x1 x2 x3 x4 x5 x6 x7 x8 x9 x10 x11 K0) x1 x2 x3 x4 x5 x6 x7 x8 x9 x10 x11 K0
noncomputable def cx59_10 {R : Type} (k : Nat) : Cx R := mkCx Ty exts [(35, true, S35 k), (54, true, S54 k), (55, true, S55 k), (69, true, S69 k), (86, true, S86 k)] fi59 [] []
theorem cx59_10_ok {R : Type} (k : Nat) : CxOk Try.prog (cx59_10 k : Cx R) := mkCx_ok (c := ((Try.f59).body.getD .skip)) ty_ok mixed exts_ok (allSum_cons (S35_ok k) en35 (allSum_cons (S54_ok k) en54 (allSum_cons (S55_ok k) en55 (allSum_cons (S69_ok k) en69 (allSum_cons (S86_ok k) en86 allSum_nil))))) Try.func59 en59 (by kernel_rfl) (by kernel_rfl) allLoop_nil allCut_nil
noncomputable def L59_10G {R : Type} (plumblineref02_Rounded_l0 : plumblineref02_Rounded_l0Y R) (plumblineref02_Rounded_n3_l0 : plumblineref02_Rounded_n3_l0Y R) (k n : Nat) : LSum R := fun pin T H K => match pin, T, H with
  | 1, [(0, .i .i64 x1), (1, .i .i64 x2), (2, .b x3), (3, .sw 0), (4, .i .i64 x4), (11, .i .i64 x5), (12, .i .i64 x6), (13, .i .i64 x7), (14, .i .i64 x8), (15, .i .i64 x9), (16, .i .u64 x10), (17, .i .i64 x11)], ⟨1, [(0, some ⟨0, false, .row [.b] x12⟩)]⟩ => plumblineref02_Rounded_l0 k n x1 x2 x3 x4 x5 x6 x7 x8 x9 x10 x11 x12 (fun q10 => K (.exit 0) [(0, .i .i64 x1), (1, .i .i64 x2), (2, .b x3), (3, .sw 0), (4, .i .i64 x4), (11, .i .i64 x5), (12, .i .i64 x6), (13, .i .i64 x7), (14, .i .i64 x8), (15, .i .i64 x9), (16, .i .u64 q10)] ⟨1, [(0, some ⟨0, false, .row [.b] x12⟩)]⟩)
  | 0, [(0, .i .i64 x1), (1, .i .i64 x2), (2, .b x3), (3, .nsl), (4, .i .i64 x4), (11, .i .i64 x5), (12, .i .i64 x6), (13, .i .i64 x7), (14, .i .i64 x8), (15, .i .i64 x9), (16, .i .u64 x10), (17, .i .i64 x11)], ⟨0, []⟩ => plumblineref02_Rounded_n3_l0 k n x1 x2 x3 x4 x5 x6 x7 x8 x9 x10 x11 (K (.exit 0) [(0, .i .i64 x1), (1, .i .i64 x2), (2, .b x3), (3, .nsl), (4, .i .i64 x4), (11, .i .i64 x5), (12, .i .i64 x6), (13, .i .i64 x7), (14, .i .i64 x8), (15, .i .i64 x9), (16, .i .u64 x10)] ⟨0, []⟩)
  | _, _, _ => none
noncomputable def L59_10 {R : Type} (k n : Nat) : LSum R := L59_10G plumblineref02_Rounded_l0 plumblineref02_Rounded_n3_l0 k n
theorem plumblineref02_Rounded_l0_gen {R : Type} (plumblineref02_Most : plumblineref02_MostY R) (plumblineref02_Inf : plumblineref02_InfY R) (plumblineref02_sign : plumblineref02_signY R) (plumblineref02_Size : plumblineref02_SizeY R) (plumblineref02_length : plumblineref02_lengthY R) (plumblineref02_length_n0 : plumblineref02_length_n0Y R) (plumblineref02_Rounded_l0 : plumblineref02_Rounded_l0Y R) (plumblineref02_Rounded_n3_l0 : plumblineref02_Rounded_n3_l0Y R) (k n : Nat) (x1 : Int) (x2 : Int) (x3 : Bool) (x4 : Int) (x5 : Int) (x6 : Int) (x7 : Int) (x8 : Int) (x9 : Int) (x10 : Int) (x11 : Int) (x12 : List Bool) (K : Kont R) :
    (fun C => codeK C (run C 4)) (mkCx Ty exts [(35, true, S35G plumblineref02_Most k), (54, true, S54G plumblineref02_Inf k), (55, true, S55G plumblineref02_sign k), (69, true, S69G plumblineref02_Size k), (86, true, S86G plumblineref02_length plumblineref02_length_n0 k)] fi59 [] []) 1 fi59 (loopAt ((Try.f59).body.getD .skip) 10) [(0, .i .i64 x1), (1, .i .i64 x2), (2, .b x3), (3, .sw 0), (4, .i .i64 x4), (11, .i .i64 x5), (12, .i .i64 x6), (13, .i .i64 x7), (14, .i .i64 x8), (15, .i .i64 x9), (16, .i .u64 x10), (17, .i .i64 x11)] ⟨1, [(0, some ⟨0, false, .row [.b] x12⟩)]⟩ (fun ex T H => match (generalizing := false) ex with
      | .normal => normAt (some [0, 1, 2, 3, 4, 11, 12, 13, 14, 15, 16, 17]) 1 T H (fun T H => L59_10G plumblineref02_Rounded_l0 plumblineref02_Rounded_n3_l0 k n 1 T H K)
      | ex => exitNorm fi59.ann 10 1 K ex T H) =
    plumblineref02_Rounded_l0B k (fun x1 x2 x3 x4 x5 x6 x7 x8 x9 x10 x11 x12 => plumblineref02_Rounded_l0 k n x1 x2 x3 x4 x5 x6 x7 x8 x9 x10 x11 x12 (fun q10 => K (.exit 0) [(0, .i .i64 x1), (1, .i .i64 x2), (2, .b x3), (3, .sw 0), (4, .i .i64 x4), (11, .i .i64 x5), (12, .i .i64 x6), (13, .i .i64 x7), (14, .i .i64 x8), (15, .i .i64 x9), (16, .i .u64 q10)] ⟨1, [(0, some ⟨0, false, .row [.b] x12⟩)]⟩)) x1 x2 x3 x4 x5 x6 x7 x8 x9 x10 x11 x12 (fun q10 => K (.exit 0) [(0, .i .i64 x1), (1, .i .i64 x2), (2, .b x3), (3, .sw 0), (4, .i .i64 x4), (11, .i .i64 x5), (12, .i .i64 x6), (13, .i .i64 x7), (14, .i .i64 x8), (15, .i .i64 x9), (16, .i .u64 q10)] ⟨1, [(0, some ⟨0, false, .row [.b] x12⟩)]⟩) := by kernel_rfl
theorem plumblineref02_Rounded_n3_l0_gen {R : Type} (plumblineref02_Most : plumblineref02_MostY R) (plumblineref02_Inf : plumblineref02_InfY R) (plumblineref02_sign : plumblineref02_signY R) (plumblineref02_Size : plumblineref02_SizeY R) (plumblineref02_length : plumblineref02_lengthY R) (plumblineref02_length_n0 : plumblineref02_length_n0Y R) (plumblineref02_Rounded_l0 : plumblineref02_Rounded_l0Y R) (plumblineref02_Rounded_n3_l0 : plumblineref02_Rounded_n3_l0Y R) (k n : Nat) (x1 : Int) (x2 : Int) (x3 : Bool) (x4 : Int) (x5 : Int) (x6 : Int) (x7 : Int) (x8 : Int) (x9 : Int) (x10 : Int) (x11 : Int) (K : Kont R) :
    (fun C => codeK C (run C 4)) (mkCx Ty exts [(35, true, S35G plumblineref02_Most k), (54, true, S54G plumblineref02_Inf k), (55, true, S55G plumblineref02_sign k), (69, true, S69G plumblineref02_Size k), (86, true, S86G plumblineref02_length plumblineref02_length_n0 k)] fi59 [] []) 0 fi59 (loopAt ((Try.f59).body.getD .skip) 10) [(0, .i .i64 x1), (1, .i .i64 x2), (2, .b x3), (3, .nsl), (4, .i .i64 x4), (11, .i .i64 x5), (12, .i .i64 x6), (13, .i .i64 x7), (14, .i .i64 x8), (15, .i .i64 x9), (16, .i .u64 x10), (17, .i .i64 x11)] ⟨0, []⟩ (fun ex T H => match (generalizing := false) ex with
      | .normal => normAt (some [0, 1, 2, 3, 4, 11, 12, 13, 14, 15, 16, 17]) 0 T H (fun T H => L59_10G plumblineref02_Rounded_l0 plumblineref02_Rounded_n3_l0 k n 0 T H K)
      | ex => exitNorm fi59.ann 10 0 K ex T H) =
    plumblineref02_Rounded_n3_l0B k (fun x1 x2 x3 x4 x5 x6 x7 x8 x9 x10 x11 => plumblineref02_Rounded_n3_l0 k n x1 x2 x3 x4 x5 x6 x7 x8 x9 x10 x11 (K (.exit 0) [(0, .i .i64 x1), (1, .i .i64 x2), (2, .b x3), (3, .nsl), (4, .i .i64 x4), (11, .i .i64 x5), (12, .i .i64 x6), (13, .i .i64 x7), (14, .i .i64 x8), (15, .i .i64 x9), (16, .i .u64 x10)] ⟨0, []⟩)) x1 x2 x3 x4 x5 x6 x7 x8 x9 x10 x11 (K (.exit 0) [(0, .i .i64 x1), (1, .i .i64 x2), (2, .b x3), (3, .nsl), (4, .i .i64 x4), (11, .i .i64 x5), (12, .i .i64 x6), (13, .i .i64 x7), (14, .i .i64 x8), (15, .i .i64 x9), (16, .i .u64 x10)] ⟨0, []⟩) := by kernel_rfl
theorem L59_10_cok {R : Type} (k : Nat) : CodeOk Try.prog (cx59_10 k : Cx R) fi59 (loopAt ((Try.f59).body.getD .skip) 10) := loopAt_ok (((cx59_10_ok k).fns 59 fi59 (by kernel_rfl)).2.2.2 ((Try.f59).body.getD .skip) (by kernel_rfl))
theorem L59_10_ok {R : Type} (k : Nat) : ∀ n, LoopOk Try.prog (Try.f59).ntmps (loopAt ((Try.f59).body.getD .skip) 10) (L59_10 k n : LSum R)
  | 0 => by
    intro pin T H K r h
    unfold L59_10 L59_10G at h
    split at h
    all_goals exact nomatch (show (none : Option R) = some r from h)
  | n + 1 => by
    intro pin T H K r h
    unfold L59_10 L59_10G at h
    split at h
    · obtain ⟨ex, T1, H1, h, hb⟩ := codeK_sound (cx59_10_ok k) (run_sound (cx59_10_ok k) 4) _ fi59 _ _ _ _ _ (L59_10_cok k) ((plumblineref02_Rounded_l0_gen plumblineref02_Most plumblineref02_Inf plumblineref02_sign plumblineref02_Size plumblineref02_length plumblineref02_length_n0 plumblineref02_Rounded_l0 plumblineref02_Rounded_n3_l0 k n _ _ _ _ _ _ _ _ _ _ _ _ K).trans h)
      exact loop_step (fun T H hh => L59_10_ok k n _ T H K r hh) hb h
    · obtain ⟨ex, T1, H1, h, hb⟩ := codeK_sound (cx59_10_ok k) (run_sound (cx59_10_ok k) 4) _ fi59 _ _ _ _ _ (L59_10_cok k) ((plumblineref02_Rounded_n3_l0_gen plumblineref02_Most plumblineref02_Inf plumblineref02_sign plumblineref02_Size plumblineref02_length plumblineref02_length_n0 plumblineref02_Rounded_l0 plumblineref02_Rounded_n3_l0 k n _ _ _ _ _ _ _ _ _ _ _ K).trans h)
      exact loop_step (fun T H hh => L59_10_ok k n _ T H K r hh) hb h
    · cases h
@[reducible] def plumblineref02_Rounded_c1Y (R : Type) : Type := Nat → Int → Int → Bool → Int → Int → Int → Int → Int → Int → Int → Bool → Bool → Int → (List Bool) → (Bool → Option R) → Option R
noncomputable def plumblineref02_Rounded_c1T {R : Type} (k : Nat) (x1 : Int) (x2 : Int) (x3 : Bool) (x4 : Int) (x5 : Int) (x6 : Int) (x7 : Int) (x8 : Int) (x9 : Int) (x10 : Int) (x11 : Bool) (x12 : Bool) (x13 : Int) (x14 : List Bool) (K0 : Bool → Option R) : Option R :=
  cond (decide (0 ≤ x13)) (
    cond (decide (x13 < (((List.length x14) : Nat) : Int))) (
      Option.bind (x14[(Int.toNat x13)]?) fun yyye1 =>
      cond yyye1 (
        cond (decide ((Wi64 (x4 + x13)) < (Wi64 (x9 - 1)))) (
          K0 true) (
          K0 x12)) (
        K0 x12)) (
      none)) (
    none)
noncomputable def plumblineref02_Rounded_c1 {R : Type} (k : Nat) (x1 : Int) (x2 : Int) (x3 : Bool) (x4 : Int) (x5 : Int) (x6 : Int) (x7 : Int) (x8 : Int) (x9 : Int) (x10 : Int) (x11 : Bool) (x12 : Bool) (x13 : Int) (x14 : List Bool) (K0 : Bool → Option R) : Option R := plumblineref02_Rounded_c1T k x1 x2 x3 x4 x5 x6 x7 x8 x9 x10 x11 x12 x13 x14 K0
noncomputable def cc59_22 {R : Type} (k : Nat) : Cx R := mkCx Ty exts [(35, true, S35 k), (54, true, S54 k), (55, true, S55 k), (69, true, S69 k), (86, true, S86 k)] fi59 [(10, L59_10 k k)] []
theorem cc59_22_ok {R : Type} (k : Nat) : CxOk Try.prog (cc59_22 k : Cx R) := mkCx_ok (c := ((Try.f59).body.getD .skip)) ty_ok mixed exts_ok (allSum_cons (S35_ok k) en35 (allSum_cons (S54_ok k) en54 (allSum_cons (S55_ok k) en55 (allSum_cons (S69_ok k) en69 (allSum_cons (S86_ok k) en86 allSum_nil))))) Try.func59 en59 (by kernel_rfl) (by kernel_rfl) (allLoop_loop (by kernel_rfl) (L59_10_ok k k) allLoop_nil) allCut_nil
noncomputable def C59_22G {R : Type} (plumblineref02_Rounded_c1 : plumblineref02_Rounded_c1Y R) (k : Nat) : LSum R := fun pin T H K => match pin, T, H with
  | 1, [(0, .i .i64 x1), (1, .i .i64 x2), (2, .b x3), (3, .sw 0), (4, .i .i64 x4), (11, .i .i64 x5), (12, .i .i64 x6), (13, .i .i64 x7), (14, .i .i64 x8), (15, .i .i64 x9), (16, .i .u64 x10), (18, .b x11), (19, .b x12), (20, .i .i64 x13)], ⟨1, [(0, some ⟨0, false, .row [.b] x14⟩)]⟩ => plumblineref02_Rounded_c1 k x1 x2 x3 x4 x5 x6 x7 x8 x9 x10 x11 x12 x13 x14 (fun q12 => K .normal [(0, .i .i64 x1), (1, .i .i64 x2), (2, .b x3), (3, .sw 0), (4, .i .i64 x4), (11, .i .i64 x5), (12, .i .i64 x6), (13, .i .i64 x7), (14, .i .i64 x8), (15, .i .i64 x9), (16, .i .u64 x10), (18, .b x11), (19, .b q12), (20, .i .i64 x13)] ⟨1, [(0, some ⟨0, false, .row [.b] x14⟩)]⟩)
  | _, _, _ => none
noncomputable def C59_22 {R : Type} (k : Nat) : LSum R := C59_22G plumblineref02_Rounded_c1 k
theorem plumblineref02_Rounded_c1_gen {R : Type} (plumblineref02_Most : plumblineref02_MostY R) (plumblineref02_Inf : plumblineref02_InfY R) (plumblineref02_sign : plumblineref02_signY R) (plumblineref02_Size : plumblineref02_SizeY R) (plumblineref02_length : plumblineref02_lengthY R) (plumblineref02_length_n0 : plumblineref02_length_n0Y R) (plumblineref02_Rounded_l0 : plumblineref02_Rounded_l0Y R) (plumblineref02_Rounded_n3_l0 : plumblineref02_Rounded_n3_l0Y R) (k : Nat) (x1 : Int) (x2 : Int) (x3 : Bool) (x4 : Int) (x5 : Int) (x6 : Int) (x7 : Int) (x8 : Int) (x9 : Int) (x10 : Int) (x11 : Bool) (x12 : Bool) (x13 : Int) (x14 : List Bool) (K : Kont R) :
    (fun C => codeK C (run C 4)) (mkCx Ty exts [(35, true, S35G plumblineref02_Most k), (54, true, S54G plumblineref02_Inf k), (55, true, S55G plumblineref02_sign k), (69, true, S69G plumblineref02_Size k), (86, true, S86G plumblineref02_length plumblineref02_length_n0 k)] fi59 [(10, L59_10G plumblineref02_Rounded_l0 plumblineref02_Rounded_n3_l0 k k)] []) 1 fi59 (cutAt ((Try.f59).body.getD .skip) 22) [(0, .i .i64 x1), (1, .i .i64 x2), (2, .b x3), (3, .sw 0), (4, .i .i64 x4), (11, .i .i64 x5), (12, .i .i64 x6), (13, .i .i64 x7), (14, .i .i64 x8), (15, .i .i64 x9), (16, .i .u64 x10), (18, .b x11), (19, .b x12), (20, .i .i64 x13)] ⟨1, [(0, some ⟨0, false, .row [.b] x14⟩)]⟩ (exitNorm fi59.ann 500022 1 K) = plumblineref02_Rounded_c1T k x1 x2 x3 x4 x5 x6 x7 x8 x9 x10 x11 x12 x13 x14 (fun q12 => K .normal [(0, .i .i64 x1), (1, .i .i64 x2), (2, .b x3), (3, .sw 0), (4, .i .i64 x4), (11, .i .i64 x5), (12, .i .i64 x6), (13, .i .i64 x7), (14, .i .i64 x8), (15, .i .i64 x9), (16, .i .u64 x10), (18, .b x11), (19, .b q12), (20, .i .i64 x13)] ⟨1, [(0, some ⟨0, false, .row [.b] x14⟩)]⟩) := by kernel_rfl
theorem C59_22_cok {R : Type} (k : Nat) : CodeOk Try.prog (cc59_22 k : Cx R) fi59 (cutAt ((Try.f59).body.getD .skip) 22) := cutAt_ok (((cc59_22_ok k).fns 59 fi59 (by kernel_rfl)).2.2.2 ((Try.f59).body.getD .skip) (by kernel_rfl))
theorem C59_22_ok {R : Type} (k : Nat) : CutOk Try.prog (Try.f59).ntmps (cutAt ((Try.f59).body.getD .skip) 22) (C59_22 k : LSum R) := by
  intro pin T H K r h
  unfold C59_22 C59_22G at h
  split at h
  · obtain ⟨ex, T1, H1, h, hb⟩ := codeK_sound (cc59_22_ok k) (run_sound (cc59_22_ok k) 4) _ fi59 _ _ _ _ _ (C59_22_cok k) ((plumblineref02_Rounded_c1_gen plumblineref02_Most plumblineref02_Inf plumblineref02_sign plumblineref02_Size plumblineref02_length plumblineref02_length_n0 plumblineref02_Rounded_l0 plumblineref02_Rounded_n3_l0 k _ _ _ _ _ _ _ _ _ _ _ _ _ _ K).trans h)
    exact cut_step hb h
  · cases h
@[reducible] def plumblineref02_Rounded_l2Y (R : Type) : Type := Nat → Nat → Int → Int → Bool → Int → Int → Int → Int → Int → Int → Int → Bool → Bool → Int → (List Bool) → (Bool → Bool → Option R) → Option R
noncomputable def plumblineref02_Rounded_l2B {R : Type} (plumblineref02_Rounded_c1 : plumblineref02_Rounded_c1Y R) (k : Nat) (rec : Int → Int → Bool → Int → Int → Int → Int → Int → Int → Int → Bool → Bool → Int → (List Bool) → Option R) (x1 : Int) (x2 : Int) (x3 : Bool) (x4 : Int) (x5 : Int) (x6 : Int) (x7 : Int) (x8 : Int) (x9 : Int) (x10 : Int) (x11 : Bool) (x12 : Bool) (x13 : Int) (x14 : List Bool) (K0 : Bool → Bool → Option R) : Option R :=
  cond (decide (x13 < x8)) (
    cond (decide (0 ≤ x13)) (
      cond (decide (x13 < (((List.length x14) : Nat) : Int))) (
        Option.bind (x14[(Int.toNat x13)]?) fun yye1 =>
        cond yye1 (
          cond ((Wi64 (x4 + x13)) == (Wi64 (x9 - 1))) (
            plumblineref02_Rounded_c1 k x1 x2 x3 x4 x5 x6 x7 x8 x9 x10 true x12 x13 x14 (fun yyr2 =>
              rec x1 x2 x3 x4 x5 x6 x7 x8 x9 x10 true yyr2 (Wi64 (x13 + 1)) x14)) (
            plumblineref02_Rounded_c1 k x1 x2 x3 x4 x5 x6 x7 x8 x9 x10 x11 x12 x13 x14 (fun yyr3 =>
              rec x1 x2 x3 x4 x5 x6 x7 x8 x9 x10 x11 yyr3 (Wi64 (x13 + 1)) x14))) (
          plumblineref02_Rounded_c1 k x1 x2 x3 x4 x5 x6 x7 x8 x9 x10 x11 x12 x13 x14 (fun yyr4 =>
            rec x1 x2 x3 x4 x5 x6 x7 x8 x9 x10 x11 yyr4 (Wi64 (x13 + 1)) x14))) (
        none)) (
      none)) (
    K0 x11 x12)
noncomputable def plumblineref02_Rounded_l2 {R : Type} (k : Nat) : Nat → Int → Int → Bool → Int → Int → Int → Int → Int → Int → Int → Bool → Bool → Int → (List Bool) → (Bool → Bool → Option R) → Option R
  | 0, _, _, _, _, _, _, _, _, _, _, _, _, _, _, _ => none
  | n + 1, x1, x2, x3, x4, x5, x6, x7, x8, x9, x10, x11, x12, x13, x14, K0 => plumblineref02_Rounded_l2B plumblineref02_Rounded_c1 k (fun x1 x2 x3 x4 x5 x6 x7 x8 x9 x10 x11 x12 x13 x14 => plumblineref02_Rounded_l2 k n x1 x2 x3 x4 x5 x6 x7 x8 x9 x10 x11 x12 x13 x14 K0) x1 x2 x3 x4 x5 x6 x7 x8 x9 x10 x11 x12 x13 x14 K0
@[reducible] def plumblineref02_Rounded_n3_l1Y (R : Type) : Type := Nat → Nat → Int → Int → Bool → Int → Int → Int → Int → Int → Int → Int → Bool → Bool → Int → (Option R) → Option R
noncomputable def plumblineref02_Rounded_n3_l1B {R : Type} (k : Nat) (rec : Int → Int → Bool → Int → Int → Int → Int → Int → Int → Int → Bool → Bool → Int → Option R) (x1 : Int) (x2 : Int) (x3 : Bool) (x4 : Int) (x5 : Int) (x6 : Int) (x7 : Int) (x8 : Int) (x9 : Int) (x10 : Int) (x11 : Bool) (x12 : Bool) (x13 : Int) (K0 : Option R) : Option R :=
  cond (decide (x13 < x8)) (
    none) (
    K0)
noncomputable def plumblineref02_Rounded_n3_l1 {R : Type} (k : Nat) : Nat → Int → Int → Bool → Int → Int → Int → Int → Int → Int → Int → Bool → Bool → Int → (Option R) → Option R
  | 0, _, _, _, _, _, _, _, _, _, _, _, _, _, _ => none
  | n + 1, x1, x2, x3, x4, x5, x6, x7, x8, x9, x10, x11, x12, x13, K0 => plumblineref02_Rounded_n3_l1B k (fun x1 x2 x3 x4 x5 x6 x7 x8 x9 x10 x11 x12 x13 => plumblineref02_Rounded_n3_l1 k n x1 x2 x3 x4 x5 x6 x7 x8 x9 x10 x11 x12 x13 K0) x1 x2 x3 x4 x5 x6 x7 x8 x9 x10 x11 x12 x13 K0
noncomputable def cx59_18 {R : Type} (k : Nat) : Cx R := mkCx Ty exts [(35, true, S35 k), (54, true, S54 k), (55, true, S55 k), (69, true, S69 k), (86, true, S86 k)] fi59 [(10, L59_10 k k)] [(22, C59_22 k)]
theorem cx59_18_ok {R : Type} (k : Nat) : CxOk Try.prog (cx59_18 k : Cx R) := mkCx_ok (c := ((Try.f59).body.getD .skip)) ty_ok mixed exts_ok (allSum_cons (S35_ok k) en35 (allSum_cons (S54_ok k) en54 (allSum_cons (S55_ok k) en55 (allSum_cons (S69_ok k) en69 (allSum_cons (S86_ok k) en86 allSum_nil))))) Try.func59 en59 (by kernel_rfl) (by kernel_rfl) (allLoop_loop (by kernel_rfl) (L59_10_ok k k) allLoop_nil) (allCut_cons (C59_22_ok k) (by kernel_rfl) allCut_nil)
noncomputable def L59_18G {R : Type} (plumblineref02_Rounded_l2 : plumblineref02_Rounded_l2Y R) (plumblineref02_Rounded_n3_l1 : plumblineref02_Rounded_n3_l1Y R) (k n : Nat) : LSum R := fun pin T H K => match pin, T, H with
  | 1, [(0, .i .i64 x1), (1, .i .i64 x2), (2, .b x3), (3, .sw 0), (4, .i .i64 x4), (11, .i .i64 x5), (12, .i .i64 x6), (13, .i .i64 x7), (14, .i .i64 x8), (15, .i .i64 x9), (16, .i .u64 x10), (18, .b x11), (19, .b x12), (20, .i .i64 x13)], ⟨1, [(0, some ⟨0, false, .row [.b] x14⟩)]⟩ => plumblineref02_Rounded_l2 k n x1 x2 x3 x4 x5 x6 x7 x8 x9 x10 x11 x12 x13 x14 (fun q9 q10 => K (.exit 2) [(0, .i .i64 x1), (1, .i .i64 x2), (2, .b x3), (11, .i .i64 x5), (12, .i .i64 x6), (13, .i .i64 x7), (15, .i .i64 x9), (16, .i .u64 x10), (18, .b q9), (19, .b q10)] ⟨1, [(0, some ⟨0, false, .row [.b] x14⟩)]⟩)
  | 0, [(0, .i .i64 x1), (1, .i .i64 x2), (2, .b x3), (3, .nsl), (4, .i .i64 x4), (11, .i .i64 x5), (12, .i .i64 x6), (13, .i .i64 x7), (14, .i .i64 x8), (15, .i .i64 x9), (16, .i .u64 x10), (18, .b x11), (19, .b x12), (20, .i .i64 x13)], ⟨0, []⟩ => plumblineref02_Rounded_n3_l1 k n x1 x2 x3 x4 x5 x6 x7 x8 x9 x10 x11 x12 x13 (K (.exit 2) [(0, .i .i64 x1), (1, .i .i64 x2), (2, .b x3), (11, .i .i64 x5), (12, .i .i64 x6), (13, .i .i64 x7), (15, .i .i64 x9), (16, .i .u64 x10), (18, .b x11), (19, .b x12)] ⟨0, []⟩)
  | _, _, _ => none
noncomputable def L59_18 {R : Type} (k n : Nat) : LSum R := L59_18G plumblineref02_Rounded_l2 plumblineref02_Rounded_n3_l1 k n
theorem plumblineref02_Rounded_l2_gen {R : Type} (plumblineref02_Most : plumblineref02_MostY R) (plumblineref02_Inf : plumblineref02_InfY R) (plumblineref02_sign : plumblineref02_signY R) (plumblineref02_Size : plumblineref02_SizeY R) (plumblineref02_length : plumblineref02_lengthY R) (plumblineref02_length_n0 : plumblineref02_length_n0Y R) (plumblineref02_Rounded_l0 : plumblineref02_Rounded_l0Y R) (plumblineref02_Rounded_n3_l0 : plumblineref02_Rounded_n3_l0Y R) (plumblineref02_Rounded_c1 : plumblineref02_Rounded_c1Y R) (plumblineref02_Rounded_l2 : plumblineref02_Rounded_l2Y R) (plumblineref02_Rounded_n3_l1 : plumblineref02_Rounded_n3_l1Y R) (k n : Nat) (x1 : Int) (x2 : Int) (x3 : Bool) (x4 : Int) (x5 : Int) (x6 : Int) (x7 : Int) (x8 : Int) (x9 : Int) (x10 : Int) (x11 : Bool) (x12 : Bool) (x13 : Int) (x14 : List Bool) (K : Kont R) :
    (fun C => codeK C (run C 4)) (mkCx Ty exts [(35, true, S35G plumblineref02_Most k), (54, true, S54G plumblineref02_Inf k), (55, true, S55G plumblineref02_sign k), (69, true, S69G plumblineref02_Size k), (86, true, S86G plumblineref02_length plumblineref02_length_n0 k)] fi59 [(10, L59_10G plumblineref02_Rounded_l0 plumblineref02_Rounded_n3_l0 k k)] [(22, C59_22G plumblineref02_Rounded_c1 k)]) 1 fi59 (loopAt ((Try.f59).body.getD .skip) 18) [(0, .i .i64 x1), (1, .i .i64 x2), (2, .b x3), (3, .sw 0), (4, .i .i64 x4), (11, .i .i64 x5), (12, .i .i64 x6), (13, .i .i64 x7), (14, .i .i64 x8), (15, .i .i64 x9), (16, .i .u64 x10), (18, .b x11), (19, .b x12), (20, .i .i64 x13)] ⟨1, [(0, some ⟨0, false, .row [.b] x14⟩)]⟩ (fun ex T H => match (generalizing := false) ex with
      | .normal => normAt (some [0, 1, 2, 3, 4, 11, 12, 13, 14, 15, 16, 18, 19, 20]) 1 T H (fun T H => L59_18G plumblineref02_Rounded_l2 plumblineref02_Rounded_n3_l1 k n 1 T H K)
      | ex => exitNorm fi59.ann 18 1 K ex T H) =
    plumblineref02_Rounded_l2B plumblineref02_Rounded_c1 k (fun x1 x2 x3 x4 x5 x6 x7 x8 x9 x10 x11 x12 x13 x14 => plumblineref02_Rounded_l2 k n x1 x2 x3 x4 x5 x6 x7 x8 x9 x10 x11 x12 x13 x14 (fun q9 q10 => K (.exit 2) [(0, .i .i64 x1), (1, .i .i64 x2), (2, .b x3), (11, .i .i64 x5), (12, .i .i64 x6), (13, .i .i64 x7), (15, .i .i64 x9), (16, .i .u64 x10), (18, .b q9), (19, .b q10)] ⟨1, [(0, some ⟨0, false, .row [.b] x14⟩)]⟩)) x1 x2 x3 x4 x5 x6 x7 x8 x9 x10 x11 x12 x13 x14 (fun q9 q10 => K (.exit 2) [(0, .i .i64 x1), (1, .i .i64 x2), (2, .b x3), (11, .i .i64 x5), (12, .i .i64 x6), (13, .i .i64 x7), (15, .i .i64 x9), (16, .i .u64 x10), (18, .b q9), (19, .b q10)] ⟨1, [(0, some ⟨0, false, .row [.b] x14⟩)]⟩) := by kernel_rfl
theorem plumblineref02_Rounded_n3_l1_gen {R : Type} (plumblineref02_Most : plumblineref02_MostY R) (plumblineref02_Inf : plumblineref02_InfY R) (plumblineref02_sign : plumblineref02_signY R) (plumblineref02_Size : plumblineref02_SizeY R) (plumblineref02_length : plumblineref02_lengthY R) (plumblineref02_length_n0 : plumblineref02_length_n0Y R) (plumblineref02_Rounded_l0 : plumblineref02_Rounded_l0Y R) (plumblineref02_Rounded_n3_l0 : plumblineref02_Rounded_n3_l0Y R) (plumblineref02_Rounded_c1 : plumblineref02_Rounded_c1Y R) (plumblineref02_Rounded_l2 : plumblineref02_Rounded_l2Y R) (plumblineref02_Rounded_n3_l1 : plumblineref02_Rounded_n3_l1Y R) (k n : Nat) (x1 : Int) (x2 : Int) (x3 : Bool) (x4 : Int) (x5 : Int) (x6 : Int) (x7 : Int) (x8 : Int) (x9 : Int) (x10 : Int) (x11 : Bool) (x12 : Bool) (x13 : Int) (K : Kont R) :
    (fun C => codeK C (run C 4)) (mkCx Ty exts [(35, true, S35G plumblineref02_Most k), (54, true, S54G plumblineref02_Inf k), (55, true, S55G plumblineref02_sign k), (69, true, S69G plumblineref02_Size k), (86, true, S86G plumblineref02_length plumblineref02_length_n0 k)] fi59 [(10, L59_10G plumblineref02_Rounded_l0 plumblineref02_Rounded_n3_l0 k k)] [(22, C59_22G plumblineref02_Rounded_c1 k)]) 0 fi59 (loopAt ((Try.f59).body.getD .skip) 18) [(0, .i .i64 x1), (1, .i .i64 x2), (2, .b x3), (3, .nsl), (4, .i .i64 x4), (11, .i .i64 x5), (12, .i .i64 x6), (13, .i .i64 x7), (14, .i .i64 x8), (15, .i .i64 x9), (16, .i .u64 x10), (18, .b x11), (19, .b x12), (20, .i .i64 x13)] ⟨0, []⟩ (fun ex T H => match (generalizing := false) ex with
      | .normal => normAt (some [0, 1, 2, 3, 4, 11, 12, 13, 14, 15, 16, 18, 19, 20]) 0 T H (fun T H => L59_18G plumblineref02_Rounded_l2 plumblineref02_Rounded_n3_l1 k n 0 T H K)
      | ex => exitNorm fi59.ann 18 0 K ex T H) =
    plumblineref02_Rounded_n3_l1B k (fun x1 x2 x3 x4 x5 x6 x7 x8 x9 x10 x11 x12 x13 => plumblineref02_Rounded_n3_l1 k n x1 x2 x3 x4 x5 x6 x7 x8 x9 x10 x11 x12 x13 (K (.exit 2) [(0, .i .i64 x1), (1, .i .i64 x2), (2, .b x3), (11, .i .i64 x5), (12, .i .i64 x6), (13, .i .i64 x7), (15, .i .i64 x9), (16, .i .u64 x10), (18, .b x11), (19, .b x12)] ⟨0, []⟩)) x1 x2 x3 x4 x5 x6 x7 x8 x9 x10 x11 x12 x13 (K (.exit 2) [(0, .i .i64 x1), (1, .i .i64 x2), (2, .b x3), (11, .i .i64 x5), (12, .i .i64 x6), (13, .i .i64 x7), (15, .i .i64 x9), (16, .i .u64 x10), (18, .b x11), (19, .b x12)] ⟨0, []⟩) := by kernel_rfl
theorem L59_18_cok {R : Type} (k : Nat) : CodeOk Try.prog (cx59_18 k : Cx R) fi59 (loopAt ((Try.f59).body.getD .skip) 18) := loopAt_ok (((cx59_18_ok k).fns 59 fi59 (by kernel_rfl)).2.2.2 ((Try.f59).body.getD .skip) (by kernel_rfl))
theorem L59_18_ok {R : Type} (k : Nat) : ∀ n, LoopOk Try.prog (Try.f59).ntmps (loopAt ((Try.f59).body.getD .skip) 18) (L59_18 k n : LSum R)
  | 0 => by
    intro pin T H K r h
    unfold L59_18 L59_18G at h
    split at h
    all_goals exact nomatch (show (none : Option R) = some r from h)
  | n + 1 => by
    intro pin T H K r h
    unfold L59_18 L59_18G at h
    split at h
    · obtain ⟨ex, T1, H1, h, hb⟩ := codeK_sound (cx59_18_ok k) (run_sound (cx59_18_ok k) 4) _ fi59 _ _ _ _ _ (L59_18_cok k) ((plumblineref02_Rounded_l2_gen plumblineref02_Most plumblineref02_Inf plumblineref02_sign plumblineref02_Size plumblineref02_length plumblineref02_length_n0 plumblineref02_Rounded_l0 plumblineref02_Rounded_n3_l0 plumblineref02_Rounded_c1 plumblineref02_Rounded_l2 plumblineref02_Rounded_n3_l1 k n _ _ _ _ _ _ _ _ _ _ _ _ _ _ K).trans h)
      exact loop_step (fun T H hh => L59_18_ok k n _ T H K r hh) hb h
    · obtain ⟨ex, T1, H1, h, hb⟩ := codeK_sound (cx59_18_ok k) (run_sound (cx59_18_ok k) 4) _ fi59 _ _ _ _ _ (L59_18_cok k) ((plumblineref02_Rounded_n3_l1_gen plumblineref02_Most plumblineref02_Inf plumblineref02_sign plumblineref02_Size plumblineref02_length plumblineref02_length_n0 plumblineref02_Rounded_l0 plumblineref02_Rounded_n3_l0 plumblineref02_Rounded_c1 plumblineref02_Rounded_l2 plumblineref02_Rounded_n3_l1 k n _ _ _ _ _ _ _ _ _ _ _ _ _ K).trans h)
      exact loop_step (fun T H hh => L59_18_ok k n _ T H K r hh) hb h
    · cases h
@[reducible] def plumblineref02_Rounded_c3Y (R : Type) : Type := Nat → Int → Int → Bool → Int → Int → Int → Int → (List Bool) → (Int → Option R) → Option R
noncomputable def plumblineref02_Rounded_c3T {R : Type} (plumblineref02_Inf : plumblineref02_InfY R) (plumblineref02_Most : plumblineref02_MostY R) (plumblineref02_sign : plumblineref02_signY R) (k : Nat) (x1 : Int) (x2 : Int) (x3 : Bool) (x4 : Int) (x5 : Int) (x6 : Int) (x7 : Int) (x8 : List Bool) (K0 : Int → Option R) : Option R :=
  cond (decide (x5 < 0)) (
    none) (
    cond (decide (x7 ≥ (Wu64 ((shl .u64 1 x5) - 1)))) (
      cond (x2 == 3) (
        plumblineref02_sign k x1 x3 (fun yyyyyr1 =>
          plumblineref02_Most k x1 (fun yyyyyr2 =>
            K0 (bOr .u64 yyyyyr1 yyyyyr2)))) (
        cond (x2 == 1) (
          cond x3 (
            plumblineref02_sign k x1 x3 (fun yyyyyr3 =>
              plumblineref02_Most k x1 (fun yyyyyr4 =>
                K0 (bOr .u64 yyyyyr3 yyyyyr4)))) (
            cond (x2 == 2) (
              cond (!x3) (
                plumblineref02_sign k x1 x3 (fun yyyyyr5 =>
                  plumblineref02_Most k x1 (fun yyyyyr6 =>
                    K0 (bOr .u64 yyyyyr5 yyyyyr6)))) (
                plumblineref02_Inf k x1 x3 (fun yyyyyr7 =>
                  K0 yyyyyr7))) (
              plumblineref02_Inf k x1 x3 (fun yyyyyr8 =>
                K0 yyyyyr8)))) (
          cond (x2 == 2) (
            cond (!x3) (
              plumblineref02_sign k x1 x3 (fun yyyyyr9 =>
                plumblineref02_Most k x1 (fun yyyyyr10 =>
                  K0 (bOr .u64 yyyyyr9 yyyyyr10)))) (
              plumblineref02_Inf k x1 x3 (fun yyyyyr11 =>
                K0 yyyyyr11))) (
            plumblineref02_Inf k x1 x3 (fun yyyyyr12 =>
              K0 yyyyyr12))))) (
      plumblineref02_sign k x1 x3 (fun yyyyyr13 =>
        cond (decide (x4 < 0)) (
          none) (
          cond (decide (x4 < 0)) (
            none) (
            K0 (bOr .u64 (bOr .u64 yyyyyr13 (shl .u64 x7 x4)) (bAnd .u64 x6 (Wu64 ((shl .u64 1 x4) - 1)))))))))
noncomputable def plumblineref02_Rounded_c3 {R : Type} (k : Nat) (x1 : Int) (x2 : Int) (x3 : Bool) (x4 : Int) (x5 : Int) (x6 : Int) (x7 : Int) (x8 : List Bool) (K0 : Int → Option R) : Option R := plumblineref02_Rounded_c3T plumblineref02_Inf plumblineref02_Most plumblineref02_sign k x1 x2 x3 x4 x5 x6 x7 x8 K0
@[reducible] def plumblineref02_Rounded_n3_c2Y (R : Type) : Type := Nat → Int → Int → Bool → Int → Int → Int → Int → (Int → Option R) → Option R
noncomputable def plumblineref02_Rounded_n3_c2T {R : Type} (plumblineref02_Inf : plumblineref02_InfY R) (plumblineref02_Most : plumblineref02_MostY R) (plumblineref02_sign : plumblineref02_signY R) (k : Nat) (x1 : Int) (x2 : Int) (x3 : Bool) (x4 : Int) (x5 : Int) (x6 : Int) (x7 : Int) (K0 : Int → Option R) : Option R :=
  cond (decide (x5 < 0)) (
    none) (
    cond (decide (x7 ≥ (Wu64 ((shl .u64 1 x5) - 1)))) (
      cond (x2 == 3) (
        plumblineref02_sign k x1 x3 (fun yyyyyr1 =>
          plumblineref02_Most k x1 (fun yyyyyr2 =>
            K0 (bOr .u64 yyyyyr1 yyyyyr2)))) (
        cond (x2 == 1) (
          cond x3 (
            plumblineref02_sign k x1 x3 (fun yyyyyr3 =>
              plumblineref02_Most k x1 (fun yyyyyr4 =>
                K0 (bOr .u64 yyyyyr3 yyyyyr4)))) (
            cond (x2 == 2) (
              cond (!x3) (
                plumblineref02_sign k x1 x3 (fun yyyyyr5 =>
                  plumblineref02_Most k x1 (fun yyyyyr6 =>
                    K0 (bOr .u64 yyyyyr5 yyyyyr6)))) (
                plumblineref02_Inf k x1 x3 (fun yyyyyr7 =>
                  K0 yyyyyr7))) (
              plumblineref02_Inf k x1 x3 (fun yyyyyr8 =>
                K0 yyyyyr8)))) (
          cond (x2 == 2) (
            cond (!x3) (
              plumblineref02_sign k x1 x3 (fun yyyyyr9 =>
                plumblineref02_Most k x1 (fun yyyyyr10 =>
                  K0 (bOr .u64 yyyyyr9 yyyyyr10)))) (
              plumblineref02_Inf k x1 x3 (fun yyyyyr11 =>
                K0 yyyyyr11))) (
            plumblineref02_Inf k x1 x3 (fun yyyyyr12 =>
              K0 yyyyyr12))))) (
      plumblineref02_sign k x1 x3 (fun yyyyyr13 =>
        cond (decide (x4 < 0)) (
          none) (
          cond (decide (x4 < 0)) (
            none) (
            K0 (bOr .u64 (bOr .u64 yyyyyr13 (shl .u64 x7 x4)) (bAnd .u64 x6 (Wu64 ((shl .u64 1 x4) - 1)))))))))
noncomputable def plumblineref02_Rounded_n3_c2 {R : Type} (k : Nat) (x1 : Int) (x2 : Int) (x3 : Bool) (x4 : Int) (x5 : Int) (x6 : Int) (x7 : Int) (K0 : Int → Option R) : Option R := plumblineref02_Rounded_n3_c2T plumblineref02_Inf plumblineref02_Most plumblineref02_sign k x1 x2 x3 x4 x5 x6 x7 K0
noncomputable def cc59_40 {R : Type} (k : Nat) : Cx R := mkCx Ty exts [(35, true, S35 k), (54, true, S54 k), (55, true, S55 k), (69, true, S69 k), (86, true, S86 k)] fi59 [(10, L59_10 k k), (18, L59_18 k k)] [(22, C59_22 k)]
theorem cc59_40_ok {R : Type} (k : Nat) : CxOk Try.prog (cc59_40 k : Cx R) := mkCx_ok (c := ((Try.f59).body.getD .skip)) ty_ok mixed exts_ok (allSum_cons (S35_ok k) en35 (allSum_cons (S54_ok k) en54 (allSum_cons (S55_ok k) en55 (allSum_cons (S69_ok k) en69 (allSum_cons (S86_ok k) en86 allSum_nil))))) Try.func59 en59 (by kernel_rfl) (by kernel_rfl) (allLoop_loop (by kernel_rfl) (L59_10_ok k k) (allLoop_loop (by kernel_rfl) (L59_18_ok k k) allLoop_nil)) (allCut_cons (C59_22_ok k) (by kernel_rfl) allCut_nil)
noncomputable def C59_40G {R : Type} (plumblineref02_Rounded_c3 : plumblineref02_Rounded_c3Y R) (plumblineref02_Rounded_n3_c2 : plumblineref02_Rounded_n3_c2Y R) (k : Nat) : LSum R := fun pin T H K => match pin, T, H with
  | 1, [(0, .i .i64 x1), (1, .i .i64 x2), (2, .b x3), (11, .i .i64 x4), (12, .i .i64 x5), (16, .i .u64 x6), (22, .i .u64 x7)], ⟨1, [(0, some ⟨0, false, .row [.b] x8⟩)]⟩ => plumblineref02_Rounded_c3 k x1 x2 x3 x4 x5 x6 x7 x8 (fun q1 => K .ret [(10, .i .u64 q1)] ⟨1, [(0, some ⟨0, false, .row [.b] x8⟩)]⟩)
  | 0, [(0, .i .i64 x1), (1, .i .i64 x2), (2, .b x3), (11, .i .i64 x4), (12, .i .i64 x5), (16, .i .u64 x6), (22, .i .u64 x7)], ⟨0, []⟩ => plumblineref02_Rounded_n3_c2 k x1 x2 x3 x4 x5 x6 x7 (fun q1 => K .ret [(10, .i .u64 q1)] ⟨0, []⟩)
  | _, _, _ => none
noncomputable def C59_40 {R : Type} (k : Nat) : LSum R := C59_40G plumblineref02_Rounded_c3 plumblineref02_Rounded_n3_c2 k
theorem plumblineref02_Rounded_c3_gen {R : Type} (plumblineref02_Most : plumblineref02_MostY R) (plumblineref02_Inf : plumblineref02_InfY R) (plumblineref02_sign : plumblineref02_signY R) (plumblineref02_Size : plumblineref02_SizeY R) (plumblineref02_length : plumblineref02_lengthY R) (plumblineref02_length_n0 : plumblineref02_length_n0Y R) (plumblineref02_Rounded_l0 : plumblineref02_Rounded_l0Y R) (plumblineref02_Rounded_n3_l0 : plumblineref02_Rounded_n3_l0Y R) (plumblineref02_Rounded_c1 : plumblineref02_Rounded_c1Y R) (plumblineref02_Rounded_l2 : plumblineref02_Rounded_l2Y R) (plumblineref02_Rounded_n3_l1 : plumblineref02_Rounded_n3_l1Y R) (k : Nat) (x1 : Int) (x2 : Int) (x3 : Bool) (x4 : Int) (x5 : Int) (x6 : Int) (x7 : Int) (x8 : List Bool) (K : Kont R) :
    (fun C => codeK C (run C 4)) (mkCx Ty exts [(35, true, S35G plumblineref02_Most k), (54, true, S54G plumblineref02_Inf k), (55, true, S55G plumblineref02_sign k), (69, true, S69G plumblineref02_Size k), (86, true, S86G plumblineref02_length plumblineref02_length_n0 k)] fi59 [(10, L59_10G plumblineref02_Rounded_l0 plumblineref02_Rounded_n3_l0 k k), (18, L59_18G plumblineref02_Rounded_l2 plumblineref02_Rounded_n3_l1 k k)] [(22, C59_22G plumblineref02_Rounded_c1 k)]) 1 fi59 (cutAt ((Try.f59).body.getD .skip) 40) [(0, .i .i64 x1), (1, .i .i64 x2), (2, .b x3), (11, .i .i64 x4), (12, .i .i64 x5), (16, .i .u64 x6), (22, .i .u64 x7)] ⟨1, [(0, some ⟨0, false, .row [.b] x8⟩)]⟩ (exitNorm fi59.ann 500040 1 K) = plumblineref02_Rounded_c3T plumblineref02_Inf plumblineref02_Most plumblineref02_sign k x1 x2 x3 x4 x5 x6 x7 x8 (fun q1 => K .ret [(10, .i .u64 q1)] ⟨1, [(0, some ⟨0, false, .row [.b] x8⟩)]⟩) := by kernel_rfl
theorem plumblineref02_Rounded_n3_c2_gen {R : Type} (plumblineref02_Most : plumblineref02_MostY R) (plumblineref02_Inf : plumblineref02_InfY R) (plumblineref02_sign : plumblineref02_signY R) (plumblineref02_Size : plumblineref02_SizeY R) (plumblineref02_length : plumblineref02_lengthY R) (plumblineref02_length_n0 : plumblineref02_length_n0Y R) (plumblineref02_Rounded_l0 : plumblineref02_Rounded_l0Y R) (plumblineref02_Rounded_n3_l0 : plumblineref02_Rounded_n3_l0Y R) (plumblineref02_Rounded_c1 : plumblineref02_Rounded_c1Y R) (plumblineref02_Rounded_l2 : plumblineref02_Rounded_l2Y R) (plumblineref02_Rounded_n3_l1 : plumblineref02_Rounded_n3_l1Y R) (k : Nat) (x1 : Int) (x2 : Int) (x3 : Bool) (x4 : Int) (x5 : Int) (x6 : Int) (x7 : Int) (K : Kont R) :
    (fun C => codeK C (run C 4)) (mkCx Ty exts [(35, true, S35G plumblineref02_Most k), (54, true, S54G plumblineref02_Inf k), (55, true, S55G plumblineref02_sign k), (69, true, S69G plumblineref02_Size k), (86, true, S86G plumblineref02_length plumblineref02_length_n0 k)] fi59 [(10, L59_10G plumblineref02_Rounded_l0 plumblineref02_Rounded_n3_l0 k k), (18, L59_18G plumblineref02_Rounded_l2 plumblineref02_Rounded_n3_l1 k k)] [(22, C59_22G plumblineref02_Rounded_c1 k)]) 0 fi59 (cutAt ((Try.f59).body.getD .skip) 40) [(0, .i .i64 x1), (1, .i .i64 x2), (2, .b x3), (11, .i .i64 x4), (12, .i .i64 x5), (16, .i .u64 x6), (22, .i .u64 x7)] ⟨0, []⟩ (exitNorm fi59.ann 500040 0 K) = plumblineref02_Rounded_n3_c2T plumblineref02_Inf plumblineref02_Most plumblineref02_sign k x1 x2 x3 x4 x5 x6 x7 (fun q1 => K .ret [(10, .i .u64 q1)] ⟨0, []⟩) := by kernel_rfl
theorem C59_40_cok {R : Type} (k : Nat) : CodeOk Try.prog (cc59_40 k : Cx R) fi59 (cutAt ((Try.f59).body.getD .skip) 40) := cutAt_ok (((cc59_40_ok k).fns 59 fi59 (by kernel_rfl)).2.2.2 ((Try.f59).body.getD .skip) (by kernel_rfl))
theorem C59_40_ok {R : Type} (k : Nat) : CutOk Try.prog (Try.f59).ntmps (cutAt ((Try.f59).body.getD .skip) 40) (C59_40 k : LSum R) := by
  intro pin T H K r h
  unfold C59_40 C59_40G at h
  split at h
  · obtain ⟨ex, T1, H1, h, hb⟩ := codeK_sound (cc59_40_ok k) (run_sound (cc59_40_ok k) 4) _ fi59 _ _ _ _ _ (C59_40_cok k) ((plumblineref02_Rounded_c3_gen plumblineref02_Most plumblineref02_Inf plumblineref02_sign plumblineref02_Size plumblineref02_length plumblineref02_length_n0 plumblineref02_Rounded_l0 plumblineref02_Rounded_n3_l0 plumblineref02_Rounded_c1 plumblineref02_Rounded_l2 plumblineref02_Rounded_n3_l1 k _ _ _ _ _ _ _ _ K).trans h)
    exact cut_step hb h
  · obtain ⟨ex, T1, H1, h, hb⟩ := codeK_sound (cc59_40_ok k) (run_sound (cc59_40_ok k) 4) _ fi59 _ _ _ _ _ (C59_40_cok k) ((plumblineref02_Rounded_n3_c2_gen plumblineref02_Most plumblineref02_Inf plumblineref02_sign plumblineref02_Size plumblineref02_length plumblineref02_length_n0 plumblineref02_Rounded_l0 plumblineref02_Rounded_n3_l0 plumblineref02_Rounded_c1 plumblineref02_Rounded_l2 plumblineref02_Rounded_n3_l1 k _ _ _ _ _ _ _ K).trans h)
    exact cut_step hb h
  · cases h
@[reducible] def plumblineref02_Rounded_c4Y (R : Type) : Type := Nat → Int → Int → Bool → Int → Int → Int → Int → Int → (List Bool) → (Int → Option R) → Option R
noncomputable def plumblineref02_Rounded_c4T {R : Type} (plumblineref02_Rounded_c3 : plumblineref02_Rounded_c3Y R) (k : Nat) (x1 : Int) (x2 : Int) (x3 : Bool) (x4 : Int) (x5 : Int) (x6 : Int) (x7 : Int) (x8 : Int) (x9 : List Bool) (K0 : Int → Option R) : Option R :=
  cond (decide (x4 < 0)) (
    none) (
    cond (decide (x8 < (shl .u64 1 x4))) (
      plumblineref02_Rounded_c3 k x1 x2 x3 x4 x5 x8 0 x9 (fun yyyyr1 =>
        K0 yyyyr1)) (
      plumblineref02_Rounded_c3 k x1 x2 x3 x4 x5 x8 (Wu64 (Wi64 ((Wi64 (x7 - x6)) + 1))) x9 (fun yyyyr2 =>
        K0 yyyyr2)))
noncomputable def plumblineref02_Rounded_c4 {R : Type} (k : Nat) (x1 : Int) (x2 : Int) (x3 : Bool) (x4 : Int) (x5 : Int) (x6 : Int) (x7 : Int) (x8 : Int) (x9 : List Bool) (K0 : Int → Option R) : Option R := plumblineref02_Rounded_c4T plumblineref02_Rounded_c3 k x1 x2 x3 x4 x5 x6 x7 x8 x9 K0
@[reducible] def plumblineref02_Rounded_n3_c3Y (R : Type) : Type := Nat → Int → Int → Bool → Int → Int → Int → Int → Int → (Int → Option R) → Option R
noncomputable def plumblineref02_Rounded_n3_c3T {R : Type} (plumblineref02_Rounded_n3_c2 : plumblineref02_Rounded_n3_c2Y R) (k : Nat) (x1 : Int) (x2 : Int) (x3 : Bool) (x4 : Int) (x5 : Int) (x6 : Int) (x7 : Int) (x8 : Int) (K0 : Int → Option R) : Option R :=
  cond (decide (x4 < 0)) (
    none) (
    cond (decide (x8 < (shl .u64 1 x4))) (
      plumblineref02_Rounded_n3_c2 k x1 x2 x3 x4 x5 x8 0 (fun yyyyr1 =>
        K0 yyyyr1)) (
      plumblineref02_Rounded_n3_c2 k x1 x2 x3 x4 x5 x8 (Wu64 (Wi64 ((Wi64 (x7 - x6)) + 1))) (fun yyyyr2 =>
        K0 yyyyr2)))
noncomputable def plumblineref02_Rounded_n3_c3 {R : Type} (k : Nat) (x1 : Int) (x2 : Int) (x3 : Bool) (x4 : Int) (x5 : Int) (x6 : Int) (x7 : Int) (x8 : Int) (K0 : Int → Option R) : Option R := plumblineref02_Rounded_n3_c3T plumblineref02_Rounded_n3_c2 k x1 x2 x3 x4 x5 x6 x7 x8 K0
noncomputable def cc59_37 {R : Type} (k : Nat) : Cx R := mkCx Ty exts [(35, true, S35 k), (54, true, S54 k), (55, true, S55 k), (69, true, S69 k), (86, true, S86 k)] fi59 [(10, L59_10 k k), (18, L59_18 k k)] [(22, C59_22 k), (40, C59_40 k)]
theorem cc59_37_ok {R : Type} (k : Nat) : CxOk Try.prog (cc59_37 k : Cx R) := mkCx_ok (c := ((Try.f59).body.getD .skip)) ty_ok mixed exts_ok (allSum_cons (S35_ok k) en35 (allSum_cons (S54_ok k) en54 (allSum_cons (S55_ok k) en55 (allSum_cons (S69_ok k) en69 (allSum_cons (S86_ok k) en86 allSum_nil))))) Try.func59 en59 (by kernel_rfl) (by kernel_rfl) (allLoop_loop (by kernel_rfl) (L59_10_ok k k) (allLoop_loop (by kernel_rfl) (L59_18_ok k k) allLoop_nil)) (allCut_cons (C59_22_ok k) (by kernel_rfl) (allCut_cons (C59_40_ok k) (by kernel_rfl) allCut_nil))
noncomputable def C59_37G {R : Type} (plumblineref02_Rounded_c4 : plumblineref02_Rounded_c4Y R) (plumblineref02_Rounded_n3_c3 : plumblineref02_Rounded_n3_c3Y R) (k : Nat) : LSum R := fun pin T H K => match pin, T, H with
  | 1, [(0, .i .i64 x1), (1, .i .i64 x2), (2, .b x3), (11, .i .i64 x4), (12, .i .i64 x5), (13, .i .i64 x6), (15, .i .i64 x7), (16, .i .u64 x8)], ⟨1, [(0, some ⟨0, false, .row [.b] x9⟩)]⟩ => plumblineref02_Rounded_c4 k x1 x2 x3 x4 x5 x6 x7 x8 x9 (fun q1 => K .ret [(10, .i .u64 q1)] ⟨1, [(0, some ⟨0, false, .row [.b] x9⟩)]⟩)
  | 0, [(0, .i .i64 x1), (1, .i .i64 x2), (2, .b x3), (11, .i .i64 x4), (12, .i .i64 x5), (13, .i .i64 x6), (15, .i .i64 x7), (16, .i .u64 x8)], ⟨0, []⟩ => plumblineref02_Rounded_n3_c3 k x1 x2 x3 x4 x5 x6 x7 x8 (fun q1 => K .ret [(10, .i .u64 q1)] ⟨0, []⟩)
  | _, _, _ => none
noncomputable def C59_37 {R : Type} (k : Nat) : LSum R := C59_37G plumblineref02_Rounded_c4 plumblineref02_Rounded_n3_c3 k
theorem plumblineref02_Rounded_c4_gen {R : Type} (plumblineref02_Most : plumblineref02_MostY R) (plumblineref02_Inf : plumblineref02_InfY R) (plumblineref02_sign : plumblineref02_signY R) (plumblineref02_Size : plumblineref02_SizeY R) (plumblineref02_length : plumblineref02_lengthY R) (plumblineref02_length_n0 : plumblineref02_length_n0Y R) (plumblineref02_Rounded_l0 : plumblineref02_Rounded_l0Y R) (plumblineref02_Rounded_n3_l0 : plumblineref02_Rounded_n3_l0Y R) (plumblineref02_Rounded_c1 : plumblineref02_Rounded_c1Y R) (plumblineref02_Rounded_l2 : plumblineref02_Rounded_l2Y R) (plumblineref02_Rounded_n3_l1 : plumblineref02_Rounded_n3_l1Y R) (plumblineref02_Rounded_c3 : plumblineref02_Rounded_c3Y R) (plumblineref02_Rounded_n3_c2 : plumblineref02_Rounded_n3_c2Y R) (k : Nat) (x1 : Int) (x2 : Int) (x3 : Bool) (x4 : Int) (x5 : Int) (x6 : Int) (x7 : Int) (x8 : Int) (x9 : List Bool) (K : Kont R) :
    (fun C => codeK C (run C 4)) (mkCx Ty exts [(35, true, S35G plumblineref02_Most k), (54, true, S54G plumblineref02_Inf k), (55, true, S55G plumblineref02_sign k), (69, true, S69G plumblineref02_Size k), (86, true, S86G plumblineref02_length plumblineref02_length_n0 k)] fi59 [(10, L59_10G plumblineref02_Rounded_l0 plumblineref02_Rounded_n3_l0 k k), (18, L59_18G plumblineref02_Rounded_l2 plumblineref02_Rounded_n3_l1 k k)] [(22, C59_22G plumblineref02_Rounded_c1 k), (40, C59_40G plumblineref02_Rounded_c3 plumblineref02_Rounded_n3_c2 k)]) 1 fi59 (cutAt ((Try.f59).body.getD .skip) 37) [(0, .i .i64 x1), (1, .i .i64 x2), (2, .b x3), (11, .i .i64 x4), (12, .i .i64 x5), (13, .i .i64 x6), (15, .i .i64 x7), (16, .i .u64 x8)] ⟨1, [(0, some ⟨0, false, .row [.b] x9⟩)]⟩ (exitNorm fi59.ann 500037 1 K) = plumblineref02_Rounded_c4T plumblineref02_Rounded_c3 k x1 x2 x3 x4 x5 x6 x7 x8 x9 (fun q1 => K .ret [(10, .i .u64 q1)] ⟨1, [(0, some ⟨0, false, .row [.b] x9⟩)]⟩) := by kernel_rfl
theorem plumblineref02_Rounded_n3_c3_gen {R : Type} (plumblineref02_Most : plumblineref02_MostY R) (plumblineref02_Inf : plumblineref02_InfY R) (plumblineref02_sign : plumblineref02_signY R) (plumblineref02_Size : plumblineref02_SizeY R) (plumblineref02_length : plumblineref02_lengthY R) (plumblineref02_length_n0 : plumblineref02_length_n0Y R) (plumblineref02_Rounded_l0 : plumblineref02_Rounded_l0Y R) (plumblineref02_Rounded_n3_l0 : plumblineref02_Rounded_n3_l0Y R) (plumblineref02_Rounded_c1 : plumblineref02_Rounded_c1Y R) (plumblineref02_Rounded_l2 : plumblineref02_Rounded_l2Y R) (plumblineref02_Rounded_n3_l1 : plumblineref02_Rounded_n3_l1Y R) (plumblineref02_Rounded_c3 : plumblineref02_Rounded_c3Y R) (plumblineref02_Rounded_n3_c2 : plumblineref02_Rounded_n3_c2Y R) (k : Nat) (x1 : Int) (x2 : Int) (x3 : Bool) (x4 : Int) (x5 : Int) (x6 : Int) (x7 : Int) (x8 : Int) (K : Kont R) :
    (fun C => codeK C (run C 4)) (mkCx Ty exts [(35, true, S35G plumblineref02_Most k), (54, true, S54G plumblineref02_Inf k), (55, true, S55G plumblineref02_sign k), (69, true, S69G plumblineref02_Size k), (86, true, S86G plumblineref02_length plumblineref02_length_n0 k)] fi59 [(10, L59_10G plumblineref02_Rounded_l0 plumblineref02_Rounded_n3_l0 k k), (18, L59_18G plumblineref02_Rounded_l2 plumblineref02_Rounded_n3_l1 k k)] [(22, C59_22G plumblineref02_Rounded_c1 k), (40, C59_40G plumblineref02_Rounded_c3 plumblineref02_Rounded_n3_c2 k)]) 0 fi59 (cutAt ((Try.f59).body.getD .skip) 37) [(0, .i .i64 x1), (1, .i .i64 x2), (2, .b x3), (11, .i .i64 x4), (12, .i .i64 x5), (13, .i .i64 x6), (15, .i .i64 x7), (16, .i .u64 x8)] ⟨0, []⟩ (exitNorm fi59.ann 500037 0 K) = plumblineref02_Rounded_n3_c3T plumblineref02_Rounded_n3_c2 k x1 x2 x3 x4 x5 x6 x7 x8 (fun q1 => K .ret [(10, .i .u64 q1)] ⟨0, []⟩) := by kernel_rfl
theorem C59_37_cok {R : Type} (k : Nat) : CodeOk Try.prog (cc59_37 k : Cx R) fi59 (cutAt ((Try.f59).body.getD .skip) 37) := cutAt_ok (((cc59_37_ok k).fns 59 fi59 (by kernel_rfl)).2.2.2 ((Try.f59).body.getD .skip) (by kernel_rfl))
theorem C59_37_ok {R : Type} (k : Nat) : CutOk Try.prog (Try.f59).ntmps (cutAt ((Try.f59).body.getD .skip) 37) (C59_37 k : LSum R) := by
  intro pin T H K r h
  unfold C59_37 C59_37G at h
  split at h
  · obtain ⟨ex, T1, H1, h, hb⟩ := codeK_sound (cc59_37_ok k) (run_sound (cc59_37_ok k) 4) _ fi59 _ _ _ _ _ (C59_37_cok k) ((plumblineref02_Rounded_c4_gen plumblineref02_Most plumblineref02_Inf plumblineref02_sign plumblineref02_Size plumblineref02_length plumblineref02_length_n0 plumblineref02_Rounded_l0 plumblineref02_Rounded_n3_l0 plumblineref02_Rounded_c1 plumblineref02_Rounded_l2 plumblineref02_Rounded_n3_l1 plumblineref02_Rounded_c3 plumblineref02_Rounded_n3_c2 k _ _ _ _ _ _ _ _ _ K).trans h)
    exact cut_step hb h
  · obtain ⟨ex, T1, H1, h, hb⟩ := codeK_sound (cc59_37_ok k) (run_sound (cc59_37_ok k) 4) _ fi59 _ _ _ _ _ (C59_37_cok k) ((plumblineref02_Rounded_n3_c3_gen plumblineref02_Most plumblineref02_Inf plumblineref02_sign plumblineref02_Size plumblineref02_length plumblineref02_length_n0 plumblineref02_Rounded_l0 plumblineref02_Rounded_n3_l0 plumblineref02_Rounded_c1 plumblineref02_Rounded_l2 plumblineref02_Rounded_n3_l1 plumblineref02_Rounded_c3 plumblineref02_Rounded_n3_c2 k _ _ _ _ _ _ _ _ K).trans h)
    exact cut_step hb h
  · cases h
@[reducible] def plumblineref02_Rounded_c5Y (R : Type) : Type := Nat → Int → Int → Bool → Int → Int → Int → Int → Int → (List Bool) → (Int → Option R) → Option R
noncomputable def plumblineref02_Rounded_c5T {R : Type} (plumblineref02_Rounded_c4 : plumblineref02_Rounded_c4Y R) (k : Nat) (x1 : Int) (x2 : Int) (x3 : Bool) (x4 : Int) (x5 : Int) (x6 : Int) (x7 : Int) (x8 : Int) (x9 : List Bool) (K0 : Int → Option R) : Option R :=
  cond (decide ((Wi64 (x4 + 1)) < 0)) (
    none) (
    cond (x8 == (shl .u64 1 (Wi64 (x4 + 1)))) (
      plumblineref02_Rounded_c4 k x1 x2 x3 x4 x5 x6 (Wi64 (x7 + 1)) (Wu64 (Int.tdiv x8 2)) x9 (fun yyyr1 =>
        K0 yyyr1)) (
      plumblineref02_Rounded_c4 k x1 x2 x3 x4 x5 x6 x7 x8 x9 (fun yyyr2 =>
        K0 yyyr2)))
noncomputable def plumblineref02_Rounded_c5 {R : Type} (k : Nat) (x1 : Int) (x2 : Int) (x3 : Bool) (x4 : Int) (x5 : Int) (x6 : Int) (x7 : Int) (x8 : Int) (x9 : List Bool) (K0 : Int → Option R) : Option R := plumblineref02_Rounded_c5T plumblineref02_Rounded_c4 k x1 x2 x3 x4 x5 x6 x7 x8 x9 K0
@[reducible] def plumblineref02_Rounded_n3_c4Y (R : Type) : Type := Nat → Int → Int → Bool → Int → Int → Int → Int → Int → (Int → Option R) → Option R
noncomputable def plumblineref02_Rounded_n3_c4T {R : Type} (plumblineref02_Rounded_n3_c3 : plumblineref02_Rounded_n3_c3Y R) (k : Nat) (x1 : Int) (x2 : Int) (x3 : Bool) (x4 : Int) (x5 : Int) (x6 : Int) (x7 : Int) (x8 : Int) (K0 : Int → Option R) : Option R :=
  cond (decide ((Wi64 (x4 + 1)) < 0)) (
    none) (
    cond (x8 == (shl .u64 1 (Wi64 (x4 + 1)))) (
      plumblineref02_Rounded_n3_c3 k x1 x2 x3 x4 x5 x6 (Wi64 (x7 + 1)) (Wu64 (Int.tdiv x8 2)) (fun yyyr1 =>
        K0 yyyr1)) (
      plumblineref02_Rounded_n3_c3 k x1 x2 x3 x4 x5 x6 x7 x8 (fun yyyr2 =>
        K0 yyyr2)))
noncomputable def plumblineref02_Rounded_n3_c4 {R : Type} (k : Nat) (x1 : Int) (x2 : Int) (x3 : Bool) (x4 : Int) (x5 : Int) (x6 : Int) (x7 : Int) (x8 : Int) (K0 : Int → Option R) : Option R := plumblineref02_Rounded_n3_c4T plumblineref02_Rounded_n3_c3 k x1 x2 x3 x4 x5 x6 x7 x8 K0
noncomputable def cc59_34 {R : Type} (k : Nat) : Cx R := mkCx Ty exts [(35, true, S35 k), (54, true, S54 k), (55, true, S55 k), (69, true, S69 k), (86, true, S86 k)] fi59 [(10, L59_10 k k), (18, L59_18 k k)] [(22, C59_22 k), (40, C59_40 k), (37, C59_37 k)]
theorem cc59_34_ok {R : Type} (k : Nat) : CxOk Try.prog (cc59_34 k : Cx R) := mkCx_ok (c := ((Try.f59).body.getD .skip)) ty_ok mixed exts_ok (allSum_cons (S35_ok k) en35 (allSum_cons (S54_ok k) en54 (allSum_cons (S55_ok k) en55 (allSum_cons (S69_ok k) en69 (allSum_cons (S86_ok k) en86 allSum_nil))))) Try.func59 en59 (by kernel_rfl) (by kernel_rfl) (allLoop_loop (by kernel_rfl) (L59_10_ok k k) (allLoop_loop (by kernel_rfl) (L59_18_ok k k) allLoop_nil)) (allCut_cons (C59_22_ok k) (by kernel_rfl) (allCut_cons (C59_40_ok k) (by kernel_rfl) (allCut_cons (C59_37_ok k) (by kernel_rfl) allCut_nil)))
noncomputable def C59_34G {R : Type} (plumblineref02_Rounded_c5 : plumblineref02_Rounded_c5Y R) (plumblineref02_Rounded_n3_c4 : plumblineref02_Rounded_n3_c4Y R) (k : Nat) : LSum R := fun pin T H K => match pin, T, H with
  | 1, [(0, .i .i64 x1), (1, .i .i64 x2), (2, .b x3), (11, .i .i64 x4), (12, .i .i64 x5), (13, .i .i64 x6), (15, .i .i64 x7), (16, .i .u64 x8)], ⟨1, [(0, some ⟨0, false, .row [.b] x9⟩)]⟩ => plumblineref02_Rounded_c5 k x1 x2 x3 x4 x5 x6 x7 x8 x9 (fun q1 => K .ret [(10, .i .u64 q1)] ⟨1, [(0, some ⟨0, false, .row [.b] x9⟩)]⟩)
  | 0, [(0, .i .i64 x1), (1, .i .i64 x2), (2, .b x3), (11, .i .i64 x4), (12, .i .i64 x5), (13, .i .i64 x6), (15, .i .i64 x7), (16, .i .u64 x8)], ⟨0, []⟩ => plumblineref02_Rounded_n3_c4 k x1 x2 x3 x4 x5 x6 x7 x8 (fun q1 => K .ret [(10, .i .u64 q1)] ⟨0, []⟩)
  | _, _, _ => none
noncomputable def C59_34 {R : Type} (k : Nat) : LSum R := C59_34G plumblineref02_Rounded_c5 plumblineref02_Rounded_n3_c4 k
theorem plumblineref02_Rounded_c5_gen {R : Type} (plumblineref02_Most : plumblineref02_MostY R) (plumblineref02_Inf : plumblineref02_InfY R) (plumblineref02_sign : plumblineref02_signY R) (plumblineref02_Size : plumblineref02_SizeY R) (plumblineref02_length : plumblineref02_lengthY R) (plumblineref02_length_n0 : plumblineref02_length_n0Y R) (plumblineref02_Rounded_l0 : plumblineref02_Rounded_l0Y R) (plumblineref02_Rounded_n3_l0 : plumblineref02_Rounded_n3_l0Y R) (plumblineref02_Rounded_c1 : plumblineref02_Rounded_c1Y R) (plumblineref02_Rounded_l2 : plumblineref02_Rounded_l2Y R) (plumblineref02_Rounded_n3_l1 : plumblineref02_Rounded_n3_l1Y R) (plumblineref02_Rounded_c3 : plumblineref02_Rounded_c3Y R) (plumblineref02_Rounded_n3_c2 : plumblineref02_Rounded_n3_c2Y R) (plumblineref02_Rounded_c4 : plumblineref02_Rounded_c4Y R) (plumblineref02_Rounded_n3_c3 : plumblineref02_Rounded_n3_c3Y R) (k : Nat) (x1 : Int) (x2 : Int) (x3 : Bool) (x4 : Int) (x5 : Int) (x6 : Int) (x7 : Int) (x8 : Int) (x9 : List Bool) (K : Kont R) :
    (fun C => codeK C (run C 4)) (mkCx Ty exts [(35, true, S35G plumblineref02_Most k), (54, true, S54G plumblineref02_Inf k), (55, true, S55G plumblineref02_sign k), (69, true, S69G plumblineref02_Size k), (86, true, S86G plumblineref02_length plumblineref02_length_n0 k)] fi59 [(10, L59_10G plumblineref02_Rounded_l0 plumblineref02_Rounded_n3_l0 k k), (18, L59_18G plumblineref02_Rounded_l2 plumblineref02_Rounded_n3_l1 k k)] [(22, C59_22G plumblineref02_Rounded_c1 k), (40, C59_40G plumblineref02_Rounded_c3 plumblineref02_Rounded_n3_c2 k), (37, C59_37G plumblineref02_Rounded_c4 plumblineref02_Rounded_n3_c3 k)]) 1 fi59 (cutAt ((Try.f59).body.getD .skip) 34) [(0, .i .i64 x1), (1, .i .i64 x2), (2, .b x3), (11, .i .i64 x4), (12, .i .i64 x5), (13, .i .i64 x6), (15, .i .i64 x7), (16, .i .u64 x8)] ⟨1, [(0, some ⟨0, false, .row [.b] x9⟩)]⟩ (exitNorm fi59.ann 500034 1 K) = plumblineref02_Rounded_c5T plumblineref02_Rounded_c4 k x1 x2 x3 x4 x5 x6 x7 x8 x9 (fun q1 => K .ret [(10, .i .u64 q1)] ⟨1, [(0, some ⟨0, false, .row [.b] x9⟩)]⟩) := by kernel_rfl
theorem plumblineref02_Rounded_n3_c4_gen {R : Type} (plumblineref02_Most : plumblineref02_MostY R) (plumblineref02_Inf : plumblineref02_InfY R) (plumblineref02_sign : plumblineref02_signY R) (plumblineref02_Size : plumblineref02_SizeY R) (plumblineref02_length : plumblineref02_lengthY R) (plumblineref02_length_n0 : plumblineref02_length_n0Y R) (plumblineref02_Rounded_l0 : plumblineref02_Rounded_l0Y R) (plumblineref02_Rounded_n3_l0 : plumblineref02_Rounded_n3_l0Y R) (plumblineref02_Rounded_c1 : plumblineref02_Rounded_c1Y R) (plumblineref02_Rounded_l2 : plumblineref02_Rounded_l2Y R) (plumblineref02_Rounded_n3_l1 : plumblineref02_Rounded_n3_l1Y R) (plumblineref02_Rounded_c3 : plumblineref02_Rounded_c3Y R) (plumblineref02_Rounded_n3_c2 : plumblineref02_Rounded_n3_c2Y R) (plumblineref02_Rounded_c4 : plumblineref02_Rounded_c4Y R) (plumblineref02_Rounded_n3_c3 : plumblineref02_Rounded_n3_c3Y R) (k : Nat) (x1 : Int) (x2 : Int) (x3 : Bool) (x4 : Int) (x5 : Int) (x6 : Int) (x7 : Int) (x8 : Int) (K : Kont R) :
    (fun C => codeK C (run C 4)) (mkCx Ty exts [(35, true, S35G plumblineref02_Most k), (54, true, S54G plumblineref02_Inf k), (55, true, S55G plumblineref02_sign k), (69, true, S69G plumblineref02_Size k), (86, true, S86G plumblineref02_length plumblineref02_length_n0 k)] fi59 [(10, L59_10G plumblineref02_Rounded_l0 plumblineref02_Rounded_n3_l0 k k), (18, L59_18G plumblineref02_Rounded_l2 plumblineref02_Rounded_n3_l1 k k)] [(22, C59_22G plumblineref02_Rounded_c1 k), (40, C59_40G plumblineref02_Rounded_c3 plumblineref02_Rounded_n3_c2 k), (37, C59_37G plumblineref02_Rounded_c4 plumblineref02_Rounded_n3_c3 k)]) 0 fi59 (cutAt ((Try.f59).body.getD .skip) 34) [(0, .i .i64 x1), (1, .i .i64 x2), (2, .b x3), (11, .i .i64 x4), (12, .i .i64 x5), (13, .i .i64 x6), (15, .i .i64 x7), (16, .i .u64 x8)] ⟨0, []⟩ (exitNorm fi59.ann 500034 0 K) = plumblineref02_Rounded_n3_c4T plumblineref02_Rounded_n3_c3 k x1 x2 x3 x4 x5 x6 x7 x8 (fun q1 => K .ret [(10, .i .u64 q1)] ⟨0, []⟩) := by kernel_rfl
theorem C59_34_cok {R : Type} (k : Nat) : CodeOk Try.prog (cc59_34 k : Cx R) fi59 (cutAt ((Try.f59).body.getD .skip) 34) := cutAt_ok (((cc59_34_ok k).fns 59 fi59 (by kernel_rfl)).2.2.2 ((Try.f59).body.getD .skip) (by kernel_rfl))
theorem C59_34_ok {R : Type} (k : Nat) : CutOk Try.prog (Try.f59).ntmps (cutAt ((Try.f59).body.getD .skip) 34) (C59_34 k : LSum R) := by
  intro pin T H K r h
  unfold C59_34 C59_34G at h
  split at h
  · obtain ⟨ex, T1, H1, h, hb⟩ := codeK_sound (cc59_34_ok k) (run_sound (cc59_34_ok k) 4) _ fi59 _ _ _ _ _ (C59_34_cok k) ((plumblineref02_Rounded_c5_gen plumblineref02_Most plumblineref02_Inf plumblineref02_sign plumblineref02_Size plumblineref02_length plumblineref02_length_n0 plumblineref02_Rounded_l0 plumblineref02_Rounded_n3_l0 plumblineref02_Rounded_c1 plumblineref02_Rounded_l2 plumblineref02_Rounded_n3_l1 plumblineref02_Rounded_c3 plumblineref02_Rounded_n3_c2 plumblineref02_Rounded_c4 plumblineref02_Rounded_n3_c3 k _ _ _ _ _ _ _ _ _ K).trans h)
    exact cut_step hb h
  · obtain ⟨ex, T1, H1, h, hb⟩ := codeK_sound (cc59_34_ok k) (run_sound (cc59_34_ok k) 4) _ fi59 _ _ _ _ _ (C59_34_cok k) ((plumblineref02_Rounded_n3_c4_gen plumblineref02_Most plumblineref02_Inf plumblineref02_sign plumblineref02_Size plumblineref02_length plumblineref02_length_n0 plumblineref02_Rounded_l0 plumblineref02_Rounded_n3_l0 plumblineref02_Rounded_c1 plumblineref02_Rounded_l2 plumblineref02_Rounded_n3_l1 plumblineref02_Rounded_c3 plumblineref02_Rounded_n3_c2 plumblineref02_Rounded_c4 plumblineref02_Rounded_n3_c3 k _ _ _ _ _ _ _ _ K).trans h)
    exact cut_step hb h
  · cases h
@[reducible] def plumblineref02_Rounded_c6Y (R : Type) : Type := Nat → Int → Int → Bool → Int → Int → Int → Int → Int → Bool → (List Bool) → (Int → Option R) → Option R
noncomputable def plumblineref02_Rounded_c6T {R : Type} (plumblineref02_Rounded_c5 : plumblineref02_Rounded_c5Y R) (k : Nat) (x1 : Int) (x2 : Int) (x3 : Bool) (x4 : Int) (x5 : Int) (x6 : Int) (x7 : Int) (x8 : Int) (x9 : Bool) (x10 : List Bool) (K0 : Int → Option R) : Option R :=
  cond x9 (
    plumblineref02_Rounded_c5 k x1 x2 x3 x4 x5 x6 x7 (Wu64 (x8 + 1)) x10 (fun yyr1 =>
      K0 yyr1)) (
    plumblineref02_Rounded_c5 k x1 x2 x3 x4 x5 x6 x7 x8 x10 (fun yyr2 =>
      K0 yyr2))
noncomputable def plumblineref02_Rounded_c6 {R : Type} (k : Nat) (x1 : Int) (x2 : Int) (x3 : Bool) (x4 : Int) (x5 : Int) (x6 : Int) (x7 : Int) (x8 : Int) (x9 : Bool) (x10 : List Bool) (K0 : Int → Option R) : Option R := plumblineref02_Rounded_c6T plumblineref02_Rounded_c5 k x1 x2 x3 x4 x5 x6 x7 x8 x9 x10 K0
@[reducible] def plumblineref02_Rounded_n3_c5Y (R : Type) : Type := Nat → Int → Int → Bool → Int → Int → Int → Int → Int → Bool → (Int → Option R) → Option R
noncomputable def plumblineref02_Rounded_n3_c5T {R : Type} (plumblineref02_Rounded_n3_c4 : plumblineref02_Rounded_n3_c4Y R) (k : Nat) (x1 : Int) (x2 : Int) (x3 : Bool) (x4 : Int) (x5 : Int) (x6 : Int) (x7 : Int) (x8 : Int) (x9 : Bool) (K0 : Int → Option R) : Option R :=
  cond x9 (
    plumblineref02_Rounded_n3_c4 k x1 x2 x3 x4 x5 x6 x7 (Wu64 (x8 + 1)) (fun yyr1 =>
      K0 yyr1)) (
    plumblineref02_Rounded_n3_c4 k x1 x2 x3 x4 x5 x6 x7 x8 (fun yyr2 =>
      K0 yyr2))
noncomputable def plumblineref02_Rounded_n3_c5 {R : Type} (k : Nat) (x1 : Int) (x2 : Int) (x3 : Bool) (x4 : Int) (x5 : Int) (x6 : Int) (x7 : Int) (x8 : Int) (x9 : Bool) (K0 : Int → Option R) : Option R := plumblineref02_Rounded_n3_c5T plumblineref02_Rounded_n3_c4 k x1 x2 x3 x4 x5 x6 x7 x8 x9 K0
noncomputable def cc59_32 {R : Type} (k : Nat) : Cx R := mkCx Ty exts [(35, true, S35 k), (54, true, S54 k), (55, true, S55 k), (69, true, S69 k), (86, true, S86 k)] fi59 [(10, L59_10 k k), (18, L59_18 k k)] [(22, C59_22 k), (40, C59_40 k), (37, C59_37 k), (34, C59_34 k)]
theorem cc59_32_ok {R : Type} (k : Nat) : CxOk Try.prog (cc59_32 k : Cx R) := mkCx_ok (c := ((Try.f59).body.getD .skip)) ty_ok mixed exts_ok (allSum_cons (S35_ok k) en35 (allSum_cons (S54_ok k) en54 (allSum_cons (S55_ok k) en55 (allSum_cons (S69_ok k) en69 (allSum_cons (S86_ok k) en86 allSum_nil))))) Try.func59 en59 (by kernel_rfl) (by kernel_rfl) (allLoop_loop (by kernel_rfl) (L59_10_ok k k) (allLoop_loop (by kernel_rfl) (L59_18_ok k k) allLoop_nil)) (allCut_cons (C59_22_ok k) (by kernel_rfl) (allCut_cons (C59_40_ok k) (by kernel_rfl) (allCut_cons (C59_37_ok k) (by kernel_rfl) (allCut_cons (C59_34_ok k) (by kernel_rfl) allCut_nil))))
noncomputable def C59_32G {R : Type} (plumblineref02_Rounded_c6 : plumblineref02_Rounded_c6Y R) (plumblineref02_Rounded_n3_c5 : plumblineref02_Rounded_n3_c5Y R) (k : Nat) : LSum R := fun pin T H K => match pin, T, H with
  | 1, [(0, .i .i64 x1), (1, .i .i64 x2), (2, .b x3), (11, .i .i64 x4), (12, .i .i64 x5), (13, .i .i64 x6), (15, .i .i64 x7), (16, .i .u64 x8), (21, .b x9)], ⟨1, [(0, some ⟨0, false, .row [.b] x10⟩)]⟩ => plumblineref02_Rounded_c6 k x1 x2 x3 x4 x5 x6 x7 x8 x9 x10 (fun q1 => K .ret [(10, .i .u64 q1)] ⟨1, [(0, some ⟨0, false, .row [.b] x10⟩)]⟩)
  | 0, [(0, .i .i64 x1), (1, .i .i64 x2), (2, .b x3), (11, .i .i64 x4), (12, .i .i64 x5), (13, .i .i64 x6), (15, .i .i64 x7), (16, .i .u64 x8), (21, .b x9)], ⟨0, []⟩ => plumblineref02_Rounded_n3_c5 k x1 x2 x3 x4 x5 x6 x7 x8 x9 (fun q1 => K .ret [(10, .i .u64 q1)] ⟨0, []⟩)
  | _, _, _ => none
noncomputable def C59_32 {R : Type} (k : Nat) : LSum R := C59_32G plumblineref02_Rounded_c6 plumblineref02_Rounded_n3_c5 k
theorem plumblineref02_Rounded_c6_gen {R : Type} (plumblineref02_Most : plumblineref02_MostY R) (plumblineref02_Inf : plumblineref02_InfY R) (plumblineref02_sign : plumblineref02_signY R) (plumblineref02_Size : plumblineref02_SizeY R) (plumblineref02_length : plumblineref02_lengthY R) (plumblineref02_length_n0 : plumblineref02_length_n0Y R) (plumblineref02_Rounded_l0 : plumblineref02_Rounded_l0Y R) (plumblineref02_Rounded_n3_l0 : plumblineref02_Rounded_n3_l0Y R) (plumblineref02_Rounded_c1 : plumblineref02_Rounded_c1Y R) (plumblineref02_Rounded_l2 : plumblineref02_Rounded_l2Y R) (plumblineref02_Rounded_n3_l1 : plumblineref02_Rounded_n3_l1Y R) (plumblineref02_Rounded_c3 : plumblineref02_Rounded_c3Y R) (plumblineref02_Rounded_n3_c2 : plumblineref02_Rounded_n3_c2Y R) (plumblineref02_Rounded_c4 : plumblineref02_Rounded_c4Y R) (plumblineref02_Rounded_n3_c3 : plumblineref02_Rounded_n3_c3Y R) (plumblineref02_Rounded_c5 : plumblineref02_Rounded_c5Y R) (plumblineref02_Rounded_n3_c4 : plumblineref02_Rounded_n3_c4Y R) (k : Nat) (x1 : Int) (x2 : Int) (x3 : Bool) (x4 : Int) (x5 : Int) (x6 : Int) (x7 : Int) (x8 : Int) (x9 : Bool) (x10 : List Bool) (K : Kont R) :
    (fun C => codeK C (run C 4)) (mkCx Ty exts [(35, true, S35G plumblineref02_Most k), (54, true, S54G plumblineref02_Inf k), (55, true, S55G plumblineref02_sign k), (69, true, S69G plumblineref02_Size k), (86, true, S86G plumblineref02_length plumblineref02_length_n0 k)] fi59 [(10, L59_10G plumblineref02_Rounded_l0 plumblineref02_Rounded_n3_l0 k k), (18, L59_18G plumblineref02_Rounded_l2 plumblineref02_Rounded_n3_l1 k k)] [(22, C59_22G plumblineref02_Rounded_c1 k), (40, C59_40G plumblineref02_Rounded_c3 plumblineref02_Rounded_n3_c2 k), (37, C59_37G plumblineref02_Rounded_c4 plumblineref02_Rounded_n3_c3 k), (34, C59_34G plumblineref02_Rounded_c5 plumblineref02_Rounded_n3_c4 k)]) 1 fi59 (cutAt ((Try.f59).body.getD .skip) 32) [(0, .i .i64 x1), (1, .i .i64 x2), (2, .b x3), (11, .i .i64 x4), (12, .i .i64 x5), (13, .i .i64 x6), (15, .i .i64 x7), (16, .i .u64 x8), (21, .b x9)] ⟨1, [(0, some ⟨0, false, .row [.b] x10⟩)]⟩ (exitNorm fi59.ann 500032 1 K) = plumblineref02_Rounded_c6T plumblineref02_Rounded_c5 k x1 x2 x3 x4 x5 x6 x7 x8 x9 x10 (fun q1 => K .ret [(10, .i .u64 q1)] ⟨1, [(0, some ⟨0, false, .row [.b] x10⟩)]⟩) := by kernel_rfl
theorem plumblineref02_Rounded_n3_c5_gen {R : Type} (plumblineref02_Most : plumblineref02_MostY R) (plumblineref02_Inf : plumblineref02_InfY R) (plumblineref02_sign : plumblineref02_signY R) (plumblineref02_Size : plumblineref02_SizeY R) (plumblineref02_length : plumblineref02_lengthY R) (plumblineref02_length_n0 : plumblineref02_length_n0Y R) (plumblineref02_Rounded_l0 : plumblineref02_Rounded_l0Y R) (plumblineref02_Rounded_n3_l0 : plumblineref02_Rounded_n3_l0Y R) (plumblineref02_Rounded_c1 : plumblineref02_Rounded_c1Y R) (plumblineref02_Rounded_l2 : plumblineref02_Rounded_l2Y R) (plumblineref02_Rounded_n3_l1 : plumblineref02_Rounded_n3_l1Y R) (plumblineref02_Rounded_c3 : plumblineref02_Rounded_c3Y R) (plumblineref02_Rounded_n3_c2 : plumblineref02_Rounded_n3_c2Y R) (plumblineref02_Rounded_c4 : plumblineref02_Rounded_c4Y R) (plumblineref02_Rounded_n3_c3 : plumblineref02_Rounded_n3_c3Y R) (plumblineref02_Rounded_c5 : plumblineref02_Rounded_c5Y R) (plumblineref02_Rounded_n3_c4 : plumblineref02_Rounded_n3_c4Y R) (k : Nat) (x1 : Int) (x2 : Int) (x3 : Bool) (x4 : Int) (x5 : Int) (x6 : Int) (x7 : Int) (x8 : Int) (x9 : Bool) (K : Kont R) :
    (fun C => codeK C (run C 4)) (mkCx Ty exts [(35, true, S35G plumblineref02_Most k), (54, true, S54G plumblineref02_Inf k), (55, true, S55G plumblineref02_sign k), (69, true, S69G plumblineref02_Size k), (86, true, S86G plumblineref02_length plumblineref02_length_n0 k)] fi59 [(10, L59_10G plumblineref02_Rounded_l0 plumblineref02_Rounded_n3_l0 k k), (18, L59_18G plumblineref02_Rounded_l2 plumblineref02_Rounded_n3_l1 k k)] [(22, C59_22G plumblineref02_Rounded_c1 k), (40, C59_40G plumblineref02_Rounded_c3 plumblineref02_Rounded_n3_c2 k), (37, C59_37G plumblineref02_Rounded_c4 plumblineref02_Rounded_n3_c3 k), (34, C59_34G plumblineref02_Rounded_c5 plumblineref02_Rounded_n3_c4 k)]) 0 fi59 (cutAt ((Try.f59).body.getD .skip) 32) [(0, .i .i64 x1), (1, .i .i64 x2), (2, .b x3), (11, .i .i64 x4), (12, .i .i64 x5), (13, .i .i64 x6), (15, .i .i64 x7), (16, .i .u64 x8), (21, .b x9)] ⟨0, []⟩ (exitNorm fi59.ann 500032 0 K) = plumblineref02_Rounded_n3_c5T plumblineref02_Rounded_n3_c4 k x1 x2 x3 x4 x5 x6 x7 x8 x9 (fun q1 => K .ret [(10, .i .u64 q1)] ⟨0, []⟩) := by kernel_rfl
theorem C59_32_cok {R : Type} (k : Nat) : CodeOk Try.prog (cc59_32 k : Cx R) fi59 (cutAt ((Try.f59).body.getD .skip) 32) := cutAt_ok (((cc59_32_ok k).fns 59 fi59 (by kernel_rfl)).2.2.2 ((Try.f59).body.getD .skip) (by kernel_rfl))
theorem C59_32_ok {R : Type} (k : Nat) : CutOk Try.prog (Try.f59).ntmps (cutAt ((Try.f59).body.getD .skip) 32) (C59_32 k : LSum R) := by
  intro pin T H K r h
  unfold C59_32 C59_32G at h
  split at h
  · obtain ⟨ex, T1, H1, h, hb⟩ := codeK_sound (cc59_32_ok k) (run_sound (cc59_32_ok k) 4) _ fi59 _ _ _ _ _ (C59_32_cok k) ((plumblineref02_Rounded_c6_gen plumblineref02_Most plumblineref02_Inf plumblineref02_sign plumblineref02_Size plumblineref02_length plumblineref02_length_n0 plumblineref02_Rounded_l0 plumblineref02_Rounded_n3_l0 plumblineref02_Rounded_c1 plumblineref02_Rounded_l2 plumblineref02_Rounded_n3_l1 plumblineref02_Rounded_c3 plumblineref02_Rounded_n3_c2 plumblineref02_Rounded_c4 plumblineref02_Rounded_n3_c3 plumblineref02_Rounded_c5 plumblineref02_Rounded_n3_c4 k _ _ _ _ _ _ _ _ _ _ K).trans h)
    exact cut_step hb h
  · obtain ⟨ex, T1, H1, h, hb⟩ := codeK_sound (cc59_32_ok k) (run_sound (cc59_32_ok k) 4) _ fi59 _ _ _ _ _ (C59_32_cok k) ((plumblineref02_Rounded_n3_c5_gen plumblineref02_Most plumblineref02_Inf plumblineref02_sign plumblineref02_Size plumblineref02_length plumblineref02_length_n0 plumblineref02_Rounded_l0 plumblineref02_Rounded_n3_l0 plumblineref02_Rounded_c1 plumblineref02_Rounded_l2 plumblineref02_Rounded_n3_l1 plumblineref02_Rounded_c3 plumblineref02_Rounded_n3_c2 plumblineref02_Rounded_c4 plumblineref02_Rounded_n3_c3 plumblineref02_Rounded_c5 plumblineref02_Rounded_n3_c4 k _ _ _ _ _ _ _ _ _ K).trans h)
    exact cut_step hb h
  · cases h
@[reducible] def plumblineref02_Rounded_c7Y (R : Type) : Type := Nat → Int → Int → Bool → Int → Int → Int → Int → Int → Int → (List Bool) → (Int → Option R) → Option R
noncomputable def plumblineref02_Rounded_c7T {R : Type} (plumblineref02_Rounded_c6 : plumblineref02_Rounded_c6Y R) (plumblineref02_Rounded_l0 : plumblineref02_Rounded_l0Y R) (plumblineref02_Rounded_l2 : plumblineref02_Rounded_l2Y R) (k : Nat) (x1 : Int) (x2 : Int) (x3 : Bool) (x4 : Int) (x5 : Int) (x6 : Int) (x7 : Int) (x8 : Int) (x9 : Int) (x10 : List Bool) (K0 : Int → Option R) : Option R :=
  plumblineref02_Rounded_l0 k k x1 x2 x3 x4 x5 x6 x7 x8 x9 0 (Wi64 (x8 - 1)) x10 (fun yr1 =>
    plumblineref02_Rounded_l2 k k x1 x2 x3 x4 x5 x6 x7 x8 x9 yr1 false false 0 x10 (fun yr2 yr3 =>
      cond (x2 == 1) (
        cond (!x3) (
          cond yr2 (
            plumblineref02_Rounded_c6 k x1 x2 x3 x5 x6 x7 x9 yr1 true x10 (fun yr4 =>
              K0 yr4)) (
            plumblineref02_Rounded_c6 k x1 x2 x3 x5 x6 x7 x9 yr1 yr3 x10 (fun yr5 =>
              K0 yr5))) (
          plumblineref02_Rounded_c6 k x1 x2 x3 x5 x6 x7 x9 yr1 false x10 (fun yr6 =>
            K0 yr6))) (
        cond (x2 == 2) (
          cond x3 (
            cond yr2 (
              plumblineref02_Rounded_c6 k x1 x2 x3 x5 x6 x7 x9 yr1 true x10 (fun yr7 =>
                K0 yr7)) (
              plumblineref02_Rounded_c6 k x1 x2 x3 x5 x6 x7 x9 yr1 yr3 x10 (fun yr8 =>
                K0 yr8))) (
            plumblineref02_Rounded_c6 k x1 x2 x3 x5 x6 x7 x9 yr1 false x10 (fun yr9 =>
              K0 yr9))) (
          cond (x2 == 3) (
            plumblineref02_Rounded_c6 k x1 x2 x3 x5 x6 x7 x9 yr1 false x10 (fun yr10 =>
              K0 yr10)) (
            cond yr2 (
              cond yr3 (
                plumblineref02_Rounded_c6 k x1 x2 x3 x5 x6 x7 x9 yr1 true x10 (fun yr11 =>
                  K0 yr11)) (
                plumblineref02_Rounded_c6 k x1 x2 x3 x5 x6 x7 x9 yr1 ((Int.tmod yr1 2) == 1) x10 (fun yr12 =>
                  K0 yr12))) (
              plumblineref02_Rounded_c6 k x1 x2 x3 x5 x6 x7 x9 yr1 false x10 (fun yr13 =>
                K0 yr13)))))))
noncomputable def plumblineref02_Rounded_c7 {R : Type} (k : Nat) (x1 : Int) (x2 : Int) (x3 : Bool) (x4 : Int) (x5 : Int) (x6 : Int) (x7 : Int) (x8 : Int) (x9 : Int) (x10 : List Bool) (K0 : Int → Option R) : Option R := plumblineref02_Rounded_c7T plumblineref02_Rounded_c6 plumblineref02_Rounded_l0 plumblineref02_Rounded_l2 k x1 x2 x3 x4 x5 x6 x7 x8 x9 x10 K0
@[reducible] def plumblineref02_Rounded_n3_c6Y (R : Type) : Type := Nat → Int → Int → Bool → Int → Int → Int → Int → Int → Int → (Int → Option R) → Option R
noncomputable def plumblineref02_Rounded_n3_c6T {R : Type} (plumblineref02_Rounded_n3_c5 : plumblineref02_Rounded_n3_c5Y R) (plumblineref02_Rounded_n3_l0 : plumblineref02_Rounded_n3_l0Y R) (plumblineref02_Rounded_n3_l1 : plumblineref02_Rounded_n3_l1Y R) (k : Nat) (x1 : Int) (x2 : Int) (x3 : Bool) (x4 : Int) (x5 : Int) (x6 : Int) (x7 : Int) (x8 : Int) (x9 : Int) (K0 : Int → Option R) : Option R :=
  plumblineref02_Rounded_n3_l0 k k x1 x2 x3 x4 x5 x6 x7 x8 x9 0 (Wi64 (x8 - 1)) (
    plumblineref02_Rounded_n3_l1 k k x1 x2 x3 x4 x5 x6 x7 x8 x9 0 false false 0 (
      cond (x2 == 1) (
        cond (!x3) (
          plumblineref02_Rounded_n3_c5 k x1 x2 x3 x5 x6 x7 x9 0 false (fun yr1 =>
            K0 yr1)) (
          plumblineref02_Rounded_n3_c5 k x1 x2 x3 x5 x6 x7 x9 0 false (fun yr2 =>
            K0 yr2))) (
        cond (x2 == 2) (
          cond x3 (
            plumblineref02_Rounded_n3_c5 k x1 x2 x3 x5 x6 x7 x9 0 false (fun yr3 =>
              K0 yr3)) (
            plumblineref02_Rounded_n3_c5 k x1 x2 x3 x5 x6 x7 x9 0 false (fun yr4 =>
              K0 yr4))) (
          cond (x2 == 3) (
            plumblineref02_Rounded_n3_c5 k x1 x2 x3 x5 x6 x7 x9 0 false (fun yr5 =>
              K0 yr5)) (
            plumblineref02_Rounded_n3_c5 k x1 x2 x3 x5 x6 x7 x9 0 false (fun yr6 =>
              K0 yr6))))))
noncomputable def plumblineref02_Rounded_n3_c6 {R : Type} (k : Nat) (x1 : Int) (x2 : Int) (x3 : Bool) (x4 : Int) (x5 : Int) (x6 : Int) (x7 : Int) (x8 : Int) (x9 : Int) (K0 : Int → Option R) : Option R := plumblineref02_Rounded_n3_c6T plumblineref02_Rounded_n3_c5 plumblineref02_Rounded_n3_l0 plumblineref02_Rounded_n3_l1 k x1 x2 x3 x4 x5 x6 x7 x8 x9 K0
noncomputable def cc59_8 {R : Type} (k : Nat) : Cx R := mkCx Ty exts [(35, true, S35 k), (54, true, S54 k), (55, true, S55 k), (69, true, S69 k), (86, true, S86 k)] fi59 [(10, L59_10 k k), (18, L59_18 k k)] [(22, C59_22 k), (40, C59_40 k), (37, C59_37 k), (34, C59_34 k), (32, C59_32 k)]
theorem cc59_8_ok {R : Type} (k : Nat) : CxOk Try.prog (cc59_8 k : Cx R) := mkCx_ok (c := ((Try.f59).body.getD .skip)) ty_ok mixed exts_ok (allSum_cons (S35_ok k) en35 (allSum_cons (S54_ok k) en54 (allSum_cons (S55_ok k) en55 (allSum_cons (S69_ok k) en69 (allSum_cons (S86_ok k) en86 allSum_nil))))) Try.func59 en59 (by kernel_rfl) (by kernel_rfl) (allLoop_loop (by kernel_rfl) (L59_10_ok k k) (allLoop_loop (by kernel_rfl) (L59_18_ok k k) allLoop_nil)) (allCut_cons (C59_22_ok k) (by kernel_rfl) (allCut_cons (C59_40_ok k) (by kernel_rfl) (allCut_cons (C59_37_ok k) (by kernel_rfl) (allCut_cons (C59_34_ok k) (by kernel_rfl) (allCut_cons (C59_32_ok k) (by kernel_rfl) allCut_nil)))))
noncomputable def C59_8G {R : Type} (plumblineref02_Rounded_c7 : plumblineref02_Rounded_c7Y R) (plumblineref02_Rounded_n3_c6 : plumblineref02_Rounded_n3_c6Y R) (k : Nat) : LSum R := fun pin T H K => match pin, T, H with
  | 1, [(0, .i .i64 x1), (1, .i .i64 x2), (2, .b x3), (3, .sw 0), (4, .i .i64 x4), (11, .i .i64 x5), (12, .i .i64 x6), (13, .i .i64 x7), (14, .i .i64 x8), (15, .i .i64 x9)], ⟨1, [(0, some ⟨0, false, .row [.b] x10⟩)]⟩ => plumblineref02_Rounded_c7 k x1 x2 x3 x4 x5 x6 x7 x8 x9 x10 (fun q1 => K .ret [(10, .i .u64 q1)] ⟨1, [(0, some ⟨0, false, .row [.b] x10⟩)]⟩)
  | 0, [(0, .i .i64 x1), (1, .i .i64 x2), (2, .b x3), (3, .nsl), (4, .i .i64 x4), (11, .i .i64 x5), (12, .i .i64 x6), (13, .i .i64 x7), (14, .i .i64 x8), (15, .i .i64 x9)], ⟨0, []⟩ => plumblineref02_Rounded_n3_c6 k x1 x2 x3 x4 x5 x6 x7 x8 x9 (fun q1 => K .ret [(10, .i .u64 q1)] ⟨0, []⟩)
  | _, _, _ => none
noncomputable def C59_8 {R : Type} (k : Nat) : LSum R := C59_8G plumblineref02_Rounded_c7 plumblineref02_Rounded_n3_c6 k
theorem plumblineref02_Rounded_c7_gen {R : Type} (plumblineref02_Most : plumblineref02_MostY R) (plumblineref02_Inf : plumblineref02_InfY R) (plumblineref02_sign : plumblineref02_signY R) (plumblineref02_Size : plumblineref02_SizeY R) (plumblineref02_length : plumblineref02_lengthY R) (plumblineref02_length_n0 : plumblineref02_length_n0Y R) (plumblineref02_Rounded_l0 : plumblineref02_Rounded_l0Y R) (plumblineref02_Rounded_n3_l0 : plumblineref02_Rounded_n3_l0Y R) (plumblineref02_Rounded_c1 : plumblineref02_Rounded_c1Y R) (plumblineref02_Rounded_l2 : plumblineref02_Rounded_l2Y R) (plumblineref02_Rounded_n3_l1 : plumblineref02_Rounded_n3_l1Y R) (plumblineref02_Rounded_c3 : plumblineref02_Rounded_c3Y R) (plumblineref02_Rounded_n3_c2 : plumblineref02_Rounded_n3_c2Y R) (plumblineref02_Rounded_c4 : plumblineref02_Rounded_c4Y R) (plumblineref02_Rounded_n3_c3 : plumblineref02_Rounded_n3_c3Y R) (plumblineref02_Rounded_c5 : plumblineref02_Rounded_c5Y R) (plumblineref02_Rounded_n3_c4 : plumblineref02_Rounded_n3_c4Y R) (plumblineref02_Rounded_c6 : plumblineref02_Rounded_c6Y R) (plumblineref02_Rounded_n3_c5 : plumblineref02_Rounded_n3_c5Y R) (k : Nat) (x1 : Int) (x2 : Int) (x3 : Bool) (x4 : Int) (x5 : Int) (x6 : Int) (x7 : Int) (x8 : Int) (x9 : Int) (x10 : List Bool) (K : Kont R) :
    (fun C => codeK C (run C 4)) (mkCx Ty exts [(35, true, S35G plumblineref02_Most k), (54, true, S54G plumblineref02_Inf k), (55, true, S55G plumblineref02_sign k), (69, true, S69G plumblineref02_Size k), (86, true, S86G plumblineref02_length plumblineref02_length_n0 k)] fi59 [(10, L59_10G plumblineref02_Rounded_l0 plumblineref02_Rounded_n3_l0 k k), (18, L59_18G plumblineref02_Rounded_l2 plumblineref02_Rounded_n3_l1 k k)] [(22, C59_22G plumblineref02_Rounded_c1 k), (40, C59_40G plumblineref02_Rounded_c3 plumblineref02_Rounded_n3_c2 k), (37, C59_37G plumblineref02_Rounded_c4 plumblineref02_Rounded_n3_c3 k), (34, C59_34G plumblineref02_Rounded_c5 plumblineref02_Rounded_n3_c4 k), (32, C59_32G plumblineref02_Rounded_c6 plumblineref02_Rounded_n3_c5 k)]) 1 fi59 (cutAt ((Try.f59).body.getD .skip) 8) [(0, .i .i64 x1), (1, .i .i64 x2), (2, .b x3), (3, .sw 0), (4, .i .i64 x4), (11, .i .i64 x5), (12, .i .i64 x6), (13, .i .i64 x7), (14, .i .i64 x8), (15, .i .i64 x9)] ⟨1, [(0, some ⟨0, false, .row [.b] x10⟩)]⟩ (exitNorm fi59.ann 500008 1 K) = plumblineref02_Rounded_c7T plumblineref02_Rounded_c6 plumblineref02_Rounded_l0 plumblineref02_Rounded_l2 k x1 x2 x3 x4 x5 x6 x7 x8 x9 x10 (fun q1 => K .ret [(10, .i .u64 q1)] ⟨1, [(0, some ⟨0, false, .row [.b] x10⟩)]⟩) := by kernel_rfl
theorem plumblineref02_Rounded_n3_c6_gen {R : Type} (plumblineref02_Most : plumblineref02_MostY R) (plumblineref02_Inf : plumblineref02_InfY R) (plumblineref02_sign : plumblineref02_signY R) (plumblineref02_Size : plumblineref02_SizeY R) (plumblineref02_length : plumblineref02_lengthY R) (plumblineref02_length_n0 : plumblineref02_length_n0Y R) (plumblineref02_Rounded_l0 : plumblineref02_Rounded_l0Y R) (plumblineref02_Rounded_n3_l0 : plumblineref02_Rounded_n3_l0Y R) (plumblineref02_Rounded_c1 : plumblineref02_Rounded_c1Y R) (plumblineref02_Rounded_l2 : plumblineref02_Rounded_l2Y R) (plumblineref02_Rounded_n3_l1 : plumblineref02_Rounded_n3_l1Y R) (plumblineref02_Rounded_c3 : plumblineref02_Rounded_c3Y R) (plumblineref02_Rounded_n3_c2 : plumblineref02_Rounded_n3_c2Y R) (plumblineref02_Rounded_c4 : plumblineref02_Rounded_c4Y R) (plumblineref02_Rounded_n3_c3 : plumblineref02_Rounded_n3_c3Y R) (plumblineref02_Rounded_c5 : plumblineref02_Rounded_c5Y R) (plumblineref02_Rounded_n3_c4 : plumblineref02_Rounded_n3_c4Y R) (plumblineref02_Rounded_c6 : plumblineref02_Rounded_c6Y R) (plumblineref02_Rounded_n3_c5 : plumblineref02_Rounded_n3_c5Y R) (k : Nat) (x1 : Int) (x2 : Int) (x3 : Bool) (x4 : Int) (x5 : Int) (x6 : Int) (x7 : Int) (x8 : Int) (x9 : Int) (K : Kont R) :
    (fun C => codeK C (run C 4)) (mkCx Ty exts [(35, true, S35G plumblineref02_Most k), (54, true, S54G plumblineref02_Inf k), (55, true, S55G plumblineref02_sign k), (69, true, S69G plumblineref02_Size k), (86, true, S86G plumblineref02_length plumblineref02_length_n0 k)] fi59 [(10, L59_10G plumblineref02_Rounded_l0 plumblineref02_Rounded_n3_l0 k k), (18, L59_18G plumblineref02_Rounded_l2 plumblineref02_Rounded_n3_l1 k k)] [(22, C59_22G plumblineref02_Rounded_c1 k), (40, C59_40G plumblineref02_Rounded_c3 plumblineref02_Rounded_n3_c2 k), (37, C59_37G plumblineref02_Rounded_c4 plumblineref02_Rounded_n3_c3 k), (34, C59_34G plumblineref02_Rounded_c5 plumblineref02_Rounded_n3_c4 k), (32, C59_32G plumblineref02_Rounded_c6 plumblineref02_Rounded_n3_c5 k)]) 0 fi59 (cutAt ((Try.f59).body.getD .skip) 8) [(0, .i .i64 x1), (1, .i .i64 x2), (2, .b x3), (3, .nsl), (4, .i .i64 x4), (11, .i .i64 x5), (12, .i .i64 x6), (13, .i .i64 x7), (14, .i .i64 x8), (15, .i .i64 x9)] ⟨0, []⟩ (exitNorm fi59.ann 500008 0 K) = plumblineref02_Rounded_n3_c6T plumblineref02_Rounded_n3_c5 plumblineref02_Rounded_n3_l0 plumblineref02_Rounded_n3_l1 k x1 x2 x3 x4 x5 x6 x7 x8 x9 (fun q1 => K .ret [(10, .i .u64 q1)] ⟨0, []⟩) := by kernel_rfl
theorem C59_8_cok {R : Type} (k : Nat) : CodeOk Try.prog (cc59_8 k : Cx R) fi59 (cutAt ((Try.f59).body.getD .skip) 8) := cutAt_ok (((cc59_8_ok k).fns 59 fi59 (by kernel_rfl)).2.2.2 ((Try.f59).body.getD .skip) (by kernel_rfl))
theorem C59_8_ok {R : Type} (k : Nat) : CutOk Try.prog (Try.f59).ntmps (cutAt ((Try.f59).body.getD .skip) 8) (C59_8 k : LSum R) := by
  intro pin T H K r h
  unfold C59_8 C59_8G at h
  split at h
  · obtain ⟨ex, T1, H1, h, hb⟩ := codeK_sound (cc59_8_ok k) (run_sound (cc59_8_ok k) 4) _ fi59 _ _ _ _ _ (C59_8_cok k) ((plumblineref02_Rounded_c7_gen plumblineref02_Most plumblineref02_Inf plumblineref02_sign plumblineref02_Size plumblineref02_length plumblineref02_length_n0 plumblineref02_Rounded_l0 plumblineref02_Rounded_n3_l0 plumblineref02_Rounded_c1 plumblineref02_Rounded_l2 plumblineref02_Rounded_n3_l1 plumblineref02_Rounded_c3 plumblineref02_Rounded_n3_c2 plumblineref02_Rounded_c4 plumblineref02_Rounded_n3_c3 plumblineref02_Rounded_c5 plumblineref02_Rounded_n3_c4 plumblineref02_Rounded_c6 plumblineref02_Rounded_n3_c5 k _ _ _ _ _ _ _ _ _ _ K).trans h)
    exact cut_step hb h
  · obtain ⟨ex, T1, H1, h, hb⟩ := codeK_sound (cc59_8_ok k) (run_sound (cc59_8_ok k) 4) _ fi59 _ _ _ _ _ (C59_8_cok k) ((plumblineref02_Rounded_n3_c6_gen plumblineref02_Most plumblineref02_Inf plumblineref02_sign plumblineref02_Size plumblineref02_length plumblineref02_length_n0 plumblineref02_Rounded_l0 plumblineref02_Rounded_n3_l0 plumblineref02_Rounded_c1 plumblineref02_Rounded_l2 plumblineref02_Rounded_n3_l1 plumblineref02_Rounded_c3 plumblineref02_Rounded_n3_c2 plumblineref02_Rounded_c4 plumblineref02_Rounded_n3_c3 plumblineref02_Rounded_c5 plumblineref02_Rounded_n3_c4 plumblineref02_Rounded_c6 plumblineref02_Rounded_n3_c5 k _ _ _ _ _ _ _ _ _ K).trans h)
    exact cut_step hb h
  · cases h
noncomputable def cx59 {R : Type} (k : Nat) : Cx R := mkCx Ty exts [(35, true, S35 k), (54, true, S54 k), (55, true, S55 k), (69, true, S69 k), (86, true, S86 k)] fi59 [(10, L59_10 k k), (18, L59_18 k k)] [(22, C59_22 k), (40, C59_40 k), (37, C59_37 k), (34, C59_34 k), (32, C59_32 k), (8, C59_8 k)]
theorem cx59_ok {R : Type} (k : Nat) : CxOk Try.prog (cx59 k : Cx R) := mkCx_ok (c := ((Try.f59).body.getD .skip)) ty_ok mixed exts_ok (allSum_cons (S35_ok k) en35 (allSum_cons (S54_ok k) en54 (allSum_cons (S55_ok k) en55 (allSum_cons (S69_ok k) en69 (allSum_cons (S86_ok k) en86 allSum_nil))))) Try.func59 en59 (by kernel_rfl) (by kernel_rfl) (allLoop_loop (by kernel_rfl) (L59_10_ok k k) (allLoop_loop (by kernel_rfl) (L59_18_ok k k) allLoop_nil)) (allCut_cons (C59_22_ok k) (by kernel_rfl) (allCut_cons (C59_40_ok k) (by kernel_rfl) (allCut_cons (C59_37_ok k) (by kernel_rfl) (allCut_cons (C59_34_ok k) (by kernel_rfl) (allCut_cons (C59_32_ok k) (by kernel_rfl) (allCut_cons (C59_8_ok k) (by kernel_rfl) allCut_nil))))))
@[reducible] def plumblineref02_RoundedY (R : Type) : Type := Nat → Int → Int → Bool → Int → (List Bool) → (Int → Option R) → Option R
noncomputable def plumblineref02_RoundedT {R : Type} (plumblineref02_Rounded_c7 : plumblineref02_Rounded_c7Y R) (plumblineref02_Size : plumblineref02_SizeY R) (plumblineref02_length : plumblineref02_lengthY R) (plumblineref02_sign : plumblineref02_signY R) (k : Nat) (a1 : Int) (a2 : Int) (a3 : Bool) (a4 : Int) (a5 : List Bool) (K0 : Int → Option R) : Option R :=
  plumblineref02_Size k a1 (fun r1 r2 r3 =>
    plumblineref02_length k a5 (fun r4 =>
      cond (r4 == 0) (
        plumblineref02_sign k a1 a3 (fun r5 =>
          K0 r5)) (
        cond (decide ((Wi64 ((Wi64 ((Wi64 (a4 + r4)) - 1)) - r1)) < r3)) (
          plumblineref02_Rounded_c7 k a1 a2 a3 a4 r1 r2 r3 r4 r3 a5 (fun r6 =>
            K0 r6)) (
          plumblineref02_Rounded_c7 k a1 a2 a3 a4 r1 r2 r3 r4 (Wi64 ((Wi64 ((Wi64 (a4 + r4)) - 1)) - r1)) a5 (fun r7 =>
            K0 r7)))))
noncomputable def plumblineref02_Rounded {R : Type} (k : Nat) (a1 : Int) (a2 : Int) (a3 : Bool) (a4 : Int) (a5 : List Bool) (K0 : Int → Option R) : Option R := plumblineref02_RoundedT plumblineref02_Rounded_c7 plumblineref02_Size plumblineref02_length plumblineref02_sign k a1 a2 a3 a4 a5 K0
theorem plumblineref02_Rounded_gen {R : Type} (plumblineref02_Most : plumblineref02_MostY R) (plumblineref02_Inf : plumblineref02_InfY R) (plumblineref02_sign : plumblineref02_signY R) (plumblineref02_Size : plumblineref02_SizeY R) (plumblineref02_length : plumblineref02_lengthY R) (plumblineref02_length_n0 : plumblineref02_length_n0Y R) (plumblineref02_Rounded_l0 : plumblineref02_Rounded_l0Y R) (plumblineref02_Rounded_n3_l0 : plumblineref02_Rounded_n3_l0Y R) (plumblineref02_Rounded_c1 : plumblineref02_Rounded_c1Y R) (plumblineref02_Rounded_l2 : plumblineref02_Rounded_l2Y R) (plumblineref02_Rounded_n3_l1 : plumblineref02_Rounded_n3_l1Y R) (plumblineref02_Rounded_c3 : plumblineref02_Rounded_c3Y R) (plumblineref02_Rounded_n3_c2 : plumblineref02_Rounded_n3_c2Y R) (plumblineref02_Rounded_c4 : plumblineref02_Rounded_c4Y R) (plumblineref02_Rounded_n3_c3 : plumblineref02_Rounded_n3_c3Y R) (plumblineref02_Rounded_c5 : plumblineref02_Rounded_c5Y R) (plumblineref02_Rounded_n3_c4 : plumblineref02_Rounded_n3_c4Y R) (plumblineref02_Rounded_c6 : plumblineref02_Rounded_c6Y R) (plumblineref02_Rounded_n3_c5 : plumblineref02_Rounded_n3_c5Y R) (plumblineref02_Rounded_c7 : plumblineref02_Rounded_c7Y R) (plumblineref02_Rounded_n3_c6 : plumblineref02_Rounded_n3_c6Y R) (k : Nat) (a1 : Int) (a2 : Int) (a3 : Bool) (a4 : Int) (a5 : List Bool) (K : AV → Heap → Option R) :
    fnK (mkCx Ty exts [(35, true, S35G plumblineref02_Most k), (54, true, S54G plumblineref02_Inf k), (55, true, S55G plumblineref02_sign k), (69, true, S69G plumblineref02_Size k), (86, true, S86G plumblineref02_length plumblineref02_length_n0 k)] fi59 [(10, L59_10G plumblineref02_Rounded_l0 plumblineref02_Rounded_n3_l0 k k), (18, L59_18G plumblineref02_Rounded_l2 plumblineref02_Rounded_n3_l1 k k)] [(22, C59_22G plumblineref02_Rounded_c1 k), (40, C59_40G plumblineref02_Rounded_c3 plumblineref02_Rounded_n3_c2 k), (37, C59_37G plumblineref02_Rounded_c4 plumblineref02_Rounded_n3_c3 k), (34, C59_34G plumblineref02_Rounded_c5 plumblineref02_Rounded_n3_c4 k), (32, C59_32G plumblineref02_Rounded_c6 plumblineref02_Rounded_n3_c5 k), (8, C59_8G plumblineref02_Rounded_c7 plumblineref02_Rounded_n3_c6 k)]) 6 59 [.i .i64 a1, .i .i64 a2, .b a3, .sw 0, .i .i64 a4] ⟨1, [(0, some ⟨0, false, .row [.b] a5⟩)]⟩ K = plumblineref02_RoundedT plumblineref02_Rounded_c7 plumblineref02_Size plumblineref02_length plumblineref02_sign k a1 a2 a3 a4 a5 (fun q1 => K (.i .u64 q1) ⟨1, [(0, some ⟨0, false, .row [.b] a5⟩)]⟩) := by kernel_rfl
@[reducible] def plumblineref02_Rounded_n3Y (R : Type) : Type := Nat → Int → Int → Bool → Int → (Int → Option R) → Option R
noncomputable def plumblineref02_Rounded_n3T {R : Type} (plumblineref02_Rounded_n3_c6 : plumblineref02_Rounded_n3_c6Y R) (plumblineref02_Size : plumblineref02_SizeY R) (plumblineref02_length_n0 : plumblineref02_length_n0Y R) (plumblineref02_sign : plumblineref02_signY R) (k : Nat) (a1 : Int) (a2 : Int) (a3 : Bool) (a4 : Int) (K0 : Int → Option R) : Option R :=
  plumblineref02_Size k a1 (fun r1 r2 r3 =>
    plumblineref02_length_n0 k (fun r4 =>
      cond (r4 == 0) (
        plumblineref02_sign k a1 a3 (fun r5 =>
          K0 r5)) (
        cond (decide ((Wi64 ((Wi64 ((Wi64 (a4 + r4)) - 1)) - r1)) < r3)) (
          plumblineref02_Rounded_n3_c6 k a1 a2 a3 a4 r1 r2 r3 r4 r3 (fun r6 =>
            K0 r6)) (
          plumblineref02_Rounded_n3_c6 k a1 a2 a3 a4 r1 r2 r3 r4 (Wi64 ((Wi64 ((Wi64 (a4 + r4)) - 1)) - r1)) (fun r7 =>
            K0 r7)))))
noncomputable def plumblineref02_Rounded_n3 {R : Type} (k : Nat) (a1 : Int) (a2 : Int) (a3 : Bool) (a4 : Int) (K0 : Int → Option R) : Option R := plumblineref02_Rounded_n3T plumblineref02_Rounded_n3_c6 plumblineref02_Size plumblineref02_length_n0 plumblineref02_sign k a1 a2 a3 a4 K0
theorem plumblineref02_Rounded_n3_gen {R : Type} (plumblineref02_Most : plumblineref02_MostY R) (plumblineref02_Inf : plumblineref02_InfY R) (plumblineref02_sign : plumblineref02_signY R) (plumblineref02_Size : plumblineref02_SizeY R) (plumblineref02_length : plumblineref02_lengthY R) (plumblineref02_length_n0 : plumblineref02_length_n0Y R) (plumblineref02_Rounded_l0 : plumblineref02_Rounded_l0Y R) (plumblineref02_Rounded_n3_l0 : plumblineref02_Rounded_n3_l0Y R) (plumblineref02_Rounded_c1 : plumblineref02_Rounded_c1Y R) (plumblineref02_Rounded_l2 : plumblineref02_Rounded_l2Y R) (plumblineref02_Rounded_n3_l1 : plumblineref02_Rounded_n3_l1Y R) (plumblineref02_Rounded_c3 : plumblineref02_Rounded_c3Y R) (plumblineref02_Rounded_n3_c2 : plumblineref02_Rounded_n3_c2Y R) (plumblineref02_Rounded_c4 : plumblineref02_Rounded_c4Y R) (plumblineref02_Rounded_n3_c3 : plumblineref02_Rounded_n3_c3Y R) (plumblineref02_Rounded_c5 : plumblineref02_Rounded_c5Y R) (plumblineref02_Rounded_n3_c4 : plumblineref02_Rounded_n3_c4Y R) (plumblineref02_Rounded_c6 : plumblineref02_Rounded_c6Y R) (plumblineref02_Rounded_n3_c5 : plumblineref02_Rounded_n3_c5Y R) (plumblineref02_Rounded_c7 : plumblineref02_Rounded_c7Y R) (plumblineref02_Rounded_n3_c6 : plumblineref02_Rounded_n3_c6Y R) (k : Nat) (a1 : Int) (a2 : Int) (a3 : Bool) (a4 : Int) (K : AV → Heap → Option R) :
    fnK (mkCx Ty exts [(35, true, S35G plumblineref02_Most k), (54, true, S54G plumblineref02_Inf k), (55, true, S55G plumblineref02_sign k), (69, true, S69G plumblineref02_Size k), (86, true, S86G plumblineref02_length plumblineref02_length_n0 k)] fi59 [(10, L59_10G plumblineref02_Rounded_l0 plumblineref02_Rounded_n3_l0 k k), (18, L59_18G plumblineref02_Rounded_l2 plumblineref02_Rounded_n3_l1 k k)] [(22, C59_22G plumblineref02_Rounded_c1 k), (40, C59_40G plumblineref02_Rounded_c3 plumblineref02_Rounded_n3_c2 k), (37, C59_37G plumblineref02_Rounded_c4 plumblineref02_Rounded_n3_c3 k), (34, C59_34G plumblineref02_Rounded_c5 plumblineref02_Rounded_n3_c4 k), (32, C59_32G plumblineref02_Rounded_c6 plumblineref02_Rounded_n3_c5 k), (8, C59_8G plumblineref02_Rounded_c7 plumblineref02_Rounded_n3_c6 k)]) 6 59 [.i .i64 a1, .i .i64 a2, .b a3, .nsl, .i .i64 a4] ⟨0, []⟩ K = plumblineref02_Rounded_n3T plumblineref02_Rounded_n3_c6 plumblineref02_Size plumblineref02_length_n0 plumblineref02_sign k a1 a2 a3 a4 (fun q1 => K (.i .u64 q1) ⟨0, []⟩) := by kernel_rfl
noncomputable def S59G {R : Type} (plumblineref02_Rounded : plumblineref02_RoundedY R) (plumblineref02_Rounded_n3 : plumblineref02_Rounded_n3Y R) (k : Nat) : Sum R := fun args H K => match args, H with
  | [.i .i64 a1, .i .i64 a2, .b a3, .sw 0, .i .i64 a4], ⟨1, [(0, some ⟨0, false, .row [.b] a5⟩)]⟩ => plumblineref02_Rounded k a1 a2 a3 a4 a5 (fun q1 => K (.i .u64 q1) ⟨1, [(0, some ⟨0, false, .row [.b] a5⟩)]⟩)
  | [.i .i64 a1, .i .i64 a2, .b a3, .nsl, .i .i64 a4], ⟨0, []⟩ => plumblineref02_Rounded_n3 k a1 a2 a3 a4 (fun q1 => K (.i .u64 q1) ⟨0, []⟩)
  | _, _ => none
noncomputable def S59 {R : Type} (k : Nat) : Sum R := S59G plumblineref02_Rounded plumblineref02_Rounded_n3 k
theorem S59_ok0 {R : Type} (k : Nat) : SumOk Try.prog 59 false (S59 k : Sum R) := by
  intro args H K r h
  unfold S59 S59G at h
  split at h
  · exact fnK_sound (cx59_ok k) 6 59 _ _ K r ((plumblineref02_Rounded_gen plumblineref02_Most plumblineref02_Inf plumblineref02_sign plumblineref02_Size plumblineref02_length plumblineref02_length_n0 plumblineref02_Rounded_l0 plumblineref02_Rounded_n3_l0 plumblineref02_Rounded_c1 plumblineref02_Rounded_l2 plumblineref02_Rounded_n3_l1 plumblineref02_Rounded_c3 plumblineref02_Rounded_n3_c2 plumblineref02_Rounded_c4 plumblineref02_Rounded_n3_c3 plumblineref02_Rounded_c5 plumblineref02_Rounded_n3_c4 plumblineref02_Rounded_c6 plumblineref02_Rounded_n3_c5 plumblineref02_Rounded_c7 plumblineref02_Rounded_n3_c6 k _ _ _ _ _ K).trans h)
  · exact fnK_sound (cx59_ok k) 6 59 _ _ K r ((plumblineref02_Rounded_n3_gen plumblineref02_Most plumblineref02_Inf plumblineref02_sign plumblineref02_Size plumblineref02_length plumblineref02_length_n0 plumblineref02_Rounded_l0 plumblineref02_Rounded_n3_l0 plumblineref02_Rounded_c1 plumblineref02_Rounded_l2 plumblineref02_Rounded_n3_l1 plumblineref02_Rounded_c3 plumblineref02_Rounded_n3_c2 plumblineref02_Rounded_c4 plumblineref02_Rounded_n3_c3 plumblineref02_Rounded_c5 plumblineref02_Rounded_n3_c4 plumblineref02_Rounded_c6 plumblineref02_Rounded_n3_c5 plumblineref02_Rounded_c7 plumblineref02_Rounded_n3_c6 k _ _ _ _ K).trans h)
  · cases h
theorem S59_ok {R : Type} (k : Nat) : SumOk Try.prog 59 true (S59 k : Sum R) := by
  refine sumOk_keep (S59_ok0 k) ?_
  intro args H K r h
  unfold S59 S59G at h ⊢
  split at h
  · refine Eq.trans ?_ h
    show plumblineref02_Rounded k _ _ _ _ _ _ = plumblineref02_Rounded k _ _ _ _ _ _
    congr 1
    all_goals first | exact (funext fun q1 => if_pos (keeps_app _ _ _ [])) | skip
  · refine Eq.trans ?_ h
    show plumblineref02_Rounded_n3 k _ _ _ _ _ = plumblineref02_Rounded_n3 k _ _ _ _ _
    congr 1
    all_goals first | exact (funext fun q1 => if_pos (keeps_app _ _ _ [])) | skip
  · cases h
-- function 42: plumbline/plumblineref02.Sqrt
noncomputable def fi42 : FnI := ⟨42, Try.f42, [(100008, [0, 1, 9, 10]), (3008001, [0, 1, 9, 10])]⟩
theorem en42 : Enters Try.prog 42 := enters_of Try.func42 (c := ((Try.f42).body.getD .skip)) (by kernel_rfl) (by kernel_rfl)
@[reducible] def plumblineref02_Sqrt_l0Y (R : Type) : Type := Nat → Nat → Int → Int → Int → Int → Int → (Int → Int → Int → Option R) → Option R
noncomputable def plumblineref02_Sqrt_l0B {R : Type} (plumblineref01_Len : plumblineref01_LenY R) (plumblineref01_Shl : plumblineref01_ShlY R) (k : Nat) (rec : Int → Int → Int → Int → Int → Option R) (x1 : Int) (x2 : Int) (x3 : Int) (x4 : Int) (x5 : Int) (K0 : Int → Int → Int → Option R) : Option R :=
  plumblineref01_Len k x4 x5 (fun yr1 =>
    cond (decide (yr1 < 126)) (
      plumblineref01_Shl k x4 x5 1 (fun yr2 yr3 =>
        rec x1 x2 (Wi64 (x3 - 1)) yr2 yr3)) (
      K0 x3 x4 x5))
noncomputable def plumblineref02_Sqrt_l0 {R : Type} (k : Nat) : Nat → Int → Int → Int → Int → Int → (Int → Int → Int → Option R) → Option R
  | 0, _, _, _, _, _, _ => none
  | n + 1, x1, x2, x3, x4, x5, K0 => plumblineref02_Sqrt_l0B plumblineref01_Len plumblineref01_Shl k (fun x1 x2 x3 x4 x5 => plumblineref02_Sqrt_l0 k n x1 x2 x3 x4 x5 K0) x1 x2 x3 x4 x5 K0
noncomputable def cx42_8 {R : Type} (k : Nat) : Cx R := mkCx Ty exts [(27, true, S27 k), (37, true, S37 k), (51, true, S51 k), (52, true, S52 k), (53, true, S53 k), (56, true, S56 k), (58, true, S58 k), (59, true, S59 k), (76, true, S76 k), (77, true, S77 k), (78, true, S78 k)] fi42 [] []
theorem cx42_8_ok {R : Type} (k : Nat) : CxOk Try.prog (cx42_8 k : Cx R) := mkCx_ok (c := ((Try.f42).body.getD .skip)) ty_ok mixed exts_ok (allSum_cons (S27_ok k) en27 (allSum_cons (S37_ok k) en37 (allSum_cons (S51_ok k) en51 (allSum_cons (S52_ok k) en52 (allSum_cons (S53_ok k) en53 (allSum_cons (S56_ok k) en56 (allSum_cons (S58_ok k) en58 (allSum_cons (S59_ok k) en59 (allSum_cons (S76_ok k) en76 (allSum_cons (S77_ok k) en77 (allSum_cons (S78_ok k) en78 allSum_nil))))))))))) Try.func42 en42 (by kernel_rfl) (by kernel_rfl) allLoop_nil allCut_nil
noncomputable def L42_8G {R : Type} (plumblineref02_Sqrt_l0 : plumblineref02_Sqrt_l0Y R) (k n : Nat) : LSum R := fun pin T H K => match pin, T, H with
  | 0, [(0, .i .i64 x1), (1, .i .i64 x2), (9, .i .i64 x3), (10, .ptr 0 0 0 0 0)], ⟨1, [(0, some ⟨0, false, .cells [.i .u64 x4, .i .u64 x5]⟩)]⟩ => plumblineref02_Sqrt_l0 k n x1 x2 x3 x4 x5 (fun q3 q4 q5 => K (.exit 1) [(0, .i .i64 x1), (1, .i .i64 x2), (9, .i .i64 q3), (10, .ptr 0 0 0 0 0)] ⟨1, [(0, some ⟨0, false, .cells [.i .u64 q4, .i .u64 q5]⟩)]⟩)
  | _, _, _ => none
noncomputable def L42_8 {R : Type} (k n : Nat) : LSum R := L42_8G plumblineref02_Sqrt_l0 k n
theorem plumblineref02_Sqrt_l0_gen {R : Type} (plumblineref02_Class : plumblineref02_ClassY R) (plumblineref02_Nan : plumblineref02_NanY R) (plumblineref02_Below : plumblineref02_BelowY R) (plumblineref02_isNan : plumblineref02_isNanY R) (plumblineref02_isInf : plumblineref02_isInfY R) (plumblineref02_value : plumblineref02_valueY R) (plumblineref02_bits : plumblineref02_bitsY R) (plumblineref02_Rounded : plumblineref02_RoundedY R) (plumblineref02_Rounded_n3 : plumblineref02_Rounded_n3Y R) (plumblineref01_Len : plumblineref01_LenY R) (plumblineref01_Shl : plumblineref01_ShlY R) (plumblineref01_Sqrt : plumblineref01_SqrtY R) (plumblineref02_Sqrt_l0 : plumblineref02_Sqrt_l0Y R) (k n : Nat) (x1 : Int) (x2 : Int) (x3 : Int) (x4 : Int) (x5 : Int) (K : Kont R) :
    (fun C => codeK C (run C 4)) (mkCx Ty exts [(27, true, S27G plumblineref02_Class k), (37, true, S37G plumblineref02_Nan k), (51, true, S51G plumblineref02_Below k), (52, true, S52G plumblineref02_isNan k), (53, true, S53G plumblineref02_isInf k), (56, true, S56G plumblineref02_value k), (58, true, S58G plumblineref02_bits k), (59, true, S59G plumblineref02_Rounded plumblineref02_Rounded_n3 k), (76, true, S76G plumblineref01_Len k), (77, true, S77G plumblineref01_Shl k), (78, true, S78G plumblineref01_Sqrt k)] fi42 [] []) 0 fi42 (loopAt ((Try.f42).body.getD .skip) 8) [(0, .i .i64 x1), (1, .i .i64 x2), (9, .i .i64 x3), (10, .ptr 0 0 0 0 0)] ⟨1, [(0, some ⟨0, false, .cells [.i .u64 x4, .i .u64 x5]⟩)]⟩ (fun ex T H => match (generalizing := false) ex with
      | .normal => normAt (some [0, 1, 9, 10]) 0 T H (fun T H => L42_8G plumblineref02_Sqrt_l0 k n 0 T H K)
      | ex => exitNorm fi42.ann 8 0 K ex T H) =
    plumblineref02_Sqrt_l0B plumblineref01_Len plumblineref01_Shl k (fun x1 x2 x3 x4 x5 => plumblineref02_Sqrt_l0 k n x1 x2 x3 x4 x5 (fun q3 q4 q5 => K (.exit 1) [(0, .i .i64 x1), (1, .i .i64 x2), (9, .i .i64 q3), (10, .ptr 0 0 0 0 0)] ⟨1, [(0, some ⟨0, false, .cells [.i .u64 q4, .i .u64 q5]⟩)]⟩)) x1 x2 x3 x4 x5 (fun q3 q4 q5 => K (.exit 1) [(0, .i .i64 x1), (1, .i .i64 x2), (9, .i .i64 q3), (10, .ptr 0 0 0 0 0)] ⟨1, [(0, some ⟨0, false, .cells [.i .u64 q4, .i .u64 q5]⟩)]⟩) := by kernel_rfl
theorem L42_8_cok {R : Type} (k : Nat) : CodeOk Try.prog (cx42_8 k : Cx R) fi42 (loopAt ((Try.f42).body.getD .skip) 8) := loopAt_ok (((cx42_8_ok k).fns 42 fi42 (by kernel_rfl)).2.2.2 ((Try.f42).body.getD .skip) (by kernel_rfl))
theorem L42_8_ok {R : Type} (k : Nat) : ∀ n, LoopOk Try.prog (Try.f42).ntmps (loopAt ((Try.f42).body.getD .skip) 8) (L42_8 k n : LSum R)
  | 0 => by
    intro pin T H K r h
    unfold L42_8 L42_8G at h
    split at h
    all_goals exact nomatch (show (none : Option R) = some r from h)
  | n + 1 => by
    intro pin T H K r h
    unfold L42_8 L42_8G at h
    split at h
    · obtain ⟨ex, T1, H1, h, hb⟩ := codeK_sound (cx42_8_ok k) (run_sound (cx42_8_ok k) 4) _ fi42 _ _ _ _ _ (L42_8_cok k) ((plumblineref02_Sqrt_l0_gen plumblineref02_Class plumblineref02_Nan plumblineref02_Below plumblineref02_isNan plumblineref02_isInf plumblineref02_value plumblineref02_bits plumblineref02_Rounded plumblineref02_Rounded_n3 plumblineref01_Len plumblineref01_Shl plumblineref01_Sqrt plumblineref02_Sqrt_l0 k n _ _ _ _ _ K).trans h)
      exact loop_step (fun T H hh => L42_8_ok k n _ T H K r hh) hb h
    · cases h
noncomputable def cx42 {R : Type} (k : Nat) : Cx R := mkCx Ty exts [(27, true, S27 k), (37, true, S37 k), (51, true, S51 k), (52, true, S52 k), (53, true, S53 k), (56, true, S56 k), (58, true, S58 k), (59, true, S59 k), (76, true, S76 k), (77, true, S77 k), (78, true, S78 k)] fi42 [(8, L42_8 k k)] []
theorem cx42_ok {R : Type} (k : Nat) : CxOk Try.prog (cx42 k : Cx R) := mkCx_ok (c := ((Try.f42).body.getD .skip)) ty_ok mixed exts_ok (allSum_cons (S27_ok k) en27 (allSum_cons (S37_ok k) en37 (allSum_cons (S51_ok k) en51 (allSum_cons (S52_ok k) en52 (allSum_cons (S53_ok k) en53 (allSum_cons (S56_ok k) en56 (allSum_cons (S58_ok k) en58 (allSum_cons (S59_ok k) en59 (allSum_cons (S76_ok k) en76 (allSum_cons (S77_ok k) en77 (allSum_cons (S78_ok k) en78 allSum_nil))))))))))) Try.func42 en42 (by kernel_rfl) (by kernel_rfl) (allLoop_loop (by kernel_rfl) (L42_8_ok k k) allLoop_nil) allCut_nil
@[reducible] def plumblineref02_SqrtY (R : Type) : Type := Nat → Int → Int → Int → (Int → Option R) → Option R
noncomputable def plumblineref02_SqrtT {R : Type} (plumblineref01_Shl : plumblineref01_ShlY R) (plumblineref01_Sqrt : plumblineref01_SqrtY R) (plumblineref02_Below : plumblineref02_BelowY R) (plumblineref02_Class : plumblineref02_ClassY R) (plumblineref02_Nan : plumblineref02_NanY R) (plumblineref02_Rounded : plumblineref02_RoundedY R) (plumblineref02_Sqrt_l0 : plumblineref02_Sqrt_l0Y R) (plumblineref02_bits : plumblineref02_bitsY R) (plumblineref02_isInf : plumblineref02_isInfY R) (plumblineref02_isNan : plumblineref02_isNanY R) (plumblineref02_value : plumblineref02_valueY R) (k : Nat) (a1 : Int) (a2 : Int) (a3 : Int) (K0 : Int → Option R) : Option R :=
  plumblineref02_Class k a1 a3 (fun r1 =>
    plumblineref02_isNan k a1 a3 (fun r2 =>
      cond r2 (
        plumblineref02_Nan k a1 (fun r3 =>
          K0 r3)) (
        plumblineref02_Below k a1 a3 (fun r4 =>
          cond r4 (
            cond (!(r1 == 1)) (
              plumblineref02_Nan k a1 (fun r5 =>
                K0 r5)) (
              plumblineref02_isInf k a1 a3 (fun r6 =>
                cond r6 (
                  K0 a3) (
                  cond (r1 == 1) (
                    K0 a3) (
                    plumblineref02_value k a1 a3 (fun r7 r8 =>
                      plumblineref02_Sqrt_l0 k k a1 a2 r8 0 r7 (fun r9 r10 r11 =>
                        cond ((Int.tmod r9 2) != 0) (
                          plumblineref01_Shl k r10 r11 1 (fun r12 r13 =>
                            plumblineref01_Sqrt k r12 r13 (fun r14 r15 r16 =>
                              plumblineref02_bits k r14 (fun r17 =>
                                cond (Nat.ble ((1 + (List.length r17)) * 1) 70368744177664) (
                                  plumblineref02_Rounded k a1 a2 false (Wi64 ((Wi64 (Int.tdiv (Wi64 (r9 - 1)) 2)) - 1)) ([(!((r15 == 0) && (r16 == 0)))] ++ r17) (fun r18 =>
                                    K0 r18)) (
                                  none)) (
                                plumblineref02_Rounded k a1 a2 false (Wi64 ((Wi64 (Int.tdiv (Wi64 (r9 - 1)) 2)) - 1)) [(!((r15 == 0) && (r16 == 0)))] (fun r19 =>
                                  K0 r19))))) (
                          plumblineref01_Sqrt k r10 r11 (fun r20 r21 r22 =>
                            plumblineref02_bits k r20 (fun r23 =>
                              cond (Nat.ble ((1 + (List.length r23)) * 1) 70368744177664) (
                                plumblineref02_Rounded k a1 a2 false (Wi64 ((Wi64 (Int.tdiv r9 2)) - 1)) ([(!((r21 == 0) && (r22 == 0)))] ++ r23) (fun r24 =>
                                  K0 r24)) (
                                none)) (
                              plumblineref02_Rounded k a1 a2 false (Wi64 ((Wi64 (Int.tdiv r9 2)) - 1)) [(!((r21 == 0) && (r22 == 0)))] (fun r25 =>
                                K0 r25))))))))))) (
            plumblineref02_isInf k a1 a3 (fun r26 =>
              cond r26 (
                K0 a3) (
                cond (r1 == 1) (
                  K0 a3) (
                  plumblineref02_value k a1 a3 (fun r27 r28 =>
                    plumblineref02_Sqrt_l0 k k a1 a2 r28 0 r27 (fun r29 r30 r31 =>
                      cond ((Int.tmod r29 2) != 0) (
                        plumblineref01_Shl k r30 r31 1 (fun r32 r33 =>
                          plumblineref01_Sqrt k r32 r33 (fun r34 r35 r36 =>
                            plumblineref02_bits k r34 (fun r37 =>
                              cond (Nat.ble ((1 + (List.length r37)) * 1) 70368744177664) (
                                plumblineref02_Rounded k a1 a2 false (Wi64 ((Wi64 (Int.tdiv (Wi64 (r29 - 1)) 2)) - 1)) ([(!((r35 == 0) && (r36 == 0)))] ++ r37) (fun r38 =>
                                  K0 r38)) (
                                none)) (
                              plumblineref02_Rounded k a1 a2 false (Wi64 ((Wi64 (Int.tdiv (Wi64 (r29 - 1)) 2)) - 1)) [(!((r35 == 0) && (r36 == 0)))] (fun r39 =>
                                K0 r39))))) (
                        plumblineref01_Sqrt k r30 r31 (fun r40 r41 r42 =>
                          plumblineref02_bits k r40 (fun r43 =>
                            cond (Nat.ble ((1 + (List.length r43)) * 1) 70368744177664) (
                              plumblineref02_Rounded k a1 a2 false (Wi64 ((Wi64 (Int.tdiv r29 2)) - 1)) ([(!((r41 == 0) && (r42 == 0)))] ++ r43) (fun r44 =>
                                K0 r44)) (
                              none)) (
                            plumblineref02_Rounded k a1 a2 false (Wi64 ((Wi64 (Int.tdiv r29 2)) - 1)) [(!((r41 == 0) && (r42 == 0)))] (fun r45 =>
                              K0 r45))))))))))))))
noncomputable def plumblineref02_Sqrt {R : Type} (k : Nat) (a1 : Int) (a2 : Int) (a3 : Int) (K0 : Int → Option R) : Option R := plumblineref02_SqrtT plumblineref01_Shl plumblineref01_Sqrt plumblineref02_Below plumblineref02_Class plumblineref02_Nan plumblineref02_Rounded plumblineref02_Sqrt_l0 plumblineref02_bits plumblineref02_isInf plumblineref02_isNan plumblineref02_value k a1 a2 a3 K0
theorem plumblineref02_Sqrt_gen {R : Type} (plumblineref02_Class : plumblineref02_ClassY R) (plumblineref02_Nan : plumblineref02_NanY R) (plumblineref02_Below : plumblineref02_BelowY R) (plumblineref02_isNan : plumblineref02_isNanY R) (plumblineref02_isInf : plumblineref02_isInfY R) (plumblineref02_value : plumblineref02_valueY R) (plumblineref02_bits : plumblineref02_bitsY R) (plumblineref02_Rounded : plumblineref02_RoundedY R) (plumblineref02_Rounded_n3 : plumblineref02_Rounded_n3Y R) (plumblineref01_Len : plumblineref01_LenY R) (plumblineref01_Shl : plumblineref01_ShlY R) (plumblineref01_Sqrt : plumblineref01_SqrtY R) (plumblineref02_Sqrt_l0 : plumblineref02_Sqrt_l0Y R) (k : Nat) (a1 : Int) (a2 : Int) (a3 : Int) (K : AV → Heap → Option R) :
    fnK (mkCx Ty exts [(27, true, S27G plumblineref02_Class k), (37, true, S37G plumblineref02_Nan k), (51, true, S51G plumblineref02_Below k), (52, true, S52G plumblineref02_isNan k), (53, true, S53G plumblineref02_isInf k), (56, true, S56G plumblineref02_value k), (58, true, S58G plumblineref02_bits k), (59, true, S59G plumblineref02_Rounded plumblineref02_Rounded_n3 k), (76, true, S76G plumblineref01_Len k), (77, true, S77G plumblineref01_Shl k), (78, true, S78G plumblineref01_Sqrt k)] fi42 [(8, L42_8G plumblineref02_Sqrt_l0 k k)] []) 6 42 [.i .i64 a1, .i .i64 a2, .i .u64 a3] ⟨0, []⟩ K = plumblineref02_SqrtT plumblineref01_Shl plumblineref01_Sqrt plumblineref02_Below plumblineref02_Class plumblineref02_Nan plumblineref02_Rounded plumblineref02_Sqrt_l0 plumblineref02_bits plumblineref02_isInf plumblineref02_isNan plumblineref02_value k a1 a2 a3 (fun q1 => K (.i .u64 q1) ⟨0, []⟩) := by kernel_rfl
noncomputable def S42G {R : Type} (plumblineref02_Sqrt : plumblineref02_SqrtY R) (k : Nat) : Sum R := fun args H K => match args, H with
  | [.i .i64 a1, .i .i64 a2, .i .u64 a3], ⟨0, []⟩ => plumblineref02_Sqrt k a1 a2 a3 (fun q1 => K (.i .u64 q1) ⟨0, []⟩)
  | _, _ => none
noncomputable def S42 {R : Type} (k : Nat) : Sum R := S42G plumblineref02_Sqrt k
theorem S42_ok0 {R : Type} (k : Nat) : SumOk Try.prog 42 false (S42 k : Sum R) := by
  intro args H K r h
  unfold S42 S42G at h
  split at h
  · exact fnK_sound (cx42_ok k) 6 42 _ _ K r ((plumblineref02_Sqrt_gen plumblineref02_Class plumblineref02_Nan plumblineref02_Below plumblineref02_isNan plumblineref02_isInf plumblineref02_value plumblineref02_bits plumblineref02_Rounded plumblineref02_Rounded_n3 plumblineref01_Len plumblineref01_Shl plumblineref01_Sqrt plumblineref02_Sqrt_l0 k _ _ _ K).trans h)
  · cases h
theorem S42_ok {R : Type} (k : Nat) : SumOk Try.prog 42 true (S42 k : Sum R) := by
  refine sumOk_keep (S42_ok0 k) ?_
  intro args H K r h
  unfold S42 S42G at h ⊢
  split at h
  · refine Eq.trans ?_ h
    show plumblineref02_Sqrt k _ _ _ _ = plumblineref02_Sqrt k _ _ _ _
    congr 1
    all_goals first | exact (funext fun q1 => if_pos (keeps_app _ _ _ [])) | skip
  · cases h
-- function 23: plumbline/plumblineref02.Round
noncomputable def fi23 : FnI := ⟨23, Try.f23, []⟩
theorem en23 : Enters Try.prog 23 := enters_of Try.func23 (c := ((Try.f23).body.getD .skip)) (by kernel_rfl) (by kernel_rfl)
noncomputable def cx23 {R : Type} (k : Nat) : Cx R := mkCx Ty exts [(59, true, S59 k), (66, true, S66 k)] fi23 [] []
theorem cx23_ok {R : Type} (k : Nat) : CxOk Try.prog (cx23 k : Cx R) := mkCx_ok (c := ((Try.f23).body.getD .skip)) ty_ok mixed exts_ok (allSum_cons (S59_ok k) en59 (allSum_cons (S66_ok k) en66 allSum_nil)) Try.func23 en23 (by kernel_rfl) (by kernel_rfl) allLoop_nil allCut_nil
@[reducible] def plumblineref02_RoundY (R : Type) : Type := Nat → Int → Int → Bool → Int → Int → Int → Bool → (Int → Option R) → Option R
noncomputable def plumblineref02_RoundT {R : Type} (plumblineref01_Bits : plumblineref01_BitsY R) (plumblineref02_Rounded : plumblineref02_RoundedY R) (k : Nat) (a1 : Int) (a2 : Int) (a3 : Bool) (a4 : Int) (a5 : Int) (a6 : Int) (a7 : Bool) (K0 : Int → Option R) : Option R :=
  cond (decide (a6 < (-4000))) (
    plumblineref01_Bits k a4 a5 (fun r1 =>
      cond (Nat.ble ((2 + (List.length r1)) * 1) 70368744177664) (
        plumblineref02_Rounded k a1 a2 a3 (-4002) ([a7, false] ++ r1) (fun r2 =>
          K0 r2)) (
        none))) (
    cond (decide (a6 > 4000)) (
      plumblineref01_Bits k a4 a5 (fun r3 =>
        cond (Nat.ble ((2 + (List.length r3)) * 1) 70368744177664) (
          plumblineref02_Rounded k a1 a2 a3 3998 ([a7, false] ++ r3) (fun r4 =>
            K0 r4)) (
          none))) (
      plumblineref01_Bits k a4 a5 (fun r5 =>
        cond (Nat.ble ((2 + (List.length r5)) * 1) 70368744177664) (
          plumblineref02_Rounded k a1 a2 a3 (Wi64 (a6 - 2)) ([a7, false] ++ r5) (fun r6 =>
            K0 r6)) (
          none))))
noncomputable def plumblineref02_Round {R : Type} (k : Nat) (a1 : Int) (a2 : Int) (a3 : Bool) (a4 : Int) (a5 : Int) (a6 : Int) (a7 : Bool) (K0 : Int → Option R) : Option R := plumblineref02_RoundT plumblineref01_Bits plumblineref02_Rounded k a1 a2 a3 a4 a5 a6 a7 K0
theorem plumblineref02_Round_gen {R : Type} (plumblineref02_Rounded : plumblineref02_RoundedY R) (plumblineref02_Rounded_n3 : plumblineref02_Rounded_n3Y R) (plumblineref01_Bits : plumblineref01_BitsY R) (k : Nat) (a1 : Int) (a2 : Int) (a3 : Bool) (a4 : Int) (a5 : Int) (a6 : Int) (a7 : Bool) (K : AV → Heap → Option R) :
    fnK (mkCx Ty exts [(59, true, S59G plumblineref02_Rounded plumblineref02_Rounded_n3 k), (66, true, S66G plumblineref01_Bits k)] fi23 [] []) 6 23 [.i .i64 a1, .i .i64 a2, .b a3, .agg [.i .u64 a4, .i .u64 a5], .i .i64 a6, .b a7] ⟨0, []⟩ K = plumblineref02_RoundT plumblineref01_Bits plumblineref02_Rounded k a1 a2 a3 a4 a5 a6 a7 (fun q1 => K (.i .u64 q1) ⟨0, []⟩) := by kernel_rfl
noncomputable def S23G {R : Type} (plumblineref02_Round : plumblineref02_RoundY R) (k : Nat) : Sum R := fun args H K => match args, H with
  | [.i .i64 a1, .i .i64 a2, .b a3, .agg [.i .u64 a4, .i .u64 a5], .i .i64 a6, .b a7], ⟨0, []⟩ => plumblineref02_Round k a1 a2 a3 a4 a5 a6 a7 (fun q1 => K (.i .u64 q1) ⟨0, []⟩)
  | _, _ => none
noncomputable def S23 {R : Type} (k : Nat) : Sum R := S23G plumblineref02_Round k
theorem S23_ok0 {R : Type} (k : Nat) : SumOk Try.prog 23 false (S23 k : Sum R) := by
  intro args H K r h
  unfold S23 S23G at h
  split at h
  · exact fnK_sound (cx23_ok k) 6 23 _ _ K r ((plumblineref02_Round_gen plumblineref02_Rounded plumblineref02_Rounded_n3 plumblineref01_Bits k _ _ _ _ _ _ _ K).trans h)
  · cases h
theorem S23_ok {R : Type} (k : Nat) : SumOk Try.prog 23 true (S23 k : Sum R) := by
  refine sumOk_keep (S23_ok0 k) ?_
  intro args H K r h
  unfold S23 S23G at h ⊢
  split at h
  · refine Eq.trans ?_ h
    show plumblineref02_Round k _ _ _ _ _ _ _ _ = plumblineref02_Round k _ _ _ _ _ _ _ _
    congr 1
    all_goals first | exact (funext fun q1 => if_pos (keeps_app _ _ _ [])) | skip
  · cases h
-- function 57: plumbline/plumblineref02.quotient
noncomputable def fi57 : FnI := ⟨57, Try.f57, [(100005, [0, 2, 8, 9, 10, 11]), (3005000, [8, 9])]⟩
theorem en57 : Enters Try.prog 57 := enters_of Try.func57 (c := ((Try.f57).body.getD .skip)) (by kernel_rfl) (by kernel_rfl)
@[reducible] def plumblineref02_quotient_l0Y (R : Type) : Type := Nat → Nat → Int → Int → (List Bool) → (List Bool) → Int → Int → Int → Int → ((List Bool) → Int → Int → Option R) → Option R
noncomputable def plumblineref02_quotient_l0B {R : Type} (plumblineref01_Compare : plumblineref01_CompareY R) (plumblineref01_Shl : plumblineref01_ShlY R) (plumblineref01_Sub : plumblineref01_SubY R) (k : Nat) (rec : Int → Int → (List Bool) → (List Bool) → Int → Int → Int → Int → Option R) (x1 : Int) (x2 : Int) (x3 : List Bool) (x4 : List Bool) (x5 : Int) (x6 : Int) (x7 : Int) (x8 : Int) (K0 : (List Bool) → Int → Int → Option R) : Option R :=
  cond (decide (x2 ≥ 0)) (
    plumblineref01_Shl k x5 x6 1 (fun yr1 yr2 =>
      cond (decide (x2 ≥ x1)) (
        cond (decide (0 ≤ (Wi64 (x2 - x1)))) (
          cond (decide ((Wi64 (x2 - x1)) < (((List.length x3) : Nat) : Int))) (
            Option.bind (x3[(Int.toNat (Wi64 (x2 - x1)))]?) fun ye3 =>
            cond ye3 (
              plumblineref01_Compare k yr1 (bOr .u64 yr2 1) x7 x8 (fun yr4 =>
                cond (decide (yr4 ≥ 0)) (
                  plumblineref01_Sub k yr1 (bOr .u64 yr2 1) x7 x8 (fun yr5 yr6 yr7 =>
                    cond (decide (0 ≤ x2)) (
                      cond (decide (x2 < (((List.length x4) : Nat) : Int))) (
                        Option.bind (x4[(Int.toNat x2)]?) fun ye8 =>
                        rec x1 (Wi64 (x2 - 1)) x3 (List.set x4 (Int.toNat x2) true) yr5 yr6 x7 x8) (
                        none)) (
                      none))) (
                  rec x1 (Wi64 (x2 - 1)) x3 x4 yr1 (bOr .u64 yr2 1) x7 x8))) (
              plumblineref01_Compare k yr1 yr2 x7 x8 (fun yr9 =>
                cond (decide (yr9 ≥ 0)) (
                  plumblineref01_Sub k yr1 yr2 x7 x8 (fun yr10 yr11 yr12 =>
                    cond (decide (0 ≤ x2)) (
                      cond (decide (x2 < (((List.length x4) : Nat) : Int))) (
                        Option.bind (x4[(Int.toNat x2)]?) fun ye13 =>
                        rec x1 (Wi64 (x2 - 1)) x3 (List.set x4 (Int.toNat x2) true) yr10 yr11 x7 x8) (
                        none)) (
                      none))) (
                  rec x1 (Wi64 (x2 - 1)) x3 x4 yr1 yr2 x7 x8)))) (
            none)) (
          none)) (
        plumblineref01_Compare k yr1 yr2 x7 x8 (fun yr14 =>
          cond (decide (yr14 ≥ 0)) (
            plumblineref01_Sub k yr1 yr2 x7 x8 (fun yr15 yr16 yr17 =>
              cond (decide (0 ≤ x2)) (
                cond (decide (x2 < (((List.length x4) : Nat) : Int))) (
                  Option.bind (x4[(Int.toNat x2)]?) fun ye18 =>
                  rec x1 (Wi64 (x2 - 1)) x3 (List.set x4 (Int.toNat x2) true) yr15 yr16 x7 x8) (
                  none)) (
                none))) (
            rec x1 (Wi64 (x2 - 1)) x3 x4 yr1 yr2 x7 x8))))) (
    K0 x4 x5 x6)
noncomputable def plumblineref02_quotient_l0 {R : Type} (k : Nat) : Nat → Int → Int → (List Bool) → (List Bool) → Int → Int → Int → Int → ((List Bool) → Int → Int → Option R) → Option R
  | 0, _, _, _, _, _, _, _, _, _ => none
  | n + 1, x1, x2, x3, x4, x5, x6, x7, x8, K0 => plumblineref02_quotient_l0B plumblineref01_Compare plumblineref01_Shl plumblineref01_Sub k (fun x1 x2 x3 x4 x5 x6 x7 x8 => plumblineref02_quotient_l0 k n x1 x2 x3 x4 x5 x6 x7 x8 K0) x1 x2 x3 x4 x5 x6 x7 x8 K0
@[reducible] def plumblineref02_quotient_n0_l0Y (R : Type) : Type := Nat → Nat → Int → Int → (List Bool) → Int → Int → Int → Int → ((List Bool) → Int → Int → Option R) → Option R
noncomputable def plumblineref02_quotient_n0_l0B {R : Type} (plumblineref01_Compare : plumblineref01_CompareY R) (plumblineref01_Shl : plumblineref01_ShlY R) (plumblineref01_Sub : plumblineref01_SubY R) (k : Nat) (rec : Int → Int → (List Bool) → Int → Int → Int → Int → Option R) (x1 : Int) (x2 : Int) (x3 : List Bool) (x4 : Int) (x5 : Int) (x6 : Int) (x7 : Int) (K0 : (List Bool) → Int → Int → Option R) : Option R :=
  cond (decide (x2 ≥ 0)) (
    plumblineref01_Shl k x4 x5 1 (fun yr1 yr2 =>
      cond (decide (x2 ≥ x1)) (
        none) (
        plumblineref01_Compare k yr1 yr2 x6 x7 (fun yr3 =>
          cond (decide (yr3 ≥ 0)) (
            plumblineref01_Sub k yr1 yr2 x6 x7 (fun yr4 yr5 yr6 =>
              cond (decide (0 ≤ x2)) (
                cond (decide (x2 < (((List.length x3) : Nat) : Int))) (
                  Option.bind (x3[(Int.toNat x2)]?) fun ye7 =>
                  rec x1 (Wi64 (x2 - 1)) (List.set x3 (Int.toNat x2) true) yr4 yr5 x6 x7) (
                  none)) (
                none))) (
            rec x1 (Wi64 (x2 - 1)) x3 yr1 yr2 x6 x7))))) (
    K0 x3 x4 x5)
noncomputable def plumblineref02_quotient_n0_l0 {R : Type} (k : Nat) : Nat → Int → Int → (List Bool) → Int → Int → Int → Int → ((List Bool) → Int → Int → Option R) → Option R
  | 0, _, _, _, _, _, _, _, _ => none
  | n + 1, x1, x2, x3, x4, x5, x6, x7, K0 => plumblineref02_quotient_n0_l0B plumblineref01_Compare plumblineref01_Shl plumblineref01_Sub k (fun x1 x2 x3 x4 x5 x6 x7 => plumblineref02_quotient_n0_l0 k n x1 x2 x3 x4 x5 x6 x7 K0) x1 x2 x3 x4 x5 x6 x7 K0
noncomputable def cx57_5 {R : Type} (k : Nat) : Cx R := mkCx Ty exts [(77, true, S77 k), (84, true, S84 k), (85, true, S85 k)] fi57 [] []
theorem cx57_5_ok {R : Type} (k : Nat) : CxOk Try.prog (cx57_5 k : Cx R) := mkCx_ok (c := ((Try.f57).body.getD .skip)) ty_ok mixed exts_ok (allSum_cons (S77_ok k) en77 (allSum_cons (S84_ok k) en84 (allSum_cons (S85_ok k) en85 allSum_nil))) Try.func57 en57 (by kernel_rfl) (by kernel_rfl) allLoop_nil allCut_nil
noncomputable def L57_5G {R : Type} (plumblineref02_quotient_l0 : plumblineref02_quotient_l0Y R) (plumblineref02_quotient_n0_l0 : plumblineref02_quotient_n0_l0Y R) (k n : Nat) : LSum R := fun pin T H K => match pin, T, H with
  | 1, [(0, .sw 0), (2, .i .i64 x1), (8, .sw 1), (9, .ptr 2 0 0 0 0), (10, .ptr 3 0 0 0 0), (11, .i .i64 x2)], ⟨4, [(0, some ⟨0, false, .row [.b] x3⟩), (1, some ⟨1, false, .row [.b] x4⟩), (2, some ⟨2, false, .cells [.i .u64 x5, .i .u64 x6]⟩), (3, some ⟨3, false, .cells [.i .u64 x7, .i .u64 x8]⟩)]⟩ => plumblineref02_quotient_l0 k n x1 x2 x3 x4 x5 x6 x7 x8 (fun q2 q3 q4 => K (.exit 0) [(8, .sw 1), (9, .ptr 2 0 0 0 0)] ⟨3, [(0, some ⟨0, false, .row [.b] x3⟩), (1, some ⟨1, false, .row [.b] q2⟩), (2, some ⟨2, false, .cells [.i .u64 q3, .i .u64 q4]⟩)]⟩)
  | 0, [(0, .nsl), (2, .i .i64 x1), (8, .sw 0), (9, .ptr 1 0 0 0 0), (10, .ptr 2 0 0 0 0), (11, .i .i64 x2)], ⟨3, [(0, some ⟨0, false, .row [.b] x3⟩), (1, some ⟨1, false, .cells [.i .u64 x4, .i .u64 x5]⟩), (2, some ⟨2, false, .cells [.i .u64 x6, .i .u64 x7]⟩)]⟩ => plumblineref02_quotient_n0_l0 k n x1 x2 x3 x4 x5 x6 x7 (fun q1 q2 q3 => K (.exit 0) [(8, .sw 0), (9, .ptr 1 0 0 0 0)] ⟨2, [(0, some ⟨0, false, .row [.b] q1⟩), (1, some ⟨1, false, .cells [.i .u64 q2, .i .u64 q3]⟩)]⟩)
  | _, _, _ => none
noncomputable def L57_5 {R : Type} (k n : Nat) : LSum R := L57_5G plumblineref02_quotient_l0 plumblineref02_quotient_n0_l0 k n
theorem plumblineref02_quotient_l0_gen {R : Type} (plumblineref01_Shl : plumblineref01_ShlY R) (plumblineref01_Compare : plumblineref01_CompareY R) (plumblineref01_Sub : plumblineref01_SubY R) (plumblineref02_quotient_l0 : plumblineref02_quotient_l0Y R) (plumblineref02_quotient_n0_l0 : plumblineref02_quotient_n0_l0Y R) (k n : Nat) (x1 : Int) (x2 : Int) (x3 : List Bool) (x4 : List Bool) (x5 : Int) (x6 : Int) (x7 : Int) (x8 : Int) (K : Kont R) :
    (fun C => codeK C (run C 4)) (mkCx Ty exts [(77, true, S77G plumblineref01_Shl k), (84, true, S84G plumblineref01_Compare k), (85, true, S85G plumblineref01_Sub k)] fi57 [] []) 1 fi57 (loopAt ((Try.f57).body.getD .skip) 5) [(0, .sw 0), (2, .i .i64 x1), (8, .sw 1), (9, .ptr 2 0 0 0 0), (10, .ptr 3 0 0 0 0), (11, .i .i64 x2)] ⟨4, [(0, some ⟨0, false, .row [.b] x3⟩), (1, some ⟨1, false, .row [.b] x4⟩), (2, some ⟨2, false, .cells [.i .u64 x5, .i .u64 x6]⟩), (3, some ⟨3, false, .cells [.i .u64 x7, .i .u64 x8]⟩)]⟩ (fun ex T H => match (generalizing := false) ex with
      | .normal => normAt (some [0, 2, 8, 9, 10, 11]) 1 T H (fun T H => L57_5G plumblineref02_quotient_l0 plumblineref02_quotient_n0_l0 k n 1 T H K)
      | ex => exitNorm fi57.ann 5 1 K ex T H) =
    plumblineref02_quotient_l0B plumblineref01_Compare plumblineref01_Shl plumblineref01_Sub k (fun x1 x2 x3 x4 x5 x6 x7 x8 => plumblineref02_quotient_l0 k n x1 x2 x3 x4 x5 x6 x7 x8 (fun q2 q3 q4 => K (.exit 0) [(8, .sw 1), (9, .ptr 2 0 0 0 0)] ⟨3, [(0, some ⟨0, false, .row [.b] x3⟩), (1, some ⟨1, false, .row [.b] q2⟩), (2, some ⟨2, false, .cells [.i .u64 q3, .i .u64 q4]⟩)]⟩)) x1 x2 x3 x4 x5 x6 x7 x8 (fun q2 q3 q4 => K (.exit 0) [(8, .sw 1), (9, .ptr 2 0 0 0 0)] ⟨3, [(0, some ⟨0, false, .row [.b] x3⟩), (1, some ⟨1, false, .row [.b] q2⟩), (2, some ⟨2, false, .cells [.i .u64 q3, .i .u64 q4]⟩)]⟩) := by kernel_rfl
theorem plumblineref02_quotient_n0_l0_gen {R : Type} (plumblineref01_Shl : plumblineref01_ShlY R) (plumblineref01_Compare : plumblineref01_CompareY R) (plumblineref01_Sub : plumblineref01_SubY R) (plumblineref02_quotient_l0 : plumblineref02_quotient_l0Y R) (plumblineref02_quotient_n0_l0 : plumblineref02_quotient_n0_l0Y R) (k n : Nat) (x1 : Int) (x2 : Int) (x3 : List Bool) (x4 : Int) (x5 : Int) (x6 : Int) (x7 : Int) (K : Kont R) :
    (fun C => codeK C (run C 4)) (mkCx Ty exts [(77, true, S77G plumblineref01_Shl k), (84, true, S84G plumblineref01_Compare k), (85, true, S85G plumblineref01_Sub k)] fi57 [] []) 0 fi57 (loopAt ((Try.f57).body.getD .skip) 5) [(0, .nsl), (2, .i .i64 x1), (8, .sw 0), (9, .ptr 1 0 0 0 0), (10, .ptr 2 0 0 0 0), (11, .i .i64 x2)] ⟨3, [(0, some ⟨0, false, .row [.b] x3⟩), (1, some ⟨1, false, .cells [.i .u64 x4, .i .u64 x5]⟩), (2, some ⟨2, false, .cells [.i .u64 x6, .i .u64 x7]⟩)]⟩ (fun ex T H => match (generalizing := false) ex with
      | .normal => normAt (some [0, 2, 8, 9, 10, 11]) 0 T H (fun T H => L57_5G plumblineref02_quotient_l0 plumblineref02_quotient_n0_l0 k n 0 T H K)
      | ex => exitNorm fi57.ann 5 0 K ex T H) =
    plumblineref02_quotient_n0_l0B plumblineref01_Compare plumblineref01_Shl plumblineref01_Sub k (fun x1 x2 x3 x4 x5 x6 x7 => plumblineref02_quotient_n0_l0 k n x1 x2 x3 x4 x5 x6 x7 (fun q1 q2 q3 => K (.exit 0) [(8, .sw 0), (9, .ptr 1 0 0 0 0)] ⟨2, [(0, some ⟨0, false, .row [.b] q1⟩), (1, some ⟨1, false, .cells [.i .u64 q2, .i .u64 q3]⟩)]⟩)) x1 x2 x3 x4 x5 x6 x7 (fun q1 q2 q3 => K (.exit 0) [(8, .sw 0), (9, .ptr 1 0 0 0 0)] ⟨2, [(0, some ⟨0, false, .row [.b] q1⟩), (1, some ⟨1, false, .cells [.i .u64 q2, .i .u64 q3]⟩)]⟩) := by kernel_rfl
theorem L57_5_cok {R : Type} (k : Nat) : CodeOk Try.prog (cx57_5 k : Cx R) fi57 (loopAt ((Try.f57).body.getD .skip) 5) := loopAt_ok (((cx57_5_ok k).fns 57 fi57 (by kernel_rfl)).2.2.2 ((Try.f57).body.getD .skip) (by kernel_rfl))
theorem L57_5_ok {R : Type} (k : Nat) : ∀ n, LoopOk Try.prog (Try.f57).ntmps (loopAt ((Try.f57).body.getD .skip) 5) (L57_5 k n : LSum R)
  | 0 => by
    intro pin T H K r h
    unfold L57_5 L57_5G at h
    split at h
    all_goals exact nomatch (show (none : Option R) = some r from h)
  | n + 1 => by
    intro pin T H K r h
    unfold L57_5 L57_5G at h
    split at h
    · obtain ⟨ex, T1, H1, h, hb⟩ := codeK_sound (cx57_5_ok k) (run_sound (cx57_5_ok k) 4) _ fi57 _ _ _ _ _ (L57_5_cok k) ((plumblineref02_quotient_l0_gen plumblineref01_Shl plumblineref01_Compare plumblineref01_Sub plumblineref02_quotient_l0 plumblineref02_quotient_n0_l0 k n _ _ _ _ _ _ _ _ K).trans h)
      exact loop_step (fun T H hh => L57_5_ok k n _ T H K r hh) hb h
    · obtain ⟨ex, T1, H1, h, hb⟩ := codeK_sound (cx57_5_ok k) (run_sound (cx57_5_ok k) 4) _ fi57 _ _ _ _ _ (L57_5_cok k) ((plumblineref02_quotient_n0_l0_gen plumblineref01_Shl plumblineref01_Compare plumblineref01_Sub plumblineref02_quotient_l0 plumblineref02_quotient_n0_l0 k n _ _ _ _ _ _ _ K).trans h)
      exact loop_step (fun T H hh => L57_5_ok k n _ T H K r hh) hb h
    · cases h
noncomputable def cx57 {R : Type} (k : Nat) : Cx R := mkCx Ty exts [(77, true, S77 k), (84, true, S84 k), (85, true, S85 k)] fi57 [(5, L57_5 k k)] []
theorem cx57_ok {R : Type} (k : Nat) : CxOk Try.prog (cx57 k : Cx R) := mkCx_ok (c := ((Try.f57).body.getD .skip)) ty_ok mixed exts_ok (allSum_cons (S77_ok k) en77 (allSum_cons (S84_ok k) en84 (allSum_cons (S85_ok k) en85 allSum_nil))) Try.func57 en57 (by kernel_rfl) (by kernel_rfl) (allLoop_loop (by kernel_rfl) (L57_5_ok k k) allLoop_nil) allCut_nil
@[reducible] def plumblineref02_quotientY (R : Type) : Type := Nat → Int → Int → (List Bool) → (Bool → (List Bool) → Option R) → Option R
noncomputable def plumblineref02_quotientT {R : Type} (plumblineref02_quotient_l0 : plumblineref02_quotient_l0Y R) (k : Nat) (a1 : Int) (a2 : Int) (a3 : List Bool) (K0 : Bool → (List Bool) → Option R) : Option R :=
  cond (decide (0 ≤ (Wi64 ((((List.length a3) : Nat) : Int) + a2)))) (
    cond (decide ((Wi64 ((((List.length a3) : Nat) : Int) + a2)) ≤ (Wi64 ((((List.length a3) : Nat) : Int) + a2)))) (
      cond (decide (((Wi64 ((((List.length a3) : Nat) : Int) + a2)) * 1) ≤ 140737488355328)) (
        plumblineref02_quotient_l0 k k a2 (Wi64 ((((List.length (List.replicate (Int.toNat (Wi64 ((((List.length a3) : Nat) : Int) + a2))) false)) : Nat) : Int) - 1)) a3 (List.replicate (Int.toNat (Wi64 ((((List.length a3) : Nat) : Int) + a2))) false) 0 0 0 a1 (fun r1 r2 r3 =>
          K0 (!((r2 == 0) && (r3 == 0))) r1)) (
        none)) (
      none)) (
    none)
noncomputable def plumblineref02_quotient {R : Type} (k : Nat) (a1 : Int) (a2 : Int) (a3 : List Bool) (K0 : Bool → (List Bool) → Option R) : Option R := plumblineref02_quotientT plumblineref02_quotient_l0 k a1 a2 a3 K0
theorem plumblineref02_quotient_gen {R : Type} (plumblineref01_Shl : plumblineref01_ShlY R) (plumblineref01_Compare : plumblineref01_CompareY R) (plumblineref01_Sub : plumblineref01_SubY R) (plumblineref02_quotient_l0 : plumblineref02_quotient_l0Y R) (plumblineref02_quotient_n0_l0 : plumblineref02_quotient_n0_l0Y R) (k : Nat) (a1 : Int) (a2 : Int) (a3 : List Bool) (K : AV → Heap → Option R) :
    fnK (mkCx Ty exts [(77, true, S77G plumblineref01_Shl k), (84, true, S84G plumblineref01_Compare k), (85, true, S85G plumblineref01_Sub k)] fi57 [(5, L57_5G plumblineref02_quotient_l0 plumblineref02_quotient_n0_l0 k k)] []) 6 57 [.sw 0, .i .u64 a1, .i .i64 a2] ⟨1, [(0, some ⟨0, false, .row [.b] a3⟩)]⟩ K = plumblineref02_quotientT plumblineref02_quotient_l0 k a1 a2 a3 (fun q1 q3 => K (.tup [.sw 1, .b q1]) ⟨2, [(0, some ⟨0, false, .row [.b] a3⟩), (1, some ⟨1, false, .row [.b] q3⟩)]⟩) := by kernel_rfl
@[reducible] def plumblineref02_quotient_n0Y (R : Type) : Type := Nat → Int → Int → (Bool → (List Bool) → Option R) → Option R
noncomputable def plumblineref02_quotient_n0T {R : Type} (plumblineref02_quotient_n0_l0 : plumblineref02_quotient_n0_l0Y R) (k : Nat) (a1 : Int) (a2 : Int) (K0 : Bool → (List Bool) → Option R) : Option R :=
  cond (decide (0 ≤ (Wi64 (0 + a2)))) (
    cond (decide ((Wi64 (0 + a2)) ≤ (Wi64 (0 + a2)))) (
      cond (decide (((Wi64 (0 + a2)) * 1) ≤ 140737488355328)) (
        plumblineref02_quotient_n0_l0 k k a2 (Wi64 ((((List.length (List.replicate (Int.toNat (Wi64 (0 + a2))) false)) : Nat) : Int) - 1)) (List.replicate (Int.toNat (Wi64 (0 + a2))) false) 0 0 0 a1 (fun r1 r2 r3 =>
          K0 (!((r2 == 0) && (r3 == 0))) r1)) (
        none)) (
      none)) (
    none)
noncomputable def plumblineref02_quotient_n0 {R : Type} (k : Nat) (a1 : Int) (a2 : Int) (K0 : Bool → (List Bool) → Option R) : Option R := plumblineref02_quotient_n0T plumblineref02_quotient_n0_l0 k a1 a2 K0
theorem plumblineref02_quotient_n0_gen {R : Type} (plumblineref01_Shl : plumblineref01_ShlY R) (plumblineref01_Compare : plumblineref01_CompareY R) (plumblineref01_Sub : plumblineref01_SubY R) (plumblineref02_quotient_l0 : plumblineref02_quotient_l0Y R) (plumblineref02_quotient_n0_l0 : plumblineref02_quotient_n0_l0Y R) (k : Nat) (a1 : Int) (a2 : Int) (K : AV → Heap → Option R) :
    fnK (mkCx Ty exts [(77, true, S77G plumblineref01_Shl k), (84, true, S84G plumblineref01_Compare k), (85, true, S85G plumblineref01_Sub k)] fi57 [(5, L57_5G plumblineref02_quotient_l0 plumblineref02_quotient_n0_l0 k k)] []) 6 57 [.nsl, .i .u64 a1, .i .i64 a2] ⟨0, []⟩ K = plumblineref02_quotient_n0T plumblineref02_quotient_n0_l0 k a1 a2 (fun q1 q2 => K (.tup [.sw 0, .b q1]) ⟨1, [(0, some ⟨0, false, .row [.b] q2⟩)]⟩) := by kernel_rfl
noncomputable def S57G {R : Type} (plumblineref02_quotient : plumblineref02_quotientY R) (plumblineref02_quotient_n0 : plumblineref02_quotient_n0Y R) (k : Nat) : Sum R := fun args H K => match args, H with
  | [.sw 0, .i .u64 a1, .i .i64 a2], ⟨1, [(0, some ⟨0, false, .row [.b] a3⟩)]⟩ => plumblineref02_quotient k a1 a2 a3 (fun q1 q3 => K (.tup [.sw 1, .b q1]) ⟨2, [(0, some ⟨0, false, .row [.b] a3⟩), (1, some ⟨1, false, .row [.b] q3⟩)]⟩)
  | [.nsl, .i .u64 a1, .i .i64 a2], ⟨0, []⟩ => plumblineref02_quotient_n0 k a1 a2 (fun q1 q2 => K (.tup [.sw 0, .b q1]) ⟨1, [(0, some ⟨0, false, .row [.b] q2⟩)]⟩)
  | _, _ => none
noncomputable def S57 {R : Type} (k : Nat) : Sum R := S57G plumblineref02_quotient plumblineref02_quotient_n0 k
theorem S57_ok0 {R : Type} (k : Nat) : SumOk Try.prog 57 false (S57 k : Sum R) := by
  intro args H K r h
  unfold S57 S57G at h
  split at h
  · exact fnK_sound (cx57_ok k) 6 57 _ _ K r ((plumblineref02_quotient_gen plumblineref01_Shl plumblineref01_Compare plumblineref01_Sub plumblineref02_quotient_l0 plumblineref02_quotient_n0_l0 k _ _ _ K).trans h)
  · exact fnK_sound (cx57_ok k) 6 57 _ _ K r ((plumblineref02_quotient_n0_gen plumblineref01_Shl plumblineref01_Compare plumblineref01_Sub plumblineref02_quotient_l0 plumblineref02_quotient_n0_l0 k _ _ K).trans h)
  · cases h
theorem S57_ok {R : Type} (k : Nat) : SumOk Try.prog 57 true (S57 k : Sum R) := by
  refine sumOk_keep (S57_ok0 k) ?_
  intro args H K r h
  unfold S57 S57G at h ⊢
  split at h
  · refine Eq.trans ?_ h
    show plumblineref02_quotient k _ _ _ _ = plumblineref02_quotient k _ _ _ _
    congr 1
    all_goals first | exact (funext fun q1 => funext fun q3 => if_pos (keeps_app _ _ _ [(1, some ⟨1, false, .row [.b] q3⟩)])) | skip
  · refine Eq.trans ?_ h
    show plumblineref02_quotient_n0 k _ _ _ = plumblineref02_quotient_n0 k _ _ _
    congr 1
    all_goals first | exact (funext fun q1 => funext fun q2 => if_pos (keeps_app _ _ _ [(0, some ⟨0, false, .row [.b] q2⟩)])) | skip
  · cases h
-- function 16: plumbline/plumblineref02.Div
noncomputable def fi16 : FnI := ⟨16, Try.f16, [(600009, [0, 1, 2, 3, 9]), (2500009, [8])]⟩
theorem en16 : Enters Try.prog 16 := enters_of Try.func16 (c := ((Try.f16).body.getD .skip)) (by kernel_rfl) (by kernel_rfl)
@[reducible] def plumblineref02_Div_c0Y (R : Type) : Type := Nat → Int → Int → Int → Int → Bool → (Int → Option R) → Option R
noncomputable def plumblineref02_Div_c0T {R : Type} (plumblineref02_Rounded : plumblineref02_RoundedY R) (plumblineref02_bits : plumblineref02_bitsY R) (plumblineref02_quotient : plumblineref02_quotientY R) (plumblineref02_quotient_n0 : plumblineref02_quotient_n0Y R) (plumblineref02_value : plumblineref02_valueY R) (k : Nat) (x1 : Int) (x2 : Int) (x3 : Int) (x4 : Int) (x5 : Bool) (K0 : Int → Option R) : Option R :=
  plumblineref02_value k x1 x3 (fun yr1 yr2 =>
    plumblineref02_value k x1 x4 (fun yr3 yr4 =>
      plumblineref02_bits k yr1 (fun yr5 =>
        plumblineref02_quotient k yr3 130 yr5 (fun yr6 yr7 =>
          cond (Nat.ble ((1 + (List.length yr7)) * 1) 70368744177664) (
            plumblineref02_Rounded k x1 x2 x5 (Wi64 ((Wi64 (yr2 - yr4)) - 131)) ([yr6] ++ yr7) (fun yr8 =>
              K0 yr8)) (
            none))) (
        plumblineref02_quotient_n0 k yr3 130 (fun yr9 yr10 =>
          cond (Nat.ble ((1 + (List.length yr10)) * 1) 70368744177664) (
            plumblineref02_Rounded k x1 x2 x5 (Wi64 ((Wi64 (yr2 - yr4)) - 131)) ([yr9] ++ yr10) (fun yr11 =>
              K0 yr11)) (
            none)))))
noncomputable def plumblineref02_Div_c0 {R : Type} (k : Nat) (x1 : Int) (x2 : Int) (x3 : Int) (x4 : Int) (x5 : Bool) (K0 : Int → Option R) : Option R := plumblineref02_Div_c0T plumblineref02_Rounded plumblineref02_bits plumblineref02_quotient plumblineref02_quotient_n0 plumblineref02_value k x1 x2 x3 x4 x5 K0
noncomputable def cc16_9 {R : Type} (k : Nat) : Cx R := mkCx Ty exts [(27, true, S27 k), (37, true, S37 k), (51, true, S51 k), (52, true, S52 k), (53, true, S53 k), (54, true, S54 k), (55, true, S55 k), (56, true, S56 k), (57, true, S57 k), (58, true, S58 k), (59, true, S59 k)] fi16 [] []
theorem cc16_9_ok {R : Type} (k : Nat) : CxOk Try.prog (cc16_9 k : Cx R) := mkCx_ok (c := ((Try.f16).body.getD .skip)) ty_ok mixed exts_ok (allSum_cons (S27_ok k) en27 (allSum_cons (S37_ok k) en37 (allSum_cons (S51_ok k) en51 (allSum_cons (S52_ok k) en52 (allSum_cons (S53_ok k) en53 (allSum_cons (S54_ok k) en54 (allSum_cons (S55_ok k) en55 (allSum_cons (S56_ok k) en56 (allSum_cons (S57_ok k) en57 (allSum_cons (S58_ok k) en58 (allSum_cons (S59_ok k) en59 allSum_nil))))))))))) Try.func16 en16 (by kernel_rfl) (by kernel_rfl) allLoop_nil allCut_nil
noncomputable def C16_9G {R : Type} (plumblineref02_Div_c0 : plumblineref02_Div_c0Y R) (k : Nat) : LSum R := fun pin T H K => match pin, T, H with
  | 0, [(0, .i .i64 x1), (1, .i .i64 x2), (2, .i .u64 x3), (3, .i .u64 x4), (9, .b x5)], ⟨0, []⟩ => plumblineref02_Div_c0 k x1 x2 x3 x4 x5 (fun q1 => K .ret [(8, .i .u64 q1)] ⟨0, []⟩)
  | _, _, _ => none
noncomputable def C16_9 {R : Type} (k : Nat) : LSum R := C16_9G plumblineref02_Div_c0 k
theorem plumblineref02_Div_c0_gen {R : Type} (plumblineref02_Class : plumblineref02_ClassY R) (plumblineref02_Nan : plumblineref02_NanY R) (plumblineref02_Below : plumblineref02_BelowY R) (plumblineref02_isNan : plumblineref02_isNanY R) (plumblineref02_isInf : plumblineref02_isInfY R) (plumblineref02_Inf : plumblineref02_InfY R) (plumblineref02_sign : plumblineref02_signY R) (plumblineref02_value : plumblineref02_valueY R) (plumblineref02_quotient : plumblineref02_quotientY R) (plumblineref02_quotient_n0 : plumblineref02_quotient_n0Y R) (plumblineref02_bits : plumblineref02_bitsY R) (plumblineref02_Rounded : plumblineref02_RoundedY R) (plumblineref02_Rounded_n3 : plumblineref02_Rounded_n3Y R) (k : Nat) (x1 : Int) (x2 : Int) (x3 : Int) (x4 : Int) (x5 : Bool) (K : Kont R) :
    (fun C => codeK C (run C 4)) (mkCx Ty exts [(27, true, S27G plumblineref02_Class k), (37, true, S37G plumblineref02_Nan k), (51, true, S51G plumblineref02_Below k), (52, true, S52G plumblineref02_isNan k), (53, true, S53G plumblineref02_isInf k), (54, true, S54G plumblineref02_Inf k), (55, true, S55G plumblineref02_sign k), (56, true, S56G plumblineref02_value k), (57, true, S57G plumblineref02_quotient plumblineref02_quotient_n0 k), (58, true, S58G plumblineref02_bits k), (59, true, S59G plumblineref02_Rounded plumblineref02_Rounded_n3 k)] fi16 [] []) 0 fi16 (cutAt ((Try.f16).body.getD .skip) 9) [(0, .i .i64 x1), (1, .i .i64 x2), (2, .i .u64 x3), (3, .i .u64 x4), (9, .b x5)] ⟨0, []⟩ (exitNorm fi16.ann 500009 0 K) = plumblineref02_Div_c0T plumblineref02_Rounded plumblineref02_bits plumblineref02_quotient plumblineref02_quotient_n0 plumblineref02_value k x1 x2 x3 x4 x5 (fun q1 => K .ret [(8, .i .u64 q1)] ⟨0, []⟩) := by kernel_rfl
theorem C16_9_cok {R : Type} (k : Nat) : CodeOk Try.prog (cc16_9 k : Cx R) fi16 (cutAt ((Try.f16).body.getD .skip) 9) := cutAt_ok (((cc16_9_ok k).fns 16 fi16 (by kernel_rfl)).2.2.2 ((Try.f16).body.getD .skip) (by kernel_rfl))
theorem C16_9_ok {R : Type} (k : Nat) : CutOk Try.prog (Try.f16).ntmps (cutAt ((Try.f16).body.getD .skip) 9) (C16_9 k : LSum R) := by
  intro pin T H K r h
  unfold C16_9 C16_9G at h
  split at h
  · obtain ⟨ex, T1, H1, h, hb⟩ := codeK_sound (cc16_9_ok k) (run_sound (cc16_9_ok k) 4) _ fi16 _ _ _ _ _ (C16_9_cok k) ((plumblineref02_Div_c0_gen plumblineref02_Class plumblineref02_Nan plumblineref02_Below plumblineref02_isNan plumblineref02_isInf plumblineref02_Inf plumblineref02_sign plumblineref02_value plumblineref02_quotient plumblineref02_quotient_n0 plumblineref02_bits plumblineref02_Rounded plumblineref02_Rounded_n3 k _ _ _ _ _ K).trans h)
    exact cut_step hb h
  · cases h
noncomputable def cx16 {R : Type} (k : Nat) : Cx R := mkCx Ty exts [(27, true, S27 k), (37, true, S37 k), (51, true, S51 k), (52, true, S52 k), (53, true, S53 k), (54, true, S54 k), (55, true, S55 k), (56, true, S56 k), (57, true, S57 k), (58, true, S58 k), (59, true, S59 k)] fi16 [] [(9, C16_9 k)]
theorem cx16_ok {R : Type} (k : Nat) : CxOk Try.prog (cx16 k : Cx R) := mkCx_ok (c := ((Try.f16).body.getD .skip)) ty_ok mixed exts_ok (allSum_cons (S27_ok k) en27 (allSum_cons (S37_ok k) en37 (allSum_cons (S51_ok k) en51 (allSum_cons (S52_ok k) en52 (allSum_cons (S53_ok k) en53 (allSum_cons (S54_ok k) en54 (allSum_cons (S55_ok k) en55 (allSum_cons (S56_ok k) en56 (allSum_cons (S57_ok k) en57 (allSum_cons (S58_ok k) en58 (allSum_cons (S59_ok k) en59 allSum_nil))))))))))) Try.func16 en16 (by kernel_rfl) (by kernel_rfl) allLoop_nil (allCut_cons (C16_9_ok k) (by kernel_rfl) allCut_nil)
@[reducible] def plumblineref02_DivY (R : Type) : Type := Nat → Int → Int → Int → Int → (Int → Option R) → Option R
noncomputable def plumblineref02_DivT {R : Type} (plumblineref02_Below : plumblineref02_BelowY R) (plumblineref02_Class : plumblineref02_ClassY R) (plumblineref02_Div_c0 : plumblineref02_Div_c0Y R) (plumblineref02_Inf : plumblineref02_InfY R) (plumblineref02_Nan : plumblineref02_NanY R) (plumblineref02_isInf : plumblineref02_isInfY R) (plumblineref02_isNan : plumblineref02_isNanY R) (plumblineref02_sign : plumblineref02_signY R) (k : Nat) (a1 : Int) (a2 : Int) (a3 : Int) (a4 : Int) (K0 : Int → Option R) : Option R :=
  plumblineref02_Below k a1 a3 (fun r1 =>
    plumblineref02_Below k a1 a4 (fun r2 =>
      plumblineref02_Class k a1 a3 (fun r3 =>
        plumblineref02_Class k a1 a4 (fun r4 =>
          plumblineref02_isNan k a1 a3 (fun r5 =>
            cond r5 (
              plumblineref02_Nan k a1 (fun r6 =>
                K0 r6)) (
              plumblineref02_isNan k a1 a4 (fun r7 =>
                cond r7 (
                  plumblineref02_Nan k a1 (fun r8 =>
                    K0 r8)) (
                  plumblineref02_isInf k a1 a3 (fun r9 =>
                    cond r9 (
                      plumblineref02_isInf k a1 a4 (fun r10 =>
                        cond r10 (
                          plumblineref02_Nan k a1 (fun r11 =>
                            K0 r11)) (
                          cond (r3 == 1) (
                            cond (r4 == 1) (
                              plumblineref02_Nan k a1 (fun r12 =>
                                K0 r12)) (
                              plumblineref02_isInf k a1 a3 (fun r13 =>
                                cond r13 (
                                  plumblineref02_Inf k a1 (!(r1 == r2)) (fun r14 =>
                                    K0 r14)) (
                                  cond (r4 == 1) (
                                    plumblineref02_Inf k a1 (!(r1 == r2)) (fun r15 =>
                                      K0 r15)) (
                                    plumblineref02_isInf k a1 a4 (fun r16 =>
                                      cond r16 (
                                        plumblineref02_sign k a1 (!(r1 == r2)) (fun r17 =>
                                          K0 r17)) (
                                        cond (r3 == 1) (
                                          plumblineref02_sign k a1 (!(r1 == r2)) (fun r18 =>
                                            K0 r18)) (
                                          plumblineref02_Div_c0 k a1 a2 a3 a4 (!(r1 == r2)) (fun r19 =>
                                            K0 r19))))))))) (
                            plumblineref02_isInf k a1 a3 (fun r20 =>
                              cond r20 (
                                plumblineref02_Inf k a1 (!(r1 == r2)) (fun r21 =>
                                  K0 r21)) (
                                cond (r4 == 1) (
                                  plumblineref02_Inf k a1 (!(r1 == r2)) (fun r22 =>
                                    K0 r22)) (
                                  plumblineref02_isInf k a1 a4 (fun r23 =>
                                    cond r23 (
                                      plumblineref02_sign k a1 (!(r1 == r2)) (fun r24 =>
                                        K0 r24)) (
                                      cond (r3 == 1) (
                                        plumblineref02_sign k a1 (!(r1 == r2)) (fun r25 =>
                                          K0 r25)) (
                                        plumblineref02_Div_c0 k a1 a2 a3 a4 (!(r1 == r2)) (fun r26 =>
                                          K0 r26))))))))))) (
                      cond (r3 == 1) (
                        cond (r4 == 1) (
                          plumblineref02_Nan k a1 (fun r27 =>
                            K0 r27)) (
                          plumblineref02_isInf k a1 a3 (fun r28 =>
                            cond r28 (
                              plumblineref02_Inf k a1 (!(r1 == r2)) (fun r29 =>
                                K0 r29)) (
                              cond (r4 == 1) (
                                plumblineref02_Inf k a1 (!(r1 == r2)) (fun r30 =>
                                  K0 r30)) (
                                plumblineref02_isInf k a1 a4 (fun r31 =>
                                  cond r31 (
                                    plumblineref02_sign k a1 (!(r1 == r2)) (fun r32 =>
                                      K0 r32)) (
                                    cond (r3 == 1) (
                                      plumblineref02_sign k a1 (!(r1 == r2)) (fun r33 =>
                                        K0 r33)) (
                                      plumblineref02_Div_c0 k a1 a2 a3 a4 (!(r1 == r2)) (fun r34 =>
                                        K0 r34))))))))) (
                        plumblineref02_isInf k a1 a3 (fun r35 =>
                          cond r35 (
                            plumblineref02_Inf k a1 (!(r1 == r2)) (fun r36 =>
                              K0 r36)) (
                            cond (r4 == 1) (
                              plumblineref02_Inf k a1 (!(r1 == r2)) (fun r37 =>
                                K0 r37)) (
                              plumblineref02_isInf k a1 a4 (fun r38 =>
                                cond r38 (
                                  plumblineref02_sign k a1 (!(r1 == r2)) (fun r39 =>
                                    K0 r39)) (
                                  cond (r3 == 1) (
                                    plumblineref02_sign k a1 (!(r1 == r2)) (fun r40 =>
                                      K0 r40)) (
                                    plumblineref02_Div_c0 k a1 a2 a3 a4 (!(r1 == r2)) (fun r41 =>
                                      K0 r41))))))))))))))))))
noncomputable def plumblineref02_Div {R : Type} (k : Nat) (a1 : Int) (a2 : Int) (a3 : Int) (a4 : Int) (K0 : Int → Option R) : Option R := plumblineref02_DivT plumblineref02_Below plumblineref02_Class plumblineref02_Div_c0 plumblineref02_Inf plumblineref02_Nan plumblineref02_isInf plumblineref02_isNan plumblineref02_sign k a1 a2 a3 a4 K0
theorem plumblineref02_Div_gen {R : Type} (plumblineref02_Class : plumblineref02_ClassY R) (plumblineref02_Nan : plumblineref02_NanY R) (plumblineref02_Below : plumblineref02_BelowY R) (plumblineref02_isNan : plumblineref02_isNanY R) (plumblineref02_isInf : plumblineref02_isInfY R) (plumblineref02_Inf : plumblineref02_InfY R) (plumblineref02_sign : plumblineref02_signY R) (plumblineref02_value : plumblineref02_valueY R) (plumblineref02_quotient : plumblineref02_quotientY R) (plumblineref02_quotient_n0 : plumblineref02_quotient_n0Y R) (plumblineref02_bits : plumblineref02_bitsY R) (plumblineref02_Rounded : plumblineref02_RoundedY R) (plumblineref02_Rounded_n3 : plumblineref02_Rounded_n3Y R) (plumblineref02_Div_c0 : plumblineref02_Div_c0Y R) (k : Nat) (a1 : Int) (a2 : Int) (a3 : Int) (a4 : Int) (K : AV → Heap → Option R) :
    fnK (mkCx Ty exts [(27, true, S27G plumblineref02_Class k), (37, true, S37G plumblineref02_Nan k), (51, true, S51G plumblineref02_Below k), (52, true, S52G plumblineref02_isNan k), (53, true, S53G plumblineref02_isInf k), (54, true, S54G plumblineref02_Inf k), (55, true, S55G plumblineref02_sign k), (56, true, S56G plumblineref02_value k), (57, true, S57G plumblineref02_quotient plumblineref02_quotient_n0 k), (58, true, S58G plumblineref02_bits k), (59, true, S59G plumblineref02_Rounded plumblineref02_Rounded_n3 k)] fi16 [] [(9, C16_9G plumblineref02_Div_c0 k)]) 6 16 [.i .i64 a1, .i .i64 a2, .i .u64 a3, .i .u64 a4] ⟨0, []⟩ K = plumblineref02_DivT plumblineref02_Below plumblineref02_Class plumblineref02_Div_c0 plumblineref02_Inf plumblineref02_Nan plumblineref02_isInf plumblineref02_isNan plumblineref02_sign k a1 a2 a3 a4 (fun q1 => K (.i .u64 q1) ⟨0, []⟩) := by kernel_rfl
noncomputable def S16G {R : Type} (plumblineref02_Div : plumblineref02_DivY R) (k : Nat) : Sum R := fun args H K => match args, H with
  | [.i .i64 a1, .i .i64 a2, .i .u64 a3, .i .u64 a4], ⟨0, []⟩ => plumblineref02_Div k a1 a2 a3 a4 (fun q1 => K (.i .u64 q1) ⟨0, []⟩)
  | _, _ => none
noncomputable def S16 {R : Type} (k : Nat) : Sum R := S16G plumblineref02_Div k
theorem S16_ok0 {R : Type} (k : Nat) : SumOk Try.prog 16 false (S16 k : Sum R) := by
  intro args H K r h
  unfold S16 S16G at h
  split at h
  · exact fnK_sound (cx16_ok k) 6 16 _ _ K r ((plumblineref02_Div_gen plumblineref02_Class plumblineref02_Nan plumblineref02_Below plumblineref02_isNan plumblineref02_isInf plumblineref02_Inf plumblineref02_sign plumblineref02_value plumblineref02_quotient plumblineref02_quotient_n0 plumblineref02_bits plumblineref02_Rounded plumblineref02_Rounded_n3 plumblineref02_Div_c0 k _ _ _ _ K).trans h)
  · cases h
theorem S16_ok {R : Type} (k : Nat) : SumOk Try.prog 16 true (S16 k : Sum R) := by
  refine sumOk_keep (S16_ok0 k) ?_
  intro args H K r h
  unfold S16 S16G at h ⊢
  split at h
  · refine Eq.trans ?_ h
    show plumblineref02_Div k _ _ _ _ _ = plumblineref02_Div k _ _ _ _ _
    congr 1
    all_goals first | exact (funext fun q1 => if_pos (keeps_app _ _ _ [])) | skip
  · cases h
-- function 61: plumbline/plumblineref02.up
noncomputable def fi61 : FnI := ⟨61, Try.f61, []⟩
theorem en61 : Enters Try.prog 61 := enters_of Try.func61 (c := ((Try.f61).body.getD .skip)) (by kernel_rfl) (by kernel_rfl)
noncomputable def cx61 {R : Type} (k : Nat) : Cx R := mkCx Ty exts [] fi61 [] []
theorem cx61_ok {R : Type} (k : Nat) : CxOk Try.prog (cx61 k : Cx R) := mkCx_ok (c := ((Try.f61).body.getD .skip)) ty_ok mixed exts_ok allSum_nil Try.func61 en61 (by kernel_rfl) (by kernel_rfl) allLoop_nil allCut_nil
@[reducible] def plumblineref02_upY (R : Type) : Type := Nat → Int → (List Bool) → ((List Bool) → Option R) → Option R
noncomputable def plumblineref02_upT {R : Type} (k : Nat) (a1 : Int) (a2 : List Bool) (K0 : (List Bool) → Option R) : Option R :=
  cond (decide (0 ≤ a1)) (
    cond (decide (a1 ≤ a1)) (
      cond (decide ((a1 * 1) ≤ 140737488355328)) (
        cond (Nat.ble (((List.length (List.replicate (Int.toNat a1) false)) + (List.length a2)) * 1) 70368744177664) (
          K0 ((List.replicate (Int.toNat a1) false) ++ a2)) (
          none)) (
        none)) (
      none)) (
    none)
noncomputable def plumblineref02_up {R : Type} (k : Nat) (a1 : Int) (a2 : List Bool) (K0 : (List Bool) → Option R) : Option R := plumblineref02_upT k a1 a2 K0
theorem plumblineref02_up_gen {R : Type} (k : Nat) (a1 : Int) (a2 : List Bool) (K : AV → Heap → Option R) :
    fnK (mkCx Ty exts [] fi61 [] []) 6 61 [.sw 0, .i .i64 a1] ⟨1, [(0, some ⟨0, false, .row [.b] a2⟩)]⟩ K = plumblineref02_upT k a1 a2 (fun q2 => K (.sw 1) ⟨2, [(0, some ⟨0, false, .row [.b] a2⟩), (1, some ⟨1, false, .row [.b] q2⟩)]⟩) := by kernel_rfl
@[reducible] def plumblineref02_up_n0Y (R : Type) : Type := Nat → Int → ((List Bool) → Option R) → Option R
noncomputable def plumblineref02_up_n0T {R : Type} (k : Nat) (a1 : Int) (K0 : (List Bool) → Option R) : Option R :=
  cond (decide (0 ≤ a1)) (
    cond (decide (a1 ≤ a1)) (
      cond (decide ((a1 * 1) ≤ 140737488355328)) (
        cond (Nat.ble (((List.length (List.replicate (Int.toNat a1) false)) + 0) * 1) 70368744177664) (
          K0 ((List.replicate (Int.toNat a1) false) ++ [])) (
          none)) (
        none)) (
      none)) (
    none)
noncomputable def plumblineref02_up_n0 {R : Type} (k : Nat) (a1 : Int) (K0 : (List Bool) → Option R) : Option R := plumblineref02_up_n0T k a1 K0
theorem plumblineref02_up_n0_gen {R : Type} (k : Nat) (a1 : Int) (K : AV → Heap → Option R) :
    fnK (mkCx Ty exts [] fi61 [] []) 6 61 [.nsl, .i .i64 a1] ⟨0, []⟩ K = plumblineref02_up_n0T k a1 (fun q1 => K (.sw 0) ⟨1, [(0, some ⟨0, false, .row [.b] q1⟩)]⟩) := by kernel_rfl
noncomputable def S61G {R : Type} (plumblineref02_up : plumblineref02_upY R) (plumblineref02_up_n0 : plumblineref02_up_n0Y R) (k : Nat) : Sum R := fun args H K => match args, H with
  | [.sw 0, .i .i64 a1], ⟨1, [(0, some ⟨0, false, .row [.b] a2⟩)]⟩ => plumblineref02_up k a1 a2 (fun q2 => K (.sw 1) ⟨2, [(0, some ⟨0, false, .row [.b] a2⟩), (1, some ⟨1, false, .row [.b] q2⟩)]⟩)
  | [.nsl, .i .i64 a1], ⟨0, []⟩ => plumblineref02_up_n0 k a1 (fun q1 => K (.sw 0) ⟨1, [(0, some ⟨0, false, .row [.b] q1⟩)]⟩)
  | _, _ => none
noncomputable def S61 {R : Type} (k : Nat) : Sum R := S61G plumblineref02_up plumblineref02_up_n0 k
theorem S61_ok0 {R : Type} (k : Nat) : SumOk Try.prog 61 false (S61 k : Sum R) := by
  intro args H K r h
  unfold S61 S61G at h
  split at h
  · exact fnK_sound (cx61_ok k) 6 61 _ _ K r ((plumblineref02_up_gen k _ _ K).trans h)
  · exact fnK_sound (cx61_ok k) 6 61 _ _ K r ((plumblineref02_up_n0_gen k _ K).trans h)
  · cases h
theorem S61_ok {R : Type} (k : Nat) : SumOk Try.prog 61 true (S61 k : Sum R) := by
  refine sumOk_keep (S61_ok0 k) ?_
  intro args H K r h
  unfold S61 S61G at h ⊢
  split at h
  · refine Eq.trans ?_ h
    show plumblineref02_up k _ _ _ = plumblineref02_up k _ _ _
    congr 1
    all_goals first | exact (funext fun q2 => if_pos (keeps_app _ _ _ [(1, some ⟨1, false, .row [.b] q2⟩)])) | skip
  · refine Eq.trans ?_ h
    show plumblineref02_up_n0 k _ _ = plumblineref02_up_n0 k _ _
    congr 1
    all_goals first | exact (funext fun q1 => if_pos (keeps_app _ _ _ [(0, some ⟨0, false, .row [.b] q1⟩)])) | skip
  · cases h
-- function 62: plumbline/plumblineref02.plus
noncomputable def fi62 : FnI := ⟨62, Try.f62, [(100004, [0, 1, 5, 6, 7]), (600006, [0, 1, 5, 6, 7]), (600009, [0, 1, 5, 6, 7, 8]), (600011, [0, 1, 5, 6, 7, 8]), (3004000, [5]), (5500006, [0, 1, 5, 6, 7]), (5500009, [0, 1, 5, 6, 7]), (5500011, [0, 1, 5, 6, 7])]⟩
theorem en62 : Enters Try.prog 62 := enters_of Try.func62 (c := ((Try.f62).body.getD .skip)) (by kernel_rfl) (by kernel_rfl)
@[reducible] def plumblineref02_plus_c0Y (R : Type) : Type := Nat → Bool → Int → Int → (List Bool) → (List Bool) → (Bool → (List Bool) → Option R) → Option R
noncomputable def plumblineref02_plus_c0T {R : Type} (k : Nat) (x1 : Bool) (x2 : Int) (x3 : Int) (x4 : List Bool) (x5 : List Bool) (K0 : Bool → (List Bool) → Option R) : Option R :=
  cond x1 (
    K0 (decide ((Wi64 (x3 + 1)) ≥ 2)) [((Int.tmod (Wi64 (x3 + 1)) 2) == 1)]) (
    K0 (decide (x3 ≥ 2)) [((Int.tmod x3 2) == 1)])
noncomputable def plumblineref02_plus_c0 {R : Type} (k : Nat) (x1 : Bool) (x2 : Int) (x3 : Int) (x4 : List Bool) (x5 : List Bool) (K0 : Bool → (List Bool) → Option R) : Option R := plumblineref02_plus_c0T k x1 x2 x3 x4 x5 K0
@[reducible] def plumblineref02_plus_c3Y (R : Type) : Type := Nat → Bool → Int → Int → (List Bool) → (List Bool) → (List Bool) → (Bool → (List Bool) → Option R) → Option R
noncomputable def plumblineref02_plus_c3T {R : Type} (k : Nat) (x1 : Bool) (x2 : Int) (x3 : Int) (x4 : List Bool) (x5 : List Bool) (x6 : List Bool) (K0 : Bool → (List Bool) → Option R) : Option R :=
  cond x1 (
    cond (Nat.ble (((List.length x6) + 1) * 1) 70368744177664) (
      K0 (decide ((Wi64 (x3 + 1)) ≥ 2)) (x6 ++ [((Int.tmod (Wi64 (x3 + 1)) 2) == 1)])) (
      none)) (
    cond (Nat.ble (((List.length x6) + 1) * 1) 70368744177664) (
      K0 (decide (x3 ≥ 2)) (x6 ++ [((Int.tmod x3 2) == 1)])) (
      none))
noncomputable def plumblineref02_plus_c3 {R : Type} (k : Nat) (x1 : Bool) (x2 : Int) (x3 : Int) (x4 : List Bool) (x5 : List Bool) (x6 : List Bool) (K0 : Bool → (List Bool) → Option R) : Option R := plumblineref02_plus_c3T k x1 x2 x3 x4 x5 x6 K0
noncomputable def cc62_11 {R : Type} (k : Nat) : Cx R := mkCx Ty exts [] fi62 [] []
theorem cc62_11_ok {R : Type} (k : Nat) : CxOk Try.prog (cc62_11 k : Cx R) := mkCx_ok (c := ((Try.f62).body.getD .skip)) ty_ok mixed exts_ok allSum_nil Try.func62 en62 (by kernel_rfl) (by kernel_rfl) allLoop_nil allCut_nil
noncomputable def C62_11G {R : Type} (plumblineref02_plus_c0 : plumblineref02_plus_c0Y R) (plumblineref02_plus_c3 : plumblineref02_plus_c3Y R) (k : Nat) : LSum R := fun pin T H K => match pin, T, H with
  | 2, [(0, .sw 0), (1, .sw 1), (5, .nsl), (6, .b x1), (7, .i .i64 x2), (8, .i .i64 x3)], ⟨2, [(0, some ⟨0, false, .row [.b] x4⟩), (1, some ⟨1, false, .row [.b] x5⟩)]⟩ => plumblineref02_plus_c0 k x1 x2 x3 x4 x5 (fun q1 q5 => K .normal [(0, .sw 0), (1, .sw 1), (5, .sw 2), (6, .b q1), (7, .i .i64 x2)] ⟨3, [(0, some ⟨0, false, .row [.b] x4⟩), (1, some ⟨1, false, .row [.b] x5⟩), (2, some ⟨2, false, .row [.b] q5⟩)]⟩)
  | 2, [(0, .sw 0), (1, .sw 1), (5, .sw 2), (6, .b x1), (7, .i .i64 x2), (8, .i .i64 x3)], ⟨3, [(0, some ⟨0, false, .row [.b] x4⟩), (1, some ⟨1, false, .row [.b] x5⟩), (2, some ⟨2, false, .row [.b] x6⟩)]⟩ => plumblineref02_plus_c3 k x1 x2 x3 x4 x5 x6 (fun q1 q5 => K .normal [(0, .sw 0), (1, .sw 1), (5, .sw 2), (6, .b q1), (7, .i .i64 x2)] ⟨3, [(0, some ⟨0, false, .row [.b] x4⟩), (1, some ⟨1, false, .row [.b] x5⟩), (2, some ⟨2, false, .row [.b] q5⟩)]⟩)
  | _, _, _ => none
noncomputable def C62_11 {R : Type} (k : Nat) : LSum R := C62_11G plumblineref02_plus_c0 plumblineref02_plus_c3 k
theorem plumblineref02_plus_c0_gen {R : Type} (k : Nat) (x1 : Bool) (x2 : Int) (x3 : Int) (x4 : List Bool) (x5 : List Bool) (K : Kont R) :
    (fun C => codeK C (run C 4)) (mkCx Ty exts [] fi62 [] []) 2 fi62 (cutAt ((Try.f62).body.getD .skip) 11) [(0, .sw 0), (1, .sw 1), (5, .nsl), (6, .b x1), (7, .i .i64 x2), (8, .i .i64 x3)] ⟨2, [(0, some ⟨0, false, .row [.b] x4⟩), (1, some ⟨1, false, .row [.b] x5⟩)]⟩ (exitNorm fi62.ann 500011 2 K) = plumblineref02_plus_c0T k x1 x2 x3 x4 x5 (fun q1 q5 => K .normal [(0, .sw 0), (1, .sw 1), (5, .sw 2), (6, .b q1), (7, .i .i64 x2)] ⟨3, [(0, some ⟨0, false, .row [.b] x4⟩), (1, some ⟨1, false, .row [.b] x5⟩), (2, some ⟨2, false, .row [.b] q5⟩)]⟩) := by kernel_rfl
theorem plumblineref02_plus_c3_gen {R : Type} (k : Nat) (x1 : Bool) (x2 : Int) (x3 : Int) (x4 : List Bool) (x5 : List Bool) (x6 : List Bool) (K : Kont R) :
    (fun C => codeK C (run C 4)) (mkCx Ty exts [] fi62 [] []) 2 fi62 (cutAt ((Try.f62).body.getD .skip) 11) [(0, .sw 0), (1, .sw 1), (5, .sw 2), (6, .b x1), (7, .i .i64 x2), (8, .i .i64 x3)] ⟨3, [(0, some ⟨0, false, .row [.b] x4⟩), (1, some ⟨1, false, .row [.b] x5⟩), (2, some ⟨2, false, .row [.b] x6⟩)]⟩ (exitNorm fi62.ann 500011 2 K) = plumblineref02_plus_c3T k x1 x2 x3 x4 x5 x6 (fun q1 q5 => K .normal [(0, .sw 0), (1, .sw 1), (5, .sw 2), (6, .b q1), (7, .i .i64 x2)] ⟨3, [(0, some ⟨0, false, .row [.b] x4⟩), (1, some ⟨1, false, .row [.b] x5⟩), (2, some ⟨2, false, .row [.b] q5⟩)]⟩) := by kernel_rfl
theorem C62_11_cok {R : Type} (k : Nat) : CodeOk Try.prog (cc62_11 k : Cx R) fi62 (cutAt ((Try.f62).body.getD .skip) 11) := cutAt_ok (((cc62_11_ok k).fns 62 fi62 (by kernel_rfl)).2.2.2 ((Try.f62).body.getD .skip) (by kernel_rfl))
theorem C62_11_ok {R : Type} (k : Nat) : CutOk Try.prog (Try.f62).ntmps (cutAt ((Try.f62).body.getD .skip) 11) (C62_11 k : LSum R) := by
  intro pin T H K r h
  unfold C62_11 C62_11G at h
  split at h
  · obtain ⟨ex, T1, H1, h, hb⟩ := codeK_sound (cc62_11_ok k) (run_sound (cc62_11_ok k) 4) _ fi62 _ _ _ _ _ (C62_11_cok k) ((plumblineref02_plus_c0_gen k _ _ _ _ _ K).trans h)
    exact cut_step hb h
  · obtain ⟨ex, T1, H1, h, hb⟩ := codeK_sound (cc62_11_ok k) (run_sound (cc62_11_ok k) 4) _ fi62 _ _ _ _ _ (C62_11_cok k) ((plumblineref02_plus_c3_gen k _ _ _ _ _ _ K).trans h)
    exact cut_step hb h
  · cases h
@[reducible] def plumblineref02_plus_c1Y (R : Type) : Type := Nat → Bool → Int → Int → (List Bool) → (List Bool) → (Bool → (List Bool) → Option R) → Option R
noncomputable def plumblineref02_plus_c1T {R : Type} (plumblineref02_plus_c0 : plumblineref02_plus_c0Y R) (k : Nat) (x1 : Bool) (x2 : Int) (x3 : Int) (x4 : List Bool) (x5 : List Bool) (K0 : Bool → (List Bool) → Option R) : Option R :=
  cond (decide (x2 < (((List.length x5) : Nat) : Int))) (
    cond (decide (0 ≤ x2)) (
      cond (decide (x2 < (((List.length x5) : Nat) : Int))) (
        Option.bind (x5[(Int.toNat x2)]?) fun yyye1 =>
        cond yyye1 (
          plumblineref02_plus_c0 k x1 x2 (Wi64 (x3 + 1)) x4 x5 (fun yyyr2 yyyr3 =>
            K0 yyyr2 yyyr3)) (
          plumblineref02_plus_c0 k x1 x2 x3 x4 x5 (fun yyyr4 yyyr5 =>
            K0 yyyr4 yyyr5))) (
        none)) (
      none)) (
    plumblineref02_plus_c0 k x1 x2 x3 x4 x5 (fun yyyr6 yyyr7 =>
      K0 yyyr6 yyyr7))
noncomputable def plumblineref02_plus_c1 {R : Type} (k : Nat) (x1 : Bool) (x2 : Int) (x3 : Int) (x4 : List Bool) (x5 : List Bool) (K0 : Bool → (List Bool) → Option R) : Option R := plumblineref02_plus_c1T plumblineref02_plus_c0 k x1 x2 x3 x4 x5 K0
@[reducible] def plumblineref02_plus_c4Y (R : Type) : Type := Nat → Bool → Int → Int → (List Bool) → (List Bool) → (List Bool) → (Bool → (List Bool) → Option R) → Option R
noncomputable def plumblineref02_plus_c4T {R : Type} (plumblineref02_plus_c3 : plumblineref02_plus_c3Y R) (k : Nat) (x1 : Bool) (x2 : Int) (x3 : Int) (x4 : List Bool) (x5 : List Bool) (x6 : List Bool) (K0 : Bool → (List Bool) → Option R) : Option R :=
  cond (decide (x2 < (((List.length x5) : Nat) : Int))) (
    cond (decide (0 ≤ x2)) (
      cond (decide (x2 < (((List.length x5) : Nat) : Int))) (
        Option.bind (x5[(Int.toNat x2)]?) fun yyyye1 =>
        cond yyyye1 (
          plumblineref02_plus_c3 k x1 x2 (Wi64 (x3 + 1)) x4 x5 x6 (fun yyyyr2 yyyyr3 =>
            K0 yyyyr2 yyyyr3)) (
          plumblineref02_plus_c3 k x1 x2 x3 x4 x5 x6 (fun yyyyr4 yyyyr5 =>
            K0 yyyyr4 yyyyr5))) (
        none)) (
      none)) (
    plumblineref02_plus_c3 k x1 x2 x3 x4 x5 x6 (fun yyyyr6 yyyyr7 =>
      K0 yyyyr6 yyyyr7))
noncomputable def plumblineref02_plus_c4 {R : Type} (k : Nat) (x1 : Bool) (x2 : Int) (x3 : Int) (x4 : List Bool) (x5 : List Bool) (x6 : List Bool) (K0 : Bool → (List Bool) → Option R) : Option R := plumblineref02_plus_c4T plumblineref02_plus_c3 k x1 x2 x3 x4 x5 x6 K0
noncomputable def cc62_9 {R : Type} (k : Nat) : Cx R := mkCx Ty exts [] fi62 [] [(11, C62_11 k)]
theorem cc62_9_ok {R : Type} (k : Nat) : CxOk Try.prog (cc62_9 k : Cx R) := mkCx_ok (c := ((Try.f62).body.getD .skip)) ty_ok mixed exts_ok allSum_nil Try.func62 en62 (by kernel_rfl) (by kernel_rfl) allLoop_nil (allCut_cons (C62_11_ok k) (by kernel_rfl) allCut_nil)
noncomputable def C62_9G {R : Type} (plumblineref02_plus_c1 : plumblineref02_plus_c1Y R) (plumblineref02_plus_c4 : plumblineref02_plus_c4Y R) (k : Nat) : LSum R := fun pin T H K => match pin, T, H with
  | 2, [(0, .sw 0), (1, .sw 1), (5, .nsl), (6, .b x1), (7, .i .i64 x2), (8, .i .i64 x3)], ⟨2, [(0, some ⟨0, false, .row [.b] x4⟩), (1, some ⟨1, false, .row [.b] x5⟩)]⟩ => plumblineref02_plus_c1 k x1 x2 x3 x4 x5 (fun q1 q5 => K .normal [(0, .sw 0), (1, .sw 1), (5, .sw 2), (6, .b q1), (7, .i .i64 x2)] ⟨3, [(0, some ⟨0, false, .row [.b] x4⟩), (1, some ⟨1, false, .row [.b] x5⟩), (2, some ⟨2, false, .row [.b] q5⟩)]⟩)
  | 2, [(0, .sw 0), (1, .sw 1), (5, .sw 2), (6, .b x1), (7, .i .i64 x2), (8, .i .i64 x3)], ⟨3, [(0, some ⟨0, false, .row [.b] x4⟩), (1, some ⟨1, false, .row [.b] x5⟩), (2, some ⟨2, false, .row [.b] x6⟩)]⟩ => plumblineref02_plus_c4 k x1 x2 x3 x4 x5 x6 (fun q1 q5 => K .normal [(0, .sw 0), (1, .sw 1), (5, .sw 2), (6, .b q1), (7, .i .i64 x2)] ⟨3, [(0, some ⟨0, false, .row [.b] x4⟩), (1, some ⟨1, false, .row [.b] x5⟩), (2, some ⟨2, false, .row [.b] q5⟩)]⟩)
  | _, _, _ => none
noncomputable def C62_9 {R : Type} (k : Nat) : LSum R := C62_9G plumblineref02_plus_c1 plumblineref02_plus_c4 k
theorem plumblineref02_plus_c1_gen {R : Type} (plumblineref02_plus_c0 : plumblineref02_plus_c0Y R) (plumblineref02_plus_c3 : plumblineref02_plus_c3Y R) (k : Nat) (x1 : Bool) (x2 : Int) (x3 : Int) (x4 : List Bool) (x5 : List Bool) (K : Kont R) :
    (fun C => codeK C (run C 4)) (mkCx Ty exts [] fi62 [] [(11, C62_11G plumblineref02_plus_c0 plumblineref02_plus_c3 k)]) 2 fi62 (cutAt ((Try.f62).body.getD .skip) 9) [(0, .sw 0), (1, .sw 1), (5, .nsl), (6, .b x1), (7, .i .i64 x2), (8, .i .i64 x3)] ⟨2, [(0, some ⟨0, false, .row [.b] x4⟩), (1, some ⟨1, false, .row [.b] x5⟩)]⟩ (exitNorm fi62.ann 500009 2 K) = plumblineref02_plus_c1T plumblineref02_plus_c0 k x1 x2 x3 x4 x5 (fun q1 q5 => K .normal [(0, .sw 0), (1, .sw 1), (5, .sw 2), (6, .b q1), (7, .i .i64 x2)] ⟨3, [(0, some ⟨0, false, .row [.b] x4⟩), (1, some ⟨1, false, .row [.b] x5⟩), (2, some ⟨2, false, .row [.b] q5⟩)]⟩) := by kernel_rfl
theorem plumblineref02_plus_c4_gen {R : Type} (plumblineref02_plus_c0 : plumblineref02_plus_c0Y R) (plumblineref02_plus_c3 : plumblineref02_plus_c3Y R) (k : Nat) (x1 : Bool) (x2 : Int) (x3 : Int) (x4 : List Bool) (x5 : List Bool) (x6 : List Bool) (K : Kont R) :
    (fun C => codeK C (run C 4)) (mkCx Ty exts [] fi62 [] [(11, C62_11G plumblineref02_plus_c0 plumblineref02_plus_c3 k)]) 2 fi62 (cutAt ((Try.f62).body.getD .skip) 9) [(0, .sw 0), (1, .sw 1), (5, .sw 2), (6, .b x1), (7, .i .i64 x2), (8, .i .i64 x3)] ⟨3, [(0, some ⟨0, false, .row [.b] x4⟩), (1, some ⟨1, false, .row [.b] x5⟩), (2, some ⟨2, false, .row [.b] x6⟩)]⟩ (exitNorm fi62.ann 500009 2 K) = plumblineref02_plus_c4T plumblineref02_plus_c3 k x1 x2 x3 x4 x5 x6 (fun q1 q5 => K .normal [(0, .sw 0), (1, .sw 1), (5, .sw 2), (6, .b q1), (7, .i .i64 x2)] ⟨3, [(0, some ⟨0, false, .row [.b] x4⟩), (1, some ⟨1, false, .row [.b] x5⟩), (2, some ⟨2, false, .row [.b] q5⟩)]⟩) := by kernel_rfl
theorem C62_9_cok {R : Type} (k : Nat) : CodeOk Try.prog (cc62_9 k : Cx R) fi62 (cutAt ((Try.f62).body.getD .skip) 9) := cutAt_ok (((cc62_9_ok k).fns 62 fi62 (by kernel_rfl)).2.2.2 ((Try.f62).body.getD .skip) (by kernel_rfl))
theorem C62_9_ok {R : Type} (k : Nat) : CutOk Try.prog (Try.f62).ntmps (cutAt ((Try.f62).body.getD .skip) 9) (C62_9 k : LSum R) := by
  intro pin T H K r h
  unfold C62_9 C62_9G at h
  split at h
  · obtain ⟨ex, T1, H1, h, hb⟩ := codeK_sound (cc62_9_ok k) (run_sound (cc62_9_ok k) 4) _ fi62 _ _ _ _ _ (C62_9_cok k) ((plumblineref02_plus_c1_gen plumblineref02_plus_c0 plumblineref02_plus_c3 k _ _ _ _ _ K).trans h)
    exact cut_step hb h
  · obtain ⟨ex, T1, H1, h, hb⟩ := codeK_sound (cc62_9_ok k) (run_sound (cc62_9_ok k) 4) _ fi62 _ _ _ _ _ (C62_9_cok k) ((plumblineref02_plus_c4_gen plumblineref02_plus_c0 plumblineref02_plus_c3 k _ _ _ _ _ _ K).trans h)
    exact cut_step hb h
  · cases h
@[reducible] def plumblineref02_plus_c2Y (R : Type) : Type := Nat → Bool → Int → (List Bool) → (List Bool) → (Bool → Int → (List Bool) → Option R) → Option R
noncomputable def plumblineref02_plus_c2T {R : Type} (plumblineref02_plus_c1 : plumblineref02_plus_c1Y R) (k : Nat) (x1 : Bool) (x2 : Int) (x3 : List Bool) (x4 : List Bool) (K0 : Bool → Int → (List Bool) → Option R) : Option R :=
  cond (decide (x2 < (((List.length x3) : Nat) : Int))) (
    cond (decide (0 ≤ x2)) (
      cond (decide (x2 < (((List.length x3) : Nat) : Int))) (
        Option.bind (x3[(Int.toNat x2)]?) fun yye1 =>
        cond yye1 (
          plumblineref02_plus_c1 k x1 x2 1 x3 x4 (fun yyr2 yyr3 =>
            K0 yyr2 (Wi64 (x2 + 1)) yyr3)) (
          plumblineref02_plus_c1 k x1 x2 0 x3 x4 (fun yyr4 yyr5 =>
            K0 yyr4 (Wi64 (x2 + 1)) yyr5))) (
        none)) (
      none)) (
    plumblineref02_plus_c1 k x1 x2 0 x3 x4 (fun yyr6 yyr7 =>
      K0 yyr6 (Wi64 (x2 + 1)) yyr7))
noncomputable def plumblineref02_plus_c2 {R : Type} (k : Nat) (x1 : Bool) (x2 : Int) (x3 : List Bool) (x4 : List Bool) (K0 : Bool → Int → (List Bool) → Option R) : Option R := plumblineref02_plus_c2T plumblineref02_plus_c1 k x1 x2 x3 x4 K0
@[reducible] def plumblineref02_plus_c5Y (R : Type) : Type := Nat → Bool → Int → (List Bool) → (List Bool) → (List Bool) → (Bool → Int → (List Bool) → Option R) → Option R
noncomputable def plumblineref02_plus_c5T {R : Type} (plumblineref02_plus_c4 : plumblineref02_plus_c4Y R) (k : Nat) (x1 : Bool) (x2 : Int) (x3 : List Bool) (x4 : List Bool) (x5 : List Bool) (K0 : Bool → Int → (List Bool) → Option R) : Option R :=
  cond (decide (x2 < (((List.length x3) : Nat) : Int))) (
    cond (decide (0 ≤ x2)) (
      cond (decide (x2 < (((List.length x3) : Nat) : Int))) (
        Option.bind (x3[(Int.toNat x2)]?) fun yyye1 =>
        cond yyye1 (
          plumblineref02_plus_c4 k x1 x2 1 x3 x4 x5 (fun yyyr2 yyyr3 =>
            K0 yyyr2 (Wi64 (x2 + 1)) yyyr3)) (
          plumblineref02_plus_c4 k x1 x2 0 x3 x4 x5 (fun yyyr4 yyyr5 =>
            K0 yyyr4 (Wi64 (x2 + 1)) yyyr5))) (
        none)) (
      none)) (
    plumblineref02_plus_c4 k x1 x2 0 x3 x4 x5 (fun yyyr6 yyyr7 =>
      K0 yyyr6 (Wi64 (x2 + 1)) yyyr7))
noncomputable def plumblineref02_plus_c5 {R : Type} (k : Nat) (x1 : Bool) (x2 : Int) (x3 : List Bool) (x4 : List Bool) (x5 : List Bool) (K0 : Bool → Int → (List Bool) → Option R) : Option R := plumblineref02_plus_c5T plumblineref02_plus_c4 k x1 x2 x3 x4 x5 K0
noncomputable def cc62_6 {R : Type} (k : Nat) : Cx R := mkCx Ty exts [] fi62 [] [(11, C62_11 k), (9, C62_9 k)]
theorem cc62_6_ok {R : Type} (k : Nat) : CxOk Try.prog (cc62_6 k : Cx R) := mkCx_ok (c := ((Try.f62).body.getD .skip)) ty_ok mixed exts_ok allSum_nil Try.func62 en62 (by kernel_rfl) (by kernel_rfl) allLoop_nil (allCut_cons (C62_11_ok k) (by kernel_rfl) (allCut_cons (C62_9_ok k) (by kernel_rfl) allCut_nil))
noncomputable def C62_6G {R : Type} (plumblineref02_plus_c2 : plumblineref02_plus_c2Y R) (plumblineref02_plus_c5 : plumblineref02_plus_c5Y R) (k : Nat) : LSum R := fun pin T H K => match pin, T, H with
  | 2, [(0, .sw 0), (1, .sw 1), (5, .nsl), (6, .b x1), (7, .i .i64 x2)], ⟨2, [(0, some ⟨0, false, .row [.b] x3⟩), (1, some ⟨1, false, .row [.b] x4⟩)]⟩ => plumblineref02_plus_c2 k x1 x2 x3 x4 (fun q1 q2 q5 => K .normal [(0, .sw 0), (1, .sw 1), (5, .sw 2), (6, .b q1), (7, .i .i64 q2)] ⟨3, [(0, some ⟨0, false, .row [.b] x3⟩), (1, some ⟨1, false, .row [.b] x4⟩), (2, some ⟨2, false, .row [.b] q5⟩)]⟩)
  | 2, [(0, .sw 0), (1, .sw 1), (5, .sw 2), (6, .b x1), (7, .i .i64 x2)], ⟨3, [(0, some ⟨0, false, .row [.b] x3⟩), (1, some ⟨1, false, .row [.b] x4⟩), (2, some ⟨2, false, .row [.b] x5⟩)]⟩ => plumblineref02_plus_c5 k x1 x2 x3 x4 x5 (fun q1 q2 q5 => K .normal [(0, .sw 0), (1, .sw 1), (5, .sw 2), (6, .b q1), (7, .i .i64 q2)] ⟨3, [(0, some ⟨0, false, .row [.b] x3⟩), (1, some ⟨1, false, .row [.b] x4⟩), (2, some ⟨2, false, .row [.b] q5⟩)]⟩)
  | _, _, _ => none
noncomputable def C62_6 {R : Type} (k : Nat) : LSum R := C62_6G plumblineref02_plus_c2 plumblineref02_plus_c5 k
theorem plumblineref02_plus_c2_gen {R : Type} (plumblineref02_plus_c0 : plumblineref02_plus_c0Y R) (plumblineref02_plus_c3 : plumblineref02_plus_c3Y R) (plumblineref02_plus_c1 : plumblineref02_plus_c1Y R) (plumblineref02_plus_c4 : plumblineref02_plus_c4Y R) (k : Nat) (x1 : Bool) (x2 : Int) (x3 : List Bool) (x4 : List Bool) (K : Kont R) :
    (fun C => codeK C (run C 4)) (mkCx Ty exts [] fi62 [] [(11, C62_11G plumblineref02_plus_c0 plumblineref02_plus_c3 k), (9, C62_9G plumblineref02_plus_c1 plumblineref02_plus_c4 k)]) 2 fi62 (cutAt ((Try.f62).body.getD .skip) 6) [(0, .sw 0), (1, .sw 1), (5, .nsl), (6, .b x1), (7, .i .i64 x2)] ⟨2, [(0, some ⟨0, false, .row [.b] x3⟩), (1, some ⟨1, false, .row [.b] x4⟩)]⟩ (exitNorm fi62.ann 500006 2 K) = plumblineref02_plus_c2T plumblineref02_plus_c1 k x1 x2 x3 x4 (fun q1 q2 q5 => K .normal [(0, .sw 0), (1, .sw 1), (5, .sw 2), (6, .b q1), (7, .i .i64 q2)] ⟨3, [(0, some ⟨0, false, .row [.b] x3⟩), (1, some ⟨1, false, .row [.b] x4⟩), (2, some ⟨2, false, .row [.b] q5⟩)]⟩) := by kernel_rfl
theorem plumblineref02_plus_c5_gen {R : Type} (plumblineref02_plus_c0 : plumblineref02_plus_c0Y R) (plumblineref02_plus_c3 : plumblineref02_plus_c3Y R) (plumblineref02_plus_c1 : plumblineref02_plus_c1Y R) (plumblineref02_plus_c4 : plumblineref02_plus_c4Y R) (k : Nat) (x1 : Bool) (x2 : Int) (x3 : List Bool) (x4 : List Bool) (x5 : List Bool) (K : Kont R) :
    (fun C => codeK C (run C 4)) (mkCx Ty exts [] fi62 [] [(11, C62_11G plumblineref02_plus_c0 plumblineref02_plus_c3 k), (9, C62_9G plumblineref02_plus_c1 plumblineref02_plus_c4 k)]) 2 fi62 (cutAt ((Try.f62).body.getD .skip) 6) [(0, .sw 0), (1, .sw 1), (5, .sw 2), (6, .b x1), (7, .i .i64 x2)] ⟨3, [(0, some ⟨0, false, .row [.b] x3⟩), (1, some ⟨1, false, .row [.b] x4⟩), (2, some ⟨2, false, .row [.b] x5⟩)]⟩ (exitNorm fi62.ann 500006 2 K) = plumblineref02_plus_c5T plumblineref02_plus_c4 k x1 x2 x3 x4 x5 (fun q1 q2 q5 => K .normal [(0, .sw 0), (1, .sw 1), (5, .sw 2), (6, .b q1), (7, .i .i64 q2)] ⟨3, [(0, some ⟨0, false, .row [.b] x3⟩), (1, some ⟨1, false, .row [.b] x4⟩), (2, some ⟨2, false, .row [.b] q5⟩)]⟩) := by kernel_rfl
theorem C62_6_cok {R : Type} (k : Nat) : CodeOk Try.prog (cc62_6 k : Cx R) fi62 (cutAt ((Try.f62).body.getD .skip) 6) := cutAt_ok (((cc62_6_ok k).fns 62 fi62 (by kernel_rfl)).2.2.2 ((Try.f62).body.getD .skip) (by kernel_rfl))
theorem C62_6_ok {R : Type} (k : Nat) : CutOk Try.prog (Try.f62).ntmps (cutAt ((Try.f62).body.getD .skip) 6) (C62_6 k : LSum R) := by
  intro pin T H K r h
  unfold C62_6 C62_6G at h
  split at h
  · obtain ⟨ex, T1, H1, h, hb⟩ := codeK_sound (cc62_6_ok k) (run_sound (cc62_6_ok k) 4) _ fi62 _ _ _ _ _ (C62_6_cok k) ((plumblineref02_plus_c2_gen plumblineref02_plus_c0 plumblineref02_plus_c3 plumblineref02_plus_c1 plumblineref02_plus_c4 k _ _ _ _ K).trans h)
    exact cut_step hb h
  · obtain ⟨ex, T1, H1, h, hb⟩ := codeK_sound (cc62_6_ok k) (run_sound (cc62_6_ok k) 4) _ fi62 _ _ _ _ _ (C62_6_cok k) ((plumblineref02_plus_c5_gen plumblineref02_plus_c0 plumblineref02_plus_c3 plumblineref02_plus_c1 plumblineref02_plus_c4 k _ _ _ _ _ K).trans h)
    exact cut_step hb h
  · cases h
@[reducible] def plumblineref02_plus_l6Y (R : Type) : Type := Nat → Nat → Bool → Int → (List Bool) → (List Bool) → (List Bool) → ((List Bool) → Option R) → Option R
noncomputable def plumblineref02_plus_l6B {R : Type} (plumblineref02_plus_c5 : plumblineref02_plus_c5Y R) (k : Nat) (rec : Bool → Int → (List Bool) → (List Bool) → (List Bool) → Option R) (x1 : Bool) (x2 : Int) (x3 : List Bool) (x4 : List Bool) (x5 : List Bool) (K0 : (List Bool) → Option R) : Option R :=
  cond (decide (x2 < (((List.length x3) : Nat) : Int))) (
    plumblineref02_plus_c5 k x1 x2 x3 x4 x5 (fun yyr1 yyr2 yyr3 =>
      rec yyr1 yyr2 x3 x4 yyr3)) (
    cond (decide (x2 < (((List.length x4) : Nat) : Int))) (
      plumblineref02_plus_c5 k x1 x2 x3 x4 x5 (fun yyr4 yyr5 yyr6 =>
        rec yyr4 yyr5 x3 x4 yyr6)) (
      cond x1 (
        plumblineref02_plus_c5 k x1 x2 x3 x4 x5 (fun yyr7 yyr8 yyr9 =>
          rec yyr7 yyr8 x3 x4 yyr9)) (
        K0 x5)))
noncomputable def plumblineref02_plus_l6 {R : Type} (k : Nat) : Nat → Bool → Int → (List Bool) → (List Bool) → (List Bool) → ((List Bool) → Option R) → Option R
  | 0, _, _, _, _, _, _ => none
  | n + 1, x1, x2, x3, x4, x5, K0 => plumblineref02_plus_l6B plumblineref02_plus_c5 k (fun x1 x2 x3 x4 x5 => plumblineref02_plus_l6 k n x1 x2 x3 x4 x5 K0) x1 x2 x3 x4 x5 K0
@[reducible] def plumblineref02_plus_l7Y (R : Type) : Type := Nat → Nat → Bool → Int → (List Bool) → (List Bool) → ((List Bool) → Option R) → (Option R) → Option R
noncomputable def plumblineref02_plus_l7B {R : Type} (plumblineref02_plus_c2 : plumblineref02_plus_c2Y R) (k : Nat) (rec : Bool → Int → (List Bool) → (List Bool) → Option R) (o_plumblineref02_plus_l6 : Bool → Int → (List Bool) → (List Bool) → (List Bool) → ((List Bool) → Option R) → Option R) (x1 : Bool) (x2 : Int) (x3 : List Bool) (x4 : List Bool) (K0 : (List Bool) → Option R) (K1 : Option R) : Option R :=
  cond (decide (x2 < (((List.length x3) : Nat) : Int))) (
    plumblineref02_plus_c2 k x1 x2 x3 x4 (fun yr1 yr2 yr3 =>
      o_plumblineref02_plus_l6 yr1 yr2 x3 x4 yr3 (fun yr4 =>
        K0 yr4))) (
    cond (decide (x2 < (((List.length x4) : Nat) : Int))) (
      plumblineref02_plus_c2 k x1 x2 x3 x4 (fun yr5 yr6 yr7 =>
        o_plumblineref02_plus_l6 yr5 yr6 x3 x4 yr7 (fun yr8 =>
          K0 yr8))) (
      cond x1 (
        plumblineref02_plus_c2 k x1 x2 x3 x4 (fun yr9 yr10 yr11 =>
          o_plumblineref02_plus_l6 yr9 yr10 x3 x4 yr11 (fun yr12 =>
            K0 yr12))) (
        K1)))
noncomputable def plumblineref02_plus_l7 {R : Type} (k : Nat) : Nat → Bool → Int → (List Bool) → (List Bool) → ((List Bool) → Option R) → (Option R) → Option R
  | 0, _, _, _, _, _, _ => none
  | n + 1, x1, x2, x3, x4, K0, K1 => plumblineref02_plus_l7B plumblineref02_plus_c2 k (fun x1 x2 x3 x4 => plumblineref02_plus_l7 k n x1 x2 x3 x4 K0 K1) (plumblineref02_plus_l6 k n) x1 x2 x3 x4 K0 K1
noncomputable def cx62_4 {R : Type} (k : Nat) : Cx R := mkCx Ty exts [] fi62 [] [(11, C62_11 k), (9, C62_9 k), (6, C62_6 k)]
theorem cx62_4_ok {R : Type} (k : Nat) : CxOk Try.prog (cx62_4 k : Cx R) := mkCx_ok (c := ((Try.f62).body.getD .skip)) ty_ok mixed exts_ok allSum_nil Try.func62 en62 (by kernel_rfl) (by kernel_rfl) allLoop_nil (allCut_cons (C62_11_ok k) (by kernel_rfl) (allCut_cons (C62_9_ok k) (by kernel_rfl) (allCut_cons (C62_6_ok k) (by kernel_rfl) allCut_nil)))
noncomputable def L62_4G {R : Type} (plumblineref02_plus_l6 : plumblineref02_plus_l6Y R) (plumblineref02_plus_l7 : plumblineref02_plus_l7Y R) (k n : Nat) : LSum R := fun pin T H K => match pin, T, H with
  | 2, [(0, .sw 0), (1, .sw 1), (5, .sw 2), (6, .b x1), (7, .i .i64 x2)], ⟨3, [(0, some ⟨0, false, .row [.b] x3⟩), (1, some ⟨1, false, .row [.b] x4⟩), (2, some ⟨2, false, .row [.b] x5⟩)]⟩ => plumblineref02_plus_l6 k n x1 x2 x3 x4 x5 (fun q3 => K (.exit 0) [(5, .sw 2)] ⟨3, [(0, some ⟨0, false, .row [.b] x3⟩), (1, some ⟨1, false, .row [.b] x4⟩), (2, some ⟨2, false, .row [.b] q3⟩)]⟩)
  | 2, [(0, .sw 0), (1, .sw 1), (5, .nsl), (6, .b x1), (7, .i .i64 x2)], ⟨2, [(0, some ⟨0, false, .row [.b] x3⟩), (1, some ⟨1, false, .row [.b] x4⟩)]⟩ => plumblineref02_plus_l7 k n x1 x2 x3 x4 (fun q3 => K (.exit 0) [(5, .sw 2)] ⟨3, [(0, some ⟨0, false, .row [.b] x3⟩), (1, some ⟨1, false, .row [.b] x4⟩), (2, some ⟨2, false, .row [.b] q3⟩)]⟩) (K (.exit 0) [(5, .nsl)] ⟨2, [(0, some ⟨0, false, .row [.b] x3⟩), (1, some ⟨1, false, .row [.b] x4⟩)]⟩)
  | _, _, _ => none
noncomputable def L62_4 {R : Type} (k n : Nat) : LSum R := L62_4G plumblineref02_plus_l6 plumblineref02_plus_l7 k n
theorem plumblineref02_plus_l6_gen {R : Type} (plumblineref02_plus_c0 : plumblineref02_plus_c0Y R) (plumblineref02_plus_c3 : plumblineref02_plus_c3Y R) (plumblineref02_plus_c1 : plumblineref02_plus_c1Y R) (plumblineref02_plus_c4 : plumblineref02_plus_c4Y R) (plumblineref02_plus_c2 : plumblineref02_plus_c2Y R) (plumblineref02_plus_c5 : plumblineref02_plus_c5Y R) (plumblineref02_plus_l6 : plumblineref02_plus_l6Y R) (plumblineref02_plus_l7 : plumblineref02_plus_l7Y R) (k n : Nat) (x1 : Bool) (x2 : Int) (x3 : List Bool) (x4 : List Bool) (x5 : List Bool) (K : Kont R) :
    (fun C => codeK C (run C 4)) (mkCx Ty exts [] fi62 [] [(11, C62_11G plumblineref02_plus_c0 plumblineref02_plus_c3 k), (9, C62_9G plumblineref02_plus_c1 plumblineref02_plus_c4 k), (6, C62_6G plumblineref02_plus_c2 plumblineref02_plus_c5 k)]) 2 fi62 (loopAt ((Try.f62).body.getD .skip) 4) [(0, .sw 0), (1, .sw 1), (5, .sw 2), (6, .b x1), (7, .i .i64 x2)] ⟨3, [(0, some ⟨0, false, .row [.b] x3⟩), (1, some ⟨1, false, .row [.b] x4⟩), (2, some ⟨2, false, .row [.b] x5⟩)]⟩ (fun ex T H => match (generalizing := false) ex with
      | .normal => normAt (some [0, 1, 5, 6, 7]) 2 T H (fun T H => L62_4G plumblineref02_plus_l6 plumblineref02_plus_l7 k n 2 T H K)
      | ex => exitNorm fi62.ann 4 2 K ex T H) =
    plumblineref02_plus_l6B plumblineref02_plus_c5 k (fun x1 x2 x3 x4 x5 => plumblineref02_plus_l6 k n x1 x2 x3 x4 x5 (fun q3 => K (.exit 0) [(5, .sw 2)] ⟨3, [(0, some ⟨0, false, .row [.b] x3⟩), (1, some ⟨1, false, .row [.b] x4⟩), (2, some ⟨2, false, .row [.b] q3⟩)]⟩)) x1 x2 x3 x4 x5 (fun q3 => K (.exit 0) [(5, .sw 2)] ⟨3, [(0, some ⟨0, false, .row [.b] x3⟩), (1, some ⟨1, false, .row [.b] x4⟩), (2, some ⟨2, false, .row [.b] q3⟩)]⟩) := by kernel_rfl
theorem plumblineref02_plus_l7_gen {R : Type} (plumblineref02_plus_c0 : plumblineref02_plus_c0Y R) (plumblineref02_plus_c3 : plumblineref02_plus_c3Y R) (plumblineref02_plus_c1 : plumblineref02_plus_c1Y R) (plumblineref02_plus_c4 : plumblineref02_plus_c4Y R) (plumblineref02_plus_c2 : plumblineref02_plus_c2Y R) (plumblineref02_plus_c5 : plumblineref02_plus_c5Y R) (plumblineref02_plus_l6 : plumblineref02_plus_l6Y R) (plumblineref02_plus_l7 : plumblineref02_plus_l7Y R) (k n : Nat) (x1 : Bool) (x2 : Int) (x3 : List Bool) (x4 : List Bool) (K : Kont R) :
    (fun C => codeK C (run C 4)) (mkCx Ty exts [] fi62 [] [(11, C62_11G plumblineref02_plus_c0 plumblineref02_plus_c3 k), (9, C62_9G plumblineref02_plus_c1 plumblineref02_plus_c4 k), (6, C62_6G plumblineref02_plus_c2 plumblineref02_plus_c5 k)]) 2 fi62 (loopAt ((Try.f62).body.getD .skip) 4) [(0, .sw 0), (1, .sw 1), (5, .nsl), (6, .b x1), (7, .i .i64 x2)] ⟨2, [(0, some ⟨0, false, .row [.b] x3⟩), (1, some ⟨1, false, .row [.b] x4⟩)]⟩ (fun ex T H => match (generalizing := false) ex with
      | .normal => normAt (some [0, 1, 5, 6, 7]) 2 T H (fun T H => L62_4G plumblineref02_plus_l6 plumblineref02_plus_l7 k n 2 T H K)
      | ex => exitNorm fi62.ann 4 2 K ex T H) =
    plumblineref02_plus_l7B plumblineref02_plus_c2 k (fun x1 x2 x3 x4 => plumblineref02_plus_l7 k n x1 x2 x3 x4 (fun q3 => K (.exit 0) [(5, .sw 2)] ⟨3, [(0, some ⟨0, false, .row [.b] x3⟩), (1, some ⟨1, false, .row [.b] x4⟩), (2, some ⟨2, false, .row [.b] q3⟩)]⟩) (K (.exit 0) [(5, .nsl)] ⟨2, [(0, some ⟨0, false, .row [.b] x3⟩), (1, some ⟨1, false, .row [.b] x4⟩)]⟩)) (plumblineref02_plus_l6 k n) x1 x2 x3 x4 (fun q3 => K (.exit 0) [(5, .sw 2)] ⟨3, [(0, some ⟨0, false, .row [.b] x3⟩), (1, some ⟨1, false, .row [.b] x4⟩), (2, some ⟨2, false, .row [.b] q3⟩)]⟩) (K (.exit 0) [(5, .nsl)] ⟨2, [(0, some ⟨0, false, .row [.b] x3⟩), (1, some ⟨1, false, .row [.b] x4⟩)]⟩) := by kernel_rfl
theorem L62_4_cok {R : Type} (k : Nat) : CodeOk Try.prog (cx62_4 k : Cx R) fi62 (loopAt ((Try.f62).body.getD .skip) 4) := loopAt_ok (((cx62_4_ok k).fns 62 fi62 (by kernel_rfl)).2.2.2 ((Try.f62).body.getD .skip) (by kernel_rfl))
theorem L62_4_ok {R : Type} (k : Nat) : ∀ n, LoopOk Try.prog (Try.f62).ntmps (loopAt ((Try.f62).body.getD .skip) 4) (L62_4 k n : LSum R)
  | 0 => by
    intro pin T H K r h
    unfold L62_4 L62_4G at h
    split at h
    all_goals exact nomatch (show (none : Option R) = some r from h)
  | n + 1 => by
    intro pin T H K r h
    unfold L62_4 L62_4G at h
    split at h
    · obtain ⟨ex, T1, H1, h, hb⟩ := codeK_sound (cx62_4_ok k) (run_sound (cx62_4_ok k) 4) _ fi62 _ _ _ _ _ (L62_4_cok k) ((plumblineref02_plus_l6_gen plumblineref02_plus_c0 plumblineref02_plus_c3 plumblineref02_plus_c1 plumblineref02_plus_c4 plumblineref02_plus_c2 plumblineref02_plus_c5 plumblineref02_plus_l6 plumblineref02_plus_l7 k n _ _ _ _ _ K).trans h)
      exact loop_step (fun T H hh => L62_4_ok k n _ T H K r hh) hb h
    · obtain ⟨ex, T1, H1, h, hb⟩ := codeK_sound (cx62_4_ok k) (run_sound (cx62_4_ok k) 4) _ fi62 _ _ _ _ _ (L62_4_cok k) ((plumblineref02_plus_l7_gen plumblineref02_plus_c0 plumblineref02_plus_c3 plumblineref02_plus_c1 plumblineref02_plus_c4 plumblineref02_plus_c2 plumblineref02_plus_c5 plumblineref02_plus_l6 plumblineref02_plus_l7 k n _ _ _ _ K).trans h)
      exact loop_step (fun T H hh => L62_4_ok k n _ T H K r hh) hb h
    · cases h
noncomputable def cx62 {R : Type} (k : Nat) : Cx R := mkCx Ty exts [] fi62 [(4, L62_4 k k)] [(11, C62_11 k), (9, C62_9 k), (6, C62_6 k)]
theorem cx62_ok {R : Type} (k : Nat) : CxOk Try.prog (cx62 k : Cx R) := mkCx_ok (c := ((Try.f62).body.getD .skip)) ty_ok mixed exts_ok allSum_nil Try.func62 en62 (by kernel_rfl) (by kernel_rfl) (allLoop_loop (by kernel_rfl) (L62_4_ok k k) allLoop_nil) (allCut_cons (C62_11_ok k) (by kernel_rfl) (allCut_cons (C62_9_ok k) (by kernel_rfl) (allCut_cons (C62_6_ok k) (by kernel_rfl) allCut_nil)))
@[reducible] def plumblineref02_plusY (R : Type) : Type := Nat → (List Bool) → (List Bool) → ((List Bool) → Option R) → (Option R) → Option R
noncomputable def plumblineref02_plusT {R : Type} (plumblineref02_plus_l7 : plumblineref02_plus_l7Y R) (k : Nat) (a1 : List Bool) (a2 : List Bool) (K0 : (List Bool) → Option R) (K1 : Option R) : Option R :=
  plumblineref02_plus_l7 k k false 0 a1 a2 (fun r1 =>
    K0 r1) (
    K1)
noncomputable def plumblineref02_plus {R : Type} (k : Nat) (a1 : List Bool) (a2 : List Bool) (K0 : (List Bool) → Option R) (K1 : Option R) : Option R := plumblineref02_plusT plumblineref02_plus_l7 k a1 a2 K0 K1
theorem plumblineref02_plus_gen {R : Type} (plumblineref02_plus_c0 : plumblineref02_plus_c0Y R) (plumblineref02_plus_c3 : plumblineref02_plus_c3Y R) (plumblineref02_plus_c1 : plumblineref02_plus_c1Y R) (plumblineref02_plus_c4 : plumblineref02_plus_c4Y R) (plumblineref02_plus_c2 : plumblineref02_plus_c2Y R) (plumblineref02_plus_c5 : plumblineref02_plus_c5Y R) (plumblineref02_plus_l6 : plumblineref02_plus_l6Y R) (plumblineref02_plus_l7 : plumblineref02_plus_l7Y R) (k : Nat) (a1 : List Bool) (a2 : List Bool) (K : AV → Heap → Option R) :
    fnK (mkCx Ty exts [] fi62 [(4, L62_4G plumblineref02_plus_l6 plumblineref02_plus_l7 k k)] [(11, C62_11G plumblineref02_plus_c0 plumblineref02_plus_c3 k), (9, C62_9G plumblineref02_plus_c1 plumblineref02_plus_c4 k), (6, C62_6G plumblineref02_plus_c2 plumblineref02_plus_c5 k)]) 6 62 [.sw 0, .sw 1] ⟨2, [(0, some ⟨0, false, .row [.b] a1⟩), (1, some ⟨1, false, .row [.b] a2⟩)]⟩ K = plumblineref02_plusT plumblineref02_plus_l7 k a1 a2 (fun q3 => K (.sw 2) ⟨3, [(0, some ⟨0, false, .row [.b] a1⟩), (1, some ⟨1, false, .row [.b] a2⟩), (2, some ⟨2, false, .row [.b] q3⟩)]⟩) (K .nsl ⟨2, [(0, some ⟨0, false, .row [.b] a1⟩), (1, some ⟨1, false, .row [.b] a2⟩)]⟩) := by kernel_rfl
noncomputable def S62G {R : Type} (plumblineref02_plus : plumblineref02_plusY R) (k : Nat) : Sum R := fun args H K => match args, H with
  | [.sw 0, .sw 1], ⟨2, [(0, some ⟨0, false, .row [.b] a1⟩), (1, some ⟨1, false, .row [.b] a2⟩)]⟩ => plumblineref02_plus k a1 a2 (fun q3 => K (.sw 2) ⟨3, [(0, some ⟨0, false, .row [.b] a1⟩), (1, some ⟨1, false, .row [.b] a2⟩), (2, some ⟨2, false, .row [.b] q3⟩)]⟩) (K .nsl ⟨2, [(0, some ⟨0, false, .row [.b] a1⟩), (1, some ⟨1, false, .row [.b] a2⟩)]⟩)
  | _, _ => none
noncomputable def S62 {R : Type} (k : Nat) : Sum R := S62G plumblineref02_plus k
theorem S62_ok0 {R : Type} (k : Nat) : SumOk Try.prog 62 false (S62 k : Sum R) := by
  intro args H K r h
  unfold S62 S62G at h
  split at h
  · exact fnK_sound (cx62_ok k) 6 62 _ _ K r ((plumblineref02_plus_gen plumblineref02_plus_c0 plumblineref02_plus_c3 plumblineref02_plus_c1 plumblineref02_plus_c4 plumblineref02_plus_c2 plumblineref02_plus_c5 plumblineref02_plus_l6 plumblineref02_plus_l7 k _ _ K).trans h)
  · cases h
theorem S62_ok {R : Type} (k : Nat) : SumOk Try.prog 62 true (S62 k : Sum R) := by
  refine sumOk_keep (S62_ok0 k) ?_
  intro args H K r h
  unfold S62 S62G at h ⊢
  split at h
  · refine Eq.trans ?_ h
    show plumblineref02_plus k _ _ _ _ = plumblineref02_plus k _ _ _ _
    congr 1
    all_goals first | exact (funext fun q3 => if_pos (keeps_app _ _ _ [(2, some ⟨2, false, .row [.b] q3⟩)])) | skip
    all_goals first | exact (if_pos (keeps_app _ _ _ [])) | skip
  · cases h
-- function 63: plumbline/plumblineref02.cmp
noncomputable def fi63 : FnI := ⟨63, Try.f63, [(100007, [0, 1, 7]), (2000007, [4]), (3007000, [])]⟩
theorem en63 : Enters Try.prog 63 := enters_of Try.func63 (c := ((Try.f63).body.getD .skip)) (by kernel_rfl) (by kernel_rfl)
@[reducible] def plumblineref02_cmp_l0Y (R : Type) : Type := Nat → Nat → Int → (List Bool) → (List Bool) → (Int → Option R) → (Option R) → Option R
noncomputable def plumblineref02_cmp_l0B {R : Type} (k : Nat) (rec : Int → (List Bool) → (List Bool) → Option R) (x1 : Int) (x2 : List Bool) (x3 : List Bool) (K0 : Int → Option R) (K1 : Option R) : Option R :=
  cond (decide (x1 ≥ 0)) (
    cond (decide (0 ≤ x1)) (
      cond (decide (x1 < (((List.length x2) : Nat) : Int))) (
        Option.bind (x2[(Int.toNat x1)]?) fun ye1 =>
        cond (decide (0 ≤ x1)) (
          cond (decide (x1 < (((List.length x3) : Nat) : Int))) (
            Option.bind (x3[(Int.toNat x1)]?) fun ye2 =>
            cond (!(ye1 == ye2)) (
              cond (decide (0 ≤ x1)) (
                cond (decide (x1 < (((List.length x2) : Nat) : Int))) (
                  Option.bind (x2[(Int.toNat x1)]?) fun ye3 =>
                  cond ye3 (
                    K0 1) (
                    K0 (-1))) (
                  none)) (
                none)) (
              rec (Wi64 (x1 - 1)) x2 x3)) (
            none)) (
          none)) (
        none)) (
      none)) (
    K1)
noncomputable def plumblineref02_cmp_l0 {R : Type} (k : Nat) : Nat → Int → (List Bool) → (List Bool) → (Int → Option R) → (Option R) → Option R
  | 0, _, _, _, _, _ => none
  | n + 1, x1, x2, x3, K0, K1 => plumblineref02_cmp_l0B k (fun x1 x2 x3 => plumblineref02_cmp_l0 k n x1 x2 x3 K0 K1) x1 x2 x3 K0 K1
noncomputable def cx63_7 {R : Type} (k : Nat) : Cx R := mkCx Ty exts [(86, true, S86 k)] fi63 [] []
theorem cx63_7_ok {R : Type} (k : Nat) : CxOk Try.prog (cx63_7 k : Cx R) := mkCx_ok (c := ((Try.f63).body.getD .skip)) ty_ok mixed exts_ok (allSum_cons (S86_ok k) en86 allSum_nil) Try.func63 en63 (by kernel_rfl) (by kernel_rfl) allLoop_nil allCut_nil
noncomputable def L63_7G {R : Type} (plumblineref02_cmp_l0 : plumblineref02_cmp_l0Y R) (k n : Nat) : LSum R := fun pin T H K => match pin, T, H with
  | 2, [(0, .sw 0), (1, .sw 1), (7, .i .i64 x1)], ⟨2, [(0, some ⟨0, false, .row [.b] x2⟩), (1, some ⟨1, false, .row [.b] x3⟩)]⟩ => plumblineref02_cmp_l0 k n x1 x2 x3 (fun q1 => K .ret [(4, .i .i64 q1)] ⟨2, [(0, some ⟨0, false, .row [.b] x2⟩), (1, some ⟨1, false, .row [.b] x3⟩)]⟩) (K (.exit 0) [] ⟨2, [(0, some ⟨0, false, .row [.b] x2⟩), (1, some ⟨1, false, .row [.b] x3⟩)]⟩)
  | _, _, _ => none
noncomputable def L63_7 {R : Type} (k n : Nat) : LSum R := L63_7G plumblineref02_cmp_l0 k n
theorem plumblineref02_cmp_l0_gen {R : Type} (plumblineref02_length : plumblineref02_lengthY R) (plumblineref02_length_n0 : plumblineref02_length_n0Y R) (plumblineref02_cmp_l0 : plumblineref02_cmp_l0Y R) (k n : Nat) (x1 : Int) (x2 : List Bool) (x3 : List Bool) (K : Kont R) :
    (fun C => codeK C (run C 4)) (mkCx Ty exts [(86, true, S86G plumblineref02_length plumblineref02_length_n0 k)] fi63 [] []) 2 fi63 (loopAt ((Try.f63).body.getD .skip) 7) [(0, .sw 0), (1, .sw 1), (7, .i .i64 x1)] ⟨2, [(0, some ⟨0, false, .row [.b] x2⟩), (1, some ⟨1, false, .row [.b] x3⟩)]⟩ (fun ex T H => match (generalizing := false) ex with
      | .normal => normAt (some [0, 1, 7]) 2 T H (fun T H => L63_7G plumblineref02_cmp_l0 k n 2 T H K)
      | ex => exitNorm fi63.ann 7 2 K ex T H) =
    plumblineref02_cmp_l0B k (fun x1 x2 x3 => plumblineref02_cmp_l0 k n x1 x2 x3 (fun q1 => K .ret [(4, .i .i64 q1)] ⟨2, [(0, some ⟨0, false, .row [.b] x2⟩), (1, some ⟨1, false, .row [.b] x3⟩)]⟩) (K (.exit 0) [] ⟨2, [(0, some ⟨0, false, .row [.b] x2⟩), (1, some ⟨1, false, .row [.b] x3⟩)]⟩)) x1 x2 x3 (fun q1 => K .ret [(4, .i .i64 q1)] ⟨2, [(0, some ⟨0, false, .row [.b] x2⟩), (1, some ⟨1, false, .row [.b] x3⟩)]⟩) (K (.exit 0) [] ⟨2, [(0, some ⟨0, false, .row [.b] x2⟩), (1, some ⟨1, false, .row [.b] x3⟩)]⟩) := by kernel_rfl
theorem L63_7_cok {R : Type} (k : Nat) : CodeOk Try.prog (cx63_7 k : Cx R) fi63 (loopAt ((Try.f63).body.getD .skip) 7) := loopAt_ok (((cx63_7_ok k).fns 63 fi63 (by kernel_rfl)).2.2.2 ((Try.f63).body.getD .skip) (by kernel_rfl))
theorem L63_7_ok {R : Type} (k : Nat) : ∀ n, LoopOk Try.prog (Try.f63).ntmps (loopAt ((Try.f63).body.getD .skip) 7) (L63_7 k n : LSum R)
  | 0 => by
    intro pin T H K r h
    unfold L63_7 L63_7G at h
    split at h
    all_goals exact nomatch (show (none : Option R) = some r from h)
  | n + 1 => by
    intro pin T H K r h
    unfold L63_7 L63_7G at h
    split at h
    · obtain ⟨ex, T1, H1, h, hb⟩ := codeK_sound (cx63_7_ok k) (run_sound (cx63_7_ok k) 4) _ fi63 _ _ _ _ _ (L63_7_cok k) ((plumblineref02_cmp_l0_gen plumblineref02_length plumblineref02_length_n0 plumblineref02_cmp_l0 k n _ _ _ K).trans h)
      exact loop_step (fun T H hh => L63_7_ok k n _ T H K r hh) hb h
    · cases h
noncomputable def cx63 {R : Type} (k : Nat) : Cx R := mkCx Ty exts [(86, true, S86 k)] fi63 [(7, L63_7 k k)] []
theorem cx63_ok {R : Type} (k : Nat) : CxOk Try.prog (cx63 k : Cx R) := mkCx_ok (c := ((Try.f63).body.getD .skip)) ty_ok mixed exts_ok (allSum_cons (S86_ok k) en86 allSum_nil) Try.func63 en63 (by kernel_rfl) (by kernel_rfl) (allLoop_loop (by kernel_rfl) (L63_7_ok k k) allLoop_nil) allCut_nil
@[reducible] def plumblineref02_cmpY (R : Type) : Type := Nat → (List Bool) → (List Bool) → (Int → Option R) → Option R
noncomputable def plumblineref02_cmpT {R : Type} (plumblineref02_cmp_l0 : plumblineref02_cmp_l0Y R) (plumblineref02_length : plumblineref02_lengthY R) (k : Nat) (a1 : List Bool) (a2 : List Bool) (K0 : Int → Option R) : Option R :=
  plumblineref02_length k a1 (fun r1 =>
    plumblineref02_length k a2 (fun r2 =>
      cond (r1 != r2) (
        cond (decide (r1 < r2)) (
          K0 (-1)) (
          K0 1)) (
        plumblineref02_cmp_l0 k k (Wi64 (r1 - 1)) a1 a2 (fun r3 =>
          K0 r3) (
          K0 0))))
noncomputable def plumblineref02_cmp {R : Type} (k : Nat) (a1 : List Bool) (a2 : List Bool) (K0 : Int → Option R) : Option R := plumblineref02_cmpT plumblineref02_cmp_l0 plumblineref02_length k a1 a2 K0
theorem plumblineref02_cmp_gen {R : Type} (plumblineref02_length : plumblineref02_lengthY R) (plumblineref02_length_n0 : plumblineref02_length_n0Y R) (plumblineref02_cmp_l0 : plumblineref02_cmp_l0Y R) (k : Nat) (a1 : List Bool) (a2 : List Bool) (K : AV → Heap → Option R) :
    fnK (mkCx Ty exts [(86, true, S86G plumblineref02_length plumblineref02_length_n0 k)] fi63 [(7, L63_7G plumblineref02_cmp_l0 k k)] []) 6 63 [.sw 0, .sw 1] ⟨2, [(0, some ⟨0, false, .row [.b] a1⟩), (1, some ⟨1, false, .row [.b] a2⟩)]⟩ K = plumblineref02_cmpT plumblineref02_cmp_l0 plumblineref02_length k a1 a2 (fun q1 => K (.i .i64 q1) ⟨2, [(0, some ⟨0, false, .row [.b] a1⟩), (1, some ⟨1, false, .row [.b] a2⟩)]⟩) := by kernel_rfl
noncomputable def S63G {R : Type} (plumblineref02_cmp : plumblineref02_cmpY R) (k : Nat) : Sum R := fun args H K => match args, H with
  | [.sw 0, .sw 1], ⟨2, [(0, some ⟨0, false, .row [.b] a1⟩), (1, some ⟨1, false, .row [.b] a2⟩)]⟩ => plumblineref02_cmp k a1 a2 (fun q1 => K (.i .i64 q1) ⟨2, [(0, some ⟨0, false, .row [.b] a1⟩), (1, some ⟨1, false, .row [.b] a2⟩)]⟩)
  | _, _ => none
noncomputable def S63 {R : Type} (k : Nat) : Sum R := S63G plumblineref02_cmp k
theorem S63_ok0 {R : Type} (k : Nat) : SumOk Try.prog 63 false (S63 k : Sum R) := by
  intro args H K r h
  unfold S63 S63G at h
  split at h
  · exact fnK_sound (cx63_ok k) 6 63 _ _ K r ((plumblineref02_cmp_gen plumblineref02_length plumblineref02_length_n0 plumblineref02_cmp_l0 k _ _ K).trans h)
  · cases h
theorem S63_ok {R : Type} (k : Nat) : SumOk Try.prog 63 true (S63 k : Sum R) := by
  refine sumOk_keep (S63_ok0 k) ?_
  intro args H K r h
  unfold S63 S63G at h ⊢
  split at h
  · refine Eq.trans ?_ h
    show plumblineref02_cmp k _ _ _ = plumblineref02_cmp k _ _ _
    congr 1
    all_goals first | exact (funext fun q1 => if_pos (keeps_app _ _ _ [])) | skip
  · cases h
-- function 64: plumbline/plumblineref02.minus
noncomputable def fi64 : FnI := ⟨64, Try.f64, [(100004, [0, 1, 5, 6, 7]), (3004000, [5])]⟩
theorem en64 : Enters Try.prog 64 := enters_of Try.func64 (c := ((Try.f64).body.getD .skip)) (by kernel_rfl) (by kernel_rfl)
@[reducible] def plumblineref02_minus_l0Y (R : Type) : Type := Nat → Nat → Bool → Int → (List Bool) → (List Bool) → (List Bool) → ((List Bool) → Option R) → Option R
noncomputable def plumblineref02_minus_l0B {R : Type} (k : Nat) (rec : Bool → Int → (List Bool) → (List Bool) → (List Bool) → Option R) (x1 : Bool) (x2 : Int) (x3 : List Bool) (x4 : List Bool) (x5 : List Bool) (K0 : (List Bool) → Option R) : Option R :=
  cond (decide (x2 < (((List.length x3) : Nat) : Int))) (
    cond (decide (0 ≤ x2)) (
      cond (decide (x2 < (((List.length x3) : Nat) : Int))) (
        Option.bind (x3[(Int.toNat x2)]?) fun ye1 =>
        cond ye1 (
          cond (decide (x2 < (((List.length x4) : Nat) : Int))) (
            cond (decide (0 ≤ x2)) (
              cond (decide (x2 < (((List.length x4) : Nat) : Int))) (
                Option.bind (x4[(Int.toNat x2)]?) fun ye2 =>
                cond ye2 (
                  cond x1 (
                    cond (decide (0 ≤ x2)) (
                      cond (decide (x2 < (((List.length x5) : Nat) : Int))) (
                        Option.bind (x5[(Int.toNat x2)]?) fun ye3 =>
                        rec true (Wi64 (x2 + 1)) x3 x4 (List.set x5 (Int.toNat x2) true)) (
                        none)) (
                      none)) (
                    cond (decide (0 ≤ x2)) (
                      cond (decide (x2 < (((List.length x5) : Nat) : Int))) (
                        Option.bind (x5[(Int.toNat x2)]?) fun ye4 =>
                        rec false (Wi64 (x2 + 1)) x3 x4 (List.set x5 (Int.toNat x2) false)) (
                        none)) (
                      none))) (
                  cond x1 (
                    cond (decide (0 ≤ x2)) (
                      cond (decide (x2 < (((List.length x5) : Nat) : Int))) (
                        Option.bind (x5[(Int.toNat x2)]?) fun ye5 =>
                        rec false (Wi64 (x2 + 1)) x3 x4 (List.set x5 (Int.toNat x2) false)) (
                        none)) (
                      none)) (
                    cond (decide (0 ≤ x2)) (
                      cond (decide (x2 < (((List.length x5) : Nat) : Int))) (
                        Option.bind (x5[(Int.toNat x2)]?) fun ye6 =>
                        rec false (Wi64 (x2 + 1)) x3 x4 (List.set x5 (Int.toNat x2) true)) (
                        none)) (
                      none)))) (
                none)) (
              none)) (
            cond x1 (
              cond (decide (0 ≤ x2)) (
                cond (decide (x2 < (((List.length x5) : Nat) : Int))) (
                  Option.bind (x5[(Int.toNat x2)]?) fun ye7 =>
                  rec false (Wi64 (x2 + 1)) x3 x4 (List.set x5 (Int.toNat x2) false)) (
                  none)) (
                none)) (
              cond (decide (0 ≤ x2)) (
                cond (decide (x2 < (((List.length x5) : Nat) : Int))) (
                  Option.bind (x5[(Int.toNat x2)]?) fun ye8 =>
                  rec false (Wi64 (x2 + 1)) x3 x4 (List.set x5 (Int.toNat x2) true)) (
                  none)) (
                none)))) (
          cond (decide (x2 < (((List.length x4) : Nat) : Int))) (
            cond (decide (0 ≤ x2)) (
              cond (decide (x2 < (((List.length x4) : Nat) : Int))) (
                Option.bind (x4[(Int.toNat x2)]?) fun ye9 =>
                cond ye9 (
                  cond x1 (
                    cond (decide (0 ≤ x2)) (
                      cond (decide (x2 < (((List.length x5) : Nat) : Int))) (
                        Option.bind (x5[(Int.toNat x2)]?) fun ye10 =>
                        rec true (Wi64 (x2 + 1)) x3 x4 (List.set x5 (Int.toNat x2) false)) (
                        none)) (
                      none)) (
                    cond (decide (0 ≤ x2)) (
                      cond (decide (x2 < (((List.length x5) : Nat) : Int))) (
                        Option.bind (x5[(Int.toNat x2)]?) fun ye11 =>
                        rec true (Wi64 (x2 + 1)) x3 x4 (List.set x5 (Int.toNat x2) true)) (
                        none)) (
                      none))) (
                  cond x1 (
                    cond (decide (0 ≤ x2)) (
                      cond (decide (x2 < (((List.length x5) : Nat) : Int))) (
                        Option.bind (x5[(Int.toNat x2)]?) fun ye12 =>
                        rec true (Wi64 (x2 + 1)) x3 x4 (List.set x5 (Int.toNat x2) true)) (
                        none)) (
                      none)) (
                    cond (decide (0 ≤ x2)) (
                      cond (decide (x2 < (((List.length x5) : Nat) : Int))) (
                        Option.bind (x5[(Int.toNat x2)]?) fun ye13 =>
                        rec false (Wi64 (x2 + 1)) x3 x4 (List.set x5 (Int.toNat x2) false)) (
                        none)) (
                      none)))) (
                none)) (
              none)) (
            cond x1 (
              cond (decide (0 ≤ x2)) (
                cond (decide (x2 < (((List.length x5) : Nat) : Int))) (
                  Option.bind (x5[(Int.toNat x2)]?) fun ye14 =>
                  rec true (Wi64 (x2 + 1)) x3 x4 (List.set x5 (Int.toNat x2) true)) (
                  none)) (
                none)) (
              cond (decide (0 ≤ x2)) (
                cond (decide (x2 < (((List.length x5) : Nat) : Int))) (
                  Option.bind (x5[(Int.toNat x2)]?) fun ye15 =>
                  rec false (Wi64 (x2 + 1)) x3 x4 (List.set x5 (Int.toNat x2) false)) (
                  none)) (
                none))))) (
        none)) (
      none)) (
    K0 x5)
noncomputable def plumblineref02_minus_l0 {R : Type} (k : Nat) : Nat → Bool → Int → (List Bool) → (List Bool) → (List Bool) → ((List Bool) → Option R) → Option R
  | 0, _, _, _, _, _, _ => none
  | n + 1, x1, x2, x3, x4, x5, K0 => plumblineref02_minus_l0B k (fun x1 x2 x3 x4 x5 => plumblineref02_minus_l0 k n x1 x2 x3 x4 x5 K0) x1 x2 x3 x4 x5 K0
noncomputable def cx64_4 {R : Type} (k : Nat) : Cx R := mkCx Ty exts [] fi64 [] []
theorem cx64_4_ok {R : Type} (k : Nat) : CxOk Try.prog (cx64_4 k : Cx R) := mkCx_ok (c := ((Try.f64).body.getD .skip)) ty_ok mixed exts_ok allSum_nil Try.func64 en64 (by kernel_rfl) (by kernel_rfl) allLoop_nil allCut_nil
noncomputable def L64_4G {R : Type} (plumblineref02_minus_l0 : plumblineref02_minus_l0Y R) (k n : Nat) : LSum R := fun pin T H K => match pin, T, H with
  | 2, [(0, .sw 0), (1, .sw 1), (5, .sw 2), (6, .b x1), (7, .i .i64 x2)], ⟨3, [(0, some ⟨0, false, .row [.b] x3⟩), (1, some ⟨1, false, .row [.b] x4⟩), (2, some ⟨2, false, .row [.b] x5⟩)]⟩ => plumblineref02_minus_l0 k n x1 x2 x3 x4 x5 (fun q3 => K (.exit 0) [(5, .sw 2)] ⟨3, [(0, some ⟨0, false, .row [.b] x3⟩), (1, some ⟨1, false, .row [.b] x4⟩), (2, some ⟨2, false, .row [.b] q3⟩)]⟩)
  | _, _, _ => none
noncomputable def L64_4 {R : Type} (k n : Nat) : LSum R := L64_4G plumblineref02_minus_l0 k n
theorem plumblineref02_minus_l0_gen {R : Type} (plumblineref02_minus_l0 : plumblineref02_minus_l0Y R) (k n : Nat) (x1 : Bool) (x2 : Int) (x3 : List Bool) (x4 : List Bool) (x5 : List Bool) (K : Kont R) :
    (fun C => codeK C (run C 4)) (mkCx Ty exts [] fi64 [] []) 2 fi64 (loopAt ((Try.f64).body.getD .skip) 4) [(0, .sw 0), (1, .sw 1), (5, .sw 2), (6, .b x1), (7, .i .i64 x2)] ⟨3, [(0, some ⟨0, false, .row [.b] x3⟩), (1, some ⟨1, false, .row [.b] x4⟩), (2, some ⟨2, false, .row [.b] x5⟩)]⟩ (fun ex T H => match (generalizing := false) ex with
      | .normal => normAt (some [0, 1, 5, 6, 7]) 2 T H (fun T H => L64_4G plumblineref02_minus_l0 k n 2 T H K)
      | ex => exitNorm fi64.ann 4 2 K ex T H) =
    plumblineref02_minus_l0B k (fun x1 x2 x3 x4 x5 => plumblineref02_minus_l0 k n x1 x2 x3 x4 x5 (fun q3 => K (.exit 0) [(5, .sw 2)] ⟨3, [(0, some ⟨0, false, .row [.b] x3⟩), (1, some ⟨1, false, .row [.b] x4⟩), (2, some ⟨2, false, .row [.b] q3⟩)]⟩)) x1 x2 x3 x4 x5 (fun q3 => K (.exit 0) [(5, .sw 2)] ⟨3, [(0, some ⟨0, false, .row [.b] x3⟩), (1, some ⟨1, false, .row [.b] x4⟩), (2, some ⟨2, false, .row [.b] q3⟩)]⟩) := by kernel_rfl
theorem L64_4_cok {R : Type} (k : Nat) : CodeOk Try.prog (cx64_4 k : Cx R) fi64 (loopAt ((Try.f64).body.getD .skip) 4) := loopAt_ok (((cx64_4_ok k).fns 64 fi64 (by kernel_rfl)).2.2.2 ((Try.f64).body.getD .skip) (by kernel_rfl))
theorem L64_4_ok {R : Type} (k : Nat) : ∀ n, LoopOk Try.prog (Try.f64).ntmps (loopAt ((Try.f64).body.getD .skip) 4) (L64_4 k n : LSum R)
  | 0 => by
    intro pin T H K r h
    unfold L64_4 L64_4G at h
    split at h
    all_goals exact nomatch (show (none : Option R) = some r from h)
  | n + 1 => by
    intro pin T H K r h
    unfold L64_4 L64_4G at h
    split at h
    · obtain ⟨ex, T1, H1, h, hb⟩ := codeK_sound (cx64_4_ok k) (run_sound (cx64_4_ok k) 4) _ fi64 _ _ _ _ _ (L64_4_cok k) ((plumblineref02_minus_l0_gen plumblineref02_minus_l0 k n _ _ _ _ _ K).trans h)
      exact loop_step (fun T H hh => L64_4_ok k n _ T H K r hh) hb h
    · cases h
noncomputable def cx64 {R : Type} (k : Nat) : Cx R := mkCx Ty exts [] fi64 [(4, L64_4 k k)] []
theorem cx64_ok {R : Type} (k : Nat) : CxOk Try.prog (cx64 k : Cx R) := mkCx_ok (c := ((Try.f64).body.getD .skip)) ty_ok mixed exts_ok allSum_nil Try.func64 en64 (by kernel_rfl) (by kernel_rfl) (allLoop_loop (by kernel_rfl) (L64_4_ok k k) allLoop_nil) allCut_nil
@[reducible] def plumblineref02_minusY (R : Type) : Type := Nat → (List Bool) → (List Bool) → ((List Bool) → Option R) → Option R
noncomputable def plumblineref02_minusT {R : Type} (plumblineref02_minus_l0 : plumblineref02_minus_l0Y R) (k : Nat) (a1 : List Bool) (a2 : List Bool) (K0 : (List Bool) → Option R) : Option R :=
  cond (decide (0 ≤ (((List.length a1) : Nat) : Int))) (
    cond (decide ((((List.length a1) : Nat) : Int) ≤ (((List.length a1) : Nat) : Int))) (
      cond (decide (((((List.length a1) : Nat) : Int) * 1) ≤ 140737488355328)) (
        plumblineref02_minus_l0 k k false 0 a1 a2 (List.replicate (Int.toNat (((List.length a1) : Nat) : Int)) false) (fun r1 =>
          K0 r1)) (
        none)) (
      none)) (
    none)
noncomputable def plumblineref02_minus {R : Type} (k : Nat) (a1 : List Bool) (a2 : List Bool) (K0 : (List Bool) → Option R) : Option R := plumblineref02_minusT plumblineref02_minus_l0 k a1 a2 K0
theorem plumblineref02_minus_gen {R : Type} (plumblineref02_minus_l0 : plumblineref02_minus_l0Y R) (k : Nat) (a1 : List Bool) (a2 : List Bool) (K : AV → Heap → Option R) :
    fnK (mkCx Ty exts [] fi64 [(4, L64_4G plumblineref02_minus_l0 k k)] []) 6 64 [.sw 0, .sw 1] ⟨2, [(0, some ⟨0, false, .row [.b] a1⟩), (1, some ⟨1, false, .row [.b] a2⟩)]⟩ K = plumblineref02_minusT plumblineref02_minus_l0 k a1 a2 (fun q3 => K (.sw 2) ⟨3, [(0, some ⟨0, false, .row [.b] a1⟩), (1, some ⟨1, false, .row [.b] a2⟩), (2, some ⟨2, false, .row [.b] q3⟩)]⟩) := by kernel_rfl
noncomputable def S64G {R : Type} (plumblineref02_minus : plumblineref02_minusY R) (k : Nat) : Sum R := fun args H K => match args, H with
  | [.sw 0, .sw 1], ⟨2, [(0, some ⟨0, false, .row [.b] a1⟩), (1, some ⟨1, false, .row [.b] a2⟩)]⟩ => plumblineref02_minus k a1 a2 (fun q3 => K (.sw 2) ⟨3, [(0, some ⟨0, false, .row [.b] a1⟩), (1, some ⟨1, false, .row [.b] a2⟩), (2, some ⟨2, false, .row [.b] q3⟩)]⟩)
  | _, _ => none
noncomputable def S64 {R : Type} (k : Nat) : Sum R := S64G plumblineref02_minus k
theorem S64_ok0 {R : Type} (k : Nat) : SumOk Try.prog 64 false (S64 k : Sum R) := by
  intro args H K r h
  unfold S64 S64G at h
  split at h
  · exact fnK_sound (cx64_ok k) 6 64 _ _ K r ((plumblineref02_minus_gen plumblineref02_minus_l0 k _ _ K).trans h)
  · cases h
theorem S64_ok {R : Type} (k : Nat) : SumOk Try.prog 64 true (S64 k : Sum R) := by
  refine sumOk_keep (S64_ok0 k) ?_
  intro args H K r h
  unfold S64 S64G at h ⊢
  split at h
  · refine Eq.trans ?_ h
    show plumblineref02_minus k _ _ _ = plumblineref02_minus k _ _ _
    congr 1
    all_goals first | exact (funext fun q3 => if_pos (keeps_app _ _ _ [(2, some ⟨2, false, .row [.b] q3⟩)])) | skip
  · cases h
end Go.Proofs.Ytbnmnkofekcodaa.N
