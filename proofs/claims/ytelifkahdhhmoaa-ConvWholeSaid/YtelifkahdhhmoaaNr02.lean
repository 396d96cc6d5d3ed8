/- Printed by wip/gen/emit.py: functions of the program as plain Lean functions, tied to the model by the evaluator. Conditions: none. -/
import Derived.Test.YtelifkahdhhmoaaN0
namespace Go.Proofs.Ytelifkahdhhmoaa.N
set_option linter.unusedVariables false
set_option maxRecDepth 100000
open Go Go.Ab
-- function 71: plumbline/plumblineref02.Size
noncomputable def fi71 : FnI := ⟨71, Try.f71, []⟩
theorem en71 : Enters Try.prog 71 := enters_of Try.func71 (c := ((Try.f71).body.getD .skip)) (by kernel_rfl) (by kernel_rfl)
noncomputable def cx71 {R : Type} (k : Nat) : Cx R := mkCx Ty exts [] fi71 [] []
theorem cx71_ok {R : Type} (k : Nat) : CxOk Try.prog (cx71 k : Cx R) := mkCx_ok (c := ((Try.f71).body.getD .skip)) ty_ok mixed exts_ok allSum_nil Try.func71 en71 (by kernel_rfl) (by kernel_rfl) allLoop_nil allCut_nil
@[reducible] def plumblineref02_SizeY (R : Type) : Type := Nat → Int → (Int → Int → Int → Option R) → Option R
noncomputable def plumblineref02_SizeT {R : Type} (k : Nat) (a1 : Int) (K0 : Int → Int → Int → Option R) : Option R :=
  cond (a1 == 1) (
    K0 23 8 (-149)) (
    K0 52 11 (-1074))
noncomputable def plumblineref02_Size {R : Type} (k : Nat) (a1 : Int) (K0 : Int → Int → Int → Option R) : Option R := plumblineref02_SizeT k a1 K0
theorem plumblineref02_Size_gen {R : Type} (k : Nat) (a1 : Int) (K : AV → Heap → Option R) :
    fnK (mkCx Ty exts [] fi71 [] []) 6 71 [.i .i64 a1] ⟨0, []⟩ K = plumblineref02_SizeT k a1 (fun q1 q2 q3 => K (.tup [.i .i64 q1, .i .i64 q2, .i .i64 q3]) ⟨0, []⟩) := by kernel_rfl
noncomputable def S71G {R : Type} (plumblineref02_Size : plumblineref02_SizeY R) (k : Nat) : Sum R := fun args H K => match args, H with
  | [.i .i64 a1], ⟨0, []⟩ => plumblineref02_Size k a1 (fun q1 q2 q3 => K (.tup [.i .i64 q1, .i .i64 q2, .i .i64 q3]) ⟨0, []⟩)
  | _, _ => none
noncomputable def S71 {R : Type} (k : Nat) : Sum R := S71G plumblineref02_Size k
theorem S71_ok0 {R : Type} (k : Nat) : SumOk Try.prog 71 false (S71 k : Sum R) := by
  intro args H K r h
  unfold S71 S71G at h
  split at h
  · exact fnK_sound (cx71_ok k) 6 71 _ _ K r ((plumblineref02_Size_gen k _ K).trans h)
  · cases h
theorem S71_ok {R : Type} (k : Nat) : SumOk Try.prog 71 true (S71 k : Sum R) := by
  refine sumOk_keep (S71_ok0 k) ?_
  intro args H K r h
  unfold S71 S71G at h ⊢
  split at h
  · refine Eq.trans ?_ h
    show plumblineref02_Size k _ _ = plumblineref02_Size k _ _
    congr 1
    all_goals first | exact (funext fun q1 => funext fun q2 => funext fun q3 => if_pos (keeps_app _ _ _ [])) | skip
  · cases h
-- function 72: plumbline/plumblineref02.parts
noncomputable def fi72 : FnI := ⟨72, Try.f72, []⟩
theorem en72 : Enters Try.prog 72 := enters_of Try.func72 (c := ((Try.f72).body.getD .skip)) (by kernel_rfl) (by kernel_rfl)
noncomputable def cx72 {R : Type} (k : Nat) : Cx R := mkCx Ty exts [(71, true, S71 k)] fi72 [] []
theorem cx72_ok {R : Type} (k : Nat) : CxOk Try.prog (cx72 k : Cx R) := mkCx_ok (c := ((Try.f72).body.getD .skip)) ty_ok mixed exts_ok (allSum_cons (S71_ok k) en71 allSum_nil) Try.func72 en72 (by kernel_rfl) (by kernel_rfl) allLoop_nil allCut_nil
@[reducible] def plumblineref02_partsY (R : Type) : Type := Nat → Int → Int → (Int → Int → Option R) → Option R
noncomputable def plumblineref02_partsT {R : Type} (plumblineref02_Size : plumblineref02_SizeY R) (k : Nat) (a1 : Int) (a2 : Int) (K0 : Int → Int → Option R) : Option R :=
  plumblineref02_Size k a1 (fun r1 r2 r3 =>
    cond (decide (r1 < 0)) (
      none) (
      cond (decide (r2 < 0)) (
        none) (
        cond (decide (r1 < 0)) (
          none) (
          K0 (bAnd .u64 (shr .u64 a2 r1) (Wu64 ((shl .u64 1 r2) - 1))) (bAnd .u64 a2 (Wu64 ((shl .u64 1 r1) - 1)))))))
noncomputable def plumblineref02_parts {R : Type} (k : Nat) (a1 : Int) (a2 : Int) (K0 : Int → Int → Option R) : Option R := plumblineref02_partsT plumblineref02_Size k a1 a2 K0
theorem plumblineref02_parts_gen {R : Type} (plumblineref02_Size : plumblineref02_SizeY R) (k : Nat) (a1 : Int) (a2 : Int) (K : AV → Heap → Option R) :
    fnK (mkCx Ty exts [(71, true, S71G plumblineref02_Size k)] fi72 [] []) 6 72 [.i .i64 a1, .i .u64 a2] ⟨0, []⟩ K = plumblineref02_partsT plumblineref02_Size k a1 a2 (fun q1 q2 => K (.tup [.i .u64 q1, .i .u64 q2]) ⟨0, []⟩) := by kernel_rfl
noncomputable def S72G {R : Type} (plumblineref02_parts : plumblineref02_partsY R) (k : Nat) : Sum R := fun args H K => match args, H with
  | [.i .i64 a1, .i .u64 a2], ⟨0, []⟩ => plumblineref02_parts k a1 a2 (fun q1 q2 => K (.tup [.i .u64 q1, .i .u64 q2]) ⟨0, []⟩)
  | _, _ => none
noncomputable def S72 {R : Type} (k : Nat) : Sum R := S72G plumblineref02_parts k
theorem S72_ok0 {R : Type} (k : Nat) : SumOk Try.prog 72 false (S72 k : Sum R) := by
  intro args H K r h
  unfold S72 S72G at h
  split at h
  · exact fnK_sound (cx72_ok k) 6 72 _ _ K r ((plumblineref02_parts_gen plumblineref02_Size k _ _ K).trans h)
  · cases h
theorem S72_ok {R : Type} (k : Nat) : SumOk Try.prog 72 true (S72 k : Sum R) := by
  refine sumOk_keep (S72_ok0 k) ?_
  intro args H K r h
  unfold S72 S72G at h ⊢
  split at h
  · refine Eq.trans ?_ h
    show plumblineref02_parts k _ _ _ = plumblineref02_parts k _ _ _
    congr 1
    all_goals first | exact (funext fun q1 => funext fun q2 => if_pos (keeps_app _ _ _ [])) | skip
  · cases h
-- function 40: plumbline/plumblineref02.Class
noncomputable def fi40 : FnI := ⟨40, Try.f40, []⟩
theorem en40 : Enters Try.prog 40 := enters_of Try.func40 (c := ((Try.f40).body.getD .skip)) (by kernel_rfl) (by kernel_rfl)
noncomputable def cx40 {R : Type} (k : Nat) : Cx R := mkCx Ty exts [(71, true, S71 k), (72, true, S72 k)] fi40 [] []
theorem cx40_ok {R : Type} (k : Nat) : CxOk Try.prog (cx40 k : Cx R) := mkCx_ok (c := ((Try.f40).body.getD .skip)) ty_ok mixed exts_ok (allSum_cons (S71_ok k) en71 (allSum_cons (S72_ok k) en72 allSum_nil)) Try.func40 en40 (by kernel_rfl) (by kernel_rfl) allLoop_nil allCut_nil
@[reducible] def plumblineref02_ClassY (R : Type) : Type := Nat → Int → Int → (Int → Option R) → Option R
noncomputable def plumblineref02_ClassT {R : Type} (plumblineref02_Size : plumblineref02_SizeY R) (plumblineref02_parts : plumblineref02_partsY R) (k : Nat) (a1 : Int) (a2 : Int) (K0 : Int → Option R) : Option R :=
  plumblineref02_Size k a1 (fun r1 r2 r3 =>
    cond (a1 == 1) (
      cond ((shr .u64 a2 32) != 0) (
        K0 0) (
        plumblineref02_parts k a1 a2 (fun r4 r5 =>
          cond (decide (r2 < 0)) (
            none) (
            cond (r4 == (Wu64 ((shl .u64 1 r2) - 1))) (
              cond (r5 != 0) (
                K0 5) (
                cond (decide (r2 < 0)) (
                  none) (
                  cond (r4 == (Wu64 ((shl .u64 1 r2) - 1))) (
                    K0 4) (
                    cond (r4 == 0) (
                      cond (r5 == 0) (
                        K0 1) (
                        cond (r4 == 0) (
                          K0 2) (
                          K0 3))) (
                      cond (r4 == 0) (
                        K0 2) (
                        K0 3)))))) (
              cond (decide (r2 < 0)) (
                none) (
                cond (r4 == (Wu64 ((shl .u64 1 r2) - 1))) (
                  K0 4) (
                  cond (r4 == 0) (
                    cond (r5 == 0) (
                      K0 1) (
                      cond (r4 == 0) (
                        K0 2) (
                        K0 3))) (
                    cond (r4 == 0) (
                      K0 2) (
                      K0 3))))))))) (
      plumblineref02_parts k a1 a2 (fun r6 r7 =>
        cond (decide (r2 < 0)) (
          none) (
          cond (r6 == (Wu64 ((shl .u64 1 r2) - 1))) (
            cond (r7 != 0) (
              K0 5) (
              cond (decide (r2 < 0)) (
                none) (
                cond (r6 == (Wu64 ((shl .u64 1 r2) - 1))) (
                  K0 4) (
                  cond (r6 == 0) (
                    cond (r7 == 0) (
                      K0 1) (
                      cond (r6 == 0) (
                        K0 2) (
                        K0 3))) (
                    cond (r6 == 0) (
                      K0 2) (
                      K0 3)))))) (
            cond (decide (r2 < 0)) (
              none) (
              cond (r6 == (Wu64 ((shl .u64 1 r2) - 1))) (
                K0 4) (
                cond (r6 == 0) (
                  cond (r7 == 0) (
                    K0 1) (
                    cond (r6 == 0) (
                      K0 2) (
                      K0 3))) (
                  cond (r6 == 0) (
                    K0 2) (
                    K0 3)))))))))
noncomputable def plumblineref02_Class {R : Type} (k : Nat) (a1 : Int) (a2 : Int) (K0 : Int → Option R) : Option R := plumblineref02_ClassT plumblineref02_Size plumblineref02_parts k a1 a2 K0
theorem plumblineref02_Class_gen {R : Type} (plumblineref02_Size : plumblineref02_SizeY R) (plumblineref02_parts : plumblineref02_partsY R) (k : Nat) (a1 : Int) (a2 : Int) (K : AV → Heap → Option R) :
    fnK (mkCx Ty exts [(71, true, S71G plumblineref02_Size k), (72, true, S72G plumblineref02_parts k)] fi40 [] []) 6 40 [.i .i64 a1, .i .u64 a2] ⟨0, []⟩ K = plumblineref02_ClassT plumblineref02_Size plumblineref02_parts k a1 a2 (fun q1 => K (.i .i64 q1) ⟨0, []⟩) := by kernel_rfl
noncomputable def S40G {R : Type} (plumblineref02_Class : plumblineref02_ClassY R) (k : Nat) : Sum R := fun args H K => match args, H with
  | [.i .i64 a1, .i .u64 a2], ⟨0, []⟩ => plumblineref02_Class k a1 a2 (fun q1 => K (.i .i64 q1) ⟨0, []⟩)
  | _, _ => none
noncomputable def S40 {R : Type} (k : Nat) : Sum R := S40G plumblineref02_Class k
theorem S40_ok0 {R : Type} (k : Nat) : SumOk Try.prog 40 false (S40 k : Sum R) := by
  intro args H K r h
  unfold S40 S40G at h
  split at h
  · exact fnK_sound (cx40_ok k) 6 40 _ _ K r ((plumblineref02_Class_gen plumblineref02_Size plumblineref02_parts k _ _ K).trans h)
  · cases h
theorem S40_ok {R : Type} (k : Nat) : SumOk Try.prog 40 true (S40 k : Sum R) := by
  refine sumOk_keep (S40_ok0 k) ?_
  intro args H K r h
  unfold S40 S40G at h ⊢
  split at h
  · refine Eq.trans ?_ h
    show plumblineref02_Class k _ _ _ = plumblineref02_Class k _ _ _
    congr 1
    all_goals first | exact (funext fun q1 => if_pos (keeps_app _ _ _ [])) | skip
  · cases h
-- function 55: plumbline/plumblineref02.Nan
noncomputable def fi55 : FnI := ⟨55, Try.f55, []⟩
theorem en55 : Enters Try.prog 55 := enters_of Try.func55 (c := ((Try.f55).body.getD .skip)) (by kernel_rfl) (by kernel_rfl)
noncomputable def cx55 {R : Type} (k : Nat) : Cx R := mkCx Ty exts [(71, true, S71 k)] fi55 [] []
theorem cx55_ok {R : Type} (k : Nat) : CxOk Try.prog (cx55 k : Cx R) := mkCx_ok (c := ((Try.f55).body.getD .skip)) ty_ok mixed exts_ok (allSum_cons (S71_ok k) en71 allSum_nil) Try.func55 en55 (by kernel_rfl) (by kernel_rfl) allLoop_nil allCut_nil
@[reducible] def plumblineref02_NanY (R : Type) : Type := Nat → Int → (Int → Option R) → Option R
noncomputable def plumblineref02_NanT {R : Type} (plumblineref02_Size : plumblineref02_SizeY R) (k : Nat) (a1 : Int) (K0 : Int → Option R) : Option R :=
  plumblineref02_Size k a1 (fun r1 r2 r3 =>
    cond (decide ((Wi64 (r1 - 1)) < 0)) (
      none) (
      cond (decide (r2 < 0)) (
        none) (
        cond (decide (r1 < 0)) (
          none) (
          K0 (bOr .u64 (shl .u64 1 (Wi64 (r1 - 1))) (shl .u64 (Wu64 ((shl .u64 1 r2) - 1)) r1))))))
noncomputable def plumblineref02_Nan {R : Type} (k : Nat) (a1 : Int) (K0 : Int → Option R) : Option R := plumblineref02_NanT plumblineref02_Size k a1 K0
theorem plumblineref02_Nan_gen {R : Type} (plumblineref02_Size : plumblineref02_SizeY R) (k : Nat) (a1 : Int) (K : AV → Heap → Option R) :
    fnK (mkCx Ty exts [(71, true, S71G plumblineref02_Size k)] fi55 [] []) 6 55 [.i .i64 a1] ⟨0, []⟩ K = plumblineref02_NanT plumblineref02_Size k a1 (fun q1 => K (.i .u64 q1) ⟨0, []⟩) := by kernel_rfl
noncomputable def S55G {R : Type} (plumblineref02_Nan : plumblineref02_NanY R) (k : Nat) : Sum R := fun args H K => match args, H with
  | [.i .i64 a1], ⟨0, []⟩ => plumblineref02_Nan k a1 (fun q1 => K (.i .u64 q1) ⟨0, []⟩)
  | _, _ => none
noncomputable def S55 {R : Type} (k : Nat) : Sum R := S55G plumblineref02_Nan k
theorem S55_ok0 {R : Type} (k : Nat) : SumOk Try.prog 55 false (S55 k : Sum R) := by
  intro args H K r h
  unfold S55 S55G at h
  split at h
  · exact fnK_sound (cx55_ok k) 6 55 _ _ K r ((plumblineref02_Nan_gen plumblineref02_Size k _ K).trans h)
  · cases h
theorem S55_ok {R : Type} (k : Nat) : SumOk Try.prog 55 true (S55 k : Sum R) := by
  refine sumOk_keep (S55_ok0 k) ?_
  intro args H K r h
  unfold S55 S55G at h ⊢
  split at h
  · refine Eq.trans ?_ h
    show plumblineref02_Nan k _ _ = plumblineref02_Nan k _ _
    congr 1
    all_goals first | exact (funext fun q1 => if_pos (keeps_app _ _ _ [])) | skip
  · cases h
-- function 77: plumbline/plumblineref02.sign
noncomputable def fi77 : FnI := ⟨77, Try.f77, []⟩
theorem en77 : Enters Try.prog 77 := enters_of Try.func77 (c := ((Try.f77).body.getD .skip)) (by kernel_rfl) (by kernel_rfl)
noncomputable def cx77 {R : Type} (k : Nat) : Cx R := mkCx Ty exts [(71, true, S71 k)] fi77 [] []
theorem cx77_ok {R : Type} (k : Nat) : CxOk Try.prog (cx77 k : Cx R) := mkCx_ok (c := ((Try.f77).body.getD .skip)) ty_ok mixed exts_ok (allSum_cons (S71_ok k) en71 allSum_nil) Try.func77 en77 (by kernel_rfl) (by kernel_rfl) allLoop_nil allCut_nil
@[reducible] def plumblineref02_signY (R : Type) : Type := Nat → Int → Bool → (Int → Option R) → Option R
noncomputable def plumblineref02_signT {R : Type} (plumblineref02_Size : plumblineref02_SizeY R) (k : Nat) (a1 : Int) (a2 : Bool) (K0 : Int → Option R) : Option R :=
  plumblineref02_Size k a1 (fun r1 r2 r3 =>
    cond a2 (
      cond (decide ((Wi64 (r1 + r2)) < 0)) (
        none) (
        K0 (shl .u64 1 (Wi64 (r1 + r2))))) (
      K0 0))
noncomputable def plumblineref02_sign {R : Type} (k : Nat) (a1 : Int) (a2 : Bool) (K0 : Int → Option R) : Option R := plumblineref02_signT plumblineref02_Size k a1 a2 K0
theorem plumblineref02_sign_gen {R : Type} (plumblineref02_Size : plumblineref02_SizeY R) (k : Nat) (a1 : Int) (a2 : Bool) (K : AV → Heap → Option R) :
    fnK (mkCx Ty exts [(71, true, S71G plumblineref02_Size k)] fi77 [] []) 6 77 [.i .i64 a1, .b a2] ⟨0, []⟩ K = plumblineref02_signT plumblineref02_Size k a1 a2 (fun q1 => K (.i .u64 q1) ⟨0, []⟩) := by kernel_rfl
noncomputable def S77G {R : Type} (plumblineref02_sign : plumblineref02_signY R) (k : Nat) : Sum R := fun args H K => match args, H with
  | [.i .i64 a1, .b a2], ⟨0, []⟩ => plumblineref02_sign k a1 a2 (fun q1 => K (.i .u64 q1) ⟨0, []⟩)
  | _, _ => none
noncomputable def S77 {R : Type} (k : Nat) : Sum R := S77G plumblineref02_sign k
theorem S77_ok0 {R : Type} (k : Nat) : SumOk Try.prog 77 false (S77 k : Sum R) := by
  intro args H K r h
  unfold S77 S77G at h
  split at h
  · exact fnK_sound (cx77_ok k) 6 77 _ _ K r ((plumblineref02_sign_gen plumblineref02_Size k _ _ K).trans h)
  · cases h
theorem S77_ok {R : Type} (k : Nat) : SumOk Try.prog 77 true (S77 k : Sum R) := by
  refine sumOk_keep (S77_ok0 k) ?_
  intro args H K r h
  unfold S77 S77G at h ⊢
  split at h
  · refine Eq.trans ?_ h
    show plumblineref02_sign k _ _ _ = plumblineref02_sign k _ _ _
    congr 1
    all_goals first | exact (funext fun q1 => if_pos (keeps_app _ _ _ [])) | skip
  · cases h
-- function 57: plumbline/plumblineref02.Below
noncomputable def fi57 : FnI := ⟨57, Try.f57, []⟩
theorem en57 : Enters Try.prog 57 := enters_of Try.func57 (c := ((Try.f57).body.getD .skip)) (by kernel_rfl) (by kernel_rfl)
noncomputable def cx57 {R : Type} (k : Nat) : Cx R := mkCx Ty exts [(77, true, S77 k)] fi57 [] []
theorem cx57_ok {R : Type} (k : Nat) : CxOk Try.prog (cx57 k : Cx R) := mkCx_ok (c := ((Try.f57).body.getD .skip)) ty_ok mixed exts_ok (allSum_cons (S77_ok k) en77 allSum_nil) Try.func57 en57 (by kernel_rfl) (by kernel_rfl) allLoop_nil allCut_nil
@[reducible] def plumblineref02_BelowY (R : Type) : Type := Nat → Int → Int → (Bool → Option R) → Option R
noncomputable def plumblineref02_BelowT {R : Type} (plumblineref02_sign : plumblineref02_signY R) (k : Nat) (a1 : Int) (a2 : Int) (K0 : Bool → Option R) : Option R :=
  plumblineref02_sign k a1 true (fun r1 =>
    K0 ((bAnd .u64 a2 r1) != 0))
noncomputable def plumblineref02_Below {R : Type} (k : Nat) (a1 : Int) (a2 : Int) (K0 : Bool → Option R) : Option R := plumblineref02_BelowT plumblineref02_sign k a1 a2 K0
theorem plumblineref02_Below_gen {R : Type} (plumblineref02_sign : plumblineref02_signY R) (k : Nat) (a1 : Int) (a2 : Int) (K : AV → Heap → Option R) :
    fnK (mkCx Ty exts [(77, true, S77G plumblineref02_sign k)] fi57 [] []) 6 57 [.i .i64 a1, .i .u64 a2] ⟨0, []⟩ K = plumblineref02_BelowT plumblineref02_sign k a1 a2 (fun q1 => K (.b q1) ⟨0, []⟩) := by kernel_rfl
noncomputable def S57G {R : Type} (plumblineref02_Below : plumblineref02_BelowY R) (k : Nat) : Sum R := fun args H K => match args, H with
  | [.i .i64 a1, .i .u64 a2], ⟨0, []⟩ => plumblineref02_Below k a1 a2 (fun q1 => K (.b q1) ⟨0, []⟩)
  | _, _ => none
noncomputable def S57 {R : Type} (k : Nat) : Sum R := S57G plumblineref02_Below k
theorem S57_ok0 {R : Type} (k : Nat) : SumOk Try.prog 57 false (S57 k : Sum R) := by
  intro args H K r h
  unfold S57 S57G at h
  split at h
  · exact fnK_sound (cx57_ok k) 6 57 _ _ K r ((plumblineref02_Below_gen plumblineref02_sign k _ _ K).trans h)
  · cases h
theorem S57_ok {R : Type} (k : Nat) : SumOk Try.prog 57 true (S57 k : Sum R) := by
  refine sumOk_keep (S57_ok0 k) ?_
  intro args H K r h
  unfold S57 S57G at h ⊢
  split at h
  · refine Eq.trans ?_ h
    show plumblineref02_Below k _ _ _ = plumblineref02_Below k _ _ _
    congr 1
    all_goals first | exact (funext fun q1 => if_pos (keeps_app _ _ _ [])) | skip
  · cases h
-- function 78: plumbline/plumblineref02.Inf
noncomputable def fi78 : FnI := ⟨78, Try.f78, []⟩
theorem en78 : Enters Try.prog 78 := enters_of Try.func78 (c := ((Try.f78).body.getD .skip)) (by kernel_rfl) (by kernel_rfl)
noncomputable def cx78 {R : Type} (k : Nat) : Cx R := mkCx Ty exts [(71, true, S71 k), (77, true, S77 k)] fi78 [] []
theorem cx78_ok {R : Type} (k : Nat) : CxOk Try.prog (cx78 k : Cx R) := mkCx_ok (c := ((Try.f78).body.getD .skip)) ty_ok mixed exts_ok (allSum_cons (S71_ok k) en71 (allSum_cons (S77_ok k) en77 allSum_nil)) Try.func78 en78 (by kernel_rfl) (by kernel_rfl) allLoop_nil allCut_nil
@[reducible] def plumblineref02_InfY (R : Type) : Type := Nat → Int → Bool → (Int → Option R) → Option R
noncomputable def plumblineref02_InfT {R : Type} (plumblineref02_Size : plumblineref02_SizeY R) (plumblineref02_sign : plumblineref02_signY R) (k : Nat) (a1 : Int) (a2 : Bool) (K0 : Int → Option R) : Option R :=
  plumblineref02_Size k a1 (fun r1 r2 r3 =>
    plumblineref02_sign k a1 a2 (fun r4 =>
      cond (decide (r2 < 0)) (
        none) (
        cond (decide (r1 < 0)) (
          none) (
          K0 (bOr .u64 r4 (shl .u64 (Wu64 ((shl .u64 1 r2) - 1)) r1))))))
noncomputable def plumblineref02_Inf {R : Type} (k : Nat) (a1 : Int) (a2 : Bool) (K0 : Int → Option R) : Option R := plumblineref02_InfT plumblineref02_Size plumblineref02_sign k a1 a2 K0
theorem plumblineref02_Inf_gen {R : Type} (plumblineref02_Size : plumblineref02_SizeY R) (plumblineref02_sign : plumblineref02_signY R) (k : Nat) (a1 : Int) (a2 : Bool) (K : AV → Heap → Option R) :
    fnK (mkCx Ty exts [(71, true, S71G plumblineref02_Size k), (77, true, S77G plumblineref02_sign k)] fi78 [] []) 6 78 [.i .i64 a1, .b a2] ⟨0, []⟩ K = plumblineref02_InfT plumblineref02_Size plumblineref02_sign k a1 a2 (fun q1 => K (.i .u64 q1) ⟨0, []⟩) := by kernel_rfl
noncomputable def S78G {R : Type} (plumblineref02_Inf : plumblineref02_InfY R) (k : Nat) : Sum R := fun args H K => match args, H with
  | [.i .i64 a1, .b a2], ⟨0, []⟩ => plumblineref02_Inf k a1 a2 (fun q1 => K (.i .u64 q1) ⟨0, []⟩)
  | _, _ => none
noncomputable def S78 {R : Type} (k : Nat) : Sum R := S78G plumblineref02_Inf k
theorem S78_ok0 {R : Type} (k : Nat) : SumOk Try.prog 78 false (S78 k : Sum R) := by
  intro args H K r h
  unfold S78 S78G at h
  split at h
  · exact fnK_sound (cx78_ok k) 6 78 _ _ K r ((plumblineref02_Inf_gen plumblineref02_Size plumblineref02_sign k _ _ K).trans h)
  · cases h
theorem S78_ok {R : Type} (k : Nat) : SumOk Try.prog 78 true (S78 k : Sum R) := by
  refine sumOk_keep (S78_ok0 k) ?_
  intro args H K r h
  unfold S78 S78G at h ⊢
  split at h
  · refine Eq.trans ?_ h
    show plumblineref02_Inf k _ _ _ = plumblineref02_Inf k _ _ _
    congr 1
    all_goals first | exact (funext fun q1 => if_pos (keeps_app _ _ _ [])) | skip
  · cases h
-- function 76: plumbline/plumblineref02.length
noncomputable def fi76 : FnI := ⟨76, Try.f76, [(100002, [0, 3]), (3002000, [3])]⟩
theorem en76 : Enters Try.prog 76 := enters_of Try.func76 (c := ((Try.f76).body.getD .skip)) (by kernel_rfl) (by kernel_rfl)
@[reducible] def plumblineref02_length_l0Y (R : Type) : Type := Nat → Nat → Int → (List Bool) → (Int → Option R) → Option R
noncomputable def plumblineref02_length_l0B {R : Type} (k : Nat) (rec : Int → (List Bool) → Option R) (x1 : Int) (x2 : List Bool) (K0 : Int → Option R) : Option R :=
  cond (decide (x1 > 0)) (
    cond (decide (0 ≤ (Wi64 (x1 - 1)))) (
      cond (decide ((Wi64 (x1 - 1)) < (((List.length x2) : Nat) : Int))) (
        Option.bind (x2[(Int.toNat (Wi64 (x1 - 1)))]?) fun ye1 =>
        cond (!ye1) (
          rec (Wi64 (x1 - 1)) x2) (
          K0 x1)) (
        none)) (
      none)) (
    K0 x1)
noncomputable def plumblineref02_length_l0 {R : Type} (k : Nat) : Nat → Int → (List Bool) → (Int → Option R) → Option R
  | 0, _, _, _ => none
  | n + 1, x1, x2, K0 => plumblineref02_length_l0B k (fun x1 x2 => plumblineref02_length_l0 k n x1 x2 K0) x1 x2 K0
@[reducible] def plumblineref02_length_n0_l0Y (R : Type) : Type := Nat → Nat → Int → (Option R) → Option R
noncomputable def plumblineref02_length_n0_l0B {R : Type} (k : Nat) (rec : Int → Option R) (x1 : Int) (K0 : Option R) : Option R :=
  cond (decide (x1 > 0)) (
    none) (
    K0)
noncomputable def plumblineref02_length_n0_l0 {R : Type} (k : Nat) : Nat → Int → (Option R) → Option R
  | 0, _, _ => none
  | n + 1, x1, K0 => plumblineref02_length_n0_l0B k (fun x1 => plumblineref02_length_n0_l0 k n x1 K0) x1 K0
noncomputable def cx76_2 {R : Type} (k : Nat) : Cx R := mkCx Ty exts [] fi76 [] []
theorem cx76_2_ok {R : Type} (k : Nat) : CxOk Try.prog (cx76_2 k : Cx R) := mkCx_ok (c := ((Try.f76).body.getD .skip)) ty_ok mixed exts_ok allSum_nil Try.func76 en76 (by kernel_rfl) (by kernel_rfl) allLoop_nil allCut_nil
noncomputable def L76_2G {R : Type} (plumblineref02_length_l0 : plumblineref02_length_l0Y R) (plumblineref02_length_n0_l0 : plumblineref02_length_n0_l0Y R) (k n : Nat) : LSum R := fun pin T H K => match pin, T, H with
  | 1, [(0, .sw 0), (3, .i .i64 x1)], ⟨1, [(0, some ⟨0, false, .row [.b] x2⟩)]⟩ => plumblineref02_length_l0 k n x1 x2 (fun q1 => K (.exit 0) [(3, .i .i64 q1)] ⟨1, [(0, some ⟨0, false, .row [.b] x2⟩)]⟩)
  | 0, [(0, .nsl), (3, .i .i64 x1)], ⟨0, []⟩ => plumblineref02_length_n0_l0 k n x1 (K (.exit 0) [(3, .i .i64 x1)] ⟨0, []⟩)
  | _, _, _ => none
noncomputable def L76_2 {R : Type} (k n : Nat) : LSum R := L76_2G plumblineref02_length_l0 plumblineref02_length_n0_l0 k n
theorem plumblineref02_length_l0_gen {R : Type} (plumblineref02_length_l0 : plumblineref02_length_l0Y R) (plumblineref02_length_n0_l0 : plumblineref02_length_n0_l0Y R) (k n : Nat) (x1 : Int) (x2 : List Bool) (K : Kont R) :
    (fun C => codeK C (run C 4)) (mkCx Ty exts [] fi76 [] []) 1 fi76 (loopAt ((Try.f76).body.getD .skip) 2) [(0, .sw 0), (3, .i .i64 x1)] ⟨1, [(0, some ⟨0, false, .row [.b] x2⟩)]⟩ (fun ex T H => match (generalizing := false) ex with
      | .normal => normAt (some [0, 3]) 1 T H (fun T H => L76_2G plumblineref02_length_l0 plumblineref02_length_n0_l0 k n 1 T H K)
      | ex => exitNorm fi76.ann 2 1 K ex T H) =
    plumblineref02_length_l0B k (fun x1 x2 => plumblineref02_length_l0 k n x1 x2 (fun q1 => K (.exit 0) [(3, .i .i64 q1)] ⟨1, [(0, some ⟨0, false, .row [.b] x2⟩)]⟩)) x1 x2 (fun q1 => K (.exit 0) [(3, .i .i64 q1)] ⟨1, [(0, some ⟨0, false, .row [.b] x2⟩)]⟩) := by kernel_rfl
theorem plumblineref02_length_n0_l0_gen {R : Type} (plumblineref02_length_l0 : plumblineref02_length_l0Y R) (plumblineref02_length_n0_l0 : plumblineref02_length_n0_l0Y R) (k n : Nat) (x1 : Int) (K : Kont R) :
    (fun C => codeK C (run C 4)) (mkCx Ty exts [] fi76 [] []) 0 fi76 (loopAt ((Try.f76).body.getD .skip) 2) [(0, .nsl), (3, .i .i64 x1)] ⟨0, []⟩ (fun ex T H => match (generalizing := false) ex with
      | .normal => normAt (some [0, 3]) 0 T H (fun T H => L76_2G plumblineref02_length_l0 plumblineref02_length_n0_l0 k n 0 T H K)
      | ex => exitNorm fi76.ann 2 0 K ex T H) =
    plumblineref02_length_n0_l0B k (fun x1 => plumblineref02_length_n0_l0 k n x1 (K (.exit 0) [(3, .i .i64 x1)] ⟨0, []⟩)) x1 (K (.exit 0) [(3, .i .i64 x1)] ⟨0, []⟩) := by kernel_rfl
theorem L76_2_cok {R : Type} (k : Nat) : CodeOk Try.prog (cx76_2 k : Cx R) fi76 (loopAt ((Try.f76).body.getD .skip) 2) := loopAt_ok (((cx76_2_ok k).fns 76 fi76 (by kernel_rfl)).2.2.2 ((Try.f76).body.getD .skip) (by kernel_rfl))
theorem L76_2_ok {R : Type} (k : Nat) : ∀ n, LoopOk Try.prog (Try.f76).ntmps (loopAt ((Try.f76).body.getD .skip) 2) (L76_2 k n : LSum R)
  | 0 => by
    intro pin T H K r h
    unfold L76_2 L76_2G at h
    split at h
    all_goals exact nomatch (show (none : Option R) = some r from h)
  | n + 1 => by
    intro pin T H K r h
    unfold L76_2 L76_2G at h
    split at h
    · obtain ⟨ex, T1, H1, h, hb⟩ := codeK_sound (cx76_2_ok k) (run_sound (cx76_2_ok k) 4) _ fi76 _ _ _ _ _ (L76_2_cok k) ((plumblineref02_length_l0_gen plumblineref02_length_l0 plumblineref02_length_n0_l0 k n _ _ K).trans h)
      exact loop_step (fun T H hh => L76_2_ok k n _ T H K r hh) hb h
    · obtain ⟨ex, T1, H1, h, hb⟩ := codeK_sound (cx76_2_ok k) (run_sound (cx76_2_ok k) 4) _ fi76 _ _ _ _ _ (L76_2_cok k) ((plumblineref02_length_n0_l0_gen plumblineref02_length_l0 plumblineref02_length_n0_l0 k n _ K).trans h)
      exact loop_step (fun T H hh => L76_2_ok k n _ T H K r hh) hb h
    · cases h
noncomputable def cx76 {R : Type} (k : Nat) : Cx R := mkCx Ty exts [] fi76 [(2, L76_2 k k)] []
theorem cx76_ok {R : Type} (k : Nat) : CxOk Try.prog (cx76 k : Cx R) := mkCx_ok (c := ((Try.f76).body.getD .skip)) ty_ok mixed exts_ok allSum_nil Try.func76 en76 (by kernel_rfl) (by kernel_rfl) (allLoop_loop (by kernel_rfl) (L76_2_ok k k) allLoop_nil) allCut_nil
@[reducible] def plumblineref02_lengthY (R : Type) : Type := Nat → (List Bool) → (Int → Option R) → Option R
noncomputable def plumblineref02_lengthT {R : Type} (plumblineref02_length_l0 : plumblineref02_length_l0Y R) (k : Nat) (a1 : List Bool) (K0 : Int → Option R) : Option R :=
  plumblineref02_length_l0 k k (((List.length a1) : Nat) : Int) a1 (fun r1 =>
    K0 r1)
noncomputable def plumblineref02_length {R : Type} (k : Nat) (a1 : List Bool) (K0 : Int → Option R) : Option R := plumblineref02_lengthT plumblineref02_length_l0 k a1 K0
theorem plumblineref02_length_gen {R : Type} (plumblineref02_length_l0 : plumblineref02_length_l0Y R) (plumblineref02_length_n0_l0 : plumblineref02_length_n0_l0Y R) (k : Nat) (a1 : List Bool) (K : AV → Heap → Option R) :
    fnK (mkCx Ty exts [] fi76 [(2, L76_2G plumblineref02_length_l0 plumblineref02_length_n0_l0 k k)] []) 6 76 [.sw 0] ⟨1, [(0, some ⟨0, false, .row [.b] a1⟩)]⟩ K = plumblineref02_lengthT plumblineref02_length_l0 k a1 (fun q1 => K (.i .i64 q1) ⟨1, [(0, some ⟨0, false, .row [.b] a1⟩)]⟩) := by kernel_rfl
@[reducible] def plumblineref02_length_n0Y (R : Type) : Type := Nat → (Int → Option R) → Option R
noncomputable def plumblineref02_length_n0T {R : Type} (plumblineref02_length_n0_l0 : plumblineref02_length_n0_l0Y R) (k : Nat) (K0 : Int → Option R) : Option R :=
  plumblineref02_length_n0_l0 k k 0 (
    K0 0)
noncomputable def plumblineref02_length_n0 {R : Type} (k : Nat) (K0 : Int → Option R) : Option R := plumblineref02_length_n0T plumblineref02_length_n0_l0 k K0
theorem plumblineref02_length_n0_gen {R : Type} (plumblineref02_length_l0 : plumblineref02_length_l0Y R) (plumblineref02_length_n0_l0 : plumblineref02_length_n0_l0Y R) (k : Nat) (K : AV → Heap → Option R) :
    fnK (mkCx Ty exts [] fi76 [(2, L76_2G plumblineref02_length_l0 plumblineref02_length_n0_l0 k k)] []) 6 76 [.nsl] ⟨0, []⟩ K = plumblineref02_length_n0T plumblineref02_length_n0_l0 k (fun q1 => K (.i .i64 q1) ⟨0, []⟩) := by kernel_rfl
noncomputable def S76G {R : Type} (plumblineref02_length : plumblineref02_lengthY R) (plumblineref02_length_n0 : plumblineref02_length_n0Y R) (k : Nat) : Sum R := fun args H K => match args, H with
  | [.sw 0], ⟨1, [(0, some ⟨0, false, .row [.b] a1⟩)]⟩ => plumblineref02_length k a1 (fun q1 => K (.i .i64 q1) ⟨1, [(0, some ⟨0, false, .row [.b] a1⟩)]⟩)
  | [.nsl], ⟨0, []⟩ => plumblineref02_length_n0 k (fun q1 => K (.i .i64 q1) ⟨0, []⟩)
  | _, _ => none
noncomputable def S76 {R : Type} (k : Nat) : Sum R := S76G plumblineref02_length plumblineref02_length_n0 k
theorem S76_ok0 {R : Type} (k : Nat) : SumOk Try.prog 76 false (S76 k : Sum R) := by
  intro args H K r h
  unfold S76 S76G at h
  split at h
  · exact fnK_sound (cx76_ok k) 6 76 _ _ K r ((plumblineref02_length_gen plumblineref02_length_l0 plumblineref02_length_n0_l0 k _ K).trans h)
  · exact fnK_sound (cx76_ok k) 6 76 _ _ K r ((plumblineref02_length_n0_gen plumblineref02_length_l0 plumblineref02_length_n0_l0 k K).trans h)
  · cases h
theorem S76_ok {R : Type} (k : Nat) : SumOk Try.prog 76 true (S76 k : Sum R) := by
  refine sumOk_keep (S76_ok0 k) ?_
  intro args H K r h
  unfold S76 S76G at h ⊢
  split at h
  · refine Eq.trans ?_ h
    show plumblineref02_length k _ _ = plumblineref02_length k _ _
    congr 1
    all_goals first | exact (funext fun q1 => if_pos (keeps_app _ _ _ [])) | skip
  · refine Eq.trans ?_ h
    show plumblineref02_length_n0 k _ = plumblineref02_length_n0 k _
    congr 1
    all_goals first | exact (funext fun q1 => if_pos (keeps_app _ _ _ [])) | skip
  · cases h
-- function 56: plumbline/plumblineref02.Most
noncomputable def fi56 : FnI := ⟨56, Try.f56, []⟩
theorem en56 : Enters Try.prog 56 := enters_of Try.func56 (c := ((Try.f56).body.getD .skip)) (by kernel_rfl) (by kernel_rfl)
noncomputable def cx56 {R : Type} (k : Nat) : Cx R := mkCx Ty exts [(71, true, S71 k)] fi56 [] []
theorem cx56_ok {R : Type} (k : Nat) : CxOk Try.prog (cx56 k : Cx R) := mkCx_ok (c := ((Try.f56).body.getD .skip)) ty_ok mixed exts_ok (allSum_cons (S71_ok k) en71 allSum_nil) Try.func56 en56 (by kernel_rfl) (by kernel_rfl) allLoop_nil allCut_nil
@[reducible] def plumblineref02_MostY (R : Type) : Type := Nat → Int → (Int → Option R) → Option R
noncomputable def plumblineref02_MostT {R : Type} (plumblineref02_Size : plumblineref02_SizeY R) (k : Nat) (a1 : Int) (K0 : Int → Option R) : Option R :=
  plumblineref02_Size k a1 (fun r1 r2 r3 =>
    cond (decide (r2 < 0)) (
      none) (
      cond (decide (r1 < 0)) (
        none) (
        K0 (Wu64 ((shl .u64 (Wu64 ((shl .u64 1 r2) - 1)) r1) - 1)))))
noncomputable def plumblineref02_Most {R : Type} (k : Nat) (a1 : Int) (K0 : Int → Option R) : Option R := plumblineref02_MostT plumblineref02_Size k a1 K0
theorem plumblineref02_Most_gen {R : Type} (plumblineref02_Size : plumblineref02_SizeY R) (k : Nat) (a1 : Int) (K : AV → Heap → Option R) :
    fnK (mkCx Ty exts [(71, true, S71G plumblineref02_Size k)] fi56 [] []) 6 56 [.i .i64 a1] ⟨0, []⟩ K = plumblineref02_MostT plumblineref02_Size k a1 (fun q1 => K (.i .u64 q1) ⟨0, []⟩) := by kernel_rfl
noncomputable def S56G {R : Type} (plumblineref02_Most : plumblineref02_MostY R) (k : Nat) : Sum R := fun args H K => match args, H with
  | [.i .i64 a1], ⟨0, []⟩ => plumblineref02_Most k a1 (fun q1 => K (.i .u64 q1) ⟨0, []⟩)
  | _, _ => none
noncomputable def S56 {R : Type} (k : Nat) : Sum R := S56G plumblineref02_Most k
theorem S56_ok0 {R : Type} (k : Nat) : SumOk Try.prog 56 false (S56 k : Sum R) := by
  intro args H K r h
  unfold S56 S56G at h
  split at h
  · exact fnK_sound (cx56_ok k) 6 56 _ _ K r ((plumblineref02_Most_gen plumblineref02_Size k _ K).trans h)
  · cases h
theorem S56_ok {R : Type} (k : Nat) : SumOk Try.prog 56 true (S56 k : Sum R) := by
  refine sumOk_keep (S56_ok0 k) ?_
  intro args H K r h
  unfold S56 S56G at h ⊢
  split at h
  · refine Eq.trans ?_ h
    show plumblineref02_Most k _ _ = plumblineref02_Most k _ _
    congr 1
    all_goals first | exact (funext fun q1 => if_pos (keeps_app _ _ _ [])) | skip
  · cases h
-- function 52: plumbline/plumblineref02.Rounded
noncomputable def fi52 : FnI := ⟨52, Try.f52, [(100010, [0, 1, 2, 3, 4, 11, 12, 13, 14, 15, 16, 17]), (100018, [0, 1, 2, 3, 4, 11, 12, 13, 14, 15, 16, 18, 19, 20]), (600008, [0, 1, 2, 3, 4, 11, 12, 13, 14, 15]), (600022, [0, 1, 2, 3, 4, 11, 12, 13, 14, 15, 16, 18, 19, 20]), (600032, [0, 1, 2, 11, 12, 13, 15, 16, 21]), (600034, [0, 1, 2, 11, 12, 13, 15, 16]), (600037, [0, 1, 2, 11, 12, 13, 15, 16]), (600040, [0, 1, 2, 11, 12, 16, 22]), (2500008, [10]), (2500032, [10]), (2500034, [10]), (2500037, [10]), (2500040, [10]), (3010000, [0, 1, 2, 3, 4, 11, 12, 13, 14, 15, 16]), (3018002, [0, 1, 2, 11, 12, 13, 15, 16, 18, 19]), (5500022, [0, 1, 2, 3, 4, 11, 12, 13, 14, 15, 16, 18, 19, 20])]⟩
theorem en52 : Enters Try.prog 52 := enters_of Try.func52 (c := ((Try.f52).body.getD .skip)) (by kernel_rfl) (by kernel_rfl)
@[reducible] def plumblineref02_Rounded_l0Y (R : Type) : Type := Nat → Nat → Int → Int → Bool → Int → Int → Int → Int → Int → Int → Int → Int → (List Bool) → (Int → Option R) → Option R
noncomputable def plumblineref02_Rounded_l0B {R : Type} (k : Nat) (rec : Int → Int → Bool → Int → Int → Int → Int → Int → Int → Int → Int → (List Bool) → Option R) (x1 : Int) (x2 : Int) (x3 : Bool) (x4 : Int) (x5 : Int) (x6 : Int) (x7 : Int) (x8 : Int) (x9 : Int) (x10 : Int) (x11 : Int) (x12 : List Bool) (K0 : Int → Option R) : Option R :=
  cond (decide (x11 ≥ 0)) (
    cond (decide ((Wi64 (x4 + x11)) ≥ x9)) (
      cond (decide ((Wi64 ((Wi64 (x4 + x11)) - x9)) < 0)) (
        none) (
        cond (decide (0 ≤ x11)) (
          cond (decide (x11 < (((List.length x12) : Nat) : Int))) (
            Option.bind (x12[(Int.toNat x11)]?) fun yye1 =>
            cond (!yye1) (
              cond (decide ((Wi64 (x4 + x11)) ≥ x9)) (
                cond (decide ((Wi64 ((Wi64 (x4 + x11)) - x9)) < 0)) (
                  none) (
                  rec x1 x2 x3 x4 x5 x6 x7 x8 x9 (bAndNot .u64 (bOr .u64 x10 (shl .u64 1 (Wi64 ((Wi64 (x4 + x11)) - x9)))) (shl .u64 1 (Wi64 ((Wi64 (x4 + x11)) - x9)))) (Wi64 (x11 - 1)) x12)) (
                rec x1 x2 x3 x4 x5 x6 x7 x8 x9 (bOr .u64 x10 (shl .u64 1 (Wi64 ((Wi64 (x4 + x11)) - x9)))) (Wi64 (x11 - 1)) x12)) (
              rec x1 x2 x3 x4 x5 x6 x7 x8 x9 (bOr .u64 x10 (shl .u64 1 (Wi64 ((Wi64 (x4 + x11)) - x9)))) (Wi64 (x11 - 1)) x12)) (
            none)) (
          none))) (
      cond (decide (0 ≤ x11)) (
        cond (decide (x11 < (((List.length x12) : Nat) : Int))) (
          Option.bind (x12[(Int.toNat x11)]?) fun yye2 =>
          cond (!yye2) (
            cond (decide ((Wi64 (x4 + x11)) ≥ x9)) (
              cond (decide ((Wi64 ((Wi64 (x4 + x11)) - x9)) < 0)) (
                none) (
                rec x1 x2 x3 x4 x5 x6 x7 x8 x9 (bAndNot .u64 x10 (shl .u64 1 (Wi64 ((Wi64 (x4 + x11)) - x9)))) (Wi64 (x11 - 1)) x12)) (
              rec x1 x2 x3 x4 x5 x6 x7 x8 x9 x10 (Wi64 (x11 - 1)) x12)) (
            rec x1 x2 x3 x4 x5 x6 x7 x8 x9 x10 (Wi64 (x11 - 1)) x12)) (
          none)) (
        none))) (
    K0 x10)
noncomputable def plumblineref02_Rounded_l0 {R : Type} (k : Nat) : Nat → Int → Int → Bool → Int → Int → Int → Int → Int → Int → Int → Int → (List Bool) → (Int → Option R) → Option R
  | 0, _, _, _, _, _, _, _, _, _, _, _, _, _ => none
  | n + 1, x1, x2, x3, x4, x5, x6, x7, x8, x9, x10, x11, x12, K0 => plumblineref02_Rounded_l0B k (fun x1 x2 x3 x4 x5 x6 x7 x8 x9 x10 x11 x12 => plumblineref02_Rounded_l0 k n x1 x2 x3 x4 x5 x6 x7 x8 x9 x10 x11 x12 K0) x1 x2 x3 x4 x5 x6 x7 x8 x9 x10 x11 x12 K0
@[reducible] def plumblineref02_Rounded_n3_l0Y (R : Type) : Type := Nat → Nat → Int → Int → Bool → Int → Int → Int → Int → Int → Int → Int → Int → (Option R) → Option R
noncomputable def plumblineref02_Rounded_n3_l0B {R : Type} (k : Nat) (rec : Int → Int → Bool → Int → Int → Int → Int → Int → Int → Int → Int → Option R) (x1 : Int) (x2 : Int) (x3 : Bool) (x4 : Int) (x5 : Int) (x6 : Int) (x7 : Int) (x8 : Int) (x9 : Int) (x10 : Int) (x11 : Int) (K0 : Option R) : Option R :=
  cond (decide (x11 ≥ 0)) (
    cond (decide ((Wi64 (x4 + x11)) ≥ x9)) (
      cond (decide ((Wi64 ((Wi64 (x4 + x11)) - x9)) < 0)) (
        none) (
        none)) (
      none)) (
    K0)
noncomputable def plumblineref02_Rounded_n3_l0 {R : Type} (k : Nat) : Nat → Int → Int → Bool → Int → Int → Int → Int → Int → Int → Int → Int → (Option R) → Option R
  | 0, _, _, _, _, _, _, _, _, _, _, _, _ => none
  | n + 1, x1, x2, x3, x4, x5, x6, x7, x8, x9, x10, x11, K0 => plumblineref02_Rounded_n3_l0B k (fun x1 x2 x3 x4 x5 x6 x7 x8 x9 x10 x11 => plumblineref02_Rounded_n3_l0 k n x1 x2 x3 x4 x5 x6 x7 x8 x9 x10 x11 K0) x1 x2 x3 x4 x5 x6 x7 x8 x9 x10 x11 K0
noncomputable def cx52_10 {R : Type} (k : Nat) : Cx R := mkCx Ty exts [(56, true, S56 k), (71, true, S71 k), (76, true, S76 k), (77, true, S77 k), (78, true, S78 k)] fi52 [] []
theorem cx52_10_ok {R : Type} (k : Nat) : CxOk Try.prog (cx52_10 k : Cx R) := mkCx_ok (c := ((Try.f52).body.getD .skip)) ty_ok mixed exts_ok (allSum_cons (S56_ok k) en56 (allSum_cons (S71_ok k) en71 (allSum_cons (S76_ok k) en76 (allSum_cons (S77_ok k) en77 (allSum_cons (S78_ok k) en78 allSum_nil))))) Try.func52 en52 (by kernel_rfl) (by kernel_rfl) allLoop_nil allCut_nil
noncomputable def L52_10G {R : Type} (plumblineref02_Rounded_l0 : plumblineref02_Rounded_l0Y R) (plumblineref02_Rounded_n3_l0 : plumblineref02_Rounded_n3_l0Y R) (k n : Nat) : LSum R := fun pin T H K => match pin, T, H with
  | 1, [(0, .i .i64 x1), (1, .i .i64 x2), (2, .b x3), (3, .sw 0), (4, .i .i64 x4), (11, .i .i64 x5), (12, .i .i64 x6), (13, .i .i64 x7), (14, .i .i64 x8), (15, .i .i64 x9), (16, .i .u64 x10), (17, .i .i64 x11)], ⟨1, [(0, some ⟨0, false, .row [.b] x12⟩)]⟩ => plumblineref02_Rounded_l0 k n x1 x2 x3 x4 x5 x6 x7 x8 x9 x10 x11 x12 (fun q10 => K (.exit 0) [(0, .i .i64 x1), (1, .i .i64 x2), (2, .b x3), (3, .sw 0), (4, .i .i64 x4), (11, .i .i64 x5), (12, .i .i64 x6), (13, .i .i64 x7), (14, .i .i64 x8), (15, .i .i64 x9), (16, .i .u64 q10)] ⟨1, [(0, some ⟨0, false, .row [.b] x12⟩)]⟩)
  | 0, [(0, .i .i64 x1), (1, .i .i64 x2), (2, .b x3), (3, .nsl), (4, .i .i64 x4), (11, .i .i64 x5), (12, .i .i64 x6), (13, .i .i64 x7), (14, .i .i64 x8), (15, .i .i64 x9), (16, .i .u64 x10), (17, .i .i64 x11)], ⟨0, []⟩ => plumblineref02_Rounded_n3_l0 k n x1 x2 x3 x4 x5 x6 x7 x8 x9 x10 x11 (K (.exit 0) [(0, .i .i64 x1), (1, .i .i64 x2), (2, .b x3), (3, .nsl), (4, .i .i64 x4), (11, .i .i64 x5), (12, .i .i64 x6), (13, .i .i64 x7), (14, .i .i64 x8), (15, .i .i64 x9), (16, .i .u64 x10)] ⟨0, []⟩)
  | _, _, _ => none
noncomputable def L52_10 {R : Type} (k n : Nat) : LSum R := L52_10G plumblineref02_Rounded_l0 plumblineref02_Rounded_n3_l0 k n
theorem plumblineref02_Rounded_l0_gen {R : Type} (plumblineref02_Most : plumblineref02_MostY R) (plumblineref02_Size : plumblineref02_SizeY R) (plumblineref02_length : plumblineref02_lengthY R) (plumblineref02_length_n0 : plumblineref02_length_n0Y R) (plumblineref02_sign : plumblineref02_signY R) (plumblineref02_Inf : plumblineref02_InfY R) (plumblineref02_Rounded_l0 : plumblineref02_Rounded_l0Y R) (plumblineref02_Rounded_n3_l0 : plumblineref02_Rounded_n3_l0Y R) (k n : Nat) (x1 : Int) (x2 : Int) (x3 : Bool) (x4 : Int) (x5 : Int) (x6 : Int) (x7 : Int) (x8 : Int) (x9 : Int) (x10 : Int) (x11 : Int) (x12 : List Bool) (K : Kont R) :
    (fun C => codeK C (run C 4)) (mkCx Ty exts [(56, true, S56G plumblineref02_Most k), (71, true, S71G plumblineref02_Size k), (76, true, S76G plumblineref02_length plumblineref02_length_n0 k), (77, true, S77G plumblineref02_sign k), (78, true, S78G plumblineref02_Inf k)] fi52 [] []) 1 fi52 (loopAt ((Try.f52).body.getD .skip) 10) [(0, .i .i64 x1), (1, .i .i64 x2), (2, .b x3), (3, .sw 0), (4, .i .i64 x4), (11, .i .i64 x5), (12, .i .i64 x6), (13, .i .i64 x7), (14, .i .i64 x8), (15, .i .i64 x9), (16, .i .u64 x10), (17, .i .i64 x11)] ⟨1, [(0, some ⟨0, false, .row [.b] x12⟩)]⟩ (fun ex T H => match (generalizing := false) ex with
      | .normal => normAt (some [0, 1, 2, 3, 4, 11, 12, 13, 14, 15, 16, 17]) 1 T H (fun T H => L52_10G plumblineref02_Rounded_l0 plumblineref02_Rounded_n3_l0 k n 1 T H K)
      | ex => exitNorm fi52.ann 10 1 K ex T H) =
    plumblineref02_Rounded_l0B k (fun x1 x2 x3 x4 x5 x6 x7 x8 x9 x10 x11 x12 => plumblineref02_Rounded_l0 k n x1 x2 x3 x4 x5 x6 x7 x8 x9 x10 x11 x12 (fun q10 => K (.exit 0) [(0, .i .i64 x1), (1, .i .i64 x2), (2, .b x3), (3, .sw 0), (4, .i .i64 x4), (11, .i .i64 x5), (12, .i .i64 x6), (13, .i .i64 x7), (14, .i .i64 x8), (15, .i .i64 x9), (16, .i .u64 q10)] ⟨1, [(0, some ⟨0, false, .row [.b] x12⟩)]⟩)) x1 x2 x3 x4 x5 x6 x7 x8 x9 x10 x11 x12 (fun q10 => K (.exit 0) [(0, .i .i64 x1), (1, .i .i64 x2), (2, .b x3), (3, .sw 0), (4, .i .i64 x4), (11, .i .i64 x5), (12, .i .i64 x6), (13, .i .i64 x7), (14, .i .i64 x8), (15, .i .i64 x9), (16, .i .u64 q10)] ⟨1, [(0, some ⟨0, false, .row [.b] x12⟩)]⟩) := by kernel_rfl
theorem plumblineref02_Rounded_n3_l0_gen {R : Type} (plumblineref02_Most : plumblineref02_MostY R) (plumblineref02_Size : plumblineref02_SizeY R) (plumblineref02_length : plumblineref02_lengthY R) (plumblineref02_length_n0 : plumblineref02_length_n0Y R) (plumblineref02_sign : plumblineref02_signY R) (plumblineref02_Inf : plumblineref02_InfY R) (plumblineref02_Rounded_l0 : plumblineref02_Rounded_l0Y R) (plumblineref02_Rounded_n3_l0 : plumblineref02_Rounded_n3_l0Y R) (k n : Nat) (x1 : Int) (x2 : Int) (x3 : Bool) (x4 : Int) (x5 : Int) (x6 : Int) (x7 : Int) (x8 : Int) (x9 : Int) (x10 : Int) (x11 : Int) (K : Kont R) :
    (fun C => codeK C (run C 4)) (mkCx Ty exts [(56, true, S56G plumblineref02_Most k), (71, true, S71G plumblineref02_Size k), (76, true, S76G plumblineref02_length plumblineref02_length_n0 k), (77, true, S77G plumblineref02_sign k), (78, true, S78G plumblineref02_Inf k)] fi52 [] []) 0 fi52 (loopAt ((Try.f52).body.getD .skip) 10) [(0, .i .i64 x1), (1, .i .i64 x2), (2, .b x3), (3, .nsl), (4, .i .i64 x4), (11, .i .i64 x5), (12, .i .i64 x6), (13, .i .i64 x7), (14, .i .i64 x8), (15, .i .i64 x9), (16, .i .u64 x10), (17, .i .i64 x11)] ⟨0, []⟩ (fun ex T H => match (generalizing := false) ex with
      | .normal => normAt (some [0, 1, 2, 3, 4, 11, 12, 13, 14, 15, 16, 17]) 0 T H (fun T H => L52_10G plumblineref02_Rounded_l0 plumblineref02_Rounded_n3_l0 k n 0 T H K)
      | ex => exitNorm fi52.ann 10 0 K ex T H) =
    plumblineref02_Rounded_n3_l0B k (fun x1 x2 x3 x4 x5 x6 x7 x8 x9 x10 x11 => plumblineref02_Rounded_n3_l0 k n x1 x2 x3 x4 x5 x6 x7 x8 x9 x10 x11 (K (.exit 0) [(0, .i .i64 x1), (1, .i .i64 x2), (2, .b x3), (3, .nsl), (4, .i .i64 x4), (11, .i .i64 x5), (12, .i .i64 x6), (13, .i .i64 x7), (14, .i .i64 x8), (15, .i .i64 x9), (16, .i .u64 x10)] ⟨0, []⟩)) x1 x2 x3 x4 x5 x6 x7 x8 x9 x10 x11 (K (.exit 0) [(0, .i .i64 x1), (1, .i .i64 x2), (2, .b x3), (3, .nsl), (4, .i .i64 x4), (11, .i .i64 x5), (12, .i .i64 x6), (13, .i .i64 x7), (14, .i .i64 x8), (15, .i .i64 x9), (16, .i .u64 x10)] ⟨0, []⟩) := by kernel_rfl
theorem L52_10_cok {R : Type} (k : Nat) : CodeOk Try.prog (cx52_10 k : Cx R) fi52 (loopAt ((Try.f52).body.getD .skip) 10) := loopAt_ok (((cx52_10_ok k).fns 52 fi52 (by kernel_rfl)).2.2.2 ((Try.f52).body.getD .skip) (by kernel_rfl))
theorem L52_10_ok {R : Type} (k : Nat) : ∀ n, LoopOk Try.prog (Try.f52).ntmps (loopAt ((Try.f52).body.getD .skip) 10) (L52_10 k n : LSum R)
  | 0 => by
    intro pin T H K r h
    unfold L52_10 L52_10G at h
    split at h
    all_goals exact nomatch (show (none : Option R) = some r from h)
  | n + 1 => by
    intro pin T H K r h
    unfold L52_10 L52_10G at h
    split at h
    · obtain ⟨ex, T1, H1, h, hb⟩ := codeK_sound (cx52_10_ok k) (run_sound (cx52_10_ok k) 4) _ fi52 _ _ _ _ _ (L52_10_cok k) ((plumblineref02_Rounded_l0_gen plumblineref02_Most plumblineref02_Size plumblineref02_length plumblineref02_length_n0 plumblineref02_sign plumblineref02_Inf plumblineref02_Rounded_l0 plumblineref02_Rounded_n3_l0 k n _ _ _ _ _ _ _ _ _ _ _ _ K).trans h)
      exact loop_step (fun T H hh => L52_10_ok k n _ T H K r hh) hb h
    · obtain ⟨ex, T1, H1, h, hb⟩ := codeK_sound (cx52_10_ok k) (run_sound (cx52_10_ok k) 4) _ fi52 _ _ _ _ _ (L52_10_cok k) ((plumblineref02_Rounded_n3_l0_gen plumblineref02_Most plumblineref02_Size plumblineref02_length plumblineref02_length_n0 plumblineref02_sign plumblineref02_Inf plumblineref02_Rounded_l0 plumblineref02_Rounded_n3_l0 k n _ _ _ _ _ _ _ _ _ _ _ K).trans h)
      exact loop_step (fun T H hh => L52_10_ok k n _ T H K r hh) hb h
    · cases h
@[reducible] def plumblineref02_Rounded_c1Y (R : Type) : Type := Nat → Int → Int → Bool → Int → Int → Int → Int → Int → Int → Int → Bool → Bool → Int → (List Bool) → (Bool → Option R) → Option R
noncomputable def plumblineref02_Rounded_c1T {R : Type} (k : Nat) (x1 : Int) (x2 : Int) (x3 : Bool) (x4 : Int) (x5 : Int) (x6 : Int) (x7 : Int) (x8 : Int) (x9 : Int) (x10 : Int) (x11 : Bool) (x12 : Bool) (x13 : Int) (x14 : List Bool) (K0 : Bool → Option R) : Option R :=
  cond (decide (0 ≤ x13)) (
    cond (decide (x13 < (((List.length x14) : Nat) : Int))) (
      Option.bind (x14[(Int.toNat x13)]?) fun yyye1 =>
      cond yyye1 (
        cond (decide ((Wi64 (x4 + x13)) < (Wi64 (x9 - 1)))) (
          K0 true) (
          K0 x12)) (
        K0 x12)) (
      none)) (
    none)
noncomputable def plumblineref02_Rounded_c1 {R : Type} (k : Nat) (x1 : Int) (x2 : Int) (x3 : Bool) (x4 : Int) (x5 : Int) (x6 : Int) (x7 : Int) (x8 : Int) (x9 : Int) (x10 : Int) (x11 : Bool) (x12 : Bool) (x13 : Int) (x14 : List Bool) (K0 : Bool → Option R) : Option R := plumblineref02_Rounded_c1T k x1 x2 x3 x4 x5 x6 x7 x8 x9 x10 x11 x12 x13 x14 K0
noncomputable def cc52_22 {R : Type} (k : Nat) : Cx R := mkCx Ty exts [(56, true, S56 k), (71, true, S71 k), (76, true, S76 k), (77, true, S77 k), (78, true, S78 k)] fi52 [(10, L52_10 k k)] []
theorem cc52_22_ok {R : Type} (k : Nat) : CxOk Try.prog (cc52_22 k : Cx R) := mkCx_ok (c := ((Try.f52).body.getD .skip)) ty_ok mixed exts_ok (allSum_cons (S56_ok k) en56 (allSum_cons (S71_ok k) en71 (allSum_cons (S76_ok k) en76 (allSum_cons (S77_ok k) en77 (allSum_cons (S78_ok k) en78 allSum_nil))))) Try.func52 en52 (by kernel_rfl) (by kernel_rfl) (allLoop_loop (by kernel_rfl) (L52_10_ok k k) allLoop_nil) allCut_nil
noncomputable def C52_22G {R : Type} (plumblineref02_Rounded_c1 : plumblineref02_Rounded_c1Y R) (k : Nat) : LSum R := fun pin T H K => match pin, T, H with
  | 1, [(0, .i .i64 x1), (1, .i .i64 x2), (2, .b x3), (3, .sw 0), (4, .i .i64 x4), (11, .i .i64 x5), (12, .i .i64 x6), (13, .i .i64 x7), (14, .i .i64 x8), (15, .i .i64 x9), (16, .i .u64 x10), (18, .b x11), (19, .b x12), (20, .i .i64 x13)], ⟨1, [(0, some ⟨0, false, .row [.b] x14⟩)]⟩ => plumblineref02_Rounded_c1 k x1 x2 x3 x4 x5 x6 x7 x8 x9 x10 x11 x12 x13 x14 (fun q12 => K .normal [(0, .i .i64 x1), (1, .i .i64 x2), (2, .b x3), (3, .sw 0), (4, .i .i64 x4), (11, .i .i64 x5), (12, .i .i64 x6), (13, .i .i64 x7), (14, .i .i64 x8), (15, .i .i64 x9), (16, .i .u64 x10), (18, .b x11), (19, .b q12), (20, .i .i64 x13)] ⟨1, [(0, some ⟨0, false, .row [.b] x14⟩)]⟩)
  | _, _, _ => none
noncomputable def C52_22 {R : Type} (k : Nat) : LSum R := C52_22G plumblineref02_Rounded_c1 k
theorem plumblineref02_Rounded_c1_gen {R : Type} (plumblineref02_Most : plumblineref02_MostY R) (plumblineref02_Size : plumblineref02_SizeY R) (plumblineref02_length : plumblineref02_lengthY R) (plumblineref02_length_n0 : plumblineref02_length_n0Y R) (plumblineref02_sign : plumblineref02_signY R) (plumblineref02_Inf : plumblineref02_InfY R) (plumblineref02_Rounded_l0 : plumblineref02_Rounded_l0Y R) (plumblineref02_Rounded_n3_l0 : plumblineref02_Rounded_n3_l0Y R) (k : Nat) (x1 : Int) (x2 : Int) (x3 : Bool) (x4 : Int) (x5 : Int) (x6 : Int) (x7 : Int) (x8 : Int) (x9 : Int) (x10 : Int) (x11 : Bool) (x12 : Bool) (x13 : Int) (x14 : List Bool) (K : Kont R) :
    (fun C => codeK C (run C 4)) (mkCx Ty exts [(56, true, S56G plumblineref02_Most k), (71, true, S71G plumblineref02_Size k), (76, true, S76G plumblineref02_length plumblineref02_length_n0 k), (77, true, S77G plumblineref02_sign k), (78, true, S78G plumblineref02_Inf k)] fi52 [(10, L52_10G plumblineref02_Rounded_l0 plumblineref02_Rounded_n3_l0 k k)] []) 1 fi52 (cutAt ((Try.f52).body.getD .skip) 22) [(0, .i .i64 x1), (1, .i .i64 x2), (2, .b x3), (3, .sw 0), (4, .i .i64 x4), (11, .i .i64 x5), (12, .i .i64 x6), (13, .i .i64 x7), (14, .i .i64 x8), (15, .i .i64 x9), (16, .i .u64 x10), (18, .b x11), (19, .b x12), (20, .i .i64 x13)] ⟨1, [(0, some ⟨0, false, .row [.b] x14⟩)]⟩ (exitNorm fi52.ann 500022 1 K) = plumblineref02_Rounded_c1T k x1 x2 x3 x4 x5 x6 x7 x8 x9 x10 x11 x12 x13 x14 (fun q12 => K .normal [(0, .i .i64 x1), (1, .i .i64 x2), (2, .b x3), (3, .sw 0), (4, .i .i64 x4), (11, .i .i64 x5), (12, .i .i64 x6), (13, .i .i64 x7), (14, .i .i64 x8), (15, .i .i64 x9), (16, .i .u64 x10), (18, .b x11), (19, .b q12), (20, .i .i64 x13)] ⟨1, [(0, some ⟨0, false, .row [.b] x14⟩)]⟩) := by kernel_rfl
theorem C52_22_cok {R : Type} (k : Nat) : CodeOk Try.prog (cc52_22 k : Cx R) fi52 (cutAt ((Try.f52).body.getD .skip) 22) := cutAt_ok (((cc52_22_ok k).fns 52 fi52 (by kernel_rfl)).2.2.2 ((Try.f52).body.getD .skip) (by kernel_rfl))
theorem C52_22_ok {R : Type} (k : Nat) : CutOk Try.prog (Try.f52).ntmps (cutAt ((Try.f52).body.getD .skip) 22) (C52_22 k : LSum R) := by
  intro pin T H K r h
  unfold C52_22 C52_22G at h
  split at h
  · obtain ⟨ex, T1, H1, h, hb⟩ := codeK_sound (cc52_22_ok k) (run_sound (cc52_22_ok k) 4) _ fi52 _ _ _ _ _ (C52_22_cok k) ((plumblineref02_Rounded_c1_gen plumblineref02_Most plumblineref02_Size plumblineref02_length plumblineref02_length_n0 plumblineref02_sign plumblineref02_Inf plumblineref02_Rounded_l0 plumblineref02_Rounded_n3_l0 k _ _ _ _ _ _ _ _ _ _ _ _ _ _ K).trans h)
    exact cut_step hb h
  · cases h
@[reducible] def plumblineref02_Rounded_l2Y (R : Type) : Type := Nat → Nat → Int → Int → Bool → Int → Int → Int → Int → Int → Int → Int → Bool → Bool → Int → (List Bool) → (Bool → Bool → Option R) → Option R
noncomputable def plumblineref02_Rounded_l2B {R : Type} (plumblineref02_Rounded_c1 : plumblineref02_Rounded_c1Y R) (k : Nat) (rec : Int → Int → Bool → Int → Int → Int → Int → Int → Int → Int → Bool → Bool → Int → (List Bool) → Option R) (x1 : Int) (x2 : Int) (x3 : Bool) (x4 : Int) (x5 : Int) (x6 : Int) (x7 : Int) (x8 : Int) (x9 : Int) (x10 : Int) (x11 : Bool) (x12 : Bool) (x13 : Int) (x14 : List Bool) (K0 : Bool → Bool → Option R) : Option R :=
  cond (decide (x13 < x8)) (
    cond (decide (0 ≤ x13)) (
      cond (decide (x13 < (((List.length x14) : Nat) : Int))) (
        Option.bind (x14[(Int.toNat x13)]?) fun yye1 =>
        cond yye1 (
          cond ((Wi64 (x4 + x13)) == (Wi64 (x9 - 1))) (
            plumblineref02_Rounded_c1 k x1 x2 x3 x4 x5 x6 x7 x8 x9 x10 true x12 x13 x14 (fun yyr2 =>
              rec x1 x2 x3 x4 x5 x6 x7 x8 x9 x10 true yyr2 (Wi64 (x13 + 1)) x14)) (
            plumblineref02_Rounded_c1 k x1 x2 x3 x4 x5 x6 x7 x8 x9 x10 x11 x12 x13 x14 (fun yyr3 =>
              rec x1 x2 x3 x4 x5 x6 x7 x8 x9 x10 x11 yyr3 (Wi64 (x13 + 1)) x14))) (
          plumblineref02_Rounded_c1 k x1 x2 x3 x4 x5 x6 x7 x8 x9 x10 x11 x12 x13 x14 (fun yyr4 =>
            rec x1 x2 x3 x4 x5 x6 x7 x8 x9 x10 x11 yyr4 (Wi64 (x13 + 1)) x14))) (
        none)) (
      none)) (
    K0 x11 x12)
noncomputable def plumblineref02_Rounded_l2 {R : Type} (k : Nat) : Nat → Int → Int → Bool → Int → Int → Int → Int → Int → Int → Int → Bool → Bool → Int → (List Bool) → (Bool → Bool → Option R) → Option R
  | 0, _, _, _, _, _, _, _, _, _, _, _, _, _, _, _ => none
  | n + 1, x1, x2, x3, x4, x5, x6, x7, x8, x9, x10, x11, x12, x13, x14, K0 => plumblineref02_Rounded_l2B plumblineref02_Rounded_c1 k (fun x1 x2 x3 x4 x5 x6 x7 x8 x9 x10 x11 x12 x13 x14 => plumblineref02_Rounded_l2 k n x1 x2 x3 x4 x5 x6 x7 x8 x9 x10 x11 x12 x13 x14 K0) x1 x2 x3 x4 x5 x6 x7 x8 x9 x10 x11 x12 x13 x14 K0
@[reducible] def plumblineref02_Rounded_n3_l1Y (R : Type) : Type := Nat → Nat → Int → Int → Bool → Int → Int → Int → Int → Int → Int → Int → Bool → Bool → Int → (Option R) → Option R
noncomputable def plumblineref02_Rounded_n3_l1B {R : Type} (k : Nat) (rec : Int → Int → Bool → Int → Int → Int → Int → Int → Int → Int → Bool → Bool → Int → Option R) (x1 : Int) (x2 : Int) (x3 : Bool) (x4 : Int) (x5 : Int) (x6 : Int) (x7 : Int) (x8 : Int) (x9 : Int) (x10 : Int) (x11 : Bool) (x12 : Bool) (x13 : Int) (K0 : Option R) : Option R :=
  cond (decide (x13 < x8)) (
    none) (
    K0)
noncomputable def plumblineref02_Rounded_n3_l1 {R : Type} (k : Nat) : Nat → Int → Int → Bool → Int → Int → Int → Int → Int → Int → Int → Bool → Bool → Int → (Option R) → Option R
  | 0, _, _, _, _, _, _, _, _, _, _, _, _, _, _ => none
  | n + 1, x1, x2, x3, x4, x5, x6, x7, x8, x9, x10, x11, x12, x13, K0 => plumblineref02_Rounded_n3_l1B k (fun x1 x2 x3 x4 x5 x6 x7 x8 x9 x10 x11 x12 x13 => plumblineref02_Rounded_n3_l1 k n x1 x2 x3 x4 x5 x6 x7 x8 x9 x10 x11 x12 x13 K0) x1 x2 x3 x4 x5 x6 x7 x8 x9 x10 x11 x12 x13 K0
noncomputable def cx52_18 {R : Type} (k : Nat) : Cx R := mkCx Ty exts [(56, true, S56 k), (71, true, S71 k), (76, true, S76 k), (77, true, S77 k), (78, true, S78 k)] fi52 [(10, L52_10 k k)] [(22, C52_22 k)]
theorem cx52_18_ok {R : Type} (k : Nat) : CxOk Try.prog (cx52_18 k : Cx R) := mkCx_ok (c := ((Try.f52).body.getD .skip)) ty_ok mixed exts_ok (allSum_cons (S56_ok k) en56 (allSum_cons (S71_ok k) en71 (allSum_cons (S76_ok k) en76 (allSum_cons (S77_ok k) en77 (allSum_cons (S78_ok k) en78 allSum_nil))))) Try.func52 en52 (by kernel_rfl) (by kernel_rfl) (allLoop_loop (by kernel_rfl) (L52_10_ok k k) allLoop_nil) (allCut_cons (C52_22_ok k) (by kernel_rfl) allCut_nil)
noncomputable def L52_18G {R : Type} (plumblineref02_Rounded_l2 : plumblineref02_Rounded_l2Y R) (plumblineref02_Rounded_n3_l1 : plumblineref02_Rounded_n3_l1Y R) (k n : Nat) : LSum R := fun pin T H K => match pin, T, H with
  | 1, [(0, .i .i64 x1), (1, .i .i64 x2), (2, .b x3), (3, .sw 0), (4, .i .i64 x4), (11, .i .i64 x5), (12, .i .i64 x6), (13, .i .i64 x7), (14, .i .i64 x8), (15, .i .i64 x9), (16, .i .u64 x10), (18, .b x11), (19, .b x12), (20, .i .i64 x13)], ⟨1, [(0, some ⟨0, false, .row [.b] x14⟩)]⟩ => plumblineref02_Rounded_l2 k n x1 x2 x3 x4 x5 x6 x7 x8 x9 x10 x11 x12 x13 x14 (fun q9 q10 => K (.exit 2) [(0, .i .i64 x1), (1, .i .i64 x2), (2, .b x3), (11, .i .i64 x5), (12, .i .i64 x6), (13, .i .i64 x7), (15, .i .i64 x9), (16, .i .u64 x10), (18, .b q9), (19, .b q10)] ⟨1, [(0, some ⟨0, false, .row [.b] x14⟩)]⟩)
  | 0, [(0, .i .i64 x1), (1, .i .i64 x2), (2, .b x3), (3, .nsl), (4, .i .i64 x4), (11, .i .i64 x5), (12, .i .i64 x6), (13, .i .i64 x7), (14, .i .i64 x8), (15, .i .i64 x9), (16, .i .u64 x10), (18, .b x11), (19, .b x12), (20, .i .i64 x13)], ⟨0, []⟩ => plumblineref02_Rounded_n3_l1 k n x1 x2 x3 x4 x5 x6 x7 x8 x9 x10 x11 x12 x13 (K (.exit 2) [(0, .i .i64 x1), (1, .i .i64 x2), (2, .b x3), (11, .i .i64 x5), (12, .i .i64 x6), (13, .i .i64 x7), (15, .i .i64 x9), (16, .i .u64 x10), (18, .b x11), (19, .b x12)] ⟨0, []⟩)
  | _, _, _ => none
noncomputable def L52_18 {R : Type} (k n : Nat) : LSum R := L52_18G plumblineref02_Rounded_l2 plumblineref02_Rounded_n3_l1 k n
theorem plumblineref02_Rounded_l2_gen {R : Type} (plumblineref02_Most : plumblineref02_MostY R) (plumblineref02_Size : plumblineref02_SizeY R) (plumblineref02_length : plumblineref02_lengthY R) (plumblineref02_length_n0 : plumblineref02_length_n0Y R) (plumblineref02_sign : plumblineref02_signY R) (plumblineref02_Inf : plumblineref02_InfY R) (plumblineref02_Rounded_l0 : plumblineref02_Rounded_l0Y R) (plumblineref02_Rounded_n3_l0 : plumblineref02_Rounded_n3_l0Y R) (plumblineref02_Rounded_c1 : plumblineref02_Rounded_c1Y R) (plumblineref02_Rounded_l2 : plumblineref02_Rounded_l2Y R) (plumblineref02_Rounded_n3_l1 : plumblineref02_Rounded_n3_l1Y R) (k n : Nat) (x1 : Int) (x2 : Int) (x3 : Bool) (x4 : Int) (x5 : Int) (x6 : Int) (x7 : Int) (x8 : Int) (x9 : Int) (x10 : Int) (x11 : Bool) (x12 : Bool) (x13 : Int) (x14 : List Bool) (K : Kont R) :
    (fun C => codeK C (run C 4)) (mkCx Ty exts [(56, true, S56G plumblineref02_Most k), (71, true, S71G plumblineref02_Size k), (76, true, S76G plumblineref02_length plumblineref02_length_n0 k), (77, true, S77G plumblineref02_sign k), (78, true, S78G plumblineref02_Inf k)] fi52 [(10, L52_10G plumblineref02_Rounded_l0 plumblineref02_Rounded_n3_l0 k k)] [(22, C52_22G plumblineref02_Rounded_c1 k)]) 1 fi52 (loopAt ((Try.f52).body.getD .skip) 18) [(0, .i .i64 x1), (1, .i .i64 x2), (2, .b x3), (3, .sw 0), (4, .i .i64 x4), (11, .i .i64 x5), (12, .i .i64 x6), (13, .i .i64 x7), (14, .i .i64 x8), (15, .i .i64 x9), (16, .i .u64 x10), (18, .b x11), (19, .b x12), (20, .i .i64 x13)] ⟨1, [(0, some ⟨0, false, .row [.b] x14⟩)]⟩ (fun ex T H => match (generalizing := false) ex with
      | .normal => normAt (some [0, 1, 2, 3, 4, 11, 12, 13, 14, 15, 16, 18, 19, 20]) 1 T H (fun T H => L52_18G plumblineref02_Rounded_l2 plumblineref02_Rounded_n3_l1 k n 1 T H K)
      | ex => exitNorm fi52.ann 18 1 K ex T H) =
    plumblineref02_Rounded_l2B plumblineref02_Rounded_c1 k (fun x1 x2 x3 x4 x5 x6 x7 x8 x9 x10 x11 x12 x13 x14 => plumblineref02_Rounded_l2 k n x1 x2 x3 x4 x5 x6 x7 x8 x9 x10 x11 x12 x13 x14 (fun q9 q10 => K (.exit 2) [(0, .i .i64 x1), (1, .i .i64 x2), (2, .b x3), (11, .i .i64 x5), (12, .i .i64 x6), (13, .i .i64 x7), (15, .i .i64 x9), (16, .i .u64 x10), (18, .b q9), (19, .b q10)] ⟨1, [(0, some ⟨0, false, .row [.b] x14⟩)]⟩)) x1 x2 x3 x4 x5 x6 x7 x8 x9 x10 x11 x12 x13 x14 (fun q9 q10 => K (.exit 2) [(0, .i .i64 x1), (1, .i .i64 x2), (2, .b x3), (11, .i .i64 x5), (12, .i .i64 x6), (13, .i .i64 x7), (15, .i .i64 x9), (16, .i .u64 x10), (18, .b q9), (19, .b q10)] ⟨1, [(0, some ⟨0, false, .row [.b] x14⟩)]⟩) := by kernel_rfl
theorem plumblineref02_Rounded_n3_l1_gen {R : Type} (plumblineref02_Most : plumblineref02_MostY R) (plumblineref02_Size : plumblineref02_SizeY R) (plumblineref02_length : plumblineref02_lengthY R) (plumblineref02_length_n0 : plumblineref02_length_n0Y R) (plumblineref02_sign : plumblineref02_signY R) (plumblineref02_Inf : plumblineref02_InfY R) (plumblineref02_Rounded_l0 : plumblineref02_Rounded_l0Y R) (plumblineref02_Rounded_n3_l0 : plumblineref02_Rounded_n3_l0Y R) (plumblineref02_Rounded_c1 : plumblineref02_Rounded_c1Y R) (plumblineref02_Rounded_l2 : plumblineref02_Rounded_l2Y R) (plumblineref02_Rounded_n3_l1 : plumblineref02_Rounded_n3_l1Y R) (k n : Nat) (x1 : Int) (x2 : Int) (x3 : Bool) (x4 : Int) (x5 : Int) (x6 : Int) (x7 : Int) (x8 : Int) (x9 : Int) (x10 : Int) (x11 : Bool) (x12 : Bool) (x13 : Int) (K : Kont R) :
    (fun C => codeK C (run C 4)) (mkCx Ty exts [(56, true, S56G plumblineref02_Most k), (71, true, S71G plumblineref02_Size k), (76, true, S76G plumblineref02_length plumblineref02_length_n0 k), (77, true, S77G plumblineref02_sign k), (78, true, S78G plumblineref02_Inf k)] fi52 [(10, L52_10G plumblineref02_Rounded_l0 plumblineref02_Rounded_n3_l0 k k)] [(22, C52_22G plumblineref02_Rounded_c1 k)]) 0 fi52 (loopAt ((Try.f52).body.getD .skip) 18) [(0, .i .i64 x1), (1, .i .i64 x2), (2, .b x3), (3, .nsl), (4, .i .i64 x4), (11, .i .i64 x5), (12, .i .i64 x6), (13, .i .i64 x7), (14, .i .i64 x8), (15, .i .i64 x9), (16, .i .u64 x10), (18, .b x11), (19, .b x12), (20, .i .i64 x13)] ⟨0, []⟩ (fun ex T H => match (generalizing := false) ex with
      | .normal => normAt (some [0, 1, 2, 3, 4, 11, 12, 13, 14, 15, 16, 18, 19, 20]) 0 T H (fun T H => L52_18G plumblineref02_Rounded_l2 plumblineref02_Rounded_n3_l1 k n 0 T H K)
      | ex => exitNorm fi52.ann 18 0 K ex T H) =
    plumblineref02_Rounded_n3_l1B k (fun x1 x2 x3 x4 x5 x6 x7 x8 x9 x10 x11 x12 x13 => plumblineref02_Rounded_n3_l1 k n x1 x2 x3 x4 x5 x6 x7 x8 x9 x10 x11 x12 x13 (K (.exit 2) [(0, .i .i64 x1), (1, .i .i64 x2), (2, .b x3), (11, .i .i64 x5), (12, .i .i64 x6), (13, .i .i64 x7), (15, .i .i64 x9), (16, .i .u64 x10), (18, .b x11), (19, .b x12)] ⟨0, []⟩)) x1 x2 x3 x4 x5 x6 x7 x8 x9 x10 x11 x12 x13 (K (.exit 2) [(0, .i .i64 x1), (1, .i .i64 x2), (2, .b x3), (11, .i .i64 x5), (12, .i .i64 x6), (13, .i .i64 x7), (15, .i .i64 x9), (16, .i .u64 x10), (18, .b x11), (19, .b x12)] ⟨0, []⟩) := by kernel_rfl
theorem L52_18_cok {R : Type} (k : Nat) : CodeOk Try.prog (cx52_18 k : Cx R) fi52 (loopAt ((Try.f52).body.getD .skip) 18) := loopAt_ok (((cx52_18_ok k).fns 52 fi52 (by kernel_rfl)).2.2.2 ((Try.f52).body.getD .skip) (by kernel_rfl))
theorem L52_18_ok {R : Type} (k : Nat) : ∀ n, LoopOk Try.prog (Try.f52).ntmps (loopAt ((Try.f52).body.getD .skip) 18) (L52_18 k n : LSum R)
  | 0 => by
    intro pin T H K r h
    unfold L52_18 L52_18G at h
    split at h
    all_goals exact nomatch (show (none : Option R) = some r from h)
  | n + 1 => by
    intro pin T H K r h
    unfold L52_18 L52_18G at h
    split at h
    · obtain ⟨ex, T1, H1, h, hb⟩ := codeK_sound (cx52_18_ok k) (run_sound (cx52_18_ok k) 4) _ fi52 _ _ _ _ _ (L52_18_cok k) ((plumblineref02_Rounded_l2_gen plumblineref02_Most plumblineref02_Size plumblineref02_length plumblineref02_length_n0 plumblineref02_sign plumblineref02_Inf plumblineref02_Rounded_l0 plumblineref02_Rounded_n3_l0 plumblineref02_Rounded_c1 plumblineref02_Rounded_l2 plumblineref02_Rounded_n3_l1 k n _ _ _ _ _ _ _ _ _ _ _ _ _ _ K).trans h)
      exact loop_step (fun T H hh => L52_18_ok k n _ T H K r hh) hb h
    · obtain ⟨ex, T1, H1, h, hb⟩ := codeK_sound (cx52_18_ok k) (run_sound (cx52_18_ok k) 4) _ fi52 _ _ _ _ _ (L52_18_cok k) ((plumblineref02_Rounded_n3_l1_gen plumblineref02_Most plumblineref02_Size plumblineref02_length plumblineref02_length_n0 plumblineref02_sign plumblineref02_Inf plumblineref02_Rounded_l0 plumblineref02_Rounded_n3_l0 plumblineref02_Rounded_c1 plumblineref02_Rounded_l2 plumblineref02_Rounded_n3_l1 k n _ _ _ _ _ _ _ _ _ _ _ _ _ K).trans h)
      exact loop_step (fun T H hh => L52_18_ok k n _ T H K r hh) hb h
    · cases h
@[reducible] def plumblineref02_Rounded_c3Y (R : Type) : Type := Nat → Int → Int → Bool → Int → Int → Int → Int → (List Bool) → (Int → Option R) → Option R
noncomputable def plumblineref02_Rounded_c3T {R : Type} (plumblineref02_Inf : plumblineref02_InfY R) (plumblineref02_Most : plumblineref02_MostY R) (plumblineref02_sign : plumblineref02_signY R) (k : Nat) (x1 : Int) (x2 : Int) (x3 : Bool) (x4 : Int) (x5 : Int) (x6 : Int) (x7 : Int) (x8 : List Bool) (K0 : Int → Option R) : Option R :=
  cond (decide (x5 < 0)) (
    none) (
    cond (decide (x7 ≥ (Wu64 ((shl .u64 1 x5) - 1)))) (
      cond (x2 == 3) (
        plumblineref02_sign k x1 x3 (fun yyyyyr1 =>
          plumblineref02_Most k x1 (fun yyyyyr2 =>
            K0 (bOr .u64 yyyyyr1 yyyyyr2)))) (
        cond (x2 == 1) (
          cond x3 (
            plumblineref02_sign k x1 x3 (fun yyyyyr3 =>
              plumblineref02_Most k x1 (fun yyyyyr4 =>
                K0 (bOr .u64 yyyyyr3 yyyyyr4)))) (
            cond (x2 == 2) (
              cond (!x3) (
                plumblineref02_sign k x1 x3 (fun yyyyyr5 =>
                  plumblineref02_Most k x1 (fun yyyyyr6 =>
                    K0 (bOr .u64 yyyyyr5 yyyyyr6)))) (
                plumblineref02_Inf k x1 x3 (fun yyyyyr7 =>
                  K0 yyyyyr7))) (
              plumblineref02_Inf k x1 x3 (fun yyyyyr8 =>
                K0 yyyyyr8)))) (
          cond (x2 == 2) (
            cond (!x3) (
              plumblineref02_sign k x1 x3 (fun yyyyyr9 =>
                plumblineref02_Most k x1 (fun yyyyyr10 =>
                  K0 (bOr .u64 yyyyyr9 yyyyyr10)))) (
              plumblineref02_Inf k x1 x3 (fun yyyyyr11 =>
                K0 yyyyyr11))) (
            plumblineref02_Inf k x1 x3 (fun yyyyyr12 =>
              K0 yyyyyr12))))) (
      plumblineref02_sign k x1 x3 (fun yyyyyr13 =>
        cond (decide (x4 < 0)) (
          none) (
          cond (decide (x4 < 0)) (
            none) (
            K0 (bOr .u64 (bOr .u64 yyyyyr13 (shl .u64 x7 x4)) (bAnd .u64 x6 (Wu64 ((shl .u64 1 x4) - 1)))))))))
noncomputable def plumblineref02_Rounded_c3 {R : Type} (k : Nat) (x1 : Int) (x2 : Int) (x3 : Bool) (x4 : Int) (x5 : Int) (x6 : Int) (x7 : Int) (x8 : List Bool) (K0 : Int → Option R) : Option R := plumblineref02_Rounded_c3T plumblineref02_Inf plumblineref02_Most plumblineref02_sign k x1 x2 x3 x4 x5 x6 x7 x8 K0
@[reducible] def plumblineref02_Rounded_n3_c2Y (R : Type) : Type := Nat → Int → Int → Bool → Int → Int → Int → Int → (Int → Option R) → Option R
noncomputable def plumblineref02_Rounded_n3_c2T {R : Type} (plumblineref02_Inf : plumblineref02_InfY R) (plumblineref02_Most : plumblineref02_MostY R) (plumblineref02_sign : plumblineref02_signY R) (k : Nat) (x1 : Int) (x2 : Int) (x3 : Bool) (x4 : Int) (x5 : Int) (x6 : Int) (x7 : Int) (K0 : Int → Option R) : Option R :=
  cond (decide (x5 < 0)) (
    none) (
    cond (decide (x7 ≥ (Wu64 ((shl .u64 1 x5) - 1)))) (
      cond (x2 == 3) (
        plumblineref02_sign k x1 x3 (fun yyyyyr1 =>
          plumblineref02_Most k x1 (fun yyyyyr2 =>
            K0 (bOr .u64 yyyyyr1 yyyyyr2)))) (
        cond (x2 == 1) (
          cond x3 (
            plumblineref02_sign k x1 x3 (fun yyyyyr3 =>
              plumblineref02_Most k x1 (fun yyyyyr4 =>
                K0 (bOr .u64 yyyyyr3 yyyyyr4)))) (
            cond (x2 == 2) (
              cond (!x3) (
                plumblineref02_sign k x1 x3 (fun yyyyyr5 =>
                  plumblineref02_Most k x1 (fun yyyyyr6 =>
                    K0 (bOr .u64 yyyyyr5 yyyyyr6)))) (
                plumblineref02_Inf k x1 x3 (fun yyyyyr7 =>
                  K0 yyyyyr7))) (
              plumblineref02_Inf k x1 x3 (fun yyyyyr8 =>
                K0 yyyyyr8)))) (
          cond (x2 == 2) (
            cond (!x3) (
              plumblineref02_sign k x1 x3 (fun yyyyyr9 =>
                plumblineref02_Most k x1 (fun yyyyyr10 =>
                  K0 (bOr .u64 yyyyyr9 yyyyyr10)))) (
              plumblineref02_Inf k x1 x3 (fun yyyyyr11 =>
                K0 yyyyyr11))) (
            plumblineref02_Inf k x1 x3 (fun yyyyyr12 =>
              K0 yyyyyr12))))) (
      plumblineref02_sign k x1 x3 (fun yyyyyr13 =>
        cond (decide (x4 < 0)) (
          none) (
          cond (decide (x4 < 0)) (
            none) (
            K0 (bOr .u64 (bOr .u64 yyyyyr13 (shl .u64 x7 x4)) (bAnd .u64 x6 (Wu64 ((shl .u64 1 x4) - 1)))))))))
noncomputable def plumblineref02_Rounded_n3_c2 {R : Type} (k : Nat) (x1 : Int) (x2 : Int) (x3 : Bool) (x4 : Int) (x5 : Int) (x6 : Int) (x7 : Int) (K0 : Int → Option R) : Option R := plumblineref02_Rounded_n3_c2T plumblineref02_Inf plumblineref02_Most plumblineref02_sign k x1 x2 x3 x4 x5 x6 x7 K0
noncomputable def cc52_40 {R : Type} (k : Nat) : Cx R := mkCx Ty exts [(56, true, S56 k), (71, true, S71 k), (76, true, S76 k), (77, true, S77 k), (78, true, S78 k)] fi52 [(10, L52_10 k k), (18, L52_18 k k)] [(22, C52_22 k)]
theorem cc52_40_ok {R : Type} (k : Nat) : CxOk Try.prog (cc52_40 k : Cx R) := mkCx_ok (c := ((Try.f52).body.getD .skip)) ty_ok mixed exts_ok (allSum_cons (S56_ok k) en56 (allSum_cons (S71_ok k) en71 (allSum_cons (S76_ok k) en76 (allSum_cons (S77_ok k) en77 (allSum_cons (S78_ok k) en78 allSum_nil))))) Try.func52 en52 (by kernel_rfl) (by kernel_rfl) (allLoop_loop (by kernel_rfl) (L52_10_ok k k) (allLoop_loop (by kernel_rfl) (L52_18_ok k k) allLoop_nil)) (allCut_cons (C52_22_ok k) (by kernel_rfl) allCut_nil)
noncomputable def C52_40G {R : Type} (plumblineref02_Rounded_c3 : plumblineref02_Rounded_c3Y R) (plumblineref02_Rounded_n3_c2 : plumblineref02_Rounded_n3_c2Y R) (k : Nat) : LSum R := fun pin T H K => match pin, T, H with
  | 1, [(0, .i .i64 x1), (1, .i .i64 x2), (2, .b x3), (11, .i .i64 x4), (12, .i .i64 x5), (16, .i .u64 x6), (22, .i .u64 x7)], ⟨1, [(0, some ⟨0, false, .row [.b] x8⟩)]⟩ => plumblineref02_Rounded_c3 k x1 x2 x3 x4 x5 x6 x7 x8 (fun q1 => K .ret [(10, .i .u64 q1)] ⟨1, [(0, some ⟨0, false, .row [.b] x8⟩)]⟩)
  | 0, [(0, .i .i64 x1), (1, .i .i64 x2), (2, .b x3), (11, .i .i64 x4), (12, .i .i64 x5), (16, .i .u64 x6), (22, .i .u64 x7)], ⟨0, []⟩ => plumblineref02_Rounded_n3_c2 k x1 x2 x3 x4 x5 x6 x7 (fun q1 => K .ret [(10, .i .u64 q1)] ⟨0, []⟩)
  | _, _, _ => none
noncomputable def C52_40 {R : Type} (k : Nat) : LSum R := C52_40G plumblineref02_Rounded_c3 plumblineref02_Rounded_n3_c2 k
theorem plumblineref02_Rounded_c3_gen {R : Type} (plumblineref02_Most : plumblineref02_MostY R) (plumblineref02_Size : plumblineref02_SizeY R) (plumblineref02_length : plumblineref02_lengthY R) (plumblineref02_length_n0 : plumblineref02_length_n0Y R) (plumblineref02_sign : plumblineref02_signY R) (plumblineref02_Inf : plumblineref02_InfY R) (plumblineref02_Rounded_l0 : plumblineref02_Rounded_l0Y R) (plumblineref02_Rounded_n3_l0 : plumblineref02_Rounded_n3_l0Y R) (plumblineref02_Rounded_c1 : plumblineref02_Rounded_c1Y R) (plumblineref02_Rounded_l2 : plumblineref02_Rounded_l2Y R) (plumblineref02_Rounded_n3_l1 : plumblineref02_Rounded_n3_l1Y R) (k : Nat) (x1 : Int) (x2 : Int) (x3 : Bool) (x4 : Int) (x5 : Int) (x6 : Int) (x7 : Int) (x8 : List Bool) (K : Kont R) :
    (fun C => codeK C (run C 4)) (mkCx Ty exts [(56, true, S56G plumblineref02_Most k), (71, true, S71G plumblineref02_Size k), (76, true, S76G plumblineref02_length plumblineref02_length_n0 k), (77, true, S77G plumblineref02_sign k), (78, true, S78G plumblineref02_Inf k)] fi52 [(10, L52_10G plumblineref02_Rounded_l0 plumblineref02_Rounded_n3_l0 k k), (18, L52_18G plumblineref02_Rounded_l2 plumblineref02_Rounded_n3_l1 k k)] [(22, C52_22G plumblineref02_Rounded_c1 k)]) 1 fi52 (cutAt ((Try.f52).body.getD .skip) 40) [(0, .i .i64 x1), (1, .i .i64 x2), (2, .b x3), (11, .i .i64 x4), (12, .i .i64 x5), (16, .i .u64 x6), (22, .i .u64 x7)] ⟨1, [(0, some ⟨0, false, .row [.b] x8⟩)]⟩ (exitNorm fi52.ann 500040 1 K) = plumblineref02_Rounded_c3T plumblineref02_Inf plumblineref02_Most plumblineref02_sign k x1 x2 x3 x4 x5 x6 x7 x8 (fun q1 => K .ret [(10, .i .u64 q1)] ⟨1, [(0, some ⟨0, false, .row [.b] x8⟩)]⟩) := by kernel_rfl
theorem plumblineref02_Rounded_n3_c2_gen {R : Type} (plumblineref02_Most : plumblineref02_MostY R) (plumblineref02_Size : plumblineref02_SizeY R) (plumblineref02_length : plumblineref02_lengthY R) (plumblineref02_length_n0 : plumblineref02_length_n0Y R) (plumblineref02_sign : plumblineref02_signY R) (plumblineref02_Inf : plumblineref02_InfY R) (plumblineref02_Rounded_l0 : plumblineref02_Rounded_l0Y R) (plumblineref02_Rounded_n3_l0 : plumblineref02_Rounded_n3_l0Y R) (plumblineref02_Rounded_c1 : plumblineref02_Rounded_c1Y R) (plumblineref02_Rounded_l2 : plumblineref02_Rounded_l2Y R) (plumblineref02_Rounded_n3_l1 : plumblineref02_Rounded_n3_l1Y R) (k : Nat) (x1 : Int) (x2 : Int) (x3 : Bool) (x4 : Int) (x5 : Int) (x6 : Int) (x7 : Int) (K : Kont R) :
    (fun C => codeK C (run C 4)) (mkCx Ty exts [(56, true, S56G plumblineref02_Most k), (71, true, S71G plumblineref02_Size k), (76, true, S76G plumblineref02_length plumblineref02_length_n0 k), (77, true, S77G plumblineref02_sign k), (78, true, S78G plumblineref02_Inf k)] fi52 [(10, L52_10G plumblineref02_Rounded_l0 plumblineref02_Rounded_n3_l0 k k), (18, L52_18G plumblineref02_Rounded_l2 plumblineref02_Rounded_n3_l1 k k)] [(22, C52_22G plumblineref02_Rounded_c1 k)]) 0 fi52 (cutAt ((Try.f52).body.getD .skip) 40) [(0, .i .i64 x1), (1, .i .i64 x2), (2, .b x3), (11, .i .i64 x4), (12, .i .i64 x5), (16, .i .u64 x6), (22, .i .u64 x7)] ⟨0, []⟩ (exitNorm fi52.ann 500040 0 K) = plumblineref02_Rounded_n3_c2T plumblineref02_Inf plumblineref02_Most plumblineref02_sign k x1 x2 x3 x4 x5 x6 x7 (fun q1 => K .ret [(10, .i .u64 q1)] ⟨0, []⟩) := by kernel_rfl
theorem C52_40_cok {R : Type} (k : Nat) : CodeOk Try.prog (cc52_40 k : Cx R) fi52 (cutAt ((Try.f52).body.getD .skip) 40) := cutAt_ok (((cc52_40_ok k).fns 52 fi52 (by kernel_rfl)).2.2.2 ((Try.f52).body.getD .skip) (by kernel_rfl))
theorem C52_40_ok {R : Type} (k : Nat) : CutOk Try.prog (Try.f52).ntmps (cutAt ((Try.f52).body.getD .skip) 40) (C52_40 k : LSum R) := by
  intro pin T H K r h
  unfold C52_40 C52_40G at h
  split at h
  · obtain ⟨ex, T1, H1, h, hb⟩ := codeK_sound (cc52_40_ok k) (run_sound (cc52_40_ok k) 4) _ fi52 _ _ _ _ _ (C52_40_cok k) ((plumblineref02_Rounded_c3_gen plumblineref02_Most plumblineref02_Size plumblineref02_length plumblineref02_length_n0 plumblineref02_sign plumblineref02_Inf plumblineref02_Rounded_l0 plumblineref02_Rounded_n3_l0 plumblineref02_Rounded_c1 plumblineref02_Rounded_l2 plumblineref02_Rounded_n3_l1 k _ _ _ _ _ _ _ _ K).trans h)
    exact cut_step hb h
  · obtain ⟨ex, T1, H1, h, hb⟩ := codeK_sound (cc52_40_ok k) (run_sound (cc52_40_ok k) 4) _ fi52 _ _ _ _ _ (C52_40_cok k) ((plumblineref02_Rounded_n3_c2_gen plumblineref02_Most plumblineref02_Size plumblineref02_length plumblineref02_length_n0 plumblineref02_sign plumblineref02_Inf plumblineref02_Rounded_l0 plumblineref02_Rounded_n3_l0 plumblineref02_Rounded_c1 plumblineref02_Rounded_l2 plumblineref02_Rounded_n3_l1 k _ _ _ _ _ _ _ K).trans h)
    exact cut_step hb h
  · cases h
@[reducible] def plumblineref02_Rounded_c4Y (R : Type) : Type := Nat → Int → Int → Bool → Int → Int → Int → Int → Int → (List Bool) → (Int → Option R) → Option R
noncomputable def plumblineref02_Rounded_c4T {R : Type} (plumblineref02_Rounded_c3 : plumblineref02_Rounded_c3Y R) (k : Nat) (x1 : Int) (x2 : Int) (x3 : Bool) (x4 : Int) (x5 : Int) (x6 : Int) (x7 : Int) (x8 : Int) (x9 : List Bool) (K0 : Int → Option R) : Option R :=
  cond (decide (x4 < 0)) (
    none) (
    cond (decide (x8 < (shl .u64 1 x4))) (
      plumblineref02_Rounded_c3 k x1 x2 x3 x4 x5 x8 0 x9 (fun yyyyr1 =>
        K0 yyyyr1)) (
      plumblineref02_Rounded_c3 k x1 x2 x3 x4 x5 x8 (Wu64 (Wi64 ((Wi64 (x7 - x6)) + 1))) x9 (fun yyyyr2 =>
        K0 yyyyr2)))
noncomputable def plumblineref02_Rounded_c4 {R : Type} (k : Nat) (x1 : Int) (x2 : Int) (x3 : Bool) (x4 : Int) (x5 : Int) (x6 : Int) (x7 : Int) (x8 : Int) (x9 : List Bool) (K0 : Int → Option R) : Option R := plumblineref02_Rounded_c4T plumblineref02_Rounded_c3 k x1 x2 x3 x4 x5 x6 x7 x8 x9 K0
@[reducible] def plumblineref02_Rounded_n3_c3Y (R : Type) : Type := Nat → Int → Int → Bool → Int → Int → Int → Int → Int → (Int → Option R) → Option R
noncomputable def plumblineref02_Rounded_n3_c3T {R : Type} (plumblineref02_Rounded_n3_c2 : plumblineref02_Rounded_n3_c2Y R) (k : Nat) (x1 : Int) (x2 : Int) (x3 : Bool) (x4 : Int) (x5 : Int) (x6 : Int) (x7 : Int) (x8 : Int) (K0 : Int → Option R) : Option R :=
  cond (decide (x4 < 0)) (
    none) (
    cond (decide (x8 < (shl .u64 1 x4))) (
      plumblineref02_Rounded_n3_c2 k x1 x2 x3 x4 x5 x8 0 (fun yyyyr1 =>
        K0 yyyyr1)) (
      plumblineref02_Rounded_n3_c2 k x1 x2 x3 x4 x5 x8 (Wu64 (Wi64 ((Wi64 (x7 - x6)) + 1))) (fun yyyyr2 =>
        K0 yyyyr2)))
noncomputable def plumblineref02_Rounded_n3_c3 {R : Type} (k : Nat) (x1 : Int) (x2 : Int) (x3 : Bool) (x4 : Int) (x5 : Int) (x6 : Int) (x7 : Int) (x8 : Int) (K0 : Int → Option R) : Option R := plumblineref02_Rounded_n3_c3T plumblineref02_Rounded_n3_c2 k x1 x2 x3 x4 x5 x6 x7 x8 K0
noncomputable def cc52_37 {R : Type} (k : Nat) : Cx R := mkCx Ty exts [(56, true, S56 k), (71, true, S71 k), (76, true, S76 k), (77, true, S77 k), (78, true, S78 k)] fi52 [(10, L52_10 k k), (18, L52_18 k k)] [(22, C52_22 k), (40, C52_40 k)]
theorem cc52_37_ok {R : Type} (k : Nat) : CxOk Try.prog (cc52_37 k : Cx R) := mkCx_ok (c := ((Try.f52).body.getD .skip)) ty_ok mixed exts_ok (allSum_cons (S56_ok k) en56 (allSum_cons (S71_ok k) en71 (allSum_cons (S76_ok k) en76 (allSum_cons (S77_ok k) en77 (allSum_cons (S78_ok k) en78 allSum_nil))))) Try.func52 en52 (by kernel_rfl) (by kernel_rfl) (allLoop_loop (by kernel_rfl) (L52_10_ok k k) (allLoop_loop (by kernel_rfl) (L52_18_ok k k) allLoop_nil)) (allCut_cons (C52_22_ok k) (by kernel_rfl) (allCut_cons (C52_40_ok k) (by kernel_rfl) allCut_nil))
noncomputable def C52_37G {R : Type} (plumblineref02_Rounded_c4 : plumblineref02_Rounded_c4Y R) (plumblineref02_Rounded_n3_c3 : plumblineref02_Rounded_n3_c3Y R) (k : Nat) : LSum R := fun pin T H K => match pin, T, H with
  | 1, [(0, .i .i64 x1), (1, .i .i64 x2), (2, .b x3), (11, .i .i64 x4), (12, .i .i64 x5), (13, .i .i64 x6), (15, .i .i64 x7), (16, .i .u64 x8)], ⟨1, [(0, some ⟨0, false, .row [.b] x9⟩)]⟩ => plumblineref02_Rounded_c4 k x1 x2 x3 x4 x5 x6 x7 x8 x9 (fun q1 => K .ret [(10, .i .u64 q1)] ⟨1, [(0, some ⟨0, false, .row [.b] x9⟩)]⟩)
  | 0, [(0, .i .i64 x1), (1, .i .i64 x2), (2, .b x3), (11, .i .i64 x4), (12, .i .i64 x5), (13, .i .i64 x6), (15, .i .i64 x7), (16, .i .u64 x8)], ⟨0, []⟩ => plumblineref02_Rounded_n3_c3 k x1 x2 x3 x4 x5 x6 x7 x8 (fun q1 => K .ret [(10, .i .u64 q1)] ⟨0, []⟩)
  | _, _, _ => none
noncomputable def C52_37 {R : Type} (k : Nat) : LSum R := C52_37G plumblineref02_Rounded_c4 plumblineref02_Rounded_n3_c3 k
theorem plumblineref02_Rounded_c4_gen {R : Type} (plumblineref02_Most : plumblineref02_MostY R) (plumblineref02_Size : plumblineref02_SizeY R) (plumblineref02_length : plumblineref02_lengthY R) (plumblineref02_length_n0 : plumblineref02_length_n0Y R) (plumblineref02_sign : plumblineref02_signY R) (plumblineref02_Inf : plumblineref02_InfY R) (plumblineref02_Rounded_l0 : plumblineref02_Rounded_l0Y R) (plumblineref02_Rounded_n3_l0 : plumblineref02_Rounded_n3_l0Y R) (plumblineref02_Rounded_c1 : plumblineref02_Rounded_c1Y R) (plumblineref02_Rounded_l2 : plumblineref02_Rounded_l2Y R) (plumblineref02_Rounded_n3_l1 : plumblineref02_Rounded_n3_l1Y R) (plumblineref02_Rounded_c3 : plumblineref02_Rounded_c3Y R) (plumblineref02_Rounded_n3_c2 : plumblineref02_Rounded_n3_c2Y R) (k : Nat) (x1 : Int) (x2 : Int) (x3 : Bool) (x4 : Int) (x5 : Int) (x6 : Int) (x7 : Int) (x8 : Int) (x9 : List Bool) (K : Kont R) :
    (fun C => codeK C (run C 4)) (mkCx Ty exts [(56, true, S56G plumblineref02_Most k), (71, true, S71G plumblineref02_Size k), (76, true, S76G plumblineref02_length plumblineref02_length_n0 k), (77, true, S77G plumblineref02_sign k), (78, true, S78G plumblineref02_Inf k)] fi52 [(10, L52_10G plumblineref02_Rounded_l0 plumblineref02_Rounded_n3_l0 k k), (18, L52_18G plumblineref02_Rounded_l2 plumblineref02_Rounded_n3_l1 k k)] [(22, C52_22G plumblineref02_Rounded_c1 k), (40, C52_40G plumblineref02_Rounded_c3 plumblineref02_Rounded_n3_c2 k)]) 1 fi52 (cutAt ((Try.f52).body.getD .skip) 37) [(0, .i .i64 x1), (1, .i .i64 x2), (2, .b x3), (11, .i .i64 x4), (12, .i .i64 x5), (13, .i .i64 x6), (15, .i .i64 x7), (16, .i .u64 x8)] ⟨1, [(0, some ⟨0, false, .row [.b] x9⟩)]⟩ (exitNorm fi52.ann 500037 1 K) = plumblineref02_Rounded_c4T plumblineref02_Rounded_c3 k x1 x2 x3 x4 x5 x6 x7 x8 x9 (fun q1 => K .ret [(10, .i .u64 q1)] ⟨1, [(0, some ⟨0, false, .row [.b] x9⟩)]⟩) := by kernel_rfl
theorem plumblineref02_Rounded_n3_c3_gen {R : Type} (plumblineref02_Most : plumblineref02_MostY R) (plumblineref02_Size : plumblineref02_SizeY R) (plumblineref02_length : plumblineref02_lengthY R) (plumblineref02_length_n0 : plumblineref02_length_n0Y R) (plumblineref02_sign : plumblineref02_signY R) (plumblineref02_Inf : plumblineref02_InfY R) (plumblineref02_Rounded_l0 : plumblineref02_Rounded_l0Y R) (plumblineref02_Rounded_n3_l0 : plumblineref02_Rounded_n3_l0Y R) (plumblineref02_Rounded_c1 : plumblineref02_Rounded_c1Y R) (plumblineref02_Rounded_l2 : plumblineref02_Rounded_l2Y R) (plumblineref02_Rounded_n3_l1 : plumblineref02_Rounded_n3_l1Y R) (plumblineref02_Rounded_c3 : plumblineref02_Rounded_c3Y R) (plumblineref02_Rounded_n3_c2 : plumblineref02_Rounded_n3_c2Y R) (k : Nat) (x1 : Int) (x2 : Int) (x3 : Bool) (x4 : Int) (x5 : Int) (x6 : Int) (x7 : Int) (x8 : Int) (K : Kont R) :
    (fun C => codeK C (run C 4)) (mkCx Ty exts [(56, true, S56G plumblineref02_Most k), (71, true, S71G plumblineref02_Size k), (76, true, S76G plumblineref02_length plumblineref02_length_n0 k), (77, true, S77G plumblineref02_sign k), (78, true, S78G plumblineref02_Inf k)] fi52 [(10, L52_10G plumblineref02_Rounded_l0 plumblineref02_Rounded_n3_l0 k k), (18, L52_18G plumblineref02_Rounded_l2 plumblineref02_Rounded_n3_l1 k k)] [(22, C52_22G plumblineref02_Rounded_c1 k), (40, C52_40G plumblineref02_Rounded_c3 plumblineref02_Rounded_n3_c2 k)]) 0 fi52 (cutAt ((Try.f52).body.getD .skip) 37) [(0, .i .i64 x1), (1, .i .i64 x2), (2, .b x3), (11, .i .i64 x4), (12, .i .i64 x5), (13, .i .i64 x6), (15, .i .i64 x7), (16, .i .u64 x8)] ⟨0, []⟩ (exitNorm fi52.ann 500037 0 K) = plumblineref02_Rounded_n3_c3T plumblineref02_Rounded_n3_c2 k x1 x2 x3 x4 x5 x6 x7 x8 (fun q1 => K .ret [(10, .i .u64 q1)] ⟨0, []⟩) := by kernel_rfl
theorem C52_37_cok {R : Type} (k : Nat) : CodeOk Try.prog (cc52_37 k : Cx R) fi52 (cutAt ((Try.f52).body.getD .skip) 37) := cutAt_ok (((cc52_37_ok k).fns 52 fi52 (by kernel_rfl)).2.2.2 ((Try.f52).body.getD .skip) (by kernel_rfl))
theorem C52_37_ok {R : Type} (k : Nat) : CutOk Try.prog (Try.f52).ntmps (cutAt ((Try.f52).body.getD .skip) 37) (C52_37 k : LSum R) := by
  intro pin T H K r h
  unfold C52_37 C52_37G at h
  split at h
  · obtain ⟨ex, T1, H1, h, hb⟩ := codeK_sound (cc52_37_ok k) (run_sound (cc52_37_ok k) 4) _ fi52 _ _ _ _ _ (C52_37_cok k) ((plumblineref02_Rounded_c4_gen plumblineref02_Most plumblineref02_Size plumblineref02_length plumblineref02_length_n0 plumblineref02_sign plumblineref02_Inf plumblineref02_Rounded_l0 plumblineref02_Rounded_n3_l0 plumblineref02_Rounded_c1 plumblineref02_Rounded_l2 plumblineref02_Rounded_n3_l1 plumblineref02_Rounded_c3 plumblineref02_Rounded_n3_c2 k _ _ _ _ _ _ _ _ _ K).trans h)
    exact cut_step hb h
  · obtain ⟨ex, T1, H1, h, hb⟩ := codeK_sound (cc52_37_ok k) (run_sound (cc52_37_ok k) 4) _ fi52 _ _ _ _ _ (C52_37_cok k) ((plumblineref02_Rounded_n3_c3_gen plumblineref02_Most plumblineref02_Size plumblineref02_length plumblineref02_length_n0 plumblineref02_sign plumblineref02_Inf plumblineref02_Rounded_l0 plumblineref02_Rounded_n3_l0 plumblineref02_Rounded_c1 plumblineref02_Rounded_l2 plumblineref02_Rounded_n3_l1 plumblineref02_Rounded_c3 plumblineref02_Rounded_n3_c2 k _ _ _ _ _ _ _ _ K).trans h)
    exact cut_step hb h
  · cases h
@[reducible] def plumblineref02_Rounded_c5Y (R : Type) : Type := Nat → Int → Int → Bool → Int → Int → Int → Int → Int → (List Bool) → (Int → Option R) → Option R
noncomputable def plumblineref02_Rounded_c5T {R : Type} (plumblineref02_Rounded_c4 : plumblineref02_Rounded_c4Y R) (k : Nat) (x1 : Int) (x2 : Int) (x3 : Bool) (x4 : Int) (x5 : Int) (x6 : Int) (x7 : Int) (x8 : Int) (x9 : List Bool) (K0 : Int → Option R) : Option R :=
  cond (decide ((Wi64 (x4 + 1)) < 0)) (
    none) (
    cond (x8 == (shl .u64 1 (Wi64 (x4 + 1)))) (
      plumblineref02_Rounded_c4 k x1 x2 x3 x4 x5 x6 (Wi64 (x7 + 1)) (Wu64 (Int.tdiv x8 2)) x9 (fun yyyr1 =>
        K0 yyyr1)) (
      plumblineref02_Rounded_c4 k x1 x2 x3 x4 x5 x6 x7 x8 x9 (fun yyyr2 =>
        K0 yyyr2)))
noncomputable def plumblineref02_Rounded_c5 {R : Type} (k : Nat) (x1 : Int) (x2 : Int) (x3 : Bool) (x4 : Int) (x5 : Int) (x6 : Int) (x7 : Int) (x8 : Int) (x9 : List Bool) (K0 : Int → Option R) : Option R := plumblineref02_Rounded_c5T plumblineref02_Rounded_c4 k x1 x2 x3 x4 x5 x6 x7 x8 x9 K0
@[reducible] def plumblineref02_Rounded_n3_c4Y (R : Type) : Type := Nat → Int → Int → Bool → Int → Int → Int → Int → Int → (Int → Option R) → Option R
noncomputable def plumblineref02_Rounded_n3_c4T {R : Type} (plumblineref02_Rounded_n3_c3 : plumblineref02_Rounded_n3_c3Y R) (k : Nat) (x1 : Int) (x2 : Int) (x3 : Bool) (x4 : Int) (x5 : Int) (x6 : Int) (x7 : Int) (x8 : Int) (K0 : Int → Option R) : Option R :=
  cond (decide ((Wi64 (x4 + 1)) < 0)) (
    none) (
    cond (x8 == (shl .u64 1 (Wi64 (x4 + 1)))) (
      plumblineref02_Rounded_n3_c3 k x1 x2 x3 x4 x5 x6 (Wi64 (x7 + 1)) (Wu64 (Int.tdiv x8 2)) (fun yyyr1 =>
        K0 yyyr1)) (
      plumblineref02_Rounded_n3_c3 k x1 x2 x3 x4 x5 x6 x7 x8 (fun yyyr2 =>
        K0 yyyr2)))
noncomputable def plumblineref02_Rounded_n3_c4 {R : Type} (k : Nat) (x1 : Int) (x2 : Int) (x3 : Bool) (x4 : Int) (x5 : Int) (x6 : Int) (x7 : Int) (x8 : Int) (K0 : Int → Option R) : Option R := plumblineref02_Rounded_n3_c4T plumblineref02_Rounded_n3_c3 k x1 x2 x3 x4 x5 x6 x7 x8 K0
noncomputable def cc52_34 {R : Type} (k : Nat) : Cx R := mkCx Ty exts [(56, true, S56 k), (71, true, S71 k), (76, true, S76 k), (77, true, S77 k), (78, true, S78 k)] fi52 [(10, L52_10 k k), (18, L52_18 k k)] [(22, C52_22 k), (40, C52_40 k), (37, C52_37 k)]
theorem cc52_34_ok {R : Type} (k : Nat) : CxOk Try.prog (cc52_34 k : Cx R) := mkCx_ok (c := ((Try.f52).body.getD .skip)) ty_ok mixed exts_ok (allSum_cons (S56_ok k) en56 (allSum_cons (S71_ok k) en71 (allSum_cons (S76_ok k) en76 (allSum_cons (S77_ok k) en77 (allSum_cons (S78_ok k) en78 allSum_nil))))) Try.func52 en52 (by kernel_rfl) (by kernel_rfl) (allLoop_loop (by kernel_rfl) (L52_10_ok k k) (allLoop_loop (by kernel_rfl) (L52_18_ok k k) allLoop_nil)) (allCut_cons (C52_22_ok k) (by kernel_rfl) (allCut_cons (C52_40_ok k) (by kernel_rfl) (allCut_cons (C52_37_ok k) (by kernel_rfl) allCut_nil)))
noncomputable def C52_34G {R : Type} (plumblineref02_Rounded_c5 : plumblineref02_Rounded_c5Y R) (plumblineref02_Rounded_n3_c4 : plumblineref02_Rounded_n3_c4Y R) (k : Nat) : LSum R := fun pin T H K => match pin, T, H with
  | 1, [(0, .i .i64 x1), (1, .i .i64 x2), (2, .b x3), (11, .i .i64 x4), (12, .i .i64 x5), (13, .i .i64 x6), (15, .i .i64 x7), (16, .i .u64 x8)], ⟨1, [(0, some ⟨0, false, .row [.b] x9⟩)]⟩ => plumblineref02_Rounded_c5 k x1 x2 x3 x4 x5 x6 x7 x8 x9 (fun q1 => K .ret [(10, .i .u64 q1)] ⟨1, [(0, some ⟨0, false, .row [.b] x9⟩)]⟩)
  | 0, [(0, .i .i64 x1), (1, .i .i64 x2), (2, .b x3), (11, .i .i64 x4), (12, .i .i64 x5), (13, .i .i64 x6), (15, .i .i64 x7), (16, .i .u64 x8)], ⟨0, []⟩ => plumblineref02_Rounded_n3_c4 k x1 x2 x3 x4 x5 x6 x7 x8 (fun q1 => K .ret [(10, .i .u64 q1)] ⟨0, []⟩)
  | _, _, _ => none
noncomputable def C52_34 {R : Type} (k : Nat) : LSum R := C52_34G plumblineref02_Rounded_c5 plumblineref02_Rounded_n3_c4 k
theorem plumblineref02_Rounded_c5_gen {R : Type} (plumblineref02_Most : plumblineref02_MostY R) (plumblineref02_Size : plumblineref02_SizeY R) (plumblineref02_length : plumblineref02_lengthY R) (plumblineref02_length_n0 : plumblineref02_length_n0Y R) (plumblineref02_sign : plumblineref02_signY R) (plumblineref02_Inf : plumblineref02_InfY R) (plumblineref02_Rounded_l0 : plumblineref02_Rounded_l0Y R) (plumblineref02_Rounded_n3_l0 : plumblineref02_Rounded_n3_l0Y R) (plumblineref02_Rounded_c1 : plumblineref02_Rounded_c1Y R) (plumblineref02_Rounded_l2 : plumblineref02_Rounded_l2Y R) (plumblineref02_Rounded_n3_l1 : plumblineref02_Rounded_n3_l1Y R) (plumblineref02_Rounded_c3 : plumblineref02_Rounded_c3Y R) (plumblineref02_Rounded_n3_c2 : plumblineref02_Rounded_n3_c2Y R) (plumblineref02_Rounded_c4 : plumblineref02_Rounded_c4Y R) (plumblineref02_Rounded_n3_c3 : plumblineref02_Rounded_n3_c3Y R) (k : Nat) (x1 : Int) (x2 : Int) (x3 : Bool) (x4 : Int) (x5 : Int) (x6 : Int) (x7 : Int) (x8 : Int) (x9 : List Bool) (K : Kont R) :
    (fun C => codeK C (run C 4)) (mkCx Ty exts [(56, true, S56G plumblineref02_Most k), (71, true, S71G plumblineref02_Size k), (76, true, S76G plumblineref02_length plumblineref02_length_n0 k), (77, true, S77G plumblineref02_sign k), (78, true, S78G plumblineref02_Inf k)] fi52 [(10, L52_10G plumblineref02_Rounded_l0 plumblineref02_Rounded_n3_l0 k k), (18, L52_18G plumblineref02_Rounded_l2 plumblineref02_Rounded_n3_l1 k k)] [(22, C52_22G plumblineref02_Rounded_c1 k), (40, C52_40G plumblineref02_Rounded_c3 plumblineref02_Rounded_n3_c2 k), (37, C52_37G plumblineref02_Rounded_c4 plumblineref02_Rounded_n3_c3 k)]) 1 fi52 (cutAt ((Try.f52).body.getD .skip) 34) [(0, .i .i64 x1), (1, .i .i64 x2), (2, .b x3), (11, .i .i64 x4), (12, .i .i64 x5), (13, .i .i64 x6), (15, .i .i64 x7), (16, .i .u64 x8)] ⟨1, [(0, some ⟨0, false, .row [.b] x9⟩)]⟩ (exitNorm fi52.ann 500034 1 K) = plumblineref02_Rounded_c5T plumblineref02_Rounded_c4 k x1 x2 x3 x4 x5 x6 x7 x8 x9 (fun q1 => K .ret [(10, .i .u64 q1)] ⟨1, [(0, some ⟨0, false, .row [.b] x9⟩)]⟩) := by kernel_rfl
theorem plumblineref02_Rounded_n3_c4_gen {R : Type} (plumblineref02_Most : plumblineref02_MostY R) (plumblineref02_Size : plumblineref02_SizeY R) (plumblineref02_length : plumblineref02_lengthY R) (plumblineref02_length_n0 : plumblineref02_length_n0Y R) (plumblineref02_sign : plumblineref02_signY R) (plumblineref02_Inf : plumblineref02_InfY R) (plumblineref02_Rounded_l0 : plumblineref02_Rounded_l0Y R) (plumblineref02_Rounded_n3_l0 : plumblineref02_Rounded_n3_l0Y R) (plumblineref02_Rounded_c1 : plumblineref02_Rounded_c1Y R) (plumblineref02_Rounded_l2 : plumblineref02_Rounded_l2Y R) (plumblineref02_Rounded_n3_l1 : plumblineref02_Rounded_n3_l1Y R) (plumblineref02_Rounded_c3 : plumblineref02_Rounded_c3Y R) (plumblineref02_Rounded_n3_c2 : plumblineref02_Rounded_n3_c2Y R) (plumblineref02_Rounded_c4 : plumblineref02_Rounded_c4Y R) (plumblineref02_Rounded_n3_c3 : plumblineref02_Rounded_n3_c3Y R) (k : Nat) (x1 : Int) (x2 : Int) (x3 : Bool) (x4 : Int) (x5 : Int) (x6 : Int) (x7 : Int) (x8 : Int) (K : Kont R) :
    (fun C => codeK C (run C 4)) (mkCx Ty exts [(56, true, S56G plumblineref02_Most k), (71, true, S71G plumblineref02_Size k), (76, true, S76G plumblineref02_length plumblineref02_length_n0 k), (77, true, S77G plumblineref02_sign k), (78, true, S78G plumblineref02_Inf k)] fi52 [(10, L52_10G plumblineref02_Rounded_l0 plumblineref02_Rounded_n3_l0 k k), (18, L52_18G plumblineref02_Rounded_l2 plumblineref02_Rounded_n3_l1 k k)] [(22, C52_22G plumblineref02_Rounded_c1 k), (40, C52_40G plumblineref02_Rounded_c3 plumblineref02_Rounded_n3_c2 k), (37, C52_37G plumblineref02_Rounded_c4 plumblineref02_Rounded_n3_c3 k)]) 0 fi52 (cutAt ((Try.f52).body.getD .skip) 34) [(0, .i .i64 x1), (1, .i .i64 x2), (2, .b x3), (11, .i .i64 x4), (12, .i .i64 x5), (13, .i .i64 x6), (15, .i .i64 x7), (16, .i .u64 x8)] ⟨0, []⟩ (exitNorm fi52.ann 500034 0 K) = plumblineref02_Rounded_n3_c4T plumblineref02_Rounded_n3_c3 k x1 x2 x3 x4 x5 x6 x7 x8 (fun q1 => K .ret [(10, .i .u64 q1)] ⟨0, []⟩) := by kernel_rfl
theorem C52_34_cok {R : Type} (k : Nat) : CodeOk Try.prog (cc52_34 k : Cx R) fi52 (cutAt ((Try.f52).body.getD .skip) 34) := cutAt_ok (((cc52_34_ok k).fns 52 fi52 (by kernel_rfl)).2.2.2 ((Try.f52).body.getD .skip) (by kernel_rfl))
theorem C52_34_ok {R : Type} (k : Nat) : CutOk Try.prog (Try.f52).ntmps (cutAt ((Try.f52).body.getD .skip) 34) (C52_34 k : LSum R) := by
  intro pin T H K r h
  unfold C52_34 C52_34G at h
  split at h
  · obtain ⟨ex, T1, H1, h, hb⟩ := codeK_sound (cc52_34_ok k) (run_sound (cc52_34_ok k) 4) _ fi52 _ _ _ _ _ (C52_34_cok k) ((plumblineref02_Rounded_c5_gen plumblineref02_Most plumblineref02_Size plumblineref02_length plumblineref02_length_n0 plumblineref02_sign plumblineref02_Inf plumblineref02_Rounded_l0 plumblineref02_Rounded_n3_l0 plumblineref02_Rounded_c1 plumblineref02_Rounded_l2 plumblineref02_Rounded_n3_l1 plumblineref02_Rounded_c3 plumblineref02_Rounded_n3_c2 plumblineref02_Rounded_c4 plumblineref02_Rounded_n3_c3 k _ _ _ _ _ _ _ _ _ K).trans h)
    exact cut_step hb h
  · obtain ⟨ex, T1, H1, h, hb⟩ := codeK_sound (cc52_34_ok k) (run_sound (cc52_34_ok k) 4) _ fi52 _ _ _ _ _ (C52_34_cok k) ((plumblineref02_Rounded_n3_c4_gen plumblineref02_Most plumblineref02_Size plumblineref02_length plumblineref02_length_n0 plumblineref02_sign plumblineref02_Inf plumblineref02_Rounded_l0 plumblineref02_Rounded_n3_l0 plumblineref02_Rounded_c1 plumblineref02_Rounded_l2 plumblineref02_Rounded_n3_l1 plumblineref02_Rounded_c3 plumblineref02_Rounded_n3_c2 plumblineref02_Rounded_c4 plumblineref02_Rounded_n3_c3 k _ _ _ _ _ _ _ _ K).trans h)
    exact cut_step hb h
  · cases h
@[reducible] def plumblineref02_Rounded_c6Y (R : Type) : Type := Nat → Int → Int → Bool → Int → Int → Int → Int → Int → Bool → (List Bool) → (Int → Option R) → Option R
noncomputable def plumblineref02_Rounded_c6T {R : Type} (plumblineref02_Rounded_c5 : plumblineref02_Rounded_c5Y R) (k : Nat) (x1 : Int) (x2 : Int) (x3 : Bool) (x4 : Int) (x5 : Int) (x6 : Int) (x7 : Int) (x8 : Int) (x9 : Bool) (x10 : List Bool) (K0 : Int → Option R) : Option R :=
  cond x9 (
    plumblineref02_Rounded_c5 k x1 x2 x3 x4 x5 x6 x7 (Wu64 (x8 + 1)) x10 (fun yyr1 =>
      K0 yyr1)) (
    plumblineref02_Rounded_c5 k x1 x2 x3 x4 x5 x6 x7 x8 x10 (fun yyr2 =>
      K0 yyr2))
noncomputable def plumblineref02_Rounded_c6 {R : Type} (k : Nat) (x1 : Int) (x2 : Int) (x3 : Bool) (x4 : Int) (x5 : Int) (x6 : Int) (x7 : Int) (x8 : Int) (x9 : Bool) (x10 : List Bool) (K0 : Int → Option R) : Option R := plumblineref02_Rounded_c6T plumblineref02_Rounded_c5 k x1 x2 x3 x4 x5 x6 x7 x8 x9 x10 K0
@[reducible] def plumblineref02_Rounded_n3_c5Y (R : Type) : Type := Nat → Int → Int → Bool → Int → Int → Int → Int → Int → Bool → (Int → Option R) → Option R
noncomputable def plumblineref02_Rounded_n3_c5T {R : Type} (plumblineref02_Rounded_n3_c4 : plumblineref02_Rounded_n3_c4Y R) (k : Nat) (x1 : Int) (x2 : Int) (x3 : Bool) (x4 : Int) (x5 : Int) (x6 : Int) (x7 : Int) (x8 : Int) (x9 : Bool) (K0 : Int → Option R) : Option R :=
  cond x9 (
    plumblineref02_Rounded_n3_c4 k x1 x2 x3 x4 x5 x6 x7 (Wu64 (x8 + 1)) (fun yyr1 =>
      K0 yyr1)) (
    plumblineref02_Rounded_n3_c4 k x1 x2 x3 x4 x5 x6 x7 x8 (fun yyr2 =>
      K0 yyr2))
noncomputable def plumblineref02_Rounded_n3_c5 {R : Type} (k : Nat) (x1 : Int) (x2 : Int) (x3 : Bool) (x4 : Int) (x5 : Int) (x6 : Int) (x7 : Int) (x8 : Int) (x9 : Bool) (K0 : Int → Option R) : Option R := plumblineref02_Rounded_n3_c5T plumblineref02_Rounded_n3_c4 k x1 x2 x3 x4 x5 x6 x7 x8 x9 K0
noncomputable def cc52_32 {R : Type} (k : Nat) : Cx R := mkCx Ty exts [(56, true, S56 k), (71, true, S71 k), (76, true, S76 k), (77, true, S77 k), (78, true, S78 k)] fi52 [(10, L52_10 k k), (18, L52_18 k k)] [(22, C52_22 k), (40, C52_40 k), (37, C52_37 k), (34, C52_34 k)]
theorem cc52_32_ok {R : Type} (k : Nat) : CxOk Try.prog (cc52_32 k : Cx R) := mkCx_ok (c := ((Try.f52).body.getD .skip)) ty_ok mixed exts_ok (allSum_cons (S56_ok k) en56 (allSum_cons (S71_ok k) en71 (allSum_cons (S76_ok k) en76 (allSum_cons (S77_ok k) en77 (allSum_cons (S78_ok k) en78 allSum_nil))))) Try.func52 en52 (by kernel_rfl) (by kernel_rfl) (allLoop_loop (by kernel_rfl) (L52_10_ok k k) (allLoop_loop (by kernel_rfl) (L52_18_ok k k) allLoop_nil)) (allCut_cons (C52_22_ok k) (by kernel_rfl) (allCut_cons (C52_40_ok k) (by kernel_rfl) (allCut_cons (C52_37_ok k) (by kernel_rfl) (allCut_cons (C52_34_ok k) (by kernel_rfl) allCut_nil))))
noncomputable def C52_32G {R : Type} (plumblineref02_Rounded_c6 : plumblineref02_Rounded_c6Y R) (plumblineref02_Rounded_n3_c5 : plumblineref02_Rounded_n3_c5Y R) (k : Nat) : LSum R := fun pin T H K => match pin, T, H with
  | 1, [(0, .i .i64 x1), (1, .i .i64 x2), (2, .b x3), (11, .i .i64 x4), (12, .i .i64 x5), (13, .i .i64 x6), (15, .i .i64 x7), (16, .i .u64 x8), (21, .b x9)], ⟨1, [(0, some ⟨0, false, .row [.b] x10⟩)]⟩ => plumblineref02_Rounded_c6 k x1 x2 x3 x4 x5 x6 x7 x8 x9 x10 (fun q1 => K .ret [(10, .i .u64 q1)] ⟨1, [(0, some ⟨0, false, .row [.b] x10⟩)]⟩)
  | 0, [(0, .i .i64 x1), (1, .i .i64 x2), (2, .b x3), (11, .i .i64 x4), (12, .i .i64 x5), (13, .i .i64 x6), (15, .i .i64 x7), (16, .i .u64 x8), (21, .b x9)], ⟨0, []⟩ => plumblineref02_Rounded_n3_c5 k x1 x2 x3 x4 x5 x6 x7 x8 x9 (fun q1 => K .ret [(10, .i .u64 q1)] ⟨0, []⟩)
  | _, _, _ => none
noncomputable def C52_32 {R : Type} (k : Nat) : LSum R := C52_32G plumblineref02_Rounded_c6 plumblineref02_Rounded_n3_c5 k
theorem plumblineref02_Rounded_c6_gen {R : Type} (plumblineref02_Most : plumblineref02_MostY R) (plumblineref02_Size : plumblineref02_SizeY R) (plumblineref02_length : plumblineref02_lengthY R) (plumblineref02_length_n0 : plumblineref02_length_n0Y R) (plumblineref02_sign : plumblineref02_signY R) (plumblineref02_Inf : plumblineref02_InfY R) (plumblineref02_Rounded_l0 : plumblineref02_Rounded_l0Y R) (plumblineref02_Rounded_n3_l0 : plumblineref02_Rounded_n3_l0Y R) (plumblineref02_Rounded_c1 : plumblineref02_Rounded_c1Y R) (plumblineref02_Rounded_l2 : plumblineref02_Rounded_l2Y R) (plumblineref02_Rounded_n3_l1 : plumblineref02_Rounded_n3_l1Y R) (plumblineref02_Rounded_c3 : plumblineref02_Rounded_c3Y R) (plumblineref02_Rounded_n3_c2 : plumblineref02_Rounded_n3_c2Y R) (plumblineref02_Rounded_c4 : plumblineref02_Rounded_c4Y R) (plumblineref02_Rounded_n3_c3 : plumblineref02_Rounded_n3_c3Y R) (plumblineref02_Rounded_c5 : plumblineref02_Rounded_c5Y R) (plumblineref02_Rounded_n3_c4 : plumblineref02_Rounded_n3_c4Y R) (k : Nat) (x1 : Int) (x2 : Int) (x3 : Bool) (x4 : Int) (x5 : Int) (x6 : Int) (x7 : Int) (x8 : Int) (x9 : Bool) (x10 : List Bool) (K : Kont R) :
    (fun C => codeK C (run C 4)) (mkCx Ty exts [(56, true, S56G plumblineref02_Most k), (71, true, S71G plumblineref02_Size k), (76, true, S76G plumblineref02_length plumblineref02_length_n0 k), (77, true, S77G plumblineref02_sign k), (78, true, S78G plumblineref02_Inf k)] fi52 [(10, L52_10G plumblineref02_Rounded_l0 plumblineref02_Rounded_n3_l0 k k), (18, L52_18G plumblineref02_Rounded_l2 plumblineref02_Rounded_n3_l1 k k)] [(22, C52_22G plumblineref02_Rounded_c1 k), (40, C52_40G plumblineref02_Rounded_c3 plumblineref02_Rounded_n3_c2 k), (37, C52_37G plumblineref02_Rounded_c4 plumblineref02_Rounded_n3_c3 k), (34, C52_34G plumblineref02_Rounded_c5 plumblineref02_Rounded_n3_c4 k)]) 1 fi52 (cutAt ((Try.f52).body.getD .skip) 32) [(0, .i .i64 x1), (1, .i .i64 x2), (2, .b x3), (11, .i .i64 x4), (12, .i .i64 x5), (13, .i .i64 x6), (15, .i .i64 x7), (16, .i .u64 x8), (21, .b x9)] ⟨1, [(0, some ⟨0, false, .row [.b] x10⟩)]⟩ (exitNorm fi52.ann 500032 1 K) = plumblineref02_Rounded_c6T plumblineref02_Rounded_c5 k x1 x2 x3 x4 x5 x6 x7 x8 x9 x10 (fun q1 => K .ret [(10, .i .u64 q1)] ⟨1, [(0, some ⟨0, false, .row [.b] x10⟩)]⟩) := by kernel_rfl
theorem plumblineref02_Rounded_n3_c5_gen {R : Type} (plumblineref02_Most : plumblineref02_MostY R) (plumblineref02_Size : plumblineref02_SizeY R) (plumblineref02_length : plumblineref02_lengthY R) (plumblineref02_length_n0 : plumblineref02_length_n0Y R) (plumblineref02_sign : plumblineref02_signY R) (plumblineref02_Inf : plumblineref02_InfY R) (plumblineref02_Rounded_l0 : plumblineref02_Rounded_l0Y R) (plumblineref02_Rounded_n3_l0 : plumblineref02_Rounded_n3_l0Y R) (plumblineref02_Rounded_c1 : plumblineref02_Rounded_c1Y R) (plumblineref02_Rounded_l2 : plumblineref02_Rounded_l2Y R) (plumblineref02_Rounded_n3_l1 : plumblineref02_Rounded_n3_l1Y R) (plumblineref02_Rounded_c3 : plumblineref02_Rounded_c3Y R) (plumblineref02_Rounded_n3_c2 : plumblineref02_Rounded_n3_c2Y R) (plumblineref02_Rounded_c4 : plumblineref02_Rounded_c4Y R) (plumblineref02_Rounded_n3_c3 : plumblineref02_Rounded_n3_c3Y R) (plumblineref02_Rounded_c5 : plumblineref02_Rounded_c5Y R) (plumblineref02_Rounded_n3_c4 : plumblineref02_Rounded_n3_c4Y R) (k : Nat) (x1 : Int) (x2 : Int) (x3 : Bool) (x4 : Int) (x5 : Int) (x6 : Int) (x7 : Int) (x8 : Int) (x9 : Bool) (K : Kont R) :
    (fun C => codeK C (run C 4)) (mkCx Ty exts [(56, true, S56G plumblineref02_Most k), (71, true, S71G plumblineref02_Size k), (76, true, S76G plumblineref02_length plumblineref02_length_n0 k), (77, true, S77G plumblineref02_sign k), (78, true, S78G plumblineref02_Inf k)] fi52 [(10, L52_10G plumblineref02_Rounded_l0 plumblineref02_Rounded_n3_l0 k k), (18, L52_18G plumblineref02_Rounded_l2 plumblineref02_Rounded_n3_l1 k k)] [(22, C52_22G plumblineref02_Rounded_c1 k), (40, C52_40G plumblineref02_Rounded_c3 plumblineref02_Rounded_n3_c2 k), (37, C52_37G plumblineref02_Rounded_c4 plumblineref02_Rounded_n3_c3 k), (34, C52_34G plumblineref02_Rounded_c5 plumblineref02_Rounded_n3_c4 k)]) 0 fi52 (cutAt ((Try.f52).body.getD .skip) 32) [(0, .i .i64 x1), (1, .i .i64 x2), (2, .b x3), (11, .i .i64 x4), (12, .i .i64 x5), (13, .i .i64 x6), (15, .i .i64 x7), (16, .i .u64 x8), (21, .b x9)] ⟨0, []⟩ (exitNorm fi52.ann 500032 0 K) = plumblineref02_Rounded_n3_c5T plumblineref02_Rounded_n3_c4 k x1 x2 x3 x4 x5 x6 x7 x8 x9 (fun q1 => K .ret [(10, .i .u64 q1)] ⟨0, []⟩) := by kernel_rfl
theorem C52_32_cok {R : Type} (k : Nat) : CodeOk Try.prog (cc52_32 k : Cx R) fi52 (cutAt ((Try.f52).body.getD .skip) 32) := cutAt_ok (((cc52_32_ok k).fns 52 fi52 (by kernel_rfl)).2.2.2 ((Try.f52).body.getD .skip) (by kernel_rfl))
theorem C52_32_ok {R : Type} (k : Nat) : CutOk Try.prog (Try.f52).ntmps (cutAt ((Try.f52).body.getD .skip) 32) (C52_32 k : LSum R) := by
  intro pin T H K r h
  unfold C52_32 C52_32G at h
  split at h
  · obtain ⟨ex, T1, H1, h, hb⟩ := codeK_sound (cc52_32_ok k) (run_sound (cc52_32_ok k) 4) _ fi52 _ _ _ _ _ (C52_32_cok k) ((plumblineref02_Rounded_c6_gen plumblineref02_Most plumblineref02_Size plumblineref02_length plumblineref02_length_n0 plumblineref02_sign plumblineref02_Inf plumblineref02_Rounded_l0 plumblineref02_Rounded_n3_l0 plumblineref02_Rounded_c1 plumblineref02_Rounded_l2 plumblineref02_Rounded_n3_l1 plumblineref02_Rounded_c3 plumblineref02_Rounded_n3_c2 plumblineref02_Rounded_c4 plumblineref02_Rounded_n3_c3 plumblineref02_Rounded_c5 plumblineref02_Rounded_n3_c4 k _ _ _ _ _ _ _ _ _ _ K).trans h)
    exact cut_step hb h
  · obtain ⟨ex, T1, H1, h, hb⟩ := codeK_sound (cc52_32_ok k) (run_sound (cc52_32_ok k) 4) _ fi52 _ _ _ _ _ (C52_32_cok k) ((plumblineref02_Rounded_n3_c5_gen plumblineref02_Most plumblineref02_Size plumblineref02_length plumblineref02_length_n0 plumblineref02_sign plumblineref02_Inf plumblineref02_Rounded_l0 plumblineref02_Rounded_n3_l0 plumblineref02_Rounded_c1 plumblineref02_Rounded_l2 plumblineref02_Rounded_n3_l1 plumblineref02_Rounded_c3 plumblineref02_Rounded_n3_c2 plumblineref02_Rounded_c4 plumblineref02_Rounded_n3_c3 plumblineref02_Rounded_c5 plumblineref02_Rounded_n3_c4 k _ _ _ _ _ _ _ _ _ K).trans h)
    exact cut_step hb h
  · cases h
@[reducible] def plumblineref02_Rounded_c7Y (R : Type) : Type := Nat → Int → Int → Bool → Int → Int → Int → Int → Int → Int → (List Bool) → (Int → Option R) → Option R
noncomputable def plumblineref02_Rounded_c7T {R : Type} (plumblineref02_Rounded_c6 : plumblineref02_Rounded_c6Y R) (plumblineref02_Rounded_l0 : plumblineref02_Rounded_l0Y R) (plumblineref02_Rounded_l2 : plumblineref02_Rounded_l2Y R) (k : Nat) (x1 : Int) (x2 : Int) (x3 : Bool) (x4 : Int) (x5 : Int) (x6 : Int) (x7 : Int) (x8 : Int) (x9 : Int) (x10 : List Bool) (K0 : Int → Option R) : Option R :=
  plumblineref02_Rounded_l0 k k x1 x2 x3 x4 x5 x6 x7 x8 x9 0 (Wi64 (x8 - 1)) x10 (fun yr1 =>
    plumblineref02_Rounded_l2 k k x1 x2 x3 x4 x5 x6 x7 x8 x9 yr1 false false 0 x10 (fun yr2 yr3 =>
      cond (x2 == 1) (
        cond (!x3) (
          cond yr2 (
            plumblineref02_Rounded_c6 k x1 x2 x3 x5 x6 x7 x9 yr1 true x10 (fun yr4 =>
              K0 yr4)) (
            plumblineref02_Rounded_c6 k x1 x2 x3 x5 x6 x7 x9 yr1 yr3 x10 (fun yr5 =>
              K0 yr5))) (
          plumblineref02_Rounded_c6 k x1 x2 x3 x5 x6 x7 x9 yr1 false x10 (fun yr6 =>
            K0 yr6))) (
        cond (x2 == 2) (
          cond x3 (
            cond yr2 (
              plumblineref02_Rounded_c6 k x1 x2 x3 x5 x6 x7 x9 yr1 true x10 (fun yr7 =>
                K0 yr7)) (
              plumblineref02_Rounded_c6 k x1 x2 x3 x5 x6 x7 x9 yr1 yr3 x10 (fun yr8 =>
                K0 yr8))) (
            plumblineref02_Rounded_c6 k x1 x2 x3 x5 x6 x7 x9 yr1 false x10 (fun yr9 =>
              K0 yr9))) (
          cond (x2 == 3) (
            plumblineref02_Rounded_c6 k x1 x2 x3 x5 x6 x7 x9 yr1 false x10 (fun yr10 =>
              K0 yr10)) (
            cond yr2 (
              cond yr3 (
                plumblineref02_Rounded_c6 k x1 x2 x3 x5 x6 x7 x9 yr1 true x10 (fun yr11 =>
                  K0 yr11)) (
                plumblineref02_Rounded_c6 k x1 x2 x3 x5 x6 x7 x9 yr1 ((Int.tmod yr1 2) == 1) x10 (fun yr12 =>
                  K0 yr12))) (
              plumblineref02_Rounded_c6 k x1 x2 x3 x5 x6 x7 x9 yr1 false x10 (fun yr13 =>
                K0 yr13)))))))
noncomputable def plumblineref02_Rounded_c7 {R : Type} (k : Nat) (x1 : Int) (x2 : Int) (x3 : Bool) (x4 : Int) (x5 : Int) (x6 : Int) (x7 : Int) (x8 : Int) (x9 : Int) (x10 : List Bool) (K0 : Int → Option R) : Option R := plumblineref02_Rounded_c7T plumblineref02_Rounded_c6 plumblineref02_Rounded_l0 plumblineref02_Rounded_l2 k x1 x2 x3 x4 x5 x6 x7 x8 x9 x10 K0
@[reducible] def plumblineref02_Rounded_n3_c6Y (R : Type) : Type := Nat → Int → Int → Bool → Int → Int → Int → Int → Int → Int → (Int → Option R) → Option R
noncomputable def plumblineref02_Rounded_n3_c6T {R : Type} (plumblineref02_Rounded_n3_c5 : plumblineref02_Rounded_n3_c5Y R) (plumblineref02_Rounded_n3_l0 : plumblineref02_Rounded_n3_l0Y R) (plumblineref02_Rounded_n3_l1 : plumblineref02_Rounded_n3_l1Y R) (k : Nat) (x1 : Int) (x2 : Int) (x3 : Bool) (x4 : Int) (x5 : Int) (x6 : Int) (x7 : Int) (x8 : Int) (x9 : Int) (K0 : Int → Option R) : Option R :=
  plumblineref02_Rounded_n3_l0 k k x1 x2 x3 x4 x5 x6 x7 x8 x9 0 (Wi64 (x8 - 1)) (
    plumblineref02_Rounded_n3_l1 k k x1 x2 x3 x4 x5 x6 x7 x8 x9 0 false false 0 (
      cond (x2 == 1) (
        cond (!x3) (
          plumblineref02_Rounded_n3_c5 k x1 x2 x3 x5 x6 x7 x9 0 false (fun yr1 =>
            K0 yr1)) (
          plumblineref02_Rounded_n3_c5 k x1 x2 x3 x5 x6 x7 x9 0 false (fun yr2 =>
            K0 yr2))) (
        cond (x2 == 2) (
          cond x3 (
            plumblineref02_Rounded_n3_c5 k x1 x2 x3 x5 x6 x7 x9 0 false (fun yr3 =>
              K0 yr3)) (
            plumblineref02_Rounded_n3_c5 k x1 x2 x3 x5 x6 x7 x9 0 false (fun yr4 =>
              K0 yr4))) (
          cond (x2 == 3) (
            plumblineref02_Rounded_n3_c5 k x1 x2 x3 x5 x6 x7 x9 0 false (fun yr5 =>
              K0 yr5)) (
            plumblineref02_Rounded_n3_c5 k x1 x2 x3 x5 x6 x7 x9 0 false (fun yr6 =>
              K0 yr6))))))
noncomputable def plumblineref02_Rounded_n3_c6 {R : Type} (k : Nat) (x1 : Int) (x2 : Int) (x3 : Bool) (x4 : Int) (x5 : Int) (x6 : Int) (x7 : Int) (x8 : Int) (x9 : Int) (K0 : Int → Option R) : Option R := plumblineref02_Rounded_n3_c6T plumblineref02_Rounded_n3_c5 plumblineref02_Rounded_n3_l0 plumblineref02_Rounded_n3_l1 k x1 x2 x3 x4 x5 x6 x7 x8 x9 K0
noncomputable def cc52_8 {R : Type} (k : Nat) : Cx R := mkCx Ty exts [(56, true, S56 k), (71, true, S71 k), (76, true, S76 k), (77, true, S77 k), (78, true, S78 k)] fi52 [(10, L52_10 k k), (18, L52_18 k k)] [(22, C52_22 k), (40, C52_40 k), (37, C52_37 k), (34, C52_34 k), (32, C52_32 k)]
theorem cc52_8_ok {R : Type} (k : Nat) : CxOk Try.prog (cc52_8 k : Cx R) := mkCx_ok (c := ((Try.f52).body.getD .skip)) ty_ok mixed exts_ok (allSum_cons (S56_ok k) en56 (allSum_cons (S71_ok k) en71 (allSum_cons (S76_ok k) en76 (allSum_cons (S77_ok k) en77 (allSum_cons (S78_ok k) en78 allSum_nil))))) Try.func52 en52 (by kernel_rfl) (by kernel_rfl) (allLoop_loop (by kernel_rfl) (L52_10_ok k k) (allLoop_loop (by kernel_rfl) (L52_18_ok k k) allLoop_nil)) (allCut_cons (C52_22_ok k) (by kernel_rfl) (allCut_cons (C52_40_ok k) (by kernel_rfl) (allCut_cons (C52_37_ok k) (by kernel_rfl) (allCut_cons (C52_34_ok k) (by kernel_rfl) (allCut_cons (C52_32_ok k) (by kernel_rfl) allCut_nil)))))
noncomputable def C52_8G {R : Type} (plumblineref02_Rounded_c7 : plumblineref02_Rounded_c7Y R) (plumblineref02_Rounded_n3_c6 : plumblineref02_Rounded_n3_c6Y R) (k : Nat) : LSum R := fun pin T H K => match pin, T, H with
  | 1, [(0, .i .i64 x1), (1, .i .i64 x2), (2, .b x3), (3, .sw 0), (4, .i .i64 x4), (11, .i .i64 x5), (12, .i .i64 x6), (13, .i .i64 x7), (14, .i .i64 x8), (15, .i .i64 x9)], ⟨1, [(0, some ⟨0, false, .row [.b] x10⟩)]⟩ => plumblineref02_Rounded_c7 k x1 x2 x3 x4 x5 x6 x7 x8 x9 x10 (fun q1 => K .ret [(10, .i .u64 q1)] ⟨1, [(0, some ⟨0, false, .row [.b] x10⟩)]⟩)
  | 0, [(0, .i .i64 x1), (1, .i .i64 x2), (2, .b x3), (3, .nsl), (4, .i .i64 x4), (11, .i .i64 x5), (12, .i .i64 x6), (13, .i .i64 x7), (14, .i .i64 x8), (15, .i .i64 x9)], ⟨0, []⟩ => plumblineref02_Rounded_n3_c6 k x1 x2 x3 x4 x5 x6 x7 x8 x9 (fun q1 => K .ret [(10, .i .u64 q1)] ⟨0, []⟩)
  | _, _, _ => none
noncomputable def C52_8 {R : Type} (k : Nat) : LSum R := C52_8G plumblineref02_Rounded_c7 plumblineref02_Rounded_n3_c6 k
theorem plumblineref02_Rounded_c7_gen {R : Type} (plumblineref02_Most : plumblineref02_MostY R) (plumblineref02_Size : plumblineref02_SizeY R) (plumblineref02_length : plumblineref02_lengthY R) (plumblineref02_length_n0 : plumblineref02_length_n0Y R) (plumblineref02_sign : plumblineref02_signY R) (plumblineref02_Inf : plumblineref02_InfY R) (plumblineref02_Rounded_l0 : plumblineref02_Rounded_l0Y R) (plumblineref02_Rounded_n3_l0 : plumblineref02_Rounded_n3_l0Y R) (plumblineref02_Rounded_c1 : plumblineref02_Rounded_c1Y R) (plumblineref02_Rounded_l2 : plumblineref02_Rounded_l2Y R) (plumblineref02_Rounded_n3_l1 : plumblineref02_Rounded_n3_l1Y R) (plumblineref02_Rounded_c3 : plumblineref02_Rounded_c3Y R) (plumblineref02_Rounded_n3_c2 : plumblineref02_Rounded_n3_c2Y R) (plumblineref02_Rounded_c4 : plumblineref02_Rounded_c4Y R) (plumblineref02_Rounded_n3_c3 : plumblineref02_Rounded_n3_c3Y R) (plumblineref02_Rounded_c5 : plumblineref02_Rounded_c5Y R) (plumblineref02_Rounded_n3_c4 : plumblineref02_Rounded_n3_c4Y R) (plumblineref02_Rounded_c6 : plumblineref02_Rounded_c6Y R) (plumblineref02_Rounded_n3_c5 : plumblineref02_Rounded_n3_c5Y R) (k : Nat) (x1 : Int) (x2 : Int) (x3 : Bool) (x4 : Int) (x5 : Int) (x6 : Int) (x7 : Int) (x8 : Int) (x9 : Int) (x10 : List Bool) (K : Kont R) :
    (fun C => codeK C (run C 4)) (mkCx Ty exts [(56, true, S56G plumblineref02_Most k), (71, true, S71G plumblineref02_Size k), (76, true, S76G plumblineref02_length plumblineref02_length_n0 k), (77, true, S77G plumblineref02_sign k), (78, true, S78G plumblineref02_Inf k)] fi52 [(10, L52_10G plumblineref02_Rounded_l0 plumblineref02_Rounded_n3_l0 k k), (18, L52_18G plumblineref02_Rounded_l2 plumblineref02_Rounded_n3_l1 k k)] [(22, C52_22G plumblineref02_Rounded_c1 k), (40, C52_40G plumblineref02_Rounded_c3 plumblineref02_Rounded_n3_c2 k), (37, C52_37G plumblineref02_Rounded_c4 plumblineref02_Rounded_n3_c3 k), (34, C52_34G plumblineref02_Rounded_c5 plumblineref02_Rounded_n3_c4 k), (32, C52_32G plumblineref02_Rounded_c6 plumblineref02_Rounded_n3_c5 k)]) 1 fi52 (cutAt ((Try.f52).body.getD .skip) 8) [(0, .i .i64 x1), (1, .i .i64 x2), (2, .b x3), (3, .sw 0), (4, .i .i64 x4), (11, .i .i64 x5), (12, .i .i64 x6), (13, .i .i64 x7), (14, .i .i64 x8), (15, .i .i64 x9)] ⟨1, [(0, some ⟨0, false, .row [.b] x10⟩)]⟩ (exitNorm fi52.ann 500008 1 K) = plumblineref02_Rounded_c7T plumblineref02_Rounded_c6 plumblineref02_Rounded_l0 plumblineref02_Rounded_l2 k x1 x2 x3 x4 x5 x6 x7 x8 x9 x10 (fun q1 => K .ret [(10, .i .u64 q1)] ⟨1, [(0, some ⟨0, false, .row [.b] x10⟩)]⟩) := by kernel_rfl
theorem plumblineref02_Rounded_n3_c6_gen {R : Type} (plumblineref02_Most : plumblineref02_MostY R) (plumblineref02_Size : plumblineref02_SizeY R) (plumblineref02_length : plumblineref02_lengthY R) (plumblineref02_length_n0 : plumblineref02_length_n0Y R) (plumblineref02_sign : plumblineref02_signY R) (plumblineref02_Inf : plumblineref02_InfY R) (plumblineref02_Rounded_l0 : plumblineref02_Rounded_l0Y R) (plumblineref02_Rounded_n3_l0 : plumblineref02_Rounded_n3_l0Y R) (plumblineref02_Rounded_c1 : plumblineref02_Rounded_c1Y R) (plumblineref02_Rounded_l2 : plumblineref02_Rounded_l2Y R) (plumblineref02_Rounded_n3_l1 : plumblineref02_Rounded_n3_l1Y R) (plumblineref02_Rounded_c3 : plumblineref02_Rounded_c3Y R) (plumblineref02_Rounded_n3_c2 : plumblineref02_Rounded_n3_c2Y R) (plumblineref02_Rounded_c4 : plumblineref02_Rounded_c4Y R) (plumblineref02_Rounded_n3_c3 : plumblineref02_Rounded_n3_c3Y R) (plumblineref02_Rounded_c5 : plumblineref02_Rounded_c5Y R) (plumblineref02_Rounded_n3_c4 : plumblineref02_Rounded_n3_c4Y R) (plumblineref02_Rounded_c6 : plumblineref02_Rounded_c6Y R) (plumblineref02_Rounded_n3_c5 : plumblineref02_Rounded_n3_c5Y R) (k : Nat) (x1 : Int) (x2 : Int) (x3 : Bool) (x4 : Int) (x5 : Int) (x6 : Int) (x7 : Int) (x8 : Int) (x9 : Int) (K : Kont R) :
    (fun C => codeK C (run C 4)) (mkCx Ty exts [(56, true, S56G plumblineref02_Most k), (71, true, S71G plumblineref02_Size k), (76, true, S76G plumblineref02_length plumblineref02_length_n0 k), (77, true, S77G plumblineref02_sign k), (78, true, S78G plumblineref02_Inf k)] fi52 [(10, L52_10G plumblineref02_Rounded_l0 plumblineref02_Rounded_n3_l0 k k), (18, L52_18G plumblineref02_Rounded_l2 plumblineref02_Rounded_n3_l1 k k)] [(22, C52_22G plumblineref02_Rounded_c1 k), (40, C52_40G plumblineref02_Rounded_c3 plumblineref02_Rounded_n3_c2 k), (37, C52_37G plumblineref02_Rounded_c4 plumblineref02_Rounded_n3_c3 k), (34, C52_34G plumblineref02_Rounded_c5 plumblineref02_Rounded_n3_c4 k), (32, C52_32G plumblineref02_Rounded_c6 plumblineref02_Rounded_n3_c5 k)]) 0 fi52 (cutAt ((Try.f52).body.getD .skip) 8) [(0, .i .i64 x1), (1, .i .i64 x2), (2, .b x3), (3, .nsl), (4, .i .i64 x4), (11, .i .i64 x5), (12, .i .i64 x6), (13, .i .i64 x7), (14, .i .i64 x8), (15, .i .i64 x9)] ⟨0, []⟩ (exitNorm fi52.ann 500008 0 K) = plumblineref02_Rounded_n3_c6T plumblineref02_Rounded_n3_c5 plumblineref02_Rounded_n3_l0 plumblineref02_Rounded_n3_l1 k x1 x2 x3 x4 x5 x6 x7 x8 x9 (fun q1 => K .ret [(10, .i .u64 q1)] ⟨0, []⟩) := by kernel_rfl
theorem C52_8_cok {R : Type} (k : Nat) : CodeOk Try.prog (cc52_8 k : Cx R) fi52 (cutAt ((Try.f52).body.getD .skip) 8) := cutAt_ok (((cc52_8_ok k).fns 52 fi52 (by kernel_rfl)).2.2.2 ((Try.f52).body.getD .skip) (by kernel_rfl))
theorem C52_8_ok {R : Type} (k : Nat) : CutOk Try.prog (Try.f52).ntmps (cutAt ((Try.f52).body.getD .skip) 8) (C52_8 k : LSum R) := by
  intro pin T H K r h
  unfold C52_8 C52_8G at h
  split at h
  · obtain ⟨ex, T1, H1, h, hb⟩ := codeK_sound (cc52_8_ok k) (run_sound (cc52_8_ok k) 4) _ fi52 _ _ _ _ _ (C52_8_cok k) ((plumblineref02_Rounded_c7_gen plumblineref02_Most plumblineref02_Size plumblineref02_length plumblineref02_length_n0 plumblineref02_sign plumblineref02_Inf plumblineref02_Rounded_l0 plumblineref02_Rounded_n3_l0 plumblineref02_Rounded_c1 plumblineref02_Rounded_l2 plumblineref02_Rounded_n3_l1 plumblineref02_Rounded_c3 plumblineref02_Rounded_n3_c2 plumblineref02_Rounded_c4 plumblineref02_Rounded_n3_c3 plumblineref02_Rounded_c5 plumblineref02_Rounded_n3_c4 plumblineref02_Rounded_c6 plumblineref02_Rounded_n3_c5 k _ _ _ _ _ _ _ _ _ _ K).trans h)
    exact cut_step hb h
  · obtain ⟨ex, T1, H1, h, hb⟩ := codeK_sound (cc52_8_ok k) (run_sound (cc52_8_ok k) 4) _ fi52 _ _ _ _ _ (C52_8_cok k) ((plumblineref02_Rounded_n3_c6_gen plumblineref02_Most plumblineref02_Size plumblineref02_length plumblineref02_length_n0 plumblineref02_sign plumblineref02_Inf plumblineref02_Rounded_l0 plumblineref02_Rounded_n3_l0 plumblineref02_Rounded_c1 plumblineref02_Rounded_l2 plumblineref02_Rounded_n3_l1 plumblineref02_Rounded_c3 plumblineref02_Rounded_n3_c2 plumblineref02_Rounded_c4 plumblineref02_Rounded_n3_c3 plumblineref02_Rounded_c5 plumblineref02_Rounded_n3_c4 plumblineref02_Rounded_c6 plumblineref02_Rounded_n3_c5 k _ _ _ _ _ _ _ _ _ K).trans h)
    exact cut_step hb h
  · cases h
noncomputable def cx52 {R : Type} (k : Nat) : Cx R := mkCx Ty exts [(56, true, S56 k), (71, true, S71 k), (76, true, S76 k), (77, true, S77 k), (78, true, S78 k)] fi52 [(10, L52_10 k k), (18, L52_18 k k)] [(22, C52_22 k), (40, C52_40 k), (37, C52_37 k), (34, C52_34 k), (32, C52_32 k), (8, C52_8 k)]
theorem cx52_ok {R : Type} (k : Nat) : CxOk Try.prog (cx52 k : Cx R) := mkCx_ok (c := ((Try.f52).body.getD .skip)) ty_ok mixed exts_ok (allSum_cons (S56_ok k) en56 (allSum_cons (S71_ok k) en71 (allSum_cons (S76_ok k) en76 (allSum_cons (S77_ok k) en77 (allSum_cons (S78_ok k) en78 allSum_nil))))) Try.func52 en52 (by kernel_rfl) (by kernel_rfl) (allLoop_loop (by kernel_rfl) (L52_10_ok k k) (allLoop_loop (by kernel_rfl) (L52_18_ok k k) allLoop_nil)) (allCut_cons (C52_22_ok k) (by kernel_rfl) (allCut_cons (C52_40_ok k) (by kernel_rfl) (allCut_cons (C52_37_ok k) (by kernel_rfl) (allCut_cons (C52_34_ok k) (by kernel_rfl) (allCut_cons (C52_32_ok k) (by kernel_rfl) (allCut_cons (C52_8_ok k) (by kernel_rfl) allCut_nil))))))
@[reducible] def plumblineref02_RoundedY (R : Type) : Type := Nat → Int → Int → Bool → Int → (List Bool) → (Int → Option R) → Option R
noncomputable def plumblineref02_RoundedT {R : Type} (plumblineref02_Rounded_c7 : plumblineref02_Rounded_c7Y R) (plumblineref02_Size : plumblineref02_SizeY R) (plumblineref02_length : plumblineref02_lengthY R) (plumblineref02_sign : plumblineref02_signY R) (k : Nat) (a1 : Int) (a2 : Int) (a3 : Bool) (a4 : Int) (a5 : List Bool) (K0 : Int → Option R) : Option R :=
  plumblineref02_Size k a1 (fun r1 r2 r3 =>
    plumblineref02_length k a5 (fun r4 =>
      cond (r4 == 0) (
        plumblineref02_sign k a1 a3 (fun r5 =>
          K0 r5)) (
        cond (decide ((Wi64 ((Wi64 ((Wi64 (a4 + r4)) - 1)) - r1)) < r3)) (
          plumblineref02_Rounded_c7 k a1 a2 a3 a4 r1 r2 r3 r4 r3 a5 (fun r6 =>
            K0 r6)) (
          plumblineref02_Rounded_c7 k a1 a2 a3 a4 r1 r2 r3 r4 (Wi64 ((Wi64 ((Wi64 (a4 + r4)) - 1)) - r1)) a5 (fun r7 =>
            K0 r7)))))
noncomputable def plumblineref02_Rounded {R : Type} (k : Nat) (a1 : Int) (a2 : Int) (a3 : Bool) (a4 : Int) (a5 : List Bool) (K0 : Int → Option R) : Option R := plumblineref02_RoundedT plumblineref02_Rounded_c7 plumblineref02_Size plumblineref02_length plumblineref02_sign k a1 a2 a3 a4 a5 K0
theorem plumblineref02_Rounded_gen {R : Type} (plumblineref02_Most : plumblineref02_MostY R) (plumblineref02_Size : plumblineref02_SizeY R) (plumblineref02_length : plumblineref02_lengthY R) (plumblineref02_length_n0 : plumblineref02_length_n0Y R) (plumblineref02_sign : plumblineref02_signY R) (plumblineref02_Inf : plumblineref02_InfY R) (plumblineref02_Rounded_l0 : plumblineref02_Rounded_l0Y R) (plumblineref02_Rounded_n3_l0 : plumblineref02_Rounded_n3_l0Y R) (plumblineref02_Rounded_c1 : plumblineref02_Rounded_c1Y R) (plumblineref02_Rounded_l2 : plumblineref02_Rounded_l2Y R) (plumblineref02_Rounded_n3_l1 : plumblineref02_Rounded_n3_l1Y R) (plumblineref02_Rounded_c3 : plumblineref02_Rounded_c3Y R) (plumblineref02_Rounded_n3_c2 : plumblineref02_Rounded_n3_c2Y R) (plumblineref02_Rounded_c4 : plumblineref02_Rounded_c4Y R) (plumblineref02_Rounded_n3_c3 : plumblineref02_Rounded_n3_c3Y R) (plumblineref02_Rounded_c5 : plumblineref02_Rounded_c5Y R) (plumblineref02_Rounded_n3_c4 : plumblineref02_Rounded_n3_c4Y R) (plumblineref02_Rounded_c6 : plumblineref02_Rounded_c6Y R) (plumblineref02_Rounded_n3_c5 : plumblineref02_Rounded_n3_c5Y R) (plumblineref02_Rounded_c7 : plumblineref02_Rounded_c7Y R) (plumblineref02_Rounded_n3_c6 : plumblineref02_Rounded_n3_c6Y R) (k : Nat) (a1 : Int) (a2 : Int) (a3 : Bool) (a4 : Int) (a5 : List Bool) (K : AV → Heap → Option R) :
    fnK (mkCx Ty exts [(56, true, S56G plumblineref02_Most k), (71, true, S71G plumblineref02_Size k), (76, true, S76G plumblineref02_length plumblineref02_length_n0 k), (77, true, S77G plumblineref02_sign k), (78, true, S78G plumblineref02_Inf k)] fi52 [(10, L52_10G plumblineref02_Rounded_l0 plumblineref02_Rounded_n3_l0 k k), (18, L52_18G plumblineref02_Rounded_l2 plumblineref02_Rounded_n3_l1 k k)] [(22, C52_22G plumblineref02_Rounded_c1 k), (40, C52_40G plumblineref02_Rounded_c3 plumblineref02_Rounded_n3_c2 k), (37, C52_37G plumblineref02_Rounded_c4 plumblineref02_Rounded_n3_c3 k), (34, C52_34G plumblineref02_Rounded_c5 plumblineref02_Rounded_n3_c4 k), (32, C52_32G plumblineref02_Rounded_c6 plumblineref02_Rounded_n3_c5 k), (8, C52_8G plumblineref02_Rounded_c7 plumblineref02_Rounded_n3_c6 k)]) 6 52 [.i .i64 a1, .i .i64 a2, .b a3, .sw 0, .i .i64 a4] ⟨1, [(0, some ⟨0, false, .row [.b] a5⟩)]⟩ K = plumblineref02_RoundedT plumblineref02_Rounded_c7 plumblineref02_Size plumblineref02_length plumblineref02_sign k a1 a2 a3 a4 a5 (fun q1 => K (.i .u64 q1) ⟨1, [(0, some ⟨0, false, .row [.b] a5⟩)]⟩) := by kernel_rfl
@[reducible] def plumblineref02_Rounded_n3Y (R : Type) : Type := Nat → Int → Int → Bool → Int → (Int → Option R) → Option R
noncomputable def plumblineref02_Rounded_n3T {R : Type} (plumblineref02_Rounded_n3_c6 : plumblineref02_Rounded_n3_c6Y R) (plumblineref02_Size : plumblineref02_SizeY R) (plumblineref02_length_n0 : plumblineref02_length_n0Y R) (plumblineref02_sign : plumblineref02_signY R) (k : Nat) (a1 : Int) (a2 : Int) (a3 : Bool) (a4 : Int) (K0 : Int → Option R) : Option R :=
  plumblineref02_Size k a1 (fun r1 r2 r3 =>
    plumblineref02_length_n0 k (fun r4 =>
      cond (r4 == 0) (
        plumblineref02_sign k a1 a3 (fun r5 =>
          K0 r5)) (
        cond (decide ((Wi64 ((Wi64 ((Wi64 (a4 + r4)) - 1)) - r1)) < r3)) (
          plumblineref02_Rounded_n3_c6 k a1 a2 a3 a4 r1 r2 r3 r4 r3 (fun r6 =>
            K0 r6)) (
          plumblineref02_Rounded_n3_c6 k a1 a2 a3 a4 r1 r2 r3 r4 (Wi64 ((Wi64 ((Wi64 (a4 + r4)) - 1)) - r1)) (fun r7 =>
            K0 r7)))))
noncomputable def plumblineref02_Rounded_n3 {R : Type} (k : Nat) (a1 : Int) (a2 : Int) (a3 : Bool) (a4 : Int) (K0 : Int → Option R) : Option R := plumblineref02_Rounded_n3T plumblineref02_Rounded_n3_c6 plumblineref02_Size plumblineref02_length_n0 plumblineref02_sign k a1 a2 a3 a4 K0
theorem plumblineref02_Rounded_n3_gen {R : Type} (plumblineref02_Most : plumblineref02_MostY R) (plumblineref02_Size : plumblineref02_SizeY R) (plumblineref02_length : plumblineref02_lengthY R) (plumblineref02_length_n0 : plumblineref02_length_n0Y R) (plumblineref02_sign : plumblineref02_signY R) (plumblineref02_Inf : plumblineref02_InfY R) (plumblineref02_Rounded_l0 : plumblineref02_Rounded_l0Y R) (plumblineref02_Rounded_n3_l0 : plumblineref02_Rounded_n3_l0Y R) (plumblineref02_Rounded_c1 : plumblineref02_Rounded_c1Y R) (plumblineref02_Rounded_l2 : plumblineref02_Rounded_l2Y R) (plumblineref02_Rounded_n3_l1 : plumblineref02_Rounded_n3_l1Y R) (plumblineref02_Rounded_c3 : plumblineref02_Rounded_c3Y R) (plumblineref02_Rounded_n3_c2 : plumblineref02_Rounded_n3_c2Y R) (plumblineref02_Rounded_c4 : plumblineref02_Rounded_c4Y R) (plumblineref02_Rounded_n3_c3 : plumblineref02_Rounded_n3_c3Y R) (plumblineref02_Rounded_c5 : plumblineref02_Rounded_c5Y R) (plumblineref02_Rounded_n3_c4 : plumblineref02_Rounded_n3_c4Y R) (plumblineref02_Rounded_c6 : plumblineref02_Rounded_c6Y R) (plumblineref02_Rounded_n3_c5 : plumblineref02_Rounded_n3_c5Y R) (plumblineref02_Rounded_c7 : plumblineref02_Rounded_c7Y R) (plumblineref02_Rounded_n3_c6 : plumblineref02_Rounded_n3_c6Y R) (k : Nat) (a1 : Int) (a2 : Int) (a3 : Bool) (a4 : Int) (K : AV → Heap → Option R) :
    fnK (mkCx Ty exts [(56, true, S56G plumblineref02_Most k), (71, true, S71G plumblineref02_Size k), (76, true, S76G plumblineref02_length plumblineref02_length_n0 k), (77, true, S77G plumblineref02_sign k), (78, true, S78G plumblineref02_Inf k)] fi52 [(10, L52_10G plumblineref02_Rounded_l0 plumblineref02_Rounded_n3_l0 k k), (18, L52_18G plumblineref02_Rounded_l2 plumblineref02_Rounded_n3_l1 k k)] [(22, C52_22G plumblineref02_Rounded_c1 k), (40, C52_40G plumblineref02_Rounded_c3 plumblineref02_Rounded_n3_c2 k), (37, C52_37G plumblineref02_Rounded_c4 plumblineref02_Rounded_n3_c3 k), (34, C52_34G plumblineref02_Rounded_c5 plumblineref02_Rounded_n3_c4 k), (32, C52_32G plumblineref02_Rounded_c6 plumblineref02_Rounded_n3_c5 k), (8, C52_8G plumblineref02_Rounded_c7 plumblineref02_Rounded_n3_c6 k)]) 6 52 [.i .i64 a1, .i .i64 a2, .b a3, .nsl, .i .i64 a4] ⟨0, []⟩ K = plumblineref02_Rounded_n3T plumblineref02_Rounded_n3_c6 plumblineref02_Size plumblineref02_length_n0 plumblineref02_sign k a1 a2 a3 a4 (fun q1 => K (.i .u64 q1) ⟨0, []⟩) := by kernel_rfl
noncomputable def S52G {R : Type} (plumblineref02_Rounded : plumblineref02_RoundedY R) (plumblineref02_Rounded_n3 : plumblineref02_Rounded_n3Y R) (k : Nat) : Sum R := fun args H K => match args, H with
  | [.i .i64 a1, .i .i64 a2, .b a3, .sw 0, .i .i64 a4], ⟨1, [(0, some ⟨0, false, .row [.b] a5⟩)]⟩ => plumblineref02_Rounded k a1 a2 a3 a4 a5 (fun q1 => K (.i .u64 q1) ⟨1, [(0, some ⟨0, false, .row [.b] a5⟩)]⟩)
  | [.i .i64 a1, .i .i64 a2, .b a3, .nsl, .i .i64 a4], ⟨0, []⟩ => plumblineref02_Rounded_n3 k a1 a2 a3 a4 (fun q1 => K (.i .u64 q1) ⟨0, []⟩)
  | _, _ => none
noncomputable def S52 {R : Type} (k : Nat) : Sum R := S52G plumblineref02_Rounded plumblineref02_Rounded_n3 k
theorem S52_ok0 {R : Type} (k : Nat) : SumOk Try.prog 52 false (S52 k : Sum R) := by
  intro args H K r h
  unfold S52 S52G at h
  split at h
  · exact fnK_sound (cx52_ok k) 6 52 _ _ K r ((plumblineref02_Rounded_gen plumblineref02_Most plumblineref02_Size plumblineref02_length plumblineref02_length_n0 plumblineref02_sign plumblineref02_Inf plumblineref02_Rounded_l0 plumblineref02_Rounded_n3_l0 plumblineref02_Rounded_c1 plumblineref02_Rounded_l2 plumblineref02_Rounded_n3_l1 plumblineref02_Rounded_c3 plumblineref02_Rounded_n3_c2 plumblineref02_Rounded_c4 plumblineref02_Rounded_n3_c3 plumblineref02_Rounded_c5 plumblineref02_Rounded_n3_c4 plumblineref02_Rounded_c6 plumblineref02_Rounded_n3_c5 plumblineref02_Rounded_c7 plumblineref02_Rounded_n3_c6 k _ _ _ _ _ K).trans h)
  · exact fnK_sound (cx52_ok k) 6 52 _ _ K r ((plumblineref02_Rounded_n3_gen plumblineref02_Most plumblineref02_Size plumblineref02_length plumblineref02_length_n0 plumblineref02_sign plumblineref02_Inf plumblineref02_Rounded_l0 plumblineref02_Rounded_n3_l0 plumblineref02_Rounded_c1 plumblineref02_Rounded_l2 plumblineref02_Rounded_n3_l1 plumblineref02_Rounded_c3 plumblineref02_Rounded_n3_c2 plumblineref02_Rounded_c4 plumblineref02_Rounded_n3_c3 plumblineref02_Rounded_c5 plumblineref02_Rounded_n3_c4 plumblineref02_Rounded_c6 plumblineref02_Rounded_n3_c5 plumblineref02_Rounded_c7 plumblineref02_Rounded_n3_c6 k _ _ _ _ K).trans h)
  · cases h
theorem S52_ok {R : Type} (k : Nat) : SumOk Try.prog 52 true (S52 k : Sum R) := by
  refine sumOk_keep (S52_ok0 k) ?_
  intro args H K r h
  unfold S52 S52G at h ⊢
  split at h
  · refine Eq.trans ?_ h
    show plumblineref02_Rounded k _ _ _ _ _ _ = plumblineref02_Rounded k _ _ _ _ _ _
    congr 1
    all_goals first | exact (funext fun q1 => if_pos (keeps_app _ _ _ [])) | skip
  · refine Eq.trans ?_ h
    show plumblineref02_Rounded_n3 k _ _ _ _ _ = plumblineref02_Rounded_n3 k _ _ _ _ _
    congr 1
    all_goals first | exact (funext fun q1 => if_pos (keeps_app _ _ _ [])) | skip
  · cases h
-- function 54: plumbline/plumblineref02.Finite
noncomputable def fi54 : FnI := ⟨54, Try.f54, []⟩
theorem en54 : Enters Try.prog 54 := enters_of Try.func54 (c := ((Try.f54).body.getD .skip)) (by kernel_rfl) (by kernel_rfl)
noncomputable def cx54 {R : Type} (k : Nat) : Cx R := mkCx Ty exts [(40, true, S40 k)] fi54 [] []
theorem cx54_ok {R : Type} (k : Nat) : CxOk Try.prog (cx54 k : Cx R) := mkCx_ok (c := ((Try.f54).body.getD .skip)) ty_ok mixed exts_ok (allSum_cons (S40_ok k) en40 allSum_nil) Try.func54 en54 (by kernel_rfl) (by kernel_rfl) allLoop_nil allCut_nil
@[reducible] def plumblineref02_FiniteY (R : Type) : Type := Nat → Int → Int → (Bool → Option R) → Option R
noncomputable def plumblineref02_FiniteT {R : Type} (plumblineref02_Class : plumblineref02_ClassY R) (k : Nat) (a1 : Int) (a2 : Int) (K0 : Bool → Option R) : Option R :=
  plumblineref02_Class k a1 a2 (fun r1 =>
    cond (r1 == 1) (
      K0 true) (
      cond (r1 == 2) (
        K0 true) (
        K0 (r1 == 3))))
noncomputable def plumblineref02_Finite {R : Type} (k : Nat) (a1 : Int) (a2 : Int) (K0 : Bool → Option R) : Option R := plumblineref02_FiniteT plumblineref02_Class k a1 a2 K0
theorem plumblineref02_Finite_gen {R : Type} (plumblineref02_Class : plumblineref02_ClassY R) (k : Nat) (a1 : Int) (a2 : Int) (K : AV → Heap → Option R) :
    fnK (mkCx Ty exts [(40, true, S40G plumblineref02_Class k)] fi54 [] []) 6 54 [.i .i64 a1, .i .u64 a2] ⟨0, []⟩ K = plumblineref02_FiniteT plumblineref02_Class k a1 a2 (fun q1 => K (.b q1) ⟨0, []⟩) := by kernel_rfl
noncomputable def S54G {R : Type} (plumblineref02_Finite : plumblineref02_FiniteY R) (k : Nat) : Sum R := fun args H K => match args, H with
  | [.i .i64 a1, .i .u64 a2], ⟨0, []⟩ => plumblineref02_Finite k a1 a2 (fun q1 => K (.b q1) ⟨0, []⟩)
  | _, _ => none
noncomputable def S54 {R : Type} (k : Nat) : Sum R := S54G plumblineref02_Finite k
theorem S54_ok0 {R : Type} (k : Nat) : SumOk Try.prog 54 false (S54 k : Sum R) := by
  intro args H K r h
  unfold S54 S54G at h
  split at h
  · exact fnK_sound (cx54_ok k) 6 54 _ _ K r ((plumblineref02_Finite_gen plumblineref02_Class k _ _ K).trans h)
  · cases h
theorem S54_ok {R : Type} (k : Nat) : SumOk Try.prog 54 true (S54 k : Sum R) := by
  refine sumOk_keep (S54_ok0 k) ?_
  intro args H K r h
  unfold S54 S54G at h ⊢
  split at h
  · refine Eq.trans ?_ h
    show plumblineref02_Finite k _ _ _ = plumblineref02_Finite k _ _ _
    congr 1
    all_goals first | exact (funext fun q1 => if_pos (keeps_app _ _ _ [])) | skip
  · cases h
-- function 80: plumbline/plumblineref02.isNan
noncomputable def fi80 : FnI := ⟨80, Try.f80, []⟩
theorem en80 : Enters Try.prog 80 := enters_of Try.func80 (c := ((Try.f80).body.getD .skip)) (by kernel_rfl) (by kernel_rfl)
noncomputable def cx80 {R : Type} (k : Nat) : Cx R := mkCx Ty exts [(40, true, S40 k)] fi80 [] []
theorem cx80_ok {R : Type} (k : Nat) : CxOk Try.prog (cx80 k : Cx R) := mkCx_ok (c := ((Try.f80).body.getD .skip)) ty_ok mixed exts_ok (allSum_cons (S40_ok k) en40 allSum_nil) Try.func80 en80 (by kernel_rfl) (by kernel_rfl) allLoop_nil allCut_nil
@[reducible] def plumblineref02_isNanY (R : Type) : Type := Nat → Int → Int → (Bool → Option R) → Option R
noncomputable def plumblineref02_isNanT {R : Type} (plumblineref02_Class : plumblineref02_ClassY R) (k : Nat) (a1 : Int) (a2 : Int) (K0 : Bool → Option R) : Option R :=
  plumblineref02_Class k a1 a2 (fun r1 =>
    cond (r1 == 5) (
      K0 true) (
      K0 (r1 == 0)))
noncomputable def plumblineref02_isNan {R : Type} (k : Nat) (a1 : Int) (a2 : Int) (K0 : Bool → Option R) : Option R := plumblineref02_isNanT plumblineref02_Class k a1 a2 K0
theorem plumblineref02_isNan_gen {R : Type} (plumblineref02_Class : plumblineref02_ClassY R) (k : Nat) (a1 : Int) (a2 : Int) (K : AV → Heap → Option R) :
    fnK (mkCx Ty exts [(40, true, S40G plumblineref02_Class k)] fi80 [] []) 6 80 [.i .i64 a1, .i .u64 a2] ⟨0, []⟩ K = plumblineref02_isNanT plumblineref02_Class k a1 a2 (fun q1 => K (.b q1) ⟨0, []⟩) := by kernel_rfl
noncomputable def S80G {R : Type} (plumblineref02_isNan : plumblineref02_isNanY R) (k : Nat) : Sum R := fun args H K => match args, H with
  | [.i .i64 a1, .i .u64 a2], ⟨0, []⟩ => plumblineref02_isNan k a1 a2 (fun q1 => K (.b q1) ⟨0, []⟩)
  | _, _ => none
noncomputable def S80 {R : Type} (k : Nat) : Sum R := S80G plumblineref02_isNan k
theorem S80_ok0 {R : Type} (k : Nat) : SumOk Try.prog 80 false (S80 k : Sum R) := by
  intro args H K r h
  unfold S80 S80G at h
  split at h
  · exact fnK_sound (cx80_ok k) 6 80 _ _ K r ((plumblineref02_isNan_gen plumblineref02_Class k _ _ K).trans h)
  · cases h
theorem S80_ok {R : Type} (k : Nat) : SumOk Try.prog 80 true (S80 k : Sum R) := by
  refine sumOk_keep (S80_ok0 k) ?_
  intro args H K r h
  unfold S80 S80G at h ⊢
  split at h
  · refine Eq.trans ?_ h
    show plumblineref02_isNan k _ _ _ = plumblineref02_isNan k _ _ _
    congr 1
    all_goals first | exact (funext fun q1 => if_pos (keeps_app _ _ _ [])) | skip
  · cases h
-- function 59: plumbline/plumblineref02.Neg
noncomputable def fi59 : FnI := ⟨59, Try.f59, []⟩
theorem en59 : Enters Try.prog 59 := enters_of Try.func59 (c := ((Try.f59).body.getD .skip)) (by kernel_rfl) (by kernel_rfl)
noncomputable def cx59 {R : Type} (k : Nat) : Cx R := mkCx Ty exts [(55, true, S55 k), (77, true, S77 k), (80, true, S80 k)] fi59 [] []
theorem cx59_ok {R : Type} (k : Nat) : CxOk Try.prog (cx59 k : Cx R) := mkCx_ok (c := ((Try.f59).body.getD .skip)) ty_ok mixed exts_ok (allSum_cons (S55_ok k) en55 (allSum_cons (S77_ok k) en77 (allSum_cons (S80_ok k) en80 allSum_nil))) Try.func59 en59 (by kernel_rfl) (by kernel_rfl) allLoop_nil allCut_nil
@[reducible] def plumblineref02_NegY (R : Type) : Type := Nat → Int → Int → (Int → Option R) → Option R
noncomputable def plumblineref02_NegT {R : Type} (plumblineref02_Nan : plumblineref02_NanY R) (plumblineref02_isNan : plumblineref02_isNanY R) (plumblineref02_sign : plumblineref02_signY R) (k : Nat) (a1 : Int) (a2 : Int) (K0 : Int → Option R) : Option R :=
  plumblineref02_isNan k a1 a2 (fun r1 =>
    cond r1 (
      plumblineref02_Nan k a1 (fun r2 =>
        K0 r2)) (
      plumblineref02_sign k a1 true (fun r3 =>
        K0 (bXor .u64 a2 r3))))
noncomputable def plumblineref02_Neg {R : Type} (k : Nat) (a1 : Int) (a2 : Int) (K0 : Int → Option R) : Option R := plumblineref02_NegT plumblineref02_Nan plumblineref02_isNan plumblineref02_sign k a1 a2 K0
theorem plumblineref02_Neg_gen {R : Type} (plumblineref02_Nan : plumblineref02_NanY R) (plumblineref02_sign : plumblineref02_signY R) (plumblineref02_isNan : plumblineref02_isNanY R) (k : Nat) (a1 : Int) (a2 : Int) (K : AV → Heap → Option R) :
    fnK (mkCx Ty exts [(55, true, S55G plumblineref02_Nan k), (77, true, S77G plumblineref02_sign k), (80, true, S80G plumblineref02_isNan k)] fi59 [] []) 6 59 [.i .i64 a1, .i .u64 a2] ⟨0, []⟩ K = plumblineref02_NegT plumblineref02_Nan plumblineref02_isNan plumblineref02_sign k a1 a2 (fun q1 => K (.i .u64 q1) ⟨0, []⟩) := by kernel_rfl
noncomputable def S59G {R : Type} (plumblineref02_Neg : plumblineref02_NegY R) (k : Nat) : Sum R := fun args H K => match args, H with
  | [.i .i64 a1, .i .u64 a2], ⟨0, []⟩ => plumblineref02_Neg k a1 a2 (fun q1 => K (.i .u64 q1) ⟨0, []⟩)
  | _, _ => none
noncomputable def S59 {R : Type} (k : Nat) : Sum R := S59G plumblineref02_Neg k
theorem S59_ok0 {R : Type} (k : Nat) : SumOk Try.prog 59 false (S59 k : Sum R) := by
  intro args H K r h
  unfold S59 S59G at h
  split at h
  · exact fnK_sound (cx59_ok k) 6 59 _ _ K r ((plumblineref02_Neg_gen plumblineref02_Nan plumblineref02_sign plumblineref02_isNan k _ _ K).trans h)
  · cases h
theorem S59_ok {R : Type} (k : Nat) : SumOk Try.prog 59 true (S59 k : Sum R) := by
  refine sumOk_keep (S59_ok0 k) ?_
  intro args H K r h
  unfold S59 S59G at h ⊢
  split at h
  · refine Eq.trans ?_ h
    show plumblineref02_Neg k _ _ _ = plumblineref02_Neg k _ _ _
    congr 1
    all_goals first | exact (funext fun q1 => if_pos (keeps_app _ _ _ [])) | skip
  · cases h
end Go.Proofs.Ytelifkahdhhmoaa.N
