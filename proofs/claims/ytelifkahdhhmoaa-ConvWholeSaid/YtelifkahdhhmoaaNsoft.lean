/- Printed by wip/gen/emit.py: functions of the program as plain Lean functions, tied to the model by the evaluator. Conditions: none. -/
import Derived.Test.YtelifkahdhhmoaaNlib
import Derived.Test.YtelifkahdhhmoaaNwide
namespace Go.Proofs.Ytelifkahdhhmoaa.N
set_option linter.unusedVariables false
set_option maxRecDepth 100000
open Go Go.Ab
-- function 68: plumbline/soft.shapeOf
noncomputable def fi68 : FnI := ⟨68, Try.f68, []⟩
theorem en68 : Enters Try.prog 68 := enters_of Try.func68 (c := ((Try.f68).body.getD .skip)) (by kernel_rfl) (by kernel_rfl)
noncomputable def cx68 {R : Type} (k : Nat) : Cx R := mkCx Ty exts [] fi68 [] []
theorem cx68_ok {R : Type} (k : Nat) : CxOk Try.prog (cx68 k : Cx R) := mkCx_ok (c := ((Try.f68).body.getD .skip)) ty_ok mixed exts_ok allSum_nil Try.func68 en68 (by kernel_rfl) (by kernel_rfl) allLoop_nil allCut_nil
@[reducible] def soft_shapeOfY (R : Type) : Type := Nat → Int → (Int → Int → Int → Option R) → Option R
noncomputable def soft_shapeOfT {R : Type} (k : Nat) (a1 : Int) (K0 : Int → Int → Int → Option R) : Option R :=
  cond (a1 == 1) (
    K0 23 8 (-149)) (
    K0 52 11 (-1074))
noncomputable def soft_shapeOf {R : Type} (k : Nat) (a1 : Int) (K0 : Int → Int → Int → Option R) : Option R := soft_shapeOfT k a1 K0
theorem soft_shapeOf_gen {R : Type} (k : Nat) (a1 : Int) (K : AV → Heap → Option R) :
    fnK (mkCx Ty exts [] fi68 [] []) 6 68 [.i .i64 a1] ⟨0, []⟩ K = soft_shapeOfT k a1 (fun q1 q2 q3 => K (.agg [.i .i64 q1, .i .i64 q2, .i .i64 q3]) ⟨0, []⟩) := by kernel_rfl
noncomputable def S68G {R : Type} (soft_shapeOf : soft_shapeOfY R) (k : Nat) : Sum R := fun args H K => match args, H with
  | [.i .i64 a1], ⟨0, []⟩ => soft_shapeOf k a1 (fun q1 q2 q3 => K (.agg [.i .i64 q1, .i .i64 q2, .i .i64 q3]) ⟨0, []⟩)
  | _, _ => none
noncomputable def S68 {R : Type} (k : Nat) : Sum R := S68G soft_shapeOf k
theorem S68_ok0 {R : Type} (k : Nat) : SumOk Try.prog 68 false (S68 k : Sum R) := by
  intro args H K r h
  unfold S68 S68G at h
  split at h
  · exact fnK_sound (cx68_ok k) 6 68 _ _ K r ((soft_shapeOf_gen k _ K).trans h)
  · cases h
theorem S68_ok {R : Type} (k : Nat) : SumOk Try.prog 68 true (S68 k : Sum R) := by
  refine sumOk_keep (S68_ok0 k) ?_
  intro args H K r h
  unfold S68 S68G at h ⊢
  split at h
  · refine Eq.trans ?_ h
    show soft_shapeOf k _ _ = soft_shapeOf k _ _
    congr 1
    all_goals first | exact (funext fun q1 => funext fun q2 => funext fun q3 => if_pos (keeps_app _ _ _ [])) | skip
  · cases h
-- function 79: (plumbline/soft.shape).sign
noncomputable def fi79 : FnI := ⟨79, Try.f79, []⟩
theorem en79 : Enters Try.prog 79 := enters_of Try.func79 (c := ((Try.f79).body.getD .skip)) (by kernel_rfl) (by kernel_rfl)
noncomputable def cx79 {R : Type} (k : Nat) : Cx R := mkCx Ty exts [] fi79 [] []
theorem cx79_ok {R : Type} (k : Nat) : CxOk Try.prog (cx79 k : Cx R) := mkCx_ok (c := ((Try.f79).body.getD .skip)) ty_ok mixed exts_ok allSum_nil Try.func79 en79 (by kernel_rfl) (by kernel_rfl) allLoop_nil allCut_nil
@[reducible] def soft_shape_signY (R : Type) : Type := Nat → Int → Int → Int → Bool → (Int → Option R) → Option R
noncomputable def soft_shape_signT {R : Type} (k : Nat) (a1 : Int) (a2 : Int) (a3 : Int) (a4 : Bool) (K0 : Int → Option R) : Option R :=
  cond a4 (
    cond (decide ((Wi64 (a1 + a2)) < 0)) (
      none) (
      K0 (shl .u64 1 (Wi64 (a1 + a2))))) (
    K0 0)
noncomputable def soft_shape_sign {R : Type} (k : Nat) (a1 : Int) (a2 : Int) (a3 : Int) (a4 : Bool) (K0 : Int → Option R) : Option R := soft_shape_signT k a1 a2 a3 a4 K0
theorem soft_shape_sign_gen {R : Type} (k : Nat) (a1 : Int) (a2 : Int) (a3 : Int) (a4 : Bool) (K : AV → Heap → Option R) :
    fnK (mkCx Ty exts [] fi79 [] []) 6 79 [.agg [.i .i64 a1, .i .i64 a2, .i .i64 a3], .b a4] ⟨0, []⟩ K = soft_shape_signT k a1 a2 a3 a4 (fun q1 => K (.i .u64 q1) ⟨0, []⟩) := by kernel_rfl
noncomputable def S79G {R : Type} (soft_shape_sign : soft_shape_signY R) (k : Nat) : Sum R := fun args H K => match args, H with
  | [.agg [.i .i64 a1, .i .i64 a2, .i .i64 a3], .b a4], ⟨0, []⟩ => soft_shape_sign k a1 a2 a3 a4 (fun q1 => K (.i .u64 q1) ⟨0, []⟩)
  | _, _ => none
noncomputable def S79 {R : Type} (k : Nat) : Sum R := S79G soft_shape_sign k
theorem S79_ok0 {R : Type} (k : Nat) : SumOk Try.prog 79 false (S79 k : Sum R) := by
  intro args H K r h
  unfold S79 S79G at h
  split at h
  · exact fnK_sound (cx79_ok k) 6 79 _ _ K r ((soft_shape_sign_gen k _ _ _ _ K).trans h)
  · cases h
theorem S79_ok {R : Type} (k : Nat) : SumOk Try.prog 79 true (S79 k : Sum R) := by
  refine sumOk_keep (S79_ok0 k) ?_
  intro args H K r h
  unfold S79 S79G at h ⊢
  split at h
  · refine Eq.trans ?_ h
    show soft_shape_sign k _ _ _ _ _ = soft_shape_sign k _ _ _ _ _
    congr 1
    all_goals first | exact (funext fun q1 => if_pos (keeps_app _ _ _ [])) | skip
  · cases h
-- function 87: plumbline/soft.rounderOf
noncomputable def fi87 : FnI := ⟨87, Try.f87, []⟩
theorem en87 : Enters Try.prog 87 := enters_of Try.func87 (c := ((Try.f87).body.getD .skip)) (by kernel_rfl) (by kernel_rfl)
noncomputable def cx87 {R : Type} (k : Nat) : Cx R := mkCx Ty exts [] fi87 [] []
theorem cx87_ok {R : Type} (k : Nat) : CxOk Try.prog (cx87 k : Cx R) := mkCx_ok (c := ((Try.f87).body.getD .skip)) ty_ok mixed exts_ok allSum_nil Try.func87 en87 (by kernel_rfl) (by kernel_rfl) allLoop_nil allCut_nil
@[reducible] def soft_rounderOfY (R : Type) : Type := Nat → Int → Bool → (Option R) → (Option R) → (Option R) → Option R
noncomputable def soft_rounderOfT {R : Type} (k : Nat) (a1 : Int) (a2 : Bool) (K0 : Option R) (K1 : Option R) (K2 : Option R) : Option R :=
  cond (a1 == 1) (
    cond (!a2) (
      K0) (
      cond (a1 == 2) (
        cond a2 (
          K0) (
          cond (a1 == 1) (
            K1) (
            cond (a1 == 2) (
              K1) (
              cond (a1 == 3) (
                K1) (
                K2))))) (
        cond (a1 == 1) (
          K1) (
          cond (a1 == 2) (
            K1) (
            cond (a1 == 3) (
              K1) (
              K2)))))) (
    cond (a1 == 2) (
      cond a2 (
        K0) (
        cond (a1 == 1) (
          K1) (
          cond (a1 == 2) (
            K1) (
            cond (a1 == 3) (
              K1) (
              K2))))) (
      cond (a1 == 1) (
        K1) (
        cond (a1 == 2) (
          K1) (
          cond (a1 == 3) (
            K1) (
            K2)))))
noncomputable def soft_rounderOf {R : Type} (k : Nat) (a1 : Int) (a2 : Bool) (K0 : Option R) (K1 : Option R) (K2 : Option R) : Option R := soft_rounderOfT k a1 a2 K0 K1 K2
theorem soft_rounderOf_gen {R : Type} (k : Nat) (a1 : Int) (a2 : Bool) (K : AV → Heap → Option R) :
    fnK (mkCx Ty exts [] fi87 [] []) 6 87 [.i .i64 a1, .b a2] ⟨0, []⟩ K = soft_rounderOfT k a1 a2 (K (.agg [.fn 88 []]) ⟨0, []⟩) (K (.agg [.fn 89 []]) ⟨0, []⟩) (K (.agg [.fn 90 []]) ⟨0, []⟩) := by kernel_rfl
noncomputable def S87G {R : Type} (soft_rounderOf : soft_rounderOfY R) (k : Nat) : Sum R := fun args H K => match args, H with
  | [.i .i64 a1, .b a2], ⟨0, []⟩ => soft_rounderOf k a1 a2 (K (.agg [.fn 88 []]) ⟨0, []⟩) (K (.agg [.fn 89 []]) ⟨0, []⟩) (K (.agg [.fn 90 []]) ⟨0, []⟩)
  | _, _ => none
noncomputable def S87 {R : Type} (k : Nat) : Sum R := S87G soft_rounderOf k
theorem S87_ok0 {R : Type} (k : Nat) : SumOk Try.prog 87 false (S87 k : Sum R) := by
  intro args H K r h
  unfold S87 S87G at h
  split at h
  · exact fnK_sound (cx87_ok k) 6 87 _ _ K r ((soft_rounderOf_gen k _ _ K).trans h)
  · cases h
theorem S87_ok {R : Type} (k : Nat) : SumOk Try.prog 87 true (S87 k : Sum R) := by
  refine sumOk_keep (S87_ok0 k) ?_
  intro args H K r h
  unfold S87 S87G at h ⊢
  split at h
  · refine Eq.trans ?_ h
    show soft_rounderOf k _ _ _ _ _ = soft_rounderOf k _ _ _ _ _
    congr 1
    all_goals first | exact (if_pos (keeps_app _ _ _ [])) | skip
    all_goals first | exact (if_pos (keeps_app _ _ _ [])) | skip
    all_goals first | exact (if_pos (keeps_app _ _ _ [])) | skip
  · cases h
-- function 88: plumbline/soft.rounderOf$1
noncomputable def fi88 : FnI := ⟨88, Try.f88, []⟩
theorem en88 : Enters Try.prog 88 := enters_of Try.func88 (c := ((Try.f88).body.getD .skip)) (by kernel_rfl) (by kernel_rfl)
noncomputable def cx88 {R : Type} (k : Nat) : Cx R := mkCx Ty exts [] fi88 [] []
theorem cx88_ok {R : Type} (k : Nat) : CxOk Try.prog (cx88 k : Cx R) := mkCx_ok (c := ((Try.f88).body.getD .skip)) ty_ok mixed exts_ok allSum_nil Try.func88 en88 (by kernel_rfl) (by kernel_rfl) allLoop_nil allCut_nil
@[reducible] def soft_rounderOf_1Y (R : Type) : Type := Nat → Bool → Bool → Bool → (Bool → Option R) → Option R
noncomputable def soft_rounderOf_1T {R : Type} (k : Nat) (a1 : Bool) (a2 : Bool) (a3 : Bool) (K0 : Bool → Option R) : Option R :=
  cond a2 (
    K0 true) (
    K0 a3)
noncomputable def soft_rounderOf_1 {R : Type} (k : Nat) (a1 : Bool) (a2 : Bool) (a3 : Bool) (K0 : Bool → Option R) : Option R := soft_rounderOf_1T k a1 a2 a3 K0
theorem soft_rounderOf_1_gen {R : Type} (k : Nat) (a1 : Bool) (a2 : Bool) (a3 : Bool) (K : AV → Heap → Option R) :
    fnK (mkCx Ty exts [] fi88 [] []) 6 88 [.b a1, .b a2, .b a3] ⟨0, []⟩ K = soft_rounderOf_1T k a1 a2 a3 (fun q1 => K (.b q1) ⟨0, []⟩) := by kernel_rfl
noncomputable def S88G {R : Type} (soft_rounderOf_1 : soft_rounderOf_1Y R) (k : Nat) : Sum R := fun args H K => match args, H with
  | [.b a1, .b a2, .b a3], ⟨0, []⟩ => soft_rounderOf_1 k a1 a2 a3 (fun q1 => K (.b q1) ⟨0, []⟩)
  | _, _ => none
noncomputable def S88 {R : Type} (k : Nat) : Sum R := S88G soft_rounderOf_1 k
theorem S88_ok0 {R : Type} (k : Nat) : SumOk Try.prog 88 false (S88 k : Sum R) := by
  intro args H K r h
  unfold S88 S88G at h
  split at h
  · exact fnK_sound (cx88_ok k) 6 88 _ _ K r ((soft_rounderOf_1_gen k _ _ _ K).trans h)
  · cases h
theorem S88_ok {R : Type} (k : Nat) : SumOk Try.prog 88 true (S88 k : Sum R) := by
  refine sumOk_keep (S88_ok0 k) ?_
  intro args H K r h
  unfold S88 S88G at h ⊢
  split at h
  · refine Eq.trans ?_ h
    show soft_rounderOf_1 k _ _ _ _ = soft_rounderOf_1 k _ _ _ _
    congr 1
    all_goals first | exact (funext fun q1 => if_pos (keeps_app _ _ _ [])) | skip
  · cases h
-- function 81: (plumbline/soft.shape).full
noncomputable def fi81 : FnI := ⟨81, Try.f81, []⟩
theorem en81 : Enters Try.prog 81 := enters_of Try.func81 (c := ((Try.f81).body.getD .skip)) (by kernel_rfl) (by kernel_rfl)
noncomputable def cx81 {R : Type} (k : Nat) : Cx R := mkCx Ty exts [] fi81 [] []
theorem cx81_ok {R : Type} (k : Nat) : CxOk Try.prog (cx81 k : Cx R) := mkCx_ok (c := ((Try.f81).body.getD .skip)) ty_ok mixed exts_ok allSum_nil Try.func81 en81 (by kernel_rfl) (by kernel_rfl) allLoop_nil allCut_nil
@[reducible] def soft_shape_fullY (R : Type) : Type := Nat → Int → Int → Int → (Int → Option R) → Option R
noncomputable def soft_shape_fullT {R : Type} (k : Nat) (a1 : Int) (a2 : Int) (a3 : Int) (K0 : Int → Option R) : Option R :=
  cond (decide (a2 < 0)) (
    none) (
    K0 (Wu64 ((shl .u64 1 a2) - 1)))
noncomputable def soft_shape_full {R : Type} (k : Nat) (a1 : Int) (a2 : Int) (a3 : Int) (K0 : Int → Option R) : Option R := soft_shape_fullT k a1 a2 a3 K0
theorem soft_shape_full_gen {R : Type} (k : Nat) (a1 : Int) (a2 : Int) (a3 : Int) (K : AV → Heap → Option R) :
    fnK (mkCx Ty exts [] fi81 [] []) 6 81 [.agg [.i .i64 a1, .i .i64 a2, .i .i64 a3]] ⟨0, []⟩ K = soft_shape_fullT k a1 a2 a3 (fun q1 => K (.i .u64 q1) ⟨0, []⟩) := by kernel_rfl
noncomputable def S81G {R : Type} (soft_shape_full : soft_shape_fullY R) (k : Nat) : Sum R := fun args H K => match args, H with
  | [.agg [.i .i64 a1, .i .i64 a2, .i .i64 a3]], ⟨0, []⟩ => soft_shape_full k a1 a2 a3 (fun q1 => K (.i .u64 q1) ⟨0, []⟩)
  | _, _ => none
noncomputable def S81 {R : Type} (k : Nat) : Sum R := S81G soft_shape_full k
theorem S81_ok0 {R : Type} (k : Nat) : SumOk Try.prog 81 false (S81 k : Sum R) := by
  intro args H K r h
  unfold S81 S81G at h
  split at h
  · exact fnK_sound (cx81_ok k) 6 81 _ _ K r ((soft_shape_full_gen k _ _ _ K).trans h)
  · cases h
theorem S81_ok {R : Type} (k : Nat) : SumOk Try.prog 81 true (S81 k : Sum R) := by
  refine sumOk_keep (S81_ok0 k) ?_
  intro args H K r h
  unfold S81 S81G at h ⊢
  split at h
  · refine Eq.trans ?_ h
    show soft_shape_full k _ _ _ _ = soft_shape_full k _ _ _ _
    congr 1
    all_goals first | exact (funext fun q1 => if_pos (keeps_app _ _ _ [])) | skip
  · cases h
-- function 85: (plumbline/soft.shape).inf
noncomputable def fi85 : FnI := ⟨85, Try.f85, []⟩
theorem en85 : Enters Try.prog 85 := enters_of Try.func85 (c := ((Try.f85).body.getD .skip)) (by kernel_rfl) (by kernel_rfl)
noncomputable def cx85 {R : Type} (k : Nat) : Cx R := mkCx Ty exts [(79, true, S79 k), (81, true, S81 k)] fi85 [] []
theorem cx85_ok {R : Type} (k : Nat) : CxOk Try.prog (cx85 k : Cx R) := mkCx_ok (c := ((Try.f85).body.getD .skip)) ty_ok mixed exts_ok (allSum_cons (S79_ok k) en79 (allSum_cons (S81_ok k) en81 allSum_nil)) Try.func85 en85 (by kernel_rfl) (by kernel_rfl) allLoop_nil allCut_nil
@[reducible] def soft_shape_infY (R : Type) : Type := Nat → Int → Int → Int → Bool → (Int → Option R) → Option R
noncomputable def soft_shape_infT {R : Type} (soft_shape_full : soft_shape_fullY R) (soft_shape_sign : soft_shape_signY R) (k : Nat) (a1 : Int) (a2 : Int) (a3 : Int) (a4 : Bool) (K0 : Int → Option R) : Option R :=
  soft_shape_sign k a1 a2 a3 a4 (fun r1 =>
    soft_shape_full k a1 a2 a3 (fun r2 =>
      cond (decide (a1 < 0)) (
        none) (
        K0 (bOr .u64 r1 (shl .u64 r2 a1)))))
noncomputable def soft_shape_inf {R : Type} (k : Nat) (a1 : Int) (a2 : Int) (a3 : Int) (a4 : Bool) (K0 : Int → Option R) : Option R := soft_shape_infT soft_shape_full soft_shape_sign k a1 a2 a3 a4 K0
theorem soft_shape_inf_gen {R : Type} (soft_shape_sign : soft_shape_signY R) (soft_shape_full : soft_shape_fullY R) (k : Nat) (a1 : Int) (a2 : Int) (a3 : Int) (a4 : Bool) (K : AV → Heap → Option R) :
    fnK (mkCx Ty exts [(79, true, S79G soft_shape_sign k), (81, true, S81G soft_shape_full k)] fi85 [] []) 6 85 [.agg [.i .i64 a1, .i .i64 a2, .i .i64 a3], .b a4] ⟨0, []⟩ K = soft_shape_infT soft_shape_full soft_shape_sign k a1 a2 a3 a4 (fun q1 => K (.i .u64 q1) ⟨0, []⟩) := by kernel_rfl
noncomputable def S85G {R : Type} (soft_shape_inf : soft_shape_infY R) (k : Nat) : Sum R := fun args H K => match args, H with
  | [.agg [.i .i64 a1, .i .i64 a2, .i .i64 a3], .b a4], ⟨0, []⟩ => soft_shape_inf k a1 a2 a3 a4 (fun q1 => K (.i .u64 q1) ⟨0, []⟩)
  | _, _ => none
noncomputable def S85 {R : Type} (k : Nat) : Sum R := S85G soft_shape_inf k
theorem S85_ok0 {R : Type} (k : Nat) : SumOk Try.prog 85 false (S85 k : Sum R) := by
  intro args H K r h
  unfold S85 S85G at h
  split at h
  · exact fnK_sound (cx85_ok k) 6 85 _ _ K r ((soft_shape_inf_gen soft_shape_sign soft_shape_full k _ _ _ _ K).trans h)
  · cases h
theorem S85_ok {R : Type} (k : Nat) : SumOk Try.prog 85 true (S85 k : Sum R) := by
  refine sumOk_keep (S85_ok0 k) ?_
  intro args H K r h
  unfold S85 S85G at h ⊢
  split at h
  · refine Eq.trans ?_ h
    show soft_shape_inf k _ _ _ _ _ = soft_shape_inf k _ _ _ _ _
    congr 1
    all_goals first | exact (funext fun q1 => if_pos (keeps_app _ _ _ [])) | skip
  · cases h
-- function 70: (plumbline/soft.shape).most
noncomputable def fi70 : FnI := ⟨70, Try.f70, []⟩
theorem en70 : Enters Try.prog 70 := enters_of Try.func70 (c := ((Try.f70).body.getD .skip)) (by kernel_rfl) (by kernel_rfl)
noncomputable def cx70 {R : Type} (k : Nat) : Cx R := mkCx Ty exts [(85, true, S85 k)] fi70 [] []
theorem cx70_ok {R : Type} (k : Nat) : CxOk Try.prog (cx70 k : Cx R) := mkCx_ok (c := ((Try.f70).body.getD .skip)) ty_ok mixed exts_ok (allSum_cons (S85_ok k) en85 allSum_nil) Try.func70 en70 (by kernel_rfl) (by kernel_rfl) allLoop_nil allCut_nil
@[reducible] def soft_shape_mostY (R : Type) : Type := Nat → Int → Int → Int → Bool → (Int → Option R) → Option R
noncomputable def soft_shape_mostT {R : Type} (soft_shape_inf : soft_shape_infY R) (k : Nat) (a1 : Int) (a2 : Int) (a3 : Int) (a4 : Bool) (K0 : Int → Option R) : Option R :=
  soft_shape_inf k a1 a2 a3 a4 (fun r1 =>
    K0 (Wu64 (r1 - 1)))
noncomputable def soft_shape_most {R : Type} (k : Nat) (a1 : Int) (a2 : Int) (a3 : Int) (a4 : Bool) (K0 : Int → Option R) : Option R := soft_shape_mostT soft_shape_inf k a1 a2 a3 a4 K0
theorem soft_shape_most_gen {R : Type} (soft_shape_inf : soft_shape_infY R) (k : Nat) (a1 : Int) (a2 : Int) (a3 : Int) (a4 : Bool) (K : AV → Heap → Option R) :
    fnK (mkCx Ty exts [(85, true, S85G soft_shape_inf k)] fi70 [] []) 6 70 [.agg [.i .i64 a1, .i .i64 a2, .i .i64 a3], .b a4] ⟨0, []⟩ K = soft_shape_mostT soft_shape_inf k a1 a2 a3 a4 (fun q1 => K (.i .u64 q1) ⟨0, []⟩) := by kernel_rfl
noncomputable def S70G {R : Type} (soft_shape_most : soft_shape_mostY R) (k : Nat) : Sum R := fun args H K => match args, H with
  | [.agg [.i .i64 a1, .i .i64 a2, .i .i64 a3], .b a4], ⟨0, []⟩ => soft_shape_most k a1 a2 a3 a4 (fun q1 => K (.i .u64 q1) ⟨0, []⟩)
  | _, _ => none
noncomputable def S70 {R : Type} (k : Nat) : Sum R := S70G soft_shape_most k
theorem S70_ok0 {R : Type} (k : Nat) : SumOk Try.prog 70 false (S70 k : Sum R) := by
  intro args H K r h
  unfold S70 S70G at h
  split at h
  · exact fnK_sound (cx70_ok k) 6 70 _ _ K r ((soft_shape_most_gen soft_shape_inf k _ _ _ _ K).trans h)
  · cases h
theorem S70_ok {R : Type} (k : Nat) : SumOk Try.prog 70 true (S70 k : Sum R) := by
  refine sumOk_keep (S70_ok0 k) ?_
  intro args H K r h
  unfold S70 S70G at h ⊢
  split at h
  · refine Eq.trans ?_ h
    show soft_shape_most k _ _ _ _ _ = soft_shape_most k _ _ _ _ _
    congr 1
    all_goals first | exact (funext fun q1 => if_pos (keeps_app _ _ _ [])) | skip
  · cases h
-- function 89: plumbline/soft.rounderOf$2
noncomputable def fi89 : FnI := ⟨89, Try.f89, []⟩
theorem en89 : Enters Try.prog 89 := enters_of Try.func89 (c := ((Try.f89).body.getD .skip)) (by kernel_rfl) (by kernel_rfl)
noncomputable def cx89 {R : Type} (k : Nat) : Cx R := mkCx Ty exts [] fi89 [] []
theorem cx89_ok {R : Type} (k : Nat) : CxOk Try.prog (cx89 k : Cx R) := mkCx_ok (c := ((Try.f89).body.getD .skip)) ty_ok mixed exts_ok allSum_nil Try.func89 en89 (by kernel_rfl) (by kernel_rfl) allLoop_nil allCut_nil
@[reducible] def soft_rounderOf_2Y (R : Type) : Type := Nat → Bool → Bool → Bool → (Bool → Option R) → Option R
noncomputable def soft_rounderOf_2T {R : Type} (k : Nat) (a1 : Bool) (a2 : Bool) (a3 : Bool) (K0 : Bool → Option R) : Option R :=
  K0 false
noncomputable def soft_rounderOf_2 {R : Type} (k : Nat) (a1 : Bool) (a2 : Bool) (a3 : Bool) (K0 : Bool → Option R) : Option R := soft_rounderOf_2T k a1 a2 a3 K0
theorem soft_rounderOf_2_gen {R : Type} (k : Nat) (a1 : Bool) (a2 : Bool) (a3 : Bool) (K : AV → Heap → Option R) :
    fnK (mkCx Ty exts [] fi89 [] []) 6 89 [.b a1, .b a2, .b a3] ⟨0, []⟩ K = soft_rounderOf_2T k a1 a2 a3 (fun q1 => K (.b q1) ⟨0, []⟩) := by kernel_rfl
noncomputable def S89G {R : Type} (soft_rounderOf_2 : soft_rounderOf_2Y R) (k : Nat) : Sum R := fun args H K => match args, H with
  | [.b a1, .b a2, .b a3], ⟨0, []⟩ => soft_rounderOf_2 k a1 a2 a3 (fun q1 => K (.b q1) ⟨0, []⟩)
  | _, _ => none
noncomputable def S89 {R : Type} (k : Nat) : Sum R := S89G soft_rounderOf_2 k
theorem S89_ok0 {R : Type} (k : Nat) : SumOk Try.prog 89 false (S89 k : Sum R) := by
  intro args H K r h
  unfold S89 S89G at h
  split at h
  · exact fnK_sound (cx89_ok k) 6 89 _ _ K r ((soft_rounderOf_2_gen k _ _ _ K).trans h)
  · cases h
theorem S89_ok {R : Type} (k : Nat) : SumOk Try.prog 89 true (S89 k : Sum R) := by
  refine sumOk_keep (S89_ok0 k) ?_
  intro args H K r h
  unfold S89 S89G at h ⊢
  split at h
  · refine Eq.trans ?_ h
    show soft_rounderOf_2 k _ _ _ _ = soft_rounderOf_2 k _ _ _ _
    congr 1
    all_goals first | exact (funext fun q1 => if_pos (keeps_app _ _ _ [])) | skip
  · cases h
-- function 90: plumbline/soft.rounderOf$3
noncomputable def fi90 : FnI := ⟨90, Try.f90, []⟩
theorem en90 : Enters Try.prog 90 := enters_of Try.func90 (c := ((Try.f90).body.getD .skip)) (by kernel_rfl) (by kernel_rfl)
noncomputable def cx90 {R : Type} (k : Nat) : Cx R := mkCx Ty exts [] fi90 [] []
theorem cx90_ok {R : Type} (k : Nat) : CxOk Try.prog (cx90 k : Cx R) := mkCx_ok (c := ((Try.f90).body.getD .skip)) ty_ok mixed exts_ok allSum_nil Try.func90 en90 (by kernel_rfl) (by kernel_rfl) allLoop_nil allCut_nil
@[reducible] def soft_rounderOf_3Y (R : Type) : Type := Nat → Bool → Bool → Bool → (Bool → Option R) → Option R
noncomputable def soft_rounderOf_3T {R : Type} (k : Nat) (a1 : Bool) (a2 : Bool) (a3 : Bool) (K0 : Bool → Option R) : Option R :=
  cond a2 (
    cond a3 (
      K0 true) (
      K0 a1)) (
    K0 false)
noncomputable def soft_rounderOf_3 {R : Type} (k : Nat) (a1 : Bool) (a2 : Bool) (a3 : Bool) (K0 : Bool → Option R) : Option R := soft_rounderOf_3T k a1 a2 a3 K0
theorem soft_rounderOf_3_gen {R : Type} (k : Nat) (a1 : Bool) (a2 : Bool) (a3 : Bool) (K : AV → Heap → Option R) :
    fnK (mkCx Ty exts [] fi90 [] []) 6 90 [.b a1, .b a2, .b a3] ⟨0, []⟩ K = soft_rounderOf_3T k a1 a2 a3 (fun q1 => K (.b q1) ⟨0, []⟩) := by kernel_rfl
noncomputable def S90G {R : Type} (soft_rounderOf_3 : soft_rounderOf_3Y R) (k : Nat) : Sum R := fun args H K => match args, H with
  | [.b a1, .b a2, .b a3], ⟨0, []⟩ => soft_rounderOf_3 k a1 a2 a3 (fun q1 => K (.b q1) ⟨0, []⟩)
  | _, _ => none
noncomputable def S90 {R : Type} (k : Nat) : Sum R := S90G soft_rounderOf_3 k
theorem S90_ok0 {R : Type} (k : Nat) : SumOk Try.prog 90 false (S90 k : Sum R) := by
  intro args H K r h
  unfold S90 S90G at h
  split at h
  · exact fnK_sound (cx90_ok k) 6 90 _ _ K r ((soft_rounderOf_3_gen k _ _ _ K).trans h)
  · cases h
theorem S90_ok {R : Type} (k : Nat) : SumOk Try.prog 90 true (S90 k : Sum R) := by
  refine sumOk_keep (S90_ok0 k) ?_
  intro args H K r h
  unfold S90 S90G at h ⊢
  split at h
  · refine Eq.trans ?_ h
    show soft_rounderOf_3 k _ _ _ _ = soft_rounderOf_3 k _ _ _ _
    congr 1
    all_goals first | exact (funext fun q1 => if_pos (keeps_app _ _ _ [])) | skip
  · cases h
-- function 75: (plumbline/soft.shape).round
noncomputable def fi75 : FnI := ⟨75, Try.f75, [(600003, [1, 2, 4, 5, 6, 9]), (600010, [2, 5, 6, 9, 13, 14, 15, 16, 18]), (600015, [2, 5, 6, 9, 13, 14, 15]), (600018, [2, 6, 13, 14, 19]), (2500003, [12]), (2500015, [12]), (2500018, [12]), (5500010, [2, 5, 6, 9, 13, 14, 15])]⟩
theorem en75 : Enters Try.prog 75 := enters_of Try.func75 (c := ((Try.f75).body.getD .skip)) (by kernel_rfl) (by kernel_rfl)
@[reducible] def soft_shape_round_c0Y (R : Type) : Type := Nat → Bool → Bool → Int → Bool → Int → Bool → Int → Int → Int → Int → Int → (Bool → Int → Int → Option R) → Option R
noncomputable def soft_shape_round_c0T {R : Type} (wide_Shr : wide_ShrY R) (k : Nat) (x1 : Bool) (x2 : Bool) (x3 : Int) (x4 : Bool) (x5 : Int) (x6 : Bool) (x7 : Int) (x8 : Int) (x9 : Int) (x10 : Int) (x11 : Int) (K0 : Bool → Int → Int → Option R) : Option R :=
  cond x2 (
    cond (decide (x5 > 129)) (
      wide_Shr k x10 x11 x5 (fun yyr1 yyr2 yyr3 =>
        K0 true yyr1 yyr2)) (
      wide_Shr k x10 x11 x5 (fun yyr4 yyr5 yyr6 =>
        K0 true yyr4 yyr5))) (
    cond (decide (x5 > 129)) (
      cond x6 (
        wide_Shr k x10 x11 x5 (fun yyr7 yyr8 yyr9 =>
          K0 true yyr7 yyr8)) (
        wide_Shr k x10 x11 x5 (fun yyr10 yyr11 yyr12 =>
          K0 (!((x10 == 0) && (x11 == 0))) yyr10 yyr11))) (
      wide_Shr k x10 x11 x5 (fun yyr13 yyr14 yyr15 =>
        K0 x6 yyr13 yyr14)))
noncomputable def soft_shape_round_c0 {R : Type} (k : Nat) (x1 : Bool) (x2 : Bool) (x3 : Int) (x4 : Bool) (x5 : Int) (x6 : Bool) (x7 : Int) (x8 : Int) (x9 : Int) (x10 : Int) (x11 : Int) (K0 : Bool → Int → Int → Option R) : Option R := soft_shape_round_c0T wide_Shr k x1 x2 x3 x4 x5 x6 x7 x8 x9 x10 x11 K0
@[reducible] def soft_shape_round_c3Y (R : Type) : Type := Nat → Bool → Bool → Int → Bool → Int → Bool → Int → Int → Int → Int → Int → (Bool → Int → Int → Option R) → Option R
noncomputable def soft_shape_round_c3T {R : Type} (wide_Shr : wide_ShrY R) (k : Nat) (x1 : Bool) (x2 : Bool) (x3 : Int) (x4 : Bool) (x5 : Int) (x6 : Bool) (x7 : Int) (x8 : Int) (x9 : Int) (x10 : Int) (x11 : Int) (K0 : Bool → Int → Int → Option R) : Option R :=
  cond x2 (
    cond (decide (x5 > 129)) (
      wide_Shr k x10 x11 x5 (fun yyr1 yyr2 yyr3 =>
        K0 true yyr1 yyr2)) (
      wide_Shr k x10 x11 x5 (fun yyr4 yyr5 yyr6 =>
        K0 true yyr4 yyr5))) (
    cond (decide (x5 > 129)) (
      cond x6 (
        wide_Shr k x10 x11 x5 (fun yyr7 yyr8 yyr9 =>
          K0 true yyr7 yyr8)) (
        wide_Shr k x10 x11 x5 (fun yyr10 yyr11 yyr12 =>
          K0 (!((x10 == 0) && (x11 == 0))) yyr10 yyr11))) (
      wide_Shr k x10 x11 x5 (fun yyr13 yyr14 yyr15 =>
        K0 x6 yyr13 yyr14)))
noncomputable def soft_shape_round_c3 {R : Type} (k : Nat) (x1 : Bool) (x2 : Bool) (x3 : Int) (x4 : Bool) (x5 : Int) (x6 : Bool) (x7 : Int) (x8 : Int) (x9 : Int) (x10 : Int) (x11 : Int) (K0 : Bool → Int → Int → Option R) : Option R := soft_shape_round_c3T wide_Shr k x1 x2 x3 x4 x5 x6 x7 x8 x9 x10 x11 K0
@[reducible] def soft_shape_round_c6Y (R : Type) : Type := Nat → Bool → Bool → Int → Bool → Int → Bool → Int → Int → Int → Int → Int → (Bool → Int → Int → Option R) → Option R
noncomputable def soft_shape_round_c6T {R : Type} (wide_Shr : wide_ShrY R) (k : Nat) (x1 : Bool) (x2 : Bool) (x3 : Int) (x4 : Bool) (x5 : Int) (x6 : Bool) (x7 : Int) (x8 : Int) (x9 : Int) (x10 : Int) (x11 : Int) (K0 : Bool → Int → Int → Option R) : Option R :=
  cond x2 (
    cond (decide (x5 > 129)) (
      wide_Shr k x10 x11 x5 (fun yyr1 yyr2 yyr3 =>
        K0 true yyr1 yyr2)) (
      wide_Shr k x10 x11 x5 (fun yyr4 yyr5 yyr6 =>
        K0 true yyr4 yyr5))) (
    cond (decide (x5 > 129)) (
      cond x6 (
        wide_Shr k x10 x11 x5 (fun yyr7 yyr8 yyr9 =>
          K0 true yyr7 yyr8)) (
        wide_Shr k x10 x11 x5 (fun yyr10 yyr11 yyr12 =>
          K0 (!((x10 == 0) && (x11 == 0))) yyr10 yyr11))) (
      wide_Shr k x10 x11 x5 (fun yyr13 yyr14 yyr15 =>
        K0 x6 yyr13 yyr14)))
noncomputable def soft_shape_round_c6 {R : Type} (k : Nat) (x1 : Bool) (x2 : Bool) (x3 : Int) (x4 : Bool) (x5 : Int) (x6 : Bool) (x7 : Int) (x8 : Int) (x9 : Int) (x10 : Int) (x11 : Int) (K0 : Bool → Int → Int → Option R) : Option R := soft_shape_round_c6T wide_Shr k x1 x2 x3 x4 x5 x6 x7 x8 x9 x10 x11 K0
noncomputable def cc75_10 {R : Type} (k : Nat) : Cx R := mkCx Ty exts [(45, true, S45 k), (47, true, S47 k), (66, true, S66 k), (70, true, S70 k), (79, true, S79 k), (81, true, S81 k), (85, true, S85 k), (87, true, S87 k), (88, true, S88 k), (89, true, S89 k), (90, true, S90 k)] fi75 [] []
theorem cc75_10_ok {R : Type} (k : Nat) : CxOk Try.prog (cc75_10 k : Cx R) := mkCx_ok (c := ((Try.f75).body.getD .skip)) ty_ok mixed exts_ok (allSum_cons (S45_ok k) en45 (allSum_cons (S47_ok k) en47 (allSum_cons (S66_ok k) en66 (allSum_cons (S70_ok k) en70 (allSum_cons (S79_ok k) en79 (allSum_cons (S81_ok k) en81 (allSum_cons (S85_ok k) en85 (allSum_cons (S87_ok k) en87 (allSum_cons (S88_ok k) en88 (allSum_cons (S89_ok k) en89 (allSum_cons (S90_ok k) en90 allSum_nil))))))))))) Try.func75 en75 (by kernel_rfl) (by kernel_rfl) allLoop_nil allCut_nil
noncomputable def C75_10G {R : Type} (soft_shape_round_c0 : soft_shape_round_c0Y R) (soft_shape_round_c3 : soft_shape_round_c3Y R) (soft_shape_round_c6 : soft_shape_round_c6Y R) (k : Nat) : LSum R := fun pin T H K => match pin, T, H with
  | 0, [(2, .b x1), (5, .b x2), (6, .ptr 0 0 0 0 0), (9, .ptr 1 0 0 0 0), (13, .ptr 2 0 0 0 0), (14, .i .i64 x3), (15, .b x4), (16, .i .i64 x5), (18, .b x6)], ⟨3, [(0, some ⟨0, false, .cells [.i .i64 x7, .i .i64 x8, .i .i64 x9]⟩), (1, some ⟨1, false, .cells [.i .u64 x10, .i .u64 x11]⟩), (2, some ⟨2, false, .cells [.fn 88 []]⟩)]⟩ => soft_shape_round_c0 k x1 x2 x3 x4 x5 x6 x7 x8 x9 x10 x11 (fun q2 q8 q9 => K .normal [(2, .b x1), (5, .b q2), (6, .ptr 0 0 0 0 0), (9, .ptr 1 0 0 0 0), (13, .ptr 2 0 0 0 0), (14, .i .i64 x3), (15, .b x4)] ⟨3, [(0, some ⟨0, false, .cells [.i .i64 x7, .i .i64 x8, .i .i64 x9]⟩), (1, some ⟨1, false, .cells [.i .u64 q8, .i .u64 q9]⟩), (2, some ⟨2, false, .cells [.fn 88 []]⟩)]⟩)
  | 0, [(2, .b x1), (5, .b x2), (6, .ptr 0 0 0 0 0), (9, .ptr 1 0 0 0 0), (13, .ptr 2 0 0 0 0), (14, .i .i64 x3), (15, .b x4), (16, .i .i64 x5), (18, .b x6)], ⟨3, [(0, some ⟨0, false, .cells [.i .i64 x7, .i .i64 x8, .i .i64 x9]⟩), (1, some ⟨1, false, .cells [.i .u64 x10, .i .u64 x11]⟩), (2, some ⟨2, false, .cells [.fn 89 []]⟩)]⟩ => soft_shape_round_c3 k x1 x2 x3 x4 x5 x6 x7 x8 x9 x10 x11 (fun q2 q8 q9 => K .normal [(2, .b x1), (5, .b q2), (6, .ptr 0 0 0 0 0), (9, .ptr 1 0 0 0 0), (13, .ptr 2 0 0 0 0), (14, .i .i64 x3), (15, .b x4)] ⟨3, [(0, some ⟨0, false, .cells [.i .i64 x7, .i .i64 x8, .i .i64 x9]⟩), (1, some ⟨1, false, .cells [.i .u64 q8, .i .u64 q9]⟩), (2, some ⟨2, false, .cells [.fn 89 []]⟩)]⟩)
  | 0, [(2, .b x1), (5, .b x2), (6, .ptr 0 0 0 0 0), (9, .ptr 1 0 0 0 0), (13, .ptr 2 0 0 0 0), (14, .i .i64 x3), (15, .b x4), (16, .i .i64 x5), (18, .b x6)], ⟨3, [(0, some ⟨0, false, .cells [.i .i64 x7, .i .i64 x8, .i .i64 x9]⟩), (1, some ⟨1, false, .cells [.i .u64 x10, .i .u64 x11]⟩), (2, some ⟨2, false, .cells [.fn 90 []]⟩)]⟩ => soft_shape_round_c6 k x1 x2 x3 x4 x5 x6 x7 x8 x9 x10 x11 (fun q2 q8 q9 => K .normal [(2, .b x1), (5, .b q2), (6, .ptr 0 0 0 0 0), (9, .ptr 1 0 0 0 0), (13, .ptr 2 0 0 0 0), (14, .i .i64 x3), (15, .b x4)] ⟨3, [(0, some ⟨0, false, .cells [.i .i64 x7, .i .i64 x8, .i .i64 x9]⟩), (1, some ⟨1, false, .cells [.i .u64 q8, .i .u64 q9]⟩), (2, some ⟨2, false, .cells [.fn 90 []]⟩)]⟩)
  | _, _, _ => none
noncomputable def C75_10 {R : Type} (k : Nat) : LSum R := C75_10G soft_shape_round_c0 soft_shape_round_c3 soft_shape_round_c6 k
theorem soft_shape_round_c0_gen {R : Type} (wide_Len : wide_LenY R) (wide_Shl : wide_ShlY R) (wide_Shr : wide_ShrY R) (soft_shape_most : soft_shape_mostY R) (soft_shape_sign : soft_shape_signY R) (soft_shape_full : soft_shape_fullY R) (soft_shape_inf : soft_shape_infY R) (soft_rounderOf : soft_rounderOfY R) (soft_rounderOf_1 : soft_rounderOf_1Y R) (soft_rounderOf_2 : soft_rounderOf_2Y R) (soft_rounderOf_3 : soft_rounderOf_3Y R) (k : Nat) (x1 : Bool) (x2 : Bool) (x3 : Int) (x4 : Bool) (x5 : Int) (x6 : Bool) (x7 : Int) (x8 : Int) (x9 : Int) (x10 : Int) (x11 : Int) (K : Kont R) :
    (fun C => codeK C (run C 4)) (mkCx Ty exts [(45, true, S45G wide_Len k), (47, true, S47G wide_Shl k), (66, true, S66G wide_Shr k), (70, true, S70G soft_shape_most k), (79, true, S79G soft_shape_sign k), (81, true, S81G soft_shape_full k), (85, true, S85G soft_shape_inf k), (87, true, S87G soft_rounderOf k), (88, true, S88G soft_rounderOf_1 k), (89, true, S89G soft_rounderOf_2 k), (90, true, S90G soft_rounderOf_3 k)] fi75 [] []) 0 fi75 (cutAt ((Try.f75).body.getD .skip) 10) [(2, .b x1), (5, .b x2), (6, .ptr 0 0 0 0 0), (9, .ptr 1 0 0 0 0), (13, .ptr 2 0 0 0 0), (14, .i .i64 x3), (15, .b x4), (16, .i .i64 x5), (18, .b x6)] ⟨3, [(0, some ⟨0, false, .cells [.i .i64 x7, .i .i64 x8, .i .i64 x9]⟩), (1, some ⟨1, false, .cells [.i .u64 x10, .i .u64 x11]⟩), (2, some ⟨2, false, .cells [.fn 88 []]⟩)]⟩ (exitNorm fi75.ann 500010 0 K) = soft_shape_round_c0T wide_Shr k x1 x2 x3 x4 x5 x6 x7 x8 x9 x10 x11 (fun q2 q8 q9 => K .normal [(2, .b x1), (5, .b q2), (6, .ptr 0 0 0 0 0), (9, .ptr 1 0 0 0 0), (13, .ptr 2 0 0 0 0), (14, .i .i64 x3), (15, .b x4)] ⟨3, [(0, some ⟨0, false, .cells [.i .i64 x7, .i .i64 x8, .i .i64 x9]⟩), (1, some ⟨1, false, .cells [.i .u64 q8, .i .u64 q9]⟩), (2, some ⟨2, false, .cells [.fn 88 []]⟩)]⟩) := by kernel_rfl
theorem soft_shape_round_c3_gen {R : Type} (wide_Len : wide_LenY R) (wide_Shl : wide_ShlY R) (wide_Shr : wide_ShrY R) (soft_shape_most : soft_shape_mostY R) (soft_shape_sign : soft_shape_signY R) (soft_shape_full : soft_shape_fullY R) (soft_shape_inf : soft_shape_infY R) (soft_rounderOf : soft_rounderOfY R) (soft_rounderOf_1 : soft_rounderOf_1Y R) (soft_rounderOf_2 : soft_rounderOf_2Y R) (soft_rounderOf_3 : soft_rounderOf_3Y R) (k : Nat) (x1 : Bool) (x2 : Bool) (x3 : Int) (x4 : Bool) (x5 : Int) (x6 : Bool) (x7 : Int) (x8 : Int) (x9 : Int) (x10 : Int) (x11 : Int) (K : Kont R) :
    (fun C => codeK C (run C 4)) (mkCx Ty exts [(45, true, S45G wide_Len k), (47, true, S47G wide_Shl k), (66, true, S66G wide_Shr k), (70, true, S70G soft_shape_most k), (79, true, S79G soft_shape_sign k), (81, true, S81G soft_shape_full k), (85, true, S85G soft_shape_inf k), (87, true, S87G soft_rounderOf k), (88, true, S88G soft_rounderOf_1 k), (89, true, S89G soft_rounderOf_2 k), (90, true, S90G soft_rounderOf_3 k)] fi75 [] []) 0 fi75 (cutAt ((Try.f75).body.getD .skip) 10) [(2, .b x1), (5, .b x2), (6, .ptr 0 0 0 0 0), (9, .ptr 1 0 0 0 0), (13, .ptr 2 0 0 0 0), (14, .i .i64 x3), (15, .b x4), (16, .i .i64 x5), (18, .b x6)] ⟨3, [(0, some ⟨0, false, .cells [.i .i64 x7, .i .i64 x8, .i .i64 x9]⟩), (1, some ⟨1, false, .cells [.i .u64 x10, .i .u64 x11]⟩), (2, some ⟨2, false, .cells [.fn 89 []]⟩)]⟩ (exitNorm fi75.ann 500010 0 K) = soft_shape_round_c3T wide_Shr k x1 x2 x3 x4 x5 x6 x7 x8 x9 x10 x11 (fun q2 q8 q9 => K .normal [(2, .b x1), (5, .b q2), (6, .ptr 0 0 0 0 0), (9, .ptr 1 0 0 0 0), (13, .ptr 2 0 0 0 0), (14, .i .i64 x3), (15, .b x4)] ⟨3, [(0, some ⟨0, false, .cells [.i .i64 x7, .i .i64 x8, .i .i64 x9]⟩), (1, some ⟨1, false, .cells [.i .u64 q8, .i .u64 q9]⟩), (2, some ⟨2, false, .cells [.fn 89 []]⟩)]⟩) := by kernel_rfl
theorem soft_shape_round_c6_gen {R : Type} (wide_Len : wide_LenY R) (wide_Shl : wide_ShlY R) (wide_Shr : wide_ShrY R) (soft_shape_most : soft_shape_mostY R) (soft_shape_sign : soft_shape_signY R) (soft_shape_full : soft_shape_fullY R) (soft_shape_inf : soft_shape_infY R) (soft_rounderOf : soft_rounderOfY R) (soft_rounderOf_1 : soft_rounderOf_1Y R) (soft_rounderOf_2 : soft_rounderOf_2Y R) (soft_rounderOf_3 : soft_rounderOf_3Y R) (k : Nat) (x1 : Bool) (x2 : Bool) (x3 : Int) (x4 : Bool) (x5 : Int) (x6 : Bool) (x7 : Int) (x8 : Int) (x9 : Int) (x10 : Int) (x11 : Int) (K : Kont R) :
    (fun C => codeK C (run C 4)) (mkCx Ty exts [(45, true, S45G wide_Len k), (47, true, S47G wide_Shl k), (66, true, S66G wide_Shr k), (70, true, S70G soft_shape_most k), (79, true, S79G soft_shape_sign k), (81, true, S81G soft_shape_full k), (85, true, S85G soft_shape_inf k), (87, true, S87G soft_rounderOf k), (88, true, S88G soft_rounderOf_1 k), (89, true, S89G soft_rounderOf_2 k), (90, true, S90G soft_rounderOf_3 k)] fi75 [] []) 0 fi75 (cutAt ((Try.f75).body.getD .skip) 10) [(2, .b x1), (5, .b x2), (6, .ptr 0 0 0 0 0), (9, .ptr 1 0 0 0 0), (13, .ptr 2 0 0 0 0), (14, .i .i64 x3), (15, .b x4), (16, .i .i64 x5), (18, .b x6)] ⟨3, [(0, some ⟨0, false, .cells [.i .i64 x7, .i .i64 x8, .i .i64 x9]⟩), (1, some ⟨1, false, .cells [.i .u64 x10, .i .u64 x11]⟩), (2, some ⟨2, false, .cells [.fn 90 []]⟩)]⟩ (exitNorm fi75.ann 500010 0 K) = soft_shape_round_c6T wide_Shr k x1 x2 x3 x4 x5 x6 x7 x8 x9 x10 x11 (fun q2 q8 q9 => K .normal [(2, .b x1), (5, .b q2), (6, .ptr 0 0 0 0 0), (9, .ptr 1 0 0 0 0), (13, .ptr 2 0 0 0 0), (14, .i .i64 x3), (15, .b x4)] ⟨3, [(0, some ⟨0, false, .cells [.i .i64 x7, .i .i64 x8, .i .i64 x9]⟩), (1, some ⟨1, false, .cells [.i .u64 q8, .i .u64 q9]⟩), (2, some ⟨2, false, .cells [.fn 90 []]⟩)]⟩) := by kernel_rfl
theorem C75_10_cok {R : Type} (k : Nat) : CodeOk Try.prog (cc75_10 k : Cx R) fi75 (cutAt ((Try.f75).body.getD .skip) 10) := cutAt_ok (((cc75_10_ok k).fns 75 fi75 (by kernel_rfl)).2.2.2 ((Try.f75).body.getD .skip) (by kernel_rfl))
theorem C75_10_ok {R : Type} (k : Nat) : CutOk Try.prog (Try.f75).ntmps (cutAt ((Try.f75).body.getD .skip) 10) (C75_10 k : LSum R) := by
  intro pin T H K r h
  unfold C75_10 C75_10G at h
  split at h
  · obtain ⟨ex, T1, H1, h, hb⟩ := codeK_sound (cc75_10_ok k) (run_sound (cc75_10_ok k) 4) _ fi75 _ _ _ _ _ (C75_10_cok k) ((soft_shape_round_c0_gen wide_Len wide_Shl wide_Shr soft_shape_most soft_shape_sign soft_shape_full soft_shape_inf soft_rounderOf soft_rounderOf_1 soft_rounderOf_2 soft_rounderOf_3 k _ _ _ _ _ _ _ _ _ _ _ K).trans h)
    exact cut_step hb h
  · obtain ⟨ex, T1, H1, h, hb⟩ := codeK_sound (cc75_10_ok k) (run_sound (cc75_10_ok k) 4) _ fi75 _ _ _ _ _ (C75_10_cok k) ((soft_shape_round_c3_gen wide_Len wide_Shl wide_Shr soft_shape_most soft_shape_sign soft_shape_full soft_shape_inf soft_rounderOf soft_rounderOf_1 soft_rounderOf_2 soft_rounderOf_3 k _ _ _ _ _ _ _ _ _ _ _ K).trans h)
    exact cut_step hb h
  · obtain ⟨ex, T1, H1, h, hb⟩ := codeK_sound (cc75_10_ok k) (run_sound (cc75_10_ok k) 4) _ fi75 _ _ _ _ _ (C75_10_cok k) ((soft_shape_round_c6_gen wide_Len wide_Shl wide_Shr soft_shape_most soft_shape_sign soft_shape_full soft_shape_inf soft_rounderOf soft_rounderOf_1 soft_rounderOf_2 soft_rounderOf_3 k _ _ _ _ _ _ _ _ _ _ _ K).trans h)
    exact cut_step hb h
  · cases h
@[reducible] def soft_shape_round_c1Y (R : Type) : Type := Nat → Bool → Int → Int → Int → Int → Int → (Int → Option R) → Option R
noncomputable def soft_shape_round_c1T {R : Type} (soft_rounderOf_1 : soft_rounderOf_1Y R) (soft_shape_full : soft_shape_fullY R) (soft_shape_inf : soft_shape_infY R) (soft_shape_most : soft_shape_mostY R) (soft_shape_sign : soft_shape_signY R) (k : Nat) (x1 : Bool) (x2 : Int) (x3 : Int) (x4 : Int) (x5 : Int) (x6 : Int) (K0 : Int → Option R) : Option R :=
  cond (decide ((Wi64 (x4 + 1)) < 0)) (
    none) (
    cond ((shr .u64 x3 (Wi64 (x4 + 1))) != 0) (
      cond (decide (x4 < 0)) (
        none) (
        cond ((shr .u64 (shr .u64 x3 1) x4) == 0) (
          soft_shape_sign k x4 x5 x6 x1 (fun yyyr1 =>
            K0 (bOr .u64 yyyr1 (shr .u64 x3 1)))) (
          soft_shape_full k x4 x5 x6 (fun yyyr2 =>
            cond (decide ((Wu64 (Wi64 ((Wi64 ((Wi64 (x2 + 1)) - x6)) + 1))) < yyyr2)) (
              soft_shape_sign k x4 x5 x6 x1 (fun yyyr3 =>
                cond (decide (x4 < 0)) (
                  none) (
                  cond (decide (x4 < 0)) (
                    none) (
                    K0 (bOr .u64 (bOr .u64 yyyr3 (shl .u64 (Wu64 (Wi64 ((Wi64 ((Wi64 (x2 + 1)) - x6)) + 1))) x4)) (bAnd .u64 (shr .u64 x3 1) (Wu64 ((shl .u64 1 x4) - 1)))))))) (
              soft_rounderOf_1 k true true true (fun yyyr4 =>
                cond yyyr4 (
                  soft_shape_inf k x4 x5 x6 x1 (fun yyyr5 =>
                    K0 yyyr5)) (
                  soft_shape_most k x4 x5 x6 x1 (fun yyyr6 =>
                    K0 yyyr6)))))))) (
      cond (decide (x4 < 0)) (
        none) (
        cond ((shr .u64 x3 x4) == 0) (
          soft_shape_sign k x4 x5 x6 x1 (fun yyyr7 =>
            K0 (bOr .u64 yyyr7 x3))) (
          soft_shape_full k x4 x5 x6 (fun yyyr8 =>
            cond (decide ((Wu64 (Wi64 ((Wi64 (x2 - x6)) + 1))) < yyyr8)) (
              soft_shape_sign k x4 x5 x6 x1 (fun yyyr9 =>
                cond (decide (x4 < 0)) (
                  none) (
                  cond (decide (x4 < 0)) (
                    none) (
                    K0 (bOr .u64 (bOr .u64 yyyr9 (shl .u64 (Wu64 (Wi64 ((Wi64 (x2 - x6)) + 1))) x4)) (bAnd .u64 x3 (Wu64 ((shl .u64 1 x4) - 1)))))))) (
              soft_rounderOf_1 k true true true (fun yyyr10 =>
                cond yyyr10 (
                  soft_shape_inf k x4 x5 x6 x1 (fun yyyr11 =>
                    K0 yyyr11)) (
                  soft_shape_most k x4 x5 x6 x1 (fun yyyr12 =>
                    K0 yyyr12)))))))))
noncomputable def soft_shape_round_c1 {R : Type} (k : Nat) (x1 : Bool) (x2 : Int) (x3 : Int) (x4 : Int) (x5 : Int) (x6 : Int) (K0 : Int → Option R) : Option R := soft_shape_round_c1T soft_rounderOf_1 soft_shape_full soft_shape_inf soft_shape_most soft_shape_sign k x1 x2 x3 x4 x5 x6 K0
@[reducible] def soft_shape_round_c4Y (R : Type) : Type := Nat → Bool → Int → Int → Int → Int → Int → (Int → Option R) → Option R
noncomputable def soft_shape_round_c4T {R : Type} (soft_rounderOf_2 : soft_rounderOf_2Y R) (soft_shape_full : soft_shape_fullY R) (soft_shape_inf : soft_shape_infY R) (soft_shape_most : soft_shape_mostY R) (soft_shape_sign : soft_shape_signY R) (k : Nat) (x1 : Bool) (x2 : Int) (x3 : Int) (x4 : Int) (x5 : Int) (x6 : Int) (K0 : Int → Option R) : Option R :=
  cond (decide ((Wi64 (x4 + 1)) < 0)) (
    none) (
    cond ((shr .u64 x3 (Wi64 (x4 + 1))) != 0) (
      cond (decide (x4 < 0)) (
        none) (
        cond ((shr .u64 (shr .u64 x3 1) x4) == 0) (
          soft_shape_sign k x4 x5 x6 x1 (fun yyyr1 =>
            K0 (bOr .u64 yyyr1 (shr .u64 x3 1)))) (
          soft_shape_full k x4 x5 x6 (fun yyyr2 =>
            cond (decide ((Wu64 (Wi64 ((Wi64 ((Wi64 (x2 + 1)) - x6)) + 1))) < yyyr2)) (
              soft_shape_sign k x4 x5 x6 x1 (fun yyyr3 =>
                cond (decide (x4 < 0)) (
                  none) (
                  cond (decide (x4 < 0)) (
                    none) (
                    K0 (bOr .u64 (bOr .u64 yyyr3 (shl .u64 (Wu64 (Wi64 ((Wi64 ((Wi64 (x2 + 1)) - x6)) + 1))) x4)) (bAnd .u64 (shr .u64 x3 1) (Wu64 ((shl .u64 1 x4) - 1)))))))) (
              soft_rounderOf_2 k true true true (fun yyyr4 =>
                cond yyyr4 (
                  soft_shape_inf k x4 x5 x6 x1 (fun yyyr5 =>
                    K0 yyyr5)) (
                  soft_shape_most k x4 x5 x6 x1 (fun yyyr6 =>
                    K0 yyyr6)))))))) (
      cond (decide (x4 < 0)) (
        none) (
        cond ((shr .u64 x3 x4) == 0) (
          soft_shape_sign k x4 x5 x6 x1 (fun yyyr7 =>
            K0 (bOr .u64 yyyr7 x3))) (
          soft_shape_full k x4 x5 x6 (fun yyyr8 =>
            cond (decide ((Wu64 (Wi64 ((Wi64 (x2 - x6)) + 1))) < yyyr8)) (
              soft_shape_sign k x4 x5 x6 x1 (fun yyyr9 =>
                cond (decide (x4 < 0)) (
                  none) (
                  cond (decide (x4 < 0)) (
                    none) (
                    K0 (bOr .u64 (bOr .u64 yyyr9 (shl .u64 (Wu64 (Wi64 ((Wi64 (x2 - x6)) + 1))) x4)) (bAnd .u64 x3 (Wu64 ((shl .u64 1 x4) - 1)))))))) (
              soft_rounderOf_2 k true true true (fun yyyr10 =>
                cond yyyr10 (
                  soft_shape_inf k x4 x5 x6 x1 (fun yyyr11 =>
                    K0 yyyr11)) (
                  soft_shape_most k x4 x5 x6 x1 (fun yyyr12 =>
                    K0 yyyr12)))))))))
noncomputable def soft_shape_round_c4 {R : Type} (k : Nat) (x1 : Bool) (x2 : Int) (x3 : Int) (x4 : Int) (x5 : Int) (x6 : Int) (K0 : Int → Option R) : Option R := soft_shape_round_c4T soft_rounderOf_2 soft_shape_full soft_shape_inf soft_shape_most soft_shape_sign k x1 x2 x3 x4 x5 x6 K0
@[reducible] def soft_shape_round_c7Y (R : Type) : Type := Nat → Bool → Int → Int → Int → Int → Int → (Int → Option R) → Option R
noncomputable def soft_shape_round_c7T {R : Type} (soft_rounderOf_3 : soft_rounderOf_3Y R) (soft_shape_full : soft_shape_fullY R) (soft_shape_inf : soft_shape_infY R) (soft_shape_most : soft_shape_mostY R) (soft_shape_sign : soft_shape_signY R) (k : Nat) (x1 : Bool) (x2 : Int) (x3 : Int) (x4 : Int) (x5 : Int) (x6 : Int) (K0 : Int → Option R) : Option R :=
  cond (decide ((Wi64 (x4 + 1)) < 0)) (
    none) (
    cond ((shr .u64 x3 (Wi64 (x4 + 1))) != 0) (
      cond (decide (x4 < 0)) (
        none) (
        cond ((shr .u64 (shr .u64 x3 1) x4) == 0) (
          soft_shape_sign k x4 x5 x6 x1 (fun yyyr1 =>
            K0 (bOr .u64 yyyr1 (shr .u64 x3 1)))) (
          soft_shape_full k x4 x5 x6 (fun yyyr2 =>
            cond (decide ((Wu64 (Wi64 ((Wi64 ((Wi64 (x2 + 1)) - x6)) + 1))) < yyyr2)) (
              soft_shape_sign k x4 x5 x6 x1 (fun yyyr3 =>
                cond (decide (x4 < 0)) (
                  none) (
                  cond (decide (x4 < 0)) (
                    none) (
                    K0 (bOr .u64 (bOr .u64 yyyr3 (shl .u64 (Wu64 (Wi64 ((Wi64 ((Wi64 (x2 + 1)) - x6)) + 1))) x4)) (bAnd .u64 (shr .u64 x3 1) (Wu64 ((shl .u64 1 x4) - 1)))))))) (
              soft_rounderOf_3 k true true true (fun yyyr4 =>
                cond yyyr4 (
                  soft_shape_inf k x4 x5 x6 x1 (fun yyyr5 =>
                    K0 yyyr5)) (
                  soft_shape_most k x4 x5 x6 x1 (fun yyyr6 =>
                    K0 yyyr6)))))))) (
      cond (decide (x4 < 0)) (
        none) (
        cond ((shr .u64 x3 x4) == 0) (
          soft_shape_sign k x4 x5 x6 x1 (fun yyyr7 =>
            K0 (bOr .u64 yyyr7 x3))) (
          soft_shape_full k x4 x5 x6 (fun yyyr8 =>
            cond (decide ((Wu64 (Wi64 ((Wi64 (x2 - x6)) + 1))) < yyyr8)) (
              soft_shape_sign k x4 x5 x6 x1 (fun yyyr9 =>
                cond (decide (x4 < 0)) (
                  none) (
                  cond (decide (x4 < 0)) (
                    none) (
                    K0 (bOr .u64 (bOr .u64 yyyr9 (shl .u64 (Wu64 (Wi64 ((Wi64 (x2 - x6)) + 1))) x4)) (bAnd .u64 x3 (Wu64 ((shl .u64 1 x4) - 1)))))))) (
              soft_rounderOf_3 k true true true (fun yyyr10 =>
                cond yyyr10 (
                  soft_shape_inf k x4 x5 x6 x1 (fun yyyr11 =>
                    K0 yyyr11)) (
                  soft_shape_most k x4 x5 x6 x1 (fun yyyr12 =>
                    K0 yyyr12)))))))))
noncomputable def soft_shape_round_c7 {R : Type} (k : Nat) (x1 : Bool) (x2 : Int) (x3 : Int) (x4 : Int) (x5 : Int) (x6 : Int) (K0 : Int → Option R) : Option R := soft_shape_round_c7T soft_rounderOf_3 soft_shape_full soft_shape_inf soft_shape_most soft_shape_sign k x1 x2 x3 x4 x5 x6 K0
noncomputable def cc75_18 {R : Type} (k : Nat) : Cx R := mkCx Ty exts [(45, true, S45 k), (47, true, S47 k), (66, true, S66 k), (70, true, S70 k), (79, true, S79 k), (81, true, S81 k), (85, true, S85 k), (87, true, S87 k), (88, true, S88 k), (89, true, S89 k), (90, true, S90 k)] fi75 [] [(10, C75_10 k)]
theorem cc75_18_ok {R : Type} (k : Nat) : CxOk Try.prog (cc75_18 k : Cx R) := mkCx_ok (c := ((Try.f75).body.getD .skip)) ty_ok mixed exts_ok (allSum_cons (S45_ok k) en45 (allSum_cons (S47_ok k) en47 (allSum_cons (S66_ok k) en66 (allSum_cons (S70_ok k) en70 (allSum_cons (S79_ok k) en79 (allSum_cons (S81_ok k) en81 (allSum_cons (S85_ok k) en85 (allSum_cons (S87_ok k) en87 (allSum_cons (S88_ok k) en88 (allSum_cons (S89_ok k) en89 (allSum_cons (S90_ok k) en90 allSum_nil))))))))))) Try.func75 en75 (by kernel_rfl) (by kernel_rfl) allLoop_nil (allCut_cons (C75_10_ok k) (by kernel_rfl) allCut_nil)
noncomputable def C75_18G {R : Type} (soft_shape_round_c1 : soft_shape_round_c1Y R) (soft_shape_round_c4 : soft_shape_round_c4Y R) (soft_shape_round_c7 : soft_shape_round_c7Y R) (k : Nat) : LSum R := fun pin T H K => match pin, T, H with
  | 0, [(2, .b x1), (6, .ptr 0 0 0 0 0), (13, .ptr 1 0 0 0 0), (14, .i .i64 x2), (19, .i .u64 x3)], ⟨2, [(0, some ⟨0, false, .cells [.i .i64 x4, .i .i64 x5, .i .i64 x6]⟩), (1, some ⟨1, false, .cells [.fn 88 []]⟩)]⟩ => soft_shape_round_c1 k x1 x2 x3 x4 x5 x6 (fun q1 => K .ret [(12, .i .u64 q1)] ⟨0, []⟩)
  | 0, [(2, .b x1), (6, .ptr 0 0 0 0 0), (13, .ptr 1 0 0 0 0), (14, .i .i64 x2), (19, .i .u64 x3)], ⟨2, [(0, some ⟨0, false, .cells [.i .i64 x4, .i .i64 x5, .i .i64 x6]⟩), (1, some ⟨1, false, .cells [.fn 89 []]⟩)]⟩ => soft_shape_round_c4 k x1 x2 x3 x4 x5 x6 (fun q1 => K .ret [(12, .i .u64 q1)] ⟨0, []⟩)
  | 0, [(2, .b x1), (6, .ptr 0 0 0 0 0), (13, .ptr 1 0 0 0 0), (14, .i .i64 x2), (19, .i .u64 x3)], ⟨2, [(0, some ⟨0, false, .cells [.i .i64 x4, .i .i64 x5, .i .i64 x6]⟩), (1, some ⟨1, false, .cells [.fn 90 []]⟩)]⟩ => soft_shape_round_c7 k x1 x2 x3 x4 x5 x6 (fun q1 => K .ret [(12, .i .u64 q1)] ⟨0, []⟩)
  | _, _, _ => none
noncomputable def C75_18 {R : Type} (k : Nat) : LSum R := C75_18G soft_shape_round_c1 soft_shape_round_c4 soft_shape_round_c7 k
theorem soft_shape_round_c1_gen {R : Type} (wide_Len : wide_LenY R) (wide_Shl : wide_ShlY R) (wide_Shr : wide_ShrY R) (soft_shape_most : soft_shape_mostY R) (soft_shape_sign : soft_shape_signY R) (soft_shape_full : soft_shape_fullY R) (soft_shape_inf : soft_shape_infY R) (soft_rounderOf : soft_rounderOfY R) (soft_rounderOf_1 : soft_rounderOf_1Y R) (soft_rounderOf_2 : soft_rounderOf_2Y R) (soft_rounderOf_3 : soft_rounderOf_3Y R) (soft_shape_round_c0 : soft_shape_round_c0Y R) (soft_shape_round_c3 : soft_shape_round_c3Y R) (soft_shape_round_c6 : soft_shape_round_c6Y R) (k : Nat) (x1 : Bool) (x2 : Int) (x3 : Int) (x4 : Int) (x5 : Int) (x6 : Int) (K : Kont R) :
    (fun C => codeK C (run C 4)) (mkCx Ty exts [(45, true, S45G wide_Len k), (47, true, S47G wide_Shl k), (66, true, S66G wide_Shr k), (70, true, S70G soft_shape_most k), (79, true, S79G soft_shape_sign k), (81, true, S81G soft_shape_full k), (85, true, S85G soft_shape_inf k), (87, true, S87G soft_rounderOf k), (88, true, S88G soft_rounderOf_1 k), (89, true, S89G soft_rounderOf_2 k), (90, true, S90G soft_rounderOf_3 k)] fi75 [] [(10, C75_10G soft_shape_round_c0 soft_shape_round_c3 soft_shape_round_c6 k)]) 0 fi75 (cutAt ((Try.f75).body.getD .skip) 18) [(2, .b x1), (6, .ptr 0 0 0 0 0), (13, .ptr 1 0 0 0 0), (14, .i .i64 x2), (19, .i .u64 x3)] ⟨2, [(0, some ⟨0, false, .cells [.i .i64 x4, .i .i64 x5, .i .i64 x6]⟩), (1, some ⟨1, false, .cells [.fn 88 []]⟩)]⟩ (exitNorm fi75.ann 500018 0 K) = soft_shape_round_c1T soft_rounderOf_1 soft_shape_full soft_shape_inf soft_shape_most soft_shape_sign k x1 x2 x3 x4 x5 x6 (fun q1 => K .ret [(12, .i .u64 q1)] ⟨0, []⟩) := by kernel_rfl
theorem soft_shape_round_c4_gen {R : Type} (wide_Len : wide_LenY R) (wide_Shl : wide_ShlY R) (wide_Shr : wide_ShrY R) (soft_shape_most : soft_shape_mostY R) (soft_shape_sign : soft_shape_signY R) (soft_shape_full : soft_shape_fullY R) (soft_shape_inf : soft_shape_infY R) (soft_rounderOf : soft_rounderOfY R) (soft_rounderOf_1 : soft_rounderOf_1Y R) (soft_rounderOf_2 : soft_rounderOf_2Y R) (soft_rounderOf_3 : soft_rounderOf_3Y R) (soft_shape_round_c0 : soft_shape_round_c0Y R) (soft_shape_round_c3 : soft_shape_round_c3Y R) (soft_shape_round_c6 : soft_shape_round_c6Y R) (k : Nat) (x1 : Bool) (x2 : Int) (x3 : Int) (x4 : Int) (x5 : Int) (x6 : Int) (K : Kont R) :
    (fun C => codeK C (run C 4)) (mkCx Ty exts [(45, true, S45G wide_Len k), (47, true, S47G wide_Shl k), (66, true, S66G wide_Shr k), (70, true, S70G soft_shape_most k), (79, true, S79G soft_shape_sign k), (81, true, S81G soft_shape_full k), (85, true, S85G soft_shape_inf k), (87, true, S87G soft_rounderOf k), (88, true, S88G soft_rounderOf_1 k), (89, true, S89G soft_rounderOf_2 k), (90, true, S90G soft_rounderOf_3 k)] fi75 [] [(10, C75_10G soft_shape_round_c0 soft_shape_round_c3 soft_shape_round_c6 k)]) 0 fi75 (cutAt ((Try.f75).body.getD .skip) 18) [(2, .b x1), (6, .ptr 0 0 0 0 0), (13, .ptr 1 0 0 0 0), (14, .i .i64 x2), (19, .i .u64 x3)] ⟨2, [(0, some ⟨0, false, .cells [.i .i64 x4, .i .i64 x5, .i .i64 x6]⟩), (1, some ⟨1, false, .cells [.fn 89 []]⟩)]⟩ (exitNorm fi75.ann 500018 0 K) = soft_shape_round_c4T soft_rounderOf_2 soft_shape_full soft_shape_inf soft_shape_most soft_shape_sign k x1 x2 x3 x4 x5 x6 (fun q1 => K .ret [(12, .i .u64 q1)] ⟨0, []⟩) := by kernel_rfl
theorem soft_shape_round_c7_gen {R : Type} (wide_Len : wide_LenY R) (wide_Shl : wide_ShlY R) (wide_Shr : wide_ShrY R) (soft_shape_most : soft_shape_mostY R) (soft_shape_sign : soft_shape_signY R) (soft_shape_full : soft_shape_fullY R) (soft_shape_inf : soft_shape_infY R) (soft_rounderOf : soft_rounderOfY R) (soft_rounderOf_1 : soft_rounderOf_1Y R) (soft_rounderOf_2 : soft_rounderOf_2Y R) (soft_rounderOf_3 : soft_rounderOf_3Y R) (soft_shape_round_c0 : soft_shape_round_c0Y R) (soft_shape_round_c3 : soft_shape_round_c3Y R) (soft_shape_round_c6 : soft_shape_round_c6Y R) (k : Nat) (x1 : Bool) (x2 : Int) (x3 : Int) (x4 : Int) (x5 : Int) (x6 : Int) (K : Kont R) :
    (fun C => codeK C (run C 4)) (mkCx Ty exts [(45, true, S45G wide_Len k), (47, true, S47G wide_Shl k), (66, true, S66G wide_Shr k), (70, true, S70G soft_shape_most k), (79, true, S79G soft_shape_sign k), (81, true, S81G soft_shape_full k), (85, true, S85G soft_shape_inf k), (87, true, S87G soft_rounderOf k), (88, true, S88G soft_rounderOf_1 k), (89, true, S89G soft_rounderOf_2 k), (90, true, S90G soft_rounderOf_3 k)] fi75 [] [(10, C75_10G soft_shape_round_c0 soft_shape_round_c3 soft_shape_round_c6 k)]) 0 fi75 (cutAt ((Try.f75).body.getD .skip) 18) [(2, .b x1), (6, .ptr 0 0 0 0 0), (13, .ptr 1 0 0 0 0), (14, .i .i64 x2), (19, .i .u64 x3)] ⟨2, [(0, some ⟨0, false, .cells [.i .i64 x4, .i .i64 x5, .i .i64 x6]⟩), (1, some ⟨1, false, .cells [.fn 90 []]⟩)]⟩ (exitNorm fi75.ann 500018 0 K) = soft_shape_round_c7T soft_rounderOf_3 soft_shape_full soft_shape_inf soft_shape_most soft_shape_sign k x1 x2 x3 x4 x5 x6 (fun q1 => K .ret [(12, .i .u64 q1)] ⟨0, []⟩) := by kernel_rfl
theorem C75_18_cok {R : Type} (k : Nat) : CodeOk Try.prog (cc75_18 k : Cx R) fi75 (cutAt ((Try.f75).body.getD .skip) 18) := cutAt_ok (((cc75_18_ok k).fns 75 fi75 (by kernel_rfl)).2.2.2 ((Try.f75).body.getD .skip) (by kernel_rfl))
theorem C75_18_ok {R : Type} (k : Nat) : CutOk Try.prog (Try.f75).ntmps (cutAt ((Try.f75).body.getD .skip) 18) (C75_18 k : LSum R) := by
  intro pin T H K r h
  unfold C75_18 C75_18G at h
  split at h
  · obtain ⟨ex, T1, H1, h, hb⟩ := codeK_sound (cc75_18_ok k) (run_sound (cc75_18_ok k) 4) _ fi75 _ _ _ _ _ (C75_18_cok k) ((soft_shape_round_c1_gen wide_Len wide_Shl wide_Shr soft_shape_most soft_shape_sign soft_shape_full soft_shape_inf soft_rounderOf soft_rounderOf_1 soft_rounderOf_2 soft_rounderOf_3 soft_shape_round_c0 soft_shape_round_c3 soft_shape_round_c6 k _ _ _ _ _ _ K).trans h)
    exact cut_step hb h
  · obtain ⟨ex, T1, H1, h, hb⟩ := codeK_sound (cc75_18_ok k) (run_sound (cc75_18_ok k) 4) _ fi75 _ _ _ _ _ (C75_18_cok k) ((soft_shape_round_c4_gen wide_Len wide_Shl wide_Shr soft_shape_most soft_shape_sign soft_shape_full soft_shape_inf soft_rounderOf soft_rounderOf_1 soft_rounderOf_2 soft_rounderOf_3 soft_shape_round_c0 soft_shape_round_c3 soft_shape_round_c6 k _ _ _ _ _ _ K).trans h)
    exact cut_step hb h
  · obtain ⟨ex, T1, H1, h, hb⟩ := codeK_sound (cc75_18_ok k) (run_sound (cc75_18_ok k) 4) _ fi75 _ _ _ _ _ (C75_18_cok k) ((soft_shape_round_c7_gen wide_Len wide_Shl wide_Shr soft_shape_most soft_shape_sign soft_shape_full soft_shape_inf soft_rounderOf soft_rounderOf_1 soft_rounderOf_2 soft_rounderOf_3 soft_shape_round_c0 soft_shape_round_c3 soft_shape_round_c6 k _ _ _ _ _ _ K).trans h)
    exact cut_step hb h
  · cases h
@[reducible] def soft_shape_round_c2Y (R : Type) : Type := Nat → Bool → Bool → Int → Bool → Int → Int → Int → Int → Int → (Int → Option R) → Option R
noncomputable def soft_shape_round_c2T {R : Type} (soft_rounderOf_1 : soft_rounderOf_1Y R) (soft_shape_round_c1 : soft_shape_round_c1Y R) (k : Nat) (x1 : Bool) (x2 : Bool) (x3 : Int) (x4 : Bool) (x5 : Int) (x6 : Int) (x7 : Int) (x8 : Int) (x9 : Int) (K0 : Int → Option R) : Option R :=
  soft_rounderOf_1 k ((bAnd .u64 x9 1) == 1) x4 x2 (fun yyr1 =>
    cond yyr1 (
      soft_shape_round_c1 k x1 x3 (Wu64 (x9 + 1)) x5 x6 x7 (fun yyr2 =>
        K0 yyr2)) (
      soft_shape_round_c1 k x1 x3 x9 x5 x6 x7 (fun yyr3 =>
        K0 yyr3)))
noncomputable def soft_shape_round_c2 {R : Type} (k : Nat) (x1 : Bool) (x2 : Bool) (x3 : Int) (x4 : Bool) (x5 : Int) (x6 : Int) (x7 : Int) (x8 : Int) (x9 : Int) (K0 : Int → Option R) : Option R := soft_shape_round_c2T soft_rounderOf_1 soft_shape_round_c1 k x1 x2 x3 x4 x5 x6 x7 x8 x9 K0
@[reducible] def soft_shape_round_c5Y (R : Type) : Type := Nat → Bool → Bool → Int → Bool → Int → Int → Int → Int → Int → (Int → Option R) → Option R
noncomputable def soft_shape_round_c5T {R : Type} (soft_rounderOf_2 : soft_rounderOf_2Y R) (soft_shape_round_c4 : soft_shape_round_c4Y R) (k : Nat) (x1 : Bool) (x2 : Bool) (x3 : Int) (x4 : Bool) (x5 : Int) (x6 : Int) (x7 : Int) (x8 : Int) (x9 : Int) (K0 : Int → Option R) : Option R :=
  soft_rounderOf_2 k ((bAnd .u64 x9 1) == 1) x4 x2 (fun yyr1 =>
    cond yyr1 (
      soft_shape_round_c4 k x1 x3 (Wu64 (x9 + 1)) x5 x6 x7 (fun yyr2 =>
        K0 yyr2)) (
      soft_shape_round_c4 k x1 x3 x9 x5 x6 x7 (fun yyr3 =>
        K0 yyr3)))
noncomputable def soft_shape_round_c5 {R : Type} (k : Nat) (x1 : Bool) (x2 : Bool) (x3 : Int) (x4 : Bool) (x5 : Int) (x6 : Int) (x7 : Int) (x8 : Int) (x9 : Int) (K0 : Int → Option R) : Option R := soft_shape_round_c5T soft_rounderOf_2 soft_shape_round_c4 k x1 x2 x3 x4 x5 x6 x7 x8 x9 K0
@[reducible] def soft_shape_round_c8Y (R : Type) : Type := Nat → Bool → Bool → Int → Bool → Int → Int → Int → Int → Int → (Int → Option R) → Option R
noncomputable def soft_shape_round_c8T {R : Type} (soft_rounderOf_3 : soft_rounderOf_3Y R) (soft_shape_round_c7 : soft_shape_round_c7Y R) (k : Nat) (x1 : Bool) (x2 : Bool) (x3 : Int) (x4 : Bool) (x5 : Int) (x6 : Int) (x7 : Int) (x8 : Int) (x9 : Int) (K0 : Int → Option R) : Option R :=
  soft_rounderOf_3 k ((bAnd .u64 x9 1) == 1) x4 x2 (fun yyr1 =>
    cond yyr1 (
      soft_shape_round_c7 k x1 x3 (Wu64 (x9 + 1)) x5 x6 x7 (fun yyr2 =>
        K0 yyr2)) (
      soft_shape_round_c7 k x1 x3 x9 x5 x6 x7 (fun yyr3 =>
        K0 yyr3)))
noncomputable def soft_shape_round_c8 {R : Type} (k : Nat) (x1 : Bool) (x2 : Bool) (x3 : Int) (x4 : Bool) (x5 : Int) (x6 : Int) (x7 : Int) (x8 : Int) (x9 : Int) (K0 : Int → Option R) : Option R := soft_shape_round_c8T soft_rounderOf_3 soft_shape_round_c7 k x1 x2 x3 x4 x5 x6 x7 x8 x9 K0
noncomputable def cc75_15 {R : Type} (k : Nat) : Cx R := mkCx Ty exts [(45, true, S45 k), (47, true, S47 k), (66, true, S66 k), (70, true, S70 k), (79, true, S79 k), (81, true, S81 k), (85, true, S85 k), (87, true, S87 k), (88, true, S88 k), (89, true, S89 k), (90, true, S90 k)] fi75 [] [(10, C75_10 k), (18, C75_18 k)]
theorem cc75_15_ok {R : Type} (k : Nat) : CxOk Try.prog (cc75_15 k : Cx R) := mkCx_ok (c := ((Try.f75).body.getD .skip)) ty_ok mixed exts_ok (allSum_cons (S45_ok k) en45 (allSum_cons (S47_ok k) en47 (allSum_cons (S66_ok k) en66 (allSum_cons (S70_ok k) en70 (allSum_cons (S79_ok k) en79 (allSum_cons (S81_ok k) en81 (allSum_cons (S85_ok k) en85 (allSum_cons (S87_ok k) en87 (allSum_cons (S88_ok k) en88 (allSum_cons (S89_ok k) en89 (allSum_cons (S90_ok k) en90 allSum_nil))))))))))) Try.func75 en75 (by kernel_rfl) (by kernel_rfl) allLoop_nil (allCut_cons (C75_10_ok k) (by kernel_rfl) (allCut_cons (C75_18_ok k) (by kernel_rfl) allCut_nil))
noncomputable def C75_15G {R : Type} (soft_shape_round_c2 : soft_shape_round_c2Y R) (soft_shape_round_c5 : soft_shape_round_c5Y R) (soft_shape_round_c8 : soft_shape_round_c8Y R) (k : Nat) : LSum R := fun pin T H K => match pin, T, H with
  | 0, [(2, .b x1), (5, .b x2), (6, .ptr 0 0 0 0 0), (9, .ptr 1 0 0 0 0), (13, .ptr 2 0 0 0 0), (14, .i .i64 x3), (15, .b x4)], ⟨3, [(0, some ⟨0, false, .cells [.i .i64 x5, .i .i64 x6, .i .i64 x7]⟩), (1, some ⟨1, false, .cells [.i .u64 x8, .i .u64 x9]⟩), (2, some ⟨2, false, .cells [.fn 88 []]⟩)]⟩ => soft_shape_round_c2 k x1 x2 x3 x4 x5 x6 x7 x8 x9 (fun q1 => K .ret [(12, .i .u64 q1)] ⟨0, []⟩)
  | 0, [(2, .b x1), (5, .b x2), (6, .ptr 0 0 0 0 0), (9, .ptr 1 0 0 0 0), (13, .ptr 2 0 0 0 0), (14, .i .i64 x3), (15, .b x4)], ⟨3, [(0, some ⟨0, false, .cells [.i .i64 x5, .i .i64 x6, .i .i64 x7]⟩), (1, some ⟨1, false, .cells [.i .u64 x8, .i .u64 x9]⟩), (2, some ⟨2, false, .cells [.fn 89 []]⟩)]⟩ => soft_shape_round_c5 k x1 x2 x3 x4 x5 x6 x7 x8 x9 (fun q1 => K .ret [(12, .i .u64 q1)] ⟨0, []⟩)
  | 0, [(2, .b x1), (5, .b x2), (6, .ptr 0 0 0 0 0), (9, .ptr 1 0 0 0 0), (13, .ptr 2 0 0 0 0), (14, .i .i64 x3), (15, .b x4)], ⟨3, [(0, some ⟨0, false, .cells [.i .i64 x5, .i .i64 x6, .i .i64 x7]⟩), (1, some ⟨1, false, .cells [.i .u64 x8, .i .u64 x9]⟩), (2, some ⟨2, false, .cells [.fn 90 []]⟩)]⟩ => soft_shape_round_c8 k x1 x2 x3 x4 x5 x6 x7 x8 x9 (fun q1 => K .ret [(12, .i .u64 q1)] ⟨0, []⟩)
  | _, _, _ => none
noncomputable def C75_15 {R : Type} (k : Nat) : LSum R := C75_15G soft_shape_round_c2 soft_shape_round_c5 soft_shape_round_c8 k
theorem soft_shape_round_c2_gen {R : Type} (wide_Len : wide_LenY R) (wide_Shl : wide_ShlY R) (wide_Shr : wide_ShrY R) (soft_shape_most : soft_shape_mostY R) (soft_shape_sign : soft_shape_signY R) (soft_shape_full : soft_shape_fullY R) (soft_shape_inf : soft_shape_infY R) (soft_rounderOf : soft_rounderOfY R) (soft_rounderOf_1 : soft_rounderOf_1Y R) (soft_rounderOf_2 : soft_rounderOf_2Y R) (soft_rounderOf_3 : soft_rounderOf_3Y R) (soft_shape_round_c0 : soft_shape_round_c0Y R) (soft_shape_round_c3 : soft_shape_round_c3Y R) (soft_shape_round_c6 : soft_shape_round_c6Y R) (soft_shape_round_c1 : soft_shape_round_c1Y R) (soft_shape_round_c4 : soft_shape_round_c4Y R) (soft_shape_round_c7 : soft_shape_round_c7Y R) (k : Nat) (x1 : Bool) (x2 : Bool) (x3 : Int) (x4 : Bool) (x5 : Int) (x6 : Int) (x7 : Int) (x8 : Int) (x9 : Int) (K : Kont R) :
    (fun C => codeK C (run C 4)) (mkCx Ty exts [(45, true, S45G wide_Len k), (47, true, S47G wide_Shl k), (66, true, S66G wide_Shr k), (70, true, S70G soft_shape_most k), (79, true, S79G soft_shape_sign k), (81, true, S81G soft_shape_full k), (85, true, S85G soft_shape_inf k), (87, true, S87G soft_rounderOf k), (88, true, S88G soft_rounderOf_1 k), (89, true, S89G soft_rounderOf_2 k), (90, true, S90G soft_rounderOf_3 k)] fi75 [] [(10, C75_10G soft_shape_round_c0 soft_shape_round_c3 soft_shape_round_c6 k), (18, C75_18G soft_shape_round_c1 soft_shape_round_c4 soft_shape_round_c7 k)]) 0 fi75 (cutAt ((Try.f75).body.getD .skip) 15) [(2, .b x1), (5, .b x2), (6, .ptr 0 0 0 0 0), (9, .ptr 1 0 0 0 0), (13, .ptr 2 0 0 0 0), (14, .i .i64 x3), (15, .b x4)] ⟨3, [(0, some ⟨0, false, .cells [.i .i64 x5, .i .i64 x6, .i .i64 x7]⟩), (1, some ⟨1, false, .cells [.i .u64 x8, .i .u64 x9]⟩), (2, some ⟨2, false, .cells [.fn 88 []]⟩)]⟩ (exitNorm fi75.ann 500015 0 K) = soft_shape_round_c2T soft_rounderOf_1 soft_shape_round_c1 k x1 x2 x3 x4 x5 x6 x7 x8 x9 (fun q1 => K .ret [(12, .i .u64 q1)] ⟨0, []⟩) := by kernel_rfl
theorem soft_shape_round_c5_gen {R : Type} (wide_Len : wide_LenY R) (wide_Shl : wide_ShlY R) (wide_Shr : wide_ShrY R) (soft_shape_most : soft_shape_mostY R) (soft_shape_sign : soft_shape_signY R) (soft_shape_full : soft_shape_fullY R) (soft_shape_inf : soft_shape_infY R) (soft_rounderOf : soft_rounderOfY R) (soft_rounderOf_1 : soft_rounderOf_1Y R) (soft_rounderOf_2 : soft_rounderOf_2Y R) (soft_rounderOf_3 : soft_rounderOf_3Y R) (soft_shape_round_c0 : soft_shape_round_c0Y R) (soft_shape_round_c3 : soft_shape_round_c3Y R) (soft_shape_round_c6 : soft_shape_round_c6Y R) (soft_shape_round_c1 : soft_shape_round_c1Y R) (soft_shape_round_c4 : soft_shape_round_c4Y R) (soft_shape_round_c7 : soft_shape_round_c7Y R) (k : Nat) (x1 : Bool) (x2 : Bool) (x3 : Int) (x4 : Bool) (x5 : Int) (x6 : Int) (x7 : Int) (x8 : Int) (x9 : Int) (K : Kont R) :
    (fun C => codeK C (run C 4)) (mkCx Ty exts [(45, true, S45G wide_Len k), (47, true, S47G wide_Shl k), (66, true, S66G wide_Shr k), (70, true, S70G soft_shape_most k), (79, true, S79G soft_shape_sign k), (81, true, S81G soft_shape_full k), (85, true, S85G soft_shape_inf k), (87, true, S87G soft_rounderOf k), (88, true, S88G soft_rounderOf_1 k), (89, true, S89G soft_rounderOf_2 k), (90, true, S90G soft_rounderOf_3 k)] fi75 [] [(10, C75_10G soft_shape_round_c0 soft_shape_round_c3 soft_shape_round_c6 k), (18, C75_18G soft_shape_round_c1 soft_shape_round_c4 soft_shape_round_c7 k)]) 0 fi75 (cutAt ((Try.f75).body.getD .skip) 15) [(2, .b x1), (5, .b x2), (6, .ptr 0 0 0 0 0), (9, .ptr 1 0 0 0 0), (13, .ptr 2 0 0 0 0), (14, .i .i64 x3), (15, .b x4)] ⟨3, [(0, some ⟨0, false, .cells [.i .i64 x5, .i .i64 x6, .i .i64 x7]⟩), (1, some ⟨1, false, .cells [.i .u64 x8, .i .u64 x9]⟩), (2, some ⟨2, false, .cells [.fn 89 []]⟩)]⟩ (exitNorm fi75.ann 500015 0 K) = soft_shape_round_c5T soft_rounderOf_2 soft_shape_round_c4 k x1 x2 x3 x4 x5 x6 x7 x8 x9 (fun q1 => K .ret [(12, .i .u64 q1)] ⟨0, []⟩) := by kernel_rfl
theorem soft_shape_round_c8_gen {R : Type} (wide_Len : wide_LenY R) (wide_Shl : wide_ShlY R) (wide_Shr : wide_ShrY R) (soft_shape_most : soft_shape_mostY R) (soft_shape_sign : soft_shape_signY R) (soft_shape_full : soft_shape_fullY R) (soft_shape_inf : soft_shape_infY R) (soft_rounderOf : soft_rounderOfY R) (soft_rounderOf_1 : soft_rounderOf_1Y R) (soft_rounderOf_2 : soft_rounderOf_2Y R) (soft_rounderOf_3 : soft_rounderOf_3Y R) (soft_shape_round_c0 : soft_shape_round_c0Y R) (soft_shape_round_c3 : soft_shape_round_c3Y R) (soft_shape_round_c6 : soft_shape_round_c6Y R) (soft_shape_round_c1 : soft_shape_round_c1Y R) (soft_shape_round_c4 : soft_shape_round_c4Y R) (soft_shape_round_c7 : soft_shape_round_c7Y R) (k : Nat) (x1 : Bool) (x2 : Bool) (x3 : Int) (x4 : Bool) (x5 : Int) (x6 : Int) (x7 : Int) (x8 : Int) (x9 : Int) (K : Kont R) :
    (fun C => codeK C (run C 4)) (mkCx Ty exts [(45, true, S45G wide_Len k), (47, true, S47G wide_Shl k), (66, true, S66G wide_Shr k), (70, true, S70G soft_shape_most k), (79, true, S79G soft_shape_sign k), (81, true, S81G soft_shape_full k), (85, true, S85G soft_shape_inf k), (87, true, S87G soft_rounderOf k), (88, true, S88G soft_rounderOf_1 k), (89, true, S89G soft_rounderOf_2 k), (90, true, S90G soft_rounderOf_3 k)] fi75 [] [(10, C75_10G soft_shape_round_c0 soft_shape_round_c3 soft_shape_round_c6 k), (18, C75_18G soft_shape_round_c1 soft_shape_round_c4 soft_shape_round_c7 k)]) 0 fi75 (cutAt ((Try.f75).body.getD .skip) 15) [(2, .b x1), (5, .b x2), (6, .ptr 0 0 0 0 0), (9, .ptr 1 0 0 0 0), (13, .ptr 2 0 0 0 0), (14, .i .i64 x3), (15, .b x4)] ⟨3, [(0, some ⟨0, false, .cells [.i .i64 x5, .i .i64 x6, .i .i64 x7]⟩), (1, some ⟨1, false, .cells [.i .u64 x8, .i .u64 x9]⟩), (2, some ⟨2, false, .cells [.fn 90 []]⟩)]⟩ (exitNorm fi75.ann 500015 0 K) = soft_shape_round_c8T soft_rounderOf_3 soft_shape_round_c7 k x1 x2 x3 x4 x5 x6 x7 x8 x9 (fun q1 => K .ret [(12, .i .u64 q1)] ⟨0, []⟩) := by kernel_rfl
theorem C75_15_cok {R : Type} (k : Nat) : CodeOk Try.prog (cc75_15 k : Cx R) fi75 (cutAt ((Try.f75).body.getD .skip) 15) := cutAt_ok (((cc75_15_ok k).fns 75 fi75 (by kernel_rfl)).2.2.2 ((Try.f75).body.getD .skip) (by kernel_rfl))
theorem C75_15_ok {R : Type} (k : Nat) : CutOk Try.prog (Try.f75).ntmps (cutAt ((Try.f75).body.getD .skip) 15) (C75_15 k : LSum R) := by
  intro pin T H K r h
  unfold C75_15 C75_15G at h
  split at h
  · obtain ⟨ex, T1, H1, h, hb⟩ := codeK_sound (cc75_15_ok k) (run_sound (cc75_15_ok k) 4) _ fi75 _ _ _ _ _ (C75_15_cok k) ((soft_shape_round_c2_gen wide_Len wide_Shl wide_Shr soft_shape_most soft_shape_sign soft_shape_full soft_shape_inf soft_rounderOf soft_rounderOf_1 soft_rounderOf_2 soft_rounderOf_3 soft_shape_round_c0 soft_shape_round_c3 soft_shape_round_c6 soft_shape_round_c1 soft_shape_round_c4 soft_shape_round_c7 k _ _ _ _ _ _ _ _ _ K).trans h)
    exact cut_step hb h
  · obtain ⟨ex, T1, H1, h, hb⟩ := codeK_sound (cc75_15_ok k) (run_sound (cc75_15_ok k) 4) _ fi75 _ _ _ _ _ (C75_15_cok k) ((soft_shape_round_c5_gen wide_Len wide_Shl wide_Shr soft_shape_most soft_shape_sign soft_shape_full soft_shape_inf soft_rounderOf soft_rounderOf_1 soft_rounderOf_2 soft_rounderOf_3 soft_shape_round_c0 soft_shape_round_c3 soft_shape_round_c6 soft_shape_round_c1 soft_shape_round_c4 soft_shape_round_c7 k _ _ _ _ _ _ _ _ _ K).trans h)
    exact cut_step hb h
  · obtain ⟨ex, T1, H1, h, hb⟩ := codeK_sound (cc75_15_ok k) (run_sound (cc75_15_ok k) 4) _ fi75 _ _ _ _ _ (C75_15_cok k) ((soft_shape_round_c8_gen wide_Len wide_Shl wide_Shr soft_shape_most soft_shape_sign soft_shape_full soft_shape_inf soft_rounderOf soft_rounderOf_1 soft_rounderOf_2 soft_rounderOf_3 soft_shape_round_c0 soft_shape_round_c3 soft_shape_round_c6 soft_shape_round_c1 soft_shape_round_c4 soft_shape_round_c7 k _ _ _ _ _ _ _ _ _ K).trans h)
    exact cut_step hb h
  · cases h
@[reducible] def soft_shape_round_c9Y (R : Type) : Type := Nat → Int → Bool → Int → Bool → Int → Int → Int → Int → Int → (Int → Option R) → Option R
noncomputable def soft_shape_round_c9T {R : Type} (soft_rounderOf : soft_rounderOfY R) (soft_shape_round_c0 : soft_shape_round_c0Y R) (soft_shape_round_c2 : soft_shape_round_c2Y R) (soft_shape_round_c3 : soft_shape_round_c3Y R) (soft_shape_round_c5 : soft_shape_round_c5Y R) (soft_shape_round_c6 : soft_shape_round_c6Y R) (soft_shape_round_c8 : soft_shape_round_c8Y R) (wide_Len : wide_LenY R) (wide_Shl : wide_ShlY R) (wide_Shr : wide_ShrY R) (k : Nat) (x1 : Int) (x2 : Bool) (x3 : Int) (x4 : Bool) (x5 : Int) (x6 : Int) (x7 : Int) (x8 : Int) (x9 : Int) (K0 : Int → Option R) : Option R :=
  soft_rounderOf k x1 x2 (
    wide_Len k x8 x9 (fun yr1 =>
      cond (decide ((Wi64 ((if x7 > (Wi64 ((Wi64 ((Wi64 (x3 + yr1)) - 1)) - x5)) then x7 else (Wi64 ((Wi64 ((Wi64 (x3 + yr1)) - 1)) - x5))) - x3)) > 0)) (
        wide_Shr k x8 x9 (Wi64 ((Wi64 ((if x7 > (Wi64 ((Wi64 ((Wi64 (x3 + yr1)) - 1)) - x5)) then x7 else (Wi64 ((Wi64 ((Wi64 (x3 + yr1)) - 1)) - x5))) - x3)) - 1)) (fun yr2 yr3 yr4 =>
          cond ((bAnd .u64 yr3 1) == 1) (
            soft_shape_round_c0 k x2 x4 (if x7 > (Wi64 ((Wi64 ((Wi64 (x3 + yr1)) - 1)) - x5)) then x7 else (Wi64 ((Wi64 ((Wi64 (x3 + yr1)) - 1)) - x5))) (decide ((Wi64 ((if x7 > (Wi64 ((Wi64 ((Wi64 (x3 + yr1)) - 1)) - x5)) then x7 else (Wi64 ((Wi64 ((Wi64 (x3 + yr1)) - 1)) - x5))) - x3)) ≤ 129)) (Wi64 ((if x7 > (Wi64 ((Wi64 ((Wi64 (x3 + yr1)) - 1)) - x5)) then x7 else (Wi64 ((Wi64 ((Wi64 (x3 + yr1)) - 1)) - x5))) - x3)) yr4 x5 x6 x7 x8 x9 (fun yr5 yr6 yr7 =>
              soft_shape_round_c2 k x2 yr5 (if x7 > (Wi64 ((Wi64 ((Wi64 (x3 + yr1)) - 1)) - x5)) then x7 else (Wi64 ((Wi64 ((Wi64 (x3 + yr1)) - 1)) - x5))) (decide ((Wi64 ((if x7 > (Wi64 ((Wi64 ((Wi64 (x3 + yr1)) - 1)) - x5)) then x7 else (Wi64 ((Wi64 ((Wi64 (x3 + yr1)) - 1)) - x5))) - x3)) ≤ 129)) x5 x6 x7 yr6 yr7 (fun yr8 =>
                K0 yr8))) (
            soft_shape_round_c0 k x2 x4 (if x7 > (Wi64 ((Wi64 ((Wi64 (x3 + yr1)) - 1)) - x5)) then x7 else (Wi64 ((Wi64 ((Wi64 (x3 + yr1)) - 1)) - x5))) false (Wi64 ((if x7 > (Wi64 ((Wi64 ((Wi64 (x3 + yr1)) - 1)) - x5)) then x7 else (Wi64 ((Wi64 ((Wi64 (x3 + yr1)) - 1)) - x5))) - x3)) yr4 x5 x6 x7 x8 x9 (fun yr9 yr10 yr11 =>
              soft_shape_round_c2 k x2 yr9 (if x7 > (Wi64 ((Wi64 ((Wi64 (x3 + yr1)) - 1)) - x5)) then x7 else (Wi64 ((Wi64 ((Wi64 (x3 + yr1)) - 1)) - x5))) false x5 x6 x7 yr10 yr11 (fun yr12 =>
                K0 yr12))))) (
        wide_Shl k x8 x9 (Wi64 (0 - (Wi64 ((if x7 > (Wi64 ((Wi64 ((Wi64 (x3 + yr1)) - 1)) - x5)) then x7 else (Wi64 ((Wi64 ((Wi64 (x3 + yr1)) - 1)) - x5))) - x3)))) (fun yr13 yr14 =>
          soft_shape_round_c2 k x2 x4 (if x7 > (Wi64 ((Wi64 ((Wi64 (x3 + yr1)) - 1)) - x5)) then x7 else (Wi64 ((Wi64 ((Wi64 (x3 + yr1)) - 1)) - x5))) false x5 x6 x7 yr13 yr14 (fun yr15 =>
            K0 yr15))))) (
    wide_Len k x8 x9 (fun yr16 =>
      cond (decide ((Wi64 ((if x7 > (Wi64 ((Wi64 ((Wi64 (x3 + yr16)) - 1)) - x5)) then x7 else (Wi64 ((Wi64 ((Wi64 (x3 + yr16)) - 1)) - x5))) - x3)) > 0)) (
        wide_Shr k x8 x9 (Wi64 ((Wi64 ((if x7 > (Wi64 ((Wi64 ((Wi64 (x3 + yr16)) - 1)) - x5)) then x7 else (Wi64 ((Wi64 ((Wi64 (x3 + yr16)) - 1)) - x5))) - x3)) - 1)) (fun yr17 yr18 yr19 =>
          cond ((bAnd .u64 yr18 1) == 1) (
            soft_shape_round_c3 k x2 x4 (if x7 > (Wi64 ((Wi64 ((Wi64 (x3 + yr16)) - 1)) - x5)) then x7 else (Wi64 ((Wi64 ((Wi64 (x3 + yr16)) - 1)) - x5))) (decide ((Wi64 ((if x7 > (Wi64 ((Wi64 ((Wi64 (x3 + yr16)) - 1)) - x5)) then x7 else (Wi64 ((Wi64 ((Wi64 (x3 + yr16)) - 1)) - x5))) - x3)) ≤ 129)) (Wi64 ((if x7 > (Wi64 ((Wi64 ((Wi64 (x3 + yr16)) - 1)) - x5)) then x7 else (Wi64 ((Wi64 ((Wi64 (x3 + yr16)) - 1)) - x5))) - x3)) yr19 x5 x6 x7 x8 x9 (fun yr20 yr21 yr22 =>
              soft_shape_round_c5 k x2 yr20 (if x7 > (Wi64 ((Wi64 ((Wi64 (x3 + yr16)) - 1)) - x5)) then x7 else (Wi64 ((Wi64 ((Wi64 (x3 + yr16)) - 1)) - x5))) (decide ((Wi64 ((if x7 > (Wi64 ((Wi64 ((Wi64 (x3 + yr16)) - 1)) - x5)) then x7 else (Wi64 ((Wi64 ((Wi64 (x3 + yr16)) - 1)) - x5))) - x3)) ≤ 129)) x5 x6 x7 yr21 yr22 (fun yr23 =>
                K0 yr23))) (
            soft_shape_round_c3 k x2 x4 (if x7 > (Wi64 ((Wi64 ((Wi64 (x3 + yr16)) - 1)) - x5)) then x7 else (Wi64 ((Wi64 ((Wi64 (x3 + yr16)) - 1)) - x5))) false (Wi64 ((if x7 > (Wi64 ((Wi64 ((Wi64 (x3 + yr16)) - 1)) - x5)) then x7 else (Wi64 ((Wi64 ((Wi64 (x3 + yr16)) - 1)) - x5))) - x3)) yr19 x5 x6 x7 x8 x9 (fun yr24 yr25 yr26 =>
              soft_shape_round_c5 k x2 yr24 (if x7 > (Wi64 ((Wi64 ((Wi64 (x3 + yr16)) - 1)) - x5)) then x7 else (Wi64 ((Wi64 ((Wi64 (x3 + yr16)) - 1)) - x5))) false x5 x6 x7 yr25 yr26 (fun yr27 =>
                K0 yr27))))) (
        wide_Shl k x8 x9 (Wi64 (0 - (Wi64 ((if x7 > (Wi64 ((Wi64 ((Wi64 (x3 + yr16)) - 1)) - x5)) then x7 else (Wi64 ((Wi64 ((Wi64 (x3 + yr16)) - 1)) - x5))) - x3)))) (fun yr28 yr29 =>
          soft_shape_round_c5 k x2 x4 (if x7 > (Wi64 ((Wi64 ((Wi64 (x3 + yr16)) - 1)) - x5)) then x7 else (Wi64 ((Wi64 ((Wi64 (x3 + yr16)) - 1)) - x5))) false x5 x6 x7 yr28 yr29 (fun yr30 =>
            K0 yr30))))) (
    wide_Len k x8 x9 (fun yr31 =>
      cond (decide ((Wi64 ((if x7 > (Wi64 ((Wi64 ((Wi64 (x3 + yr31)) - 1)) - x5)) then x7 else (Wi64 ((Wi64 ((Wi64 (x3 + yr31)) - 1)) - x5))) - x3)) > 0)) (
        wide_Shr k x8 x9 (Wi64 ((Wi64 ((if x7 > (Wi64 ((Wi64 ((Wi64 (x3 + yr31)) - 1)) - x5)) then x7 else (Wi64 ((Wi64 ((Wi64 (x3 + yr31)) - 1)) - x5))) - x3)) - 1)) (fun yr32 yr33 yr34 =>
          cond ((bAnd .u64 yr33 1) == 1) (
            soft_shape_round_c6 k x2 x4 (if x7 > (Wi64 ((Wi64 ((Wi64 (x3 + yr31)) - 1)) - x5)) then x7 else (Wi64 ((Wi64 ((Wi64 (x3 + yr31)) - 1)) - x5))) (decide ((Wi64 ((if x7 > (Wi64 ((Wi64 ((Wi64 (x3 + yr31)) - 1)) - x5)) then x7 else (Wi64 ((Wi64 ((Wi64 (x3 + yr31)) - 1)) - x5))) - x3)) ≤ 129)) (Wi64 ((if x7 > (Wi64 ((Wi64 ((Wi64 (x3 + yr31)) - 1)) - x5)) then x7 else (Wi64 ((Wi64 ((Wi64 (x3 + yr31)) - 1)) - x5))) - x3)) yr34 x5 x6 x7 x8 x9 (fun yr35 yr36 yr37 =>
              soft_shape_round_c8 k x2 yr35 (if x7 > (Wi64 ((Wi64 ((Wi64 (x3 + yr31)) - 1)) - x5)) then x7 else (Wi64 ((Wi64 ((Wi64 (x3 + yr31)) - 1)) - x5))) (decide ((Wi64 ((if x7 > (Wi64 ((Wi64 ((Wi64 (x3 + yr31)) - 1)) - x5)) then x7 else (Wi64 ((Wi64 ((Wi64 (x3 + yr31)) - 1)) - x5))) - x3)) ≤ 129)) x5 x6 x7 yr36 yr37 (fun yr38 =>
                K0 yr38))) (
            soft_shape_round_c6 k x2 x4 (if x7 > (Wi64 ((Wi64 ((Wi64 (x3 + yr31)) - 1)) - x5)) then x7 else (Wi64 ((Wi64 ((Wi64 (x3 + yr31)) - 1)) - x5))) false (Wi64 ((if x7 > (Wi64 ((Wi64 ((Wi64 (x3 + yr31)) - 1)) - x5)) then x7 else (Wi64 ((Wi64 ((Wi64 (x3 + yr31)) - 1)) - x5))) - x3)) yr34 x5 x6 x7 x8 x9 (fun yr39 yr40 yr41 =>
              soft_shape_round_c8 k x2 yr39 (if x7 > (Wi64 ((Wi64 ((Wi64 (x3 + yr31)) - 1)) - x5)) then x7 else (Wi64 ((Wi64 ((Wi64 (x3 + yr31)) - 1)) - x5))) false x5 x6 x7 yr40 yr41 (fun yr42 =>
                K0 yr42))))) (
        wide_Shl k x8 x9 (Wi64 (0 - (Wi64 ((if x7 > (Wi64 ((Wi64 ((Wi64 (x3 + yr31)) - 1)) - x5)) then x7 else (Wi64 ((Wi64 ((Wi64 (x3 + yr31)) - 1)) - x5))) - x3)))) (fun yr43 yr44 =>
          soft_shape_round_c8 k x2 x4 (if x7 > (Wi64 ((Wi64 ((Wi64 (x3 + yr31)) - 1)) - x5)) then x7 else (Wi64 ((Wi64 ((Wi64 (x3 + yr31)) - 1)) - x5))) false x5 x6 x7 yr43 yr44 (fun yr45 =>
            K0 yr45)))))
noncomputable def soft_shape_round_c9 {R : Type} (k : Nat) (x1 : Int) (x2 : Bool) (x3 : Int) (x4 : Bool) (x5 : Int) (x6 : Int) (x7 : Int) (x8 : Int) (x9 : Int) (K0 : Int → Option R) : Option R := soft_shape_round_c9T soft_rounderOf soft_shape_round_c0 soft_shape_round_c2 soft_shape_round_c3 soft_shape_round_c5 soft_shape_round_c6 soft_shape_round_c8 wide_Len wide_Shl wide_Shr k x1 x2 x3 x4 x5 x6 x7 x8 x9 K0
noncomputable def cc75_3 {R : Type} (k : Nat) : Cx R := mkCx Ty exts [(45, true, S45 k), (47, true, S47 k), (66, true, S66 k), (70, true, S70 k), (79, true, S79 k), (81, true, S81 k), (85, true, S85 k), (87, true, S87 k), (88, true, S88 k), (89, true, S89 k), (90, true, S90 k)] fi75 [] [(10, C75_10 k), (18, C75_18 k), (15, C75_15 k)]
theorem cc75_3_ok {R : Type} (k : Nat) : CxOk Try.prog (cc75_3 k : Cx R) := mkCx_ok (c := ((Try.f75).body.getD .skip)) ty_ok mixed exts_ok (allSum_cons (S45_ok k) en45 (allSum_cons (S47_ok k) en47 (allSum_cons (S66_ok k) en66 (allSum_cons (S70_ok k) en70 (allSum_cons (S79_ok k) en79 (allSum_cons (S81_ok k) en81 (allSum_cons (S85_ok k) en85 (allSum_cons (S87_ok k) en87 (allSum_cons (S88_ok k) en88 (allSum_cons (S89_ok k) en89 (allSum_cons (S90_ok k) en90 allSum_nil))))))))))) Try.func75 en75 (by kernel_rfl) (by kernel_rfl) allLoop_nil (allCut_cons (C75_10_ok k) (by kernel_rfl) (allCut_cons (C75_18_ok k) (by kernel_rfl) (allCut_cons (C75_15_ok k) (by kernel_rfl) allCut_nil)))
noncomputable def C75_3G {R : Type} (soft_shape_round_c9 : soft_shape_round_c9Y R) (k : Nat) : LSum R := fun pin T H K => match pin, T, H with
  | 0, [(1, .i .i64 x1), (2, .b x2), (4, .i .i64 x3), (5, .b x4), (6, .ptr 0 0 0 0 0), (9, .ptr 1 0 0 0 0)], ⟨2, [(0, some ⟨0, false, .cells [.i .i64 x5, .i .i64 x6, .i .i64 x7]⟩), (1, some ⟨1, false, .cells [.i .u64 x8, .i .u64 x9]⟩)]⟩ => soft_shape_round_c9 k x1 x2 x3 x4 x5 x6 x7 x8 x9 (fun q1 => K .ret [(12, .i .u64 q1)] ⟨0, []⟩)
  | _, _, _ => none
noncomputable def C75_3 {R : Type} (k : Nat) : LSum R := C75_3G soft_shape_round_c9 k
theorem soft_shape_round_c9_gen {R : Type} (wide_Len : wide_LenY R) (wide_Shl : wide_ShlY R) (wide_Shr : wide_ShrY R) (soft_shape_most : soft_shape_mostY R) (soft_shape_sign : soft_shape_signY R) (soft_shape_full : soft_shape_fullY R) (soft_shape_inf : soft_shape_infY R) (soft_rounderOf : soft_rounderOfY R) (soft_rounderOf_1 : soft_rounderOf_1Y R) (soft_rounderOf_2 : soft_rounderOf_2Y R) (soft_rounderOf_3 : soft_rounderOf_3Y R) (soft_shape_round_c0 : soft_shape_round_c0Y R) (soft_shape_round_c3 : soft_shape_round_c3Y R) (soft_shape_round_c6 : soft_shape_round_c6Y R) (soft_shape_round_c1 : soft_shape_round_c1Y R) (soft_shape_round_c4 : soft_shape_round_c4Y R) (soft_shape_round_c7 : soft_shape_round_c7Y R) (soft_shape_round_c2 : soft_shape_round_c2Y R) (soft_shape_round_c5 : soft_shape_round_c5Y R) (soft_shape_round_c8 : soft_shape_round_c8Y R) (k : Nat) (x1 : Int) (x2 : Bool) (x3 : Int) (x4 : Bool) (x5 : Int) (x6 : Int) (x7 : Int) (x8 : Int) (x9 : Int) (K : Kont R) :
    (fun C => codeK C (run C 4)) (mkCx Ty exts [(45, true, S45G wide_Len k), (47, true, S47G wide_Shl k), (66, true, S66G wide_Shr k), (70, true, S70G soft_shape_most k), (79, true, S79G soft_shape_sign k), (81, true, S81G soft_shape_full k), (85, true, S85G soft_shape_inf k), (87, true, S87G soft_rounderOf k), (88, true, S88G soft_rounderOf_1 k), (89, true, S89G soft_rounderOf_2 k), (90, true, S90G soft_rounderOf_3 k)] fi75 [] [(10, C75_10G soft_shape_round_c0 soft_shape_round_c3 soft_shape_round_c6 k), (18, C75_18G soft_shape_round_c1 soft_shape_round_c4 soft_shape_round_c7 k), (15, C75_15G soft_shape_round_c2 soft_shape_round_c5 soft_shape_round_c8 k)]) 0 fi75 (cutAt ((Try.f75).body.getD .skip) 3) [(1, .i .i64 x1), (2, .b x2), (4, .i .i64 x3), (5, .b x4), (6, .ptr 0 0 0 0 0), (9, .ptr 1 0 0 0 0)] ⟨2, [(0, some ⟨0, false, .cells [.i .i64 x5, .i .i64 x6, .i .i64 x7]⟩), (1, some ⟨1, false, .cells [.i .u64 x8, .i .u64 x9]⟩)]⟩ (exitNorm fi75.ann 500003 0 K) = soft_shape_round_c9T soft_rounderOf soft_shape_round_c0 soft_shape_round_c2 soft_shape_round_c3 soft_shape_round_c5 soft_shape_round_c6 soft_shape_round_c8 wide_Len wide_Shl wide_Shr k x1 x2 x3 x4 x5 x6 x7 x8 x9 (fun q1 => K .ret [(12, .i .u64 q1)] ⟨0, []⟩) := by kernel_rfl
theorem C75_3_cok {R : Type} (k : Nat) : CodeOk Try.prog (cc75_3 k : Cx R) fi75 (cutAt ((Try.f75).body.getD .skip) 3) := cutAt_ok (((cc75_3_ok k).fns 75 fi75 (by kernel_rfl)).2.2.2 ((Try.f75).body.getD .skip) (by kernel_rfl))
theorem C75_3_ok {R : Type} (k : Nat) : CutOk Try.prog (Try.f75).ntmps (cutAt ((Try.f75).body.getD .skip) 3) (C75_3 k : LSum R) := by
  intro pin T H K r h
  unfold C75_3 C75_3G at h
  split at h
  · obtain ⟨ex, T1, H1, h, hb⟩ := codeK_sound (cc75_3_ok k) (run_sound (cc75_3_ok k) 4) _ fi75 _ _ _ _ _ (C75_3_cok k) ((soft_shape_round_c9_gen wide_Len wide_Shl wide_Shr soft_shape_most soft_shape_sign soft_shape_full soft_shape_inf soft_rounderOf soft_rounderOf_1 soft_rounderOf_2 soft_rounderOf_3 soft_shape_round_c0 soft_shape_round_c3 soft_shape_round_c6 soft_shape_round_c1 soft_shape_round_c4 soft_shape_round_c7 soft_shape_round_c2 soft_shape_round_c5 soft_shape_round_c8 k _ _ _ _ _ _ _ _ _ K).trans h)
    exact cut_step hb h
  · cases h
noncomputable def cx75 {R : Type} (k : Nat) : Cx R := mkCx Ty exts [(45, true, S45 k), (47, true, S47 k), (66, true, S66 k), (70, true, S70 k), (79, true, S79 k), (81, true, S81 k), (85, true, S85 k), (87, true, S87 k), (88, true, S88 k), (89, true, S89 k), (90, true, S90 k)] fi75 [] [(10, C75_10 k), (18, C75_18 k), (15, C75_15 k), (3, C75_3 k)]
theorem cx75_ok {R : Type} (k : Nat) : CxOk Try.prog (cx75 k : Cx R) := mkCx_ok (c := ((Try.f75).body.getD .skip)) ty_ok mixed exts_ok (allSum_cons (S45_ok k) en45 (allSum_cons (S47_ok k) en47 (allSum_cons (S66_ok k) en66 (allSum_cons (S70_ok k) en70 (allSum_cons (S79_ok k) en79 (allSum_cons (S81_ok k) en81 (allSum_cons (S85_ok k) en85 (allSum_cons (S87_ok k) en87 (allSum_cons (S88_ok k) en88 (allSum_cons (S89_ok k) en89 (allSum_cons (S90_ok k) en90 allSum_nil))))))))))) Try.func75 en75 (by kernel_rfl) (by kernel_rfl) allLoop_nil (allCut_cons (C75_10_ok k) (by kernel_rfl) (allCut_cons (C75_18_ok k) (by kernel_rfl) (allCut_cons (C75_15_ok k) (by kernel_rfl) (allCut_cons (C75_3_ok k) (by kernel_rfl) allCut_nil))))
@[reducible] def soft_shape_roundY (R : Type) : Type := Nat → Int → Int → Int → Int → Bool → Int → Int → Int → Bool → (Int → Option R) → Option R
noncomputable def soft_shape_roundT {R : Type} (soft_shape_round_c9 : soft_shape_round_c9Y R) (soft_shape_sign : soft_shape_signY R) (k : Nat) (a1 : Int) (a2 : Int) (a3 : Int) (a4 : Int) (a5 : Bool) (a6 : Int) (a7 : Int) (a8 : Int) (a9 : Bool) (K0 : Int → Option R) : Option R :=
  cond ((a6 == 0) && (a7 == 0)) (
    cond (!a9) (
      soft_shape_sign k a1 a2 a3 a5 (fun r1 =>
        K0 r1)) (
      soft_shape_round_c9 k a4 a5 a8 a9 a1 a2 a3 a6 a7 (fun r2 =>
        K0 r2))) (
    soft_shape_round_c9 k a4 a5 a8 a9 a1 a2 a3 a6 a7 (fun r3 =>
      K0 r3))
noncomputable def soft_shape_round {R : Type} (k : Nat) (a1 : Int) (a2 : Int) (a3 : Int) (a4 : Int) (a5 : Bool) (a6 : Int) (a7 : Int) (a8 : Int) (a9 : Bool) (K0 : Int → Option R) : Option R := soft_shape_roundT soft_shape_round_c9 soft_shape_sign k a1 a2 a3 a4 a5 a6 a7 a8 a9 K0
theorem soft_shape_round_gen {R : Type} (wide_Len : wide_LenY R) (wide_Shl : wide_ShlY R) (wide_Shr : wide_ShrY R) (soft_shape_most : soft_shape_mostY R) (soft_shape_sign : soft_shape_signY R) (soft_shape_full : soft_shape_fullY R) (soft_shape_inf : soft_shape_infY R) (soft_rounderOf : soft_rounderOfY R) (soft_rounderOf_1 : soft_rounderOf_1Y R) (soft_rounderOf_2 : soft_rounderOf_2Y R) (soft_rounderOf_3 : soft_rounderOf_3Y R) (soft_shape_round_c0 : soft_shape_round_c0Y R) (soft_shape_round_c3 : soft_shape_round_c3Y R) (soft_shape_round_c6 : soft_shape_round_c6Y R) (soft_shape_round_c1 : soft_shape_round_c1Y R) (soft_shape_round_c4 : soft_shape_round_c4Y R) (soft_shape_round_c7 : soft_shape_round_c7Y R) (soft_shape_round_c2 : soft_shape_round_c2Y R) (soft_shape_round_c5 : soft_shape_round_c5Y R) (soft_shape_round_c8 : soft_shape_round_c8Y R) (soft_shape_round_c9 : soft_shape_round_c9Y R) (k : Nat) (a1 : Int) (a2 : Int) (a3 : Int) (a4 : Int) (a5 : Bool) (a6 : Int) (a7 : Int) (a8 : Int) (a9 : Bool) (K : AV → Heap → Option R) :
    fnK (mkCx Ty exts [(45, true, S45G wide_Len k), (47, true, S47G wide_Shl k), (66, true, S66G wide_Shr k), (70, true, S70G soft_shape_most k), (79, true, S79G soft_shape_sign k), (81, true, S81G soft_shape_full k), (85, true, S85G soft_shape_inf k), (87, true, S87G soft_rounderOf k), (88, true, S88G soft_rounderOf_1 k), (89, true, S89G soft_rounderOf_2 k), (90, true, S90G soft_rounderOf_3 k)] fi75 [] [(10, C75_10G soft_shape_round_c0 soft_shape_round_c3 soft_shape_round_c6 k), (18, C75_18G soft_shape_round_c1 soft_shape_round_c4 soft_shape_round_c7 k), (15, C75_15G soft_shape_round_c2 soft_shape_round_c5 soft_shape_round_c8 k), (3, C75_3G soft_shape_round_c9 k)]) 6 75 [.agg [.i .i64 a1, .i .i64 a2, .i .i64 a3], .i .i64 a4, .b a5, .agg [.i .u64 a6, .i .u64 a7], .i .i64 a8, .b a9] ⟨0, []⟩ K = soft_shape_roundT soft_shape_round_c9 soft_shape_sign k a1 a2 a3 a4 a5 a6 a7 a8 a9 (fun q1 => K (.i .u64 q1) ⟨0, []⟩) := by kernel_rfl
noncomputable def S75G {R : Type} (soft_shape_round : soft_shape_roundY R) (k : Nat) : Sum R := fun args H K => match args, H with
  | [.agg [.i .i64 a1, .i .i64 a2, .i .i64 a3], .i .i64 a4, .b a5, .agg [.i .u64 a6, .i .u64 a7], .i .i64 a8, .b a9], ⟨0, []⟩ => soft_shape_round k a1 a2 a3 a4 a5 a6 a7 a8 a9 (fun q1 => K (.i .u64 q1) ⟨0, []⟩)
  | _, _ => none
noncomputable def S75 {R : Type} (k : Nat) : Sum R := S75G soft_shape_round k
theorem S75_ok0 {R : Type} (k : Nat) : SumOk Try.prog 75 false (S75 k : Sum R) := by
  intro args H K r h
  unfold S75 S75G at h
  split at h
  · exact fnK_sound (cx75_ok k) 6 75 _ _ K r ((soft_shape_round_gen wide_Len wide_Shl wide_Shr soft_shape_most soft_shape_sign soft_shape_full soft_shape_inf soft_rounderOf soft_rounderOf_1 soft_rounderOf_2 soft_rounderOf_3 soft_shape_round_c0 soft_shape_round_c3 soft_shape_round_c6 soft_shape_round_c1 soft_shape_round_c4 soft_shape_round_c7 soft_shape_round_c2 soft_shape_round_c5 soft_shape_round_c8 soft_shape_round_c9 k _ _ _ _ _ _ _ _ _ K).trans h)
  · cases h
theorem S75_ok {R : Type} (k : Nat) : SumOk Try.prog 75 true (S75 k : Sum R) := by
  refine sumOk_keep (S75_ok0 k) ?_
  intro args H K r h
  unfold S75 S75G at h ⊢
  split at h
  · refine Eq.trans ?_ h
    show soft_shape_round k _ _ _ _ _ _ _ _ _ _ = soft_shape_round k _ _ _ _ _ _ _ _ _ _
    congr 1
    all_goals first | exact (funext fun q1 => if_pos (keeps_app _ _ _ [])) | skip
  · cases h
-- function 48: plumbline/soft.Round
noncomputable def fi48 : FnI := ⟨48, Try.f48, []⟩
theorem en48 : Enters Try.prog 48 := enters_of Try.func48 (c := ((Try.f48).body.getD .skip)) (by kernel_rfl) (by kernel_rfl)
noncomputable def cx48 {R : Type} (k : Nat) : Cx R := mkCx Ty exts [(45, true, S45 k), (47, true, S47 k), (68, true, S68 k), (75, true, S75 k)] fi48 [] []
theorem cx48_ok {R : Type} (k : Nat) : CxOk Try.prog (cx48 k : Cx R) := mkCx_ok (c := ((Try.f48).body.getD .skip)) ty_ok mixed exts_ok (allSum_cons (S45_ok k) en45 (allSum_cons (S47_ok k) en47 (allSum_cons (S68_ok k) en68 (allSum_cons (S75_ok k) en75 allSum_nil)))) Try.func48 en48 (by kernel_rfl) (by kernel_rfl) allLoop_nil allCut_nil
@[reducible] def soft_RoundY (R : Type) : Type := Nat → Int → Int → Bool → Int → Int → Int → Bool → (Int → Option R) → Option R
noncomputable def soft_RoundT {R : Type} (soft_shapeOf : soft_shapeOfY R) (soft_shape_round : soft_shape_roundY R) (wide_Len : wide_LenY R) (wide_Shl : wide_ShlY R) (k : Nat) (a1 : Int) (a2 : Int) (a3 : Bool) (a4 : Int) (a5 : Int) (a6 : Int) (a7 : Bool) (K0 : Int → Option R) : Option R :=
  soft_shapeOf k a1 (fun r1 r2 r3 =>
    cond a7 (
      wide_Len k a4 a5 (fun r4 =>
        cond (decide (r4 ≤ 126)) (
          wide_Shl k a4 a5 2 (fun r5 r6 =>
            soft_shape_round k r1 r2 r3 a2 a3 r5 (bOr .u64 r6 1) (Wi64 ((if 4000 < (if (-4000) > a6 then (-4000) else a6) then 4000 else (if (-4000) > a6 then (-4000) else a6)) - 2)) false (fun r7 =>
              K0 r7))) (
          soft_shape_round k r1 r2 r3 a2 a3 a4 a5 (if 4000 < (if (-4000) > a6 then (-4000) else a6) then 4000 else (if (-4000) > a6 then (-4000) else a6)) a7 (fun r8 =>
            K0 r8)))) (
      soft_shape_round k r1 r2 r3 a2 a3 a4 a5 (if 4000 < (if (-4000) > a6 then (-4000) else a6) then 4000 else (if (-4000) > a6 then (-4000) else a6)) a7 (fun r9 =>
        K0 r9)))
noncomputable def soft_Round {R : Type} (k : Nat) (a1 : Int) (a2 : Int) (a3 : Bool) (a4 : Int) (a5 : Int) (a6 : Int) (a7 : Bool) (K0 : Int → Option R) : Option R := soft_RoundT soft_shapeOf soft_shape_round wide_Len wide_Shl k a1 a2 a3 a4 a5 a6 a7 K0
theorem soft_Round_gen {R : Type} (wide_Len : wide_LenY R) (wide_Shl : wide_ShlY R) (soft_shapeOf : soft_shapeOfY R) (soft_shape_round : soft_shape_roundY R) (k : Nat) (a1 : Int) (a2 : Int) (a3 : Bool) (a4 : Int) (a5 : Int) (a6 : Int) (a7 : Bool) (K : AV → Heap → Option R) :
    fnK (mkCx Ty exts [(45, true, S45G wide_Len k), (47, true, S47G wide_Shl k), (68, true, S68G soft_shapeOf k), (75, true, S75G soft_shape_round k)] fi48 [] []) 6 48 [.i .i64 a1, .i .i64 a2, .b a3, .agg [.i .u64 a4, .i .u64 a5], .i .i64 a6, .b a7] ⟨0, []⟩ K = soft_RoundT soft_shapeOf soft_shape_round wide_Len wide_Shl k a1 a2 a3 a4 a5 a6 a7 (fun q1 => K (.i .u64 q1) ⟨0, []⟩) := by kernel_rfl
noncomputable def S48G {R : Type} (soft_Round : soft_RoundY R) (k : Nat) : Sum R := fun args H K => match args, H with
  | [.i .i64 a1, .i .i64 a2, .b a3, .agg [.i .u64 a4, .i .u64 a5], .i .i64 a6, .b a7], ⟨0, []⟩ => soft_Round k a1 a2 a3 a4 a5 a6 a7 (fun q1 => K (.i .u64 q1) ⟨0, []⟩)
  | _, _ => none
noncomputable def S48 {R : Type} (k : Nat) : Sum R := S48G soft_Round k
theorem S48_ok0 {R : Type} (k : Nat) : SumOk Try.prog 48 false (S48 k : Sum R) := by
  intro args H K r h
  unfold S48 S48G at h
  split at h
  · exact fnK_sound (cx48_ok k) 6 48 _ _ K r ((soft_Round_gen wide_Len wide_Shl soft_shapeOf soft_shape_round k _ _ _ _ _ _ _ K).trans h)
  · cases h
theorem S48_ok {R : Type} (k : Nat) : SumOk Try.prog 48 true (S48 k : Sum R) := by
  refine sumOk_keep (S48_ok0 k) ?_
  intro args H K r h
  unfold S48 S48G at h ⊢
  split at h
  · refine Eq.trans ?_ h
    show soft_Round k _ _ _ _ _ _ _ _ = soft_Round k _ _ _ _ _ _ _ _
    congr 1
    all_goals first | exact (funext fun q1 => if_pos (keeps_app _ _ _ [])) | skip
  · cases h
-- function 60: plumbline/soft.apart
noncomputable def fi60 : FnI := ⟨60, Try.f60, []⟩
theorem en60 : Enters Try.prog 60 := enters_of Try.func60 (c := ((Try.f60).body.getD .skip)) (by kernel_rfl) (by kernel_rfl)
noncomputable def cx60 {R : Type} (k : Nat) : Cx R := mkCx Ty exts [(68, true, S68 k), (79, true, S79 k), (81, true, S81 k)] fi60 [] []
theorem cx60_ok {R : Type} (k : Nat) : CxOk Try.prog (cx60 k : Cx R) := mkCx_ok (c := ((Try.f60).body.getD .skip)) ty_ok mixed exts_ok (allSum_cons (S68_ok k) en68 (allSum_cons (S79_ok k) en79 (allSum_cons (S81_ok k) en81 allSum_nil))) Try.func60 en60 (by kernel_rfl) (by kernel_rfl) allLoop_nil allCut_nil
@[reducible] def soft_apartY (R : Type) : Type := Nat → Int → Int → (Int → Int → Int → Int → Bool → Int → Int → Option R) → Option R
noncomputable def soft_apartT {R : Type} (soft_shapeOf : soft_shapeOfY R) (soft_shape_full : soft_shape_fullY R) (soft_shape_sign : soft_shape_signY R) (k : Nat) (a1 : Int) (a2 : Int) (K0 : Int → Int → Int → Int → Bool → Int → Int → Option R) : Option R :=
  soft_shapeOf k a1 (fun r1 r2 r3 =>
    cond (a1 == 1) (
      cond ((shr .u64 a2 32) != 0) (
        K0 r1 r2 r3 0 false 0 0) (
        cond (decide (r1 < 0)) (
          none) (
          soft_shape_full k r1 r2 r3 (fun r4 =>
            cond (decide (r1 < 0)) (
              none) (
              soft_shape_sign k r1 r2 r3 true (fun r5 =>
                soft_shape_full k r1 r2 r3 (fun r6 =>
                  cond ((bAnd .u64 (shr .u64 a2 r1) r4) == r6) (
                    cond ((bAnd .u64 a2 (Wu64 ((shl .u64 1 r1) - 1))) != 0) (
                      K0 r1 r2 r3 0 ((bAnd .u64 a2 r5) != 0) 0 0) (
                      soft_shape_full k r1 r2 r3 (fun r7 =>
                        cond ((bAnd .u64 (shr .u64 a2 r1) r4) == r7) (
                          K0 r1 r2 r3 1 ((bAnd .u64 a2 r5) != 0) 0 0) (
                          cond ((bAnd .u64 (shr .u64 a2 r1) r4) == 0) (
                            cond ((bAnd .u64 a2 (Wu64 ((shl .u64 1 r1) - 1))) == 0) (
                              K0 r1 r2 r3 2 ((bAnd .u64 a2 r5) != 0) 0 0) (
                              cond ((bAnd .u64 (shr .u64 a2 r1) r4) == 0) (
                                K0 r1 r2 r3 3 ((bAnd .u64 a2 r5) != 0) (bAnd .u64 a2 (Wu64 ((shl .u64 1 r1) - 1))) r3) (
                                cond (decide (r1 < 0)) (
                                  none) (
                                  K0 r1 r2 r3 3 ((bAnd .u64 a2 r5) != 0) (bOr .u64 (bAnd .u64 a2 (Wu64 ((shl .u64 1 r1) - 1))) (shl .u64 1 r1)) (Wi64 ((Wi64 ((Wi64 (bAnd .u64 (shr .u64 a2 r1) r4)) - 1)) + r3)))))) (
                            cond ((bAnd .u64 (shr .u64 a2 r1) r4) == 0) (
                              K0 r1 r2 r3 3 ((bAnd .u64 a2 r5) != 0) (bAnd .u64 a2 (Wu64 ((shl .u64 1 r1) - 1))) r3) (
                              cond (decide (r1 < 0)) (
                                none) (
                                K0 r1 r2 r3 3 ((bAnd .u64 a2 r5) != 0) (bOr .u64 (bAnd .u64 a2 (Wu64 ((shl .u64 1 r1) - 1))) (shl .u64 1 r1)) (Wi64 ((Wi64 ((Wi64 (bAnd .u64 (shr .u64 a2 r1) r4)) - 1)) + r3))))))))) (
                    soft_shape_full k r1 r2 r3 (fun r8 =>
                      cond ((bAnd .u64 (shr .u64 a2 r1) r4) == r8) (
                        K0 r1 r2 r3 1 ((bAnd .u64 a2 r5) != 0) 0 0) (
                        cond ((bAnd .u64 (shr .u64 a2 r1) r4) == 0) (
                          cond ((bAnd .u64 a2 (Wu64 ((shl .u64 1 r1) - 1))) == 0) (
                            K0 r1 r2 r3 2 ((bAnd .u64 a2 r5) != 0) 0 0) (
                            cond ((bAnd .u64 (shr .u64 a2 r1) r4) == 0) (
                              K0 r1 r2 r3 3 ((bAnd .u64 a2 r5) != 0) (bAnd .u64 a2 (Wu64 ((shl .u64 1 r1) - 1))) r3) (
                              cond (decide (r1 < 0)) (
                                none) (
                                K0 r1 r2 r3 3 ((bAnd .u64 a2 r5) != 0) (bOr .u64 (bAnd .u64 a2 (Wu64 ((shl .u64 1 r1) - 1))) (shl .u64 1 r1)) (Wi64 ((Wi64 ((Wi64 (bAnd .u64 (shr .u64 a2 r1) r4)) - 1)) + r3)))))) (
                          cond ((bAnd .u64 (shr .u64 a2 r1) r4) == 0) (
                            K0 r1 r2 r3 3 ((bAnd .u64 a2 r5) != 0) (bAnd .u64 a2 (Wu64 ((shl .u64 1 r1) - 1))) r3) (
                            cond (decide (r1 < 0)) (
                              none) (
                              K0 r1 r2 r3 3 ((bAnd .u64 a2 r5) != 0) (bOr .u64 (bAnd .u64 a2 (Wu64 ((shl .u64 1 r1) - 1))) (shl .u64 1 r1)) (Wi64 ((Wi64 ((Wi64 (bAnd .u64 (shr .u64 a2 r1) r4)) - 1)) + r3))))))))))))))) (
      cond (decide (r1 < 0)) (
        none) (
        soft_shape_full k r1 r2 r3 (fun r9 =>
          cond (decide (r1 < 0)) (
            none) (
            soft_shape_sign k r1 r2 r3 true (fun r10 =>
              soft_shape_full k r1 r2 r3 (fun r11 =>
                cond ((bAnd .u64 (shr .u64 a2 r1) r9) == r11) (
                  cond ((bAnd .u64 a2 (Wu64 ((shl .u64 1 r1) - 1))) != 0) (
                    K0 r1 r2 r3 0 ((bAnd .u64 a2 r10) != 0) 0 0) (
                    soft_shape_full k r1 r2 r3 (fun r12 =>
                      cond ((bAnd .u64 (shr .u64 a2 r1) r9) == r12) (
                        K0 r1 r2 r3 1 ((bAnd .u64 a2 r10) != 0) 0 0) (
                        cond ((bAnd .u64 (shr .u64 a2 r1) r9) == 0) (
                          cond ((bAnd .u64 a2 (Wu64 ((shl .u64 1 r1) - 1))) == 0) (
                            K0 r1 r2 r3 2 ((bAnd .u64 a2 r10) != 0) 0 0) (
                            cond ((bAnd .u64 (shr .u64 a2 r1) r9) == 0) (
                              K0 r1 r2 r3 3 ((bAnd .u64 a2 r10) != 0) (bAnd .u64 a2 (Wu64 ((shl .u64 1 r1) - 1))) r3) (
                              cond (decide (r1 < 0)) (
                                none) (
                                K0 r1 r2 r3 3 ((bAnd .u64 a2 r10) != 0) (bOr .u64 (bAnd .u64 a2 (Wu64 ((shl .u64 1 r1) - 1))) (shl .u64 1 r1)) (Wi64 ((Wi64 ((Wi64 (bAnd .u64 (shr .u64 a2 r1) r9)) - 1)) + r3)))))) (
                          cond ((bAnd .u64 (shr .u64 a2 r1) r9) == 0) (
                            K0 r1 r2 r3 3 ((bAnd .u64 a2 r10) != 0) (bAnd .u64 a2 (Wu64 ((shl .u64 1 r1) - 1))) r3) (
                            cond (decide (r1 < 0)) (
                              none) (
                              K0 r1 r2 r3 3 ((bAnd .u64 a2 r10) != 0) (bOr .u64 (bAnd .u64 a2 (Wu64 ((shl .u64 1 r1) - 1))) (shl .u64 1 r1)) (Wi64 ((Wi64 ((Wi64 (bAnd .u64 (shr .u64 a2 r1) r9)) - 1)) + r3))))))))) (
                  soft_shape_full k r1 r2 r3 (fun r13 =>
                    cond ((bAnd .u64 (shr .u64 a2 r1) r9) == r13) (
                      K0 r1 r2 r3 1 ((bAnd .u64 a2 r10) != 0) 0 0) (
                      cond ((bAnd .u64 (shr .u64 a2 r1) r9) == 0) (
                        cond ((bAnd .u64 a2 (Wu64 ((shl .u64 1 r1) - 1))) == 0) (
                          K0 r1 r2 r3 2 ((bAnd .u64 a2 r10) != 0) 0 0) (
                          cond ((bAnd .u64 (shr .u64 a2 r1) r9) == 0) (
                            K0 r1 r2 r3 3 ((bAnd .u64 a2 r10) != 0) (bAnd .u64 a2 (Wu64 ((shl .u64 1 r1) - 1))) r3) (
                            cond (decide (r1 < 0)) (
                              none) (
                              K0 r1 r2 r3 3 ((bAnd .u64 a2 r10) != 0) (bOr .u64 (bAnd .u64 a2 (Wu64 ((shl .u64 1 r1) - 1))) (shl .u64 1 r1)) (Wi64 ((Wi64 ((Wi64 (bAnd .u64 (shr .u64 a2 r1) r9)) - 1)) + r3)))))) (
                        cond ((bAnd .u64 (shr .u64 a2 r1) r9) == 0) (
                          K0 r1 r2 r3 3 ((bAnd .u64 a2 r10) != 0) (bAnd .u64 a2 (Wu64 ((shl .u64 1 r1) - 1))) r3) (
                          cond (decide (r1 < 0)) (
                            none) (
                            K0 r1 r2 r3 3 ((bAnd .u64 a2 r10) != 0) (bOr .u64 (bAnd .u64 a2 (Wu64 ((shl .u64 1 r1) - 1))) (shl .u64 1 r1)) (Wi64 ((Wi64 ((Wi64 (bAnd .u64 (shr .u64 a2 r1) r9)) - 1)) + r3)))))))))))))))
noncomputable def soft_apart {R : Type} (k : Nat) (a1 : Int) (a2 : Int) (K0 : Int → Int → Int → Int → Bool → Int → Int → Option R) : Option R := soft_apartT soft_shapeOf soft_shape_full soft_shape_sign k a1 a2 K0
theorem soft_apart_gen {R : Type} (soft_shapeOf : soft_shapeOfY R) (soft_shape_sign : soft_shape_signY R) (soft_shape_full : soft_shape_fullY R) (k : Nat) (a1 : Int) (a2 : Int) (K : AV → Heap → Option R) :
    fnK (mkCx Ty exts [(68, true, S68G soft_shapeOf k), (79, true, S79G soft_shape_sign k), (81, true, S81G soft_shape_full k)] fi60 [] []) 6 60 [.i .i64 a1, .i .u64 a2] ⟨0, []⟩ K = soft_apartT soft_shapeOf soft_shape_full soft_shape_sign k a1 a2 (fun q1 q2 q3 q4 q5 q6 q7 => K (.agg [.i .i64 q1, .i .i64 q2, .i .i64 q3, .i .i64 q4, .b q5, .i .u64 q6, .i .i64 q7]) ⟨0, []⟩) := by kernel_rfl
noncomputable def S60G {R : Type} (soft_apart : soft_apartY R) (k : Nat) : Sum R := fun args H K => match args, H with
  | [.i .i64 a1, .i .u64 a2], ⟨0, []⟩ => soft_apart k a1 a2 (fun q1 q2 q3 q4 q5 q6 q7 => K (.agg [.i .i64 q1, .i .i64 q2, .i .i64 q3, .i .i64 q4, .b q5, .i .u64 q6, .i .i64 q7]) ⟨0, []⟩)
  | _, _ => none
noncomputable def S60 {R : Type} (k : Nat) : Sum R := S60G soft_apart k
theorem S60_ok0 {R : Type} (k : Nat) : SumOk Try.prog 60 false (S60 k : Sum R) := by
  intro args H K r h
  unfold S60 S60G at h
  split at h
  · exact fnK_sound (cx60_ok k) 6 60 _ _ K r ((soft_apart_gen soft_shapeOf soft_shape_sign soft_shape_full k _ _ K).trans h)
  · cases h
theorem S60_ok {R : Type} (k : Nat) : SumOk Try.prog 60 true (S60 k : Sum R) := by
  refine sumOk_keep (S60_ok0 k) ?_
  intro args H K r h
  unfold S60 S60G at h ⊢
  split at h
  · refine Eq.trans ?_ h
    show soft_apart k _ _ _ = soft_apart k _ _ _
    congr 1
    all_goals first | exact (funext fun q1 => funext fun q2 => funext fun q3 => funext fun q4 => funext fun q5 => funext fun q6 => funext fun q7 => if_pos (keeps_app _ _ _ [])) | skip
  · cases h
-- function 37: plumbline/soft.Finite
noncomputable def fi37 : FnI := ⟨37, Try.f37, []⟩
theorem en37 : Enters Try.prog 37 := enters_of Try.func37 (c := ((Try.f37).body.getD .skip)) (by kernel_rfl) (by kernel_rfl)
noncomputable def cx37 {R : Type} (k : Nat) : Cx R := mkCx Ty exts [(60, true, S60 k)] fi37 [] []
theorem cx37_ok {R : Type} (k : Nat) : CxOk Try.prog (cx37 k : Cx R) := mkCx_ok (c := ((Try.f37).body.getD .skip)) ty_ok mixed exts_ok (allSum_cons (S60_ok k) en60 allSum_nil) Try.func37 en37 (by kernel_rfl) (by kernel_rfl) allLoop_nil allCut_nil
@[reducible] def soft_FiniteY (R : Type) : Type := Nat → Int → Int → (Bool → Option R) → Option R
noncomputable def soft_FiniteT {R : Type} (soft_apart : soft_apartY R) (k : Nat) (a1 : Int) (a2 : Int) (K0 : Bool → Option R) : Option R :=
  soft_apart k a1 a2 (fun r1 r2 r3 r4 r5 r6 r7 =>
    K0 (decide (r4 ≥ 2)))
noncomputable def soft_Finite {R : Type} (k : Nat) (a1 : Int) (a2 : Int) (K0 : Bool → Option R) : Option R := soft_FiniteT soft_apart k a1 a2 K0
theorem soft_Finite_gen {R : Type} (soft_apart : soft_apartY R) (k : Nat) (a1 : Int) (a2 : Int) (K : AV → Heap → Option R) :
    fnK (mkCx Ty exts [(60, true, S60G soft_apart k)] fi37 [] []) 6 37 [.i .i64 a1, .i .u64 a2] ⟨0, []⟩ K = soft_FiniteT soft_apart k a1 a2 (fun q1 => K (.b q1) ⟨0, []⟩) := by kernel_rfl
noncomputable def S37G {R : Type} (soft_Finite : soft_FiniteY R) (k : Nat) : Sum R := fun args H K => match args, H with
  | [.i .i64 a1, .i .u64 a2], ⟨0, []⟩ => soft_Finite k a1 a2 (fun q1 => K (.b q1) ⟨0, []⟩)
  | _, _ => none
noncomputable def S37 {R : Type} (k : Nat) : Sum R := S37G soft_Finite k
theorem S37_ok0 {R : Type} (k : Nat) : SumOk Try.prog 37 false (S37 k : Sum R) := by
  intro args H K r h
  unfold S37 S37G at h
  split at h
  · exact fnK_sound (cx37_ok k) 6 37 _ _ K r ((soft_Finite_gen soft_apart k _ _ K).trans h)
  · cases h
theorem S37_ok {R : Type} (k : Nat) : SumOk Try.prog 37 true (S37 k : Sum R) := by
  refine sumOk_keep (S37_ok0 k) ?_
  intro args H K r h
  unfold S37 S37G at h ⊢
  split at h
  · refine Eq.trans ?_ h
    show soft_Finite k _ _ _ = soft_Finite k _ _ _
    congr 1
    all_goals first | exact (funext fun q1 => if_pos (keeps_app _ _ _ [])) | skip
  · cases h
-- function 69: (plumbline/soft.shape).nan
noncomputable def fi69 : FnI := ⟨69, Try.f69, []⟩
theorem en69 : Enters Try.prog 69 := enters_of Try.func69 (c := ((Try.f69).body.getD .skip)) (by kernel_rfl) (by kernel_rfl)
noncomputable def cx69 {R : Type} (k : Nat) : Cx R := mkCx Ty exts [(81, true, S81 k)] fi69 [] []
theorem cx69_ok {R : Type} (k : Nat) : CxOk Try.prog (cx69 k : Cx R) := mkCx_ok (c := ((Try.f69).body.getD .skip)) ty_ok mixed exts_ok (allSum_cons (S81_ok k) en81 allSum_nil) Try.func69 en69 (by kernel_rfl) (by kernel_rfl) allLoop_nil allCut_nil
@[reducible] def soft_shape_nanY (R : Type) : Type := Nat → Int → Int → Int → (Int → Option R) → Option R
noncomputable def soft_shape_nanT {R : Type} (soft_shape_full : soft_shape_fullY R) (k : Nat) (a1 : Int) (a2 : Int) (a3 : Int) (K0 : Int → Option R) : Option R :=
  soft_shape_full k a1 a2 a3 (fun r1 =>
    cond (decide (a1 < 0)) (
      none) (
      cond (decide ((Wi64 (a1 - 1)) < 0)) (
        none) (
        K0 (bOr .u64 (shl .u64 r1 a1) (shl .u64 1 (Wi64 (a1 - 1)))))))
noncomputable def soft_shape_nan {R : Type} (k : Nat) (a1 : Int) (a2 : Int) (a3 : Int) (K0 : Int → Option R) : Option R := soft_shape_nanT soft_shape_full k a1 a2 a3 K0
theorem soft_shape_nan_gen {R : Type} (soft_shape_full : soft_shape_fullY R) (k : Nat) (a1 : Int) (a2 : Int) (a3 : Int) (K : AV → Heap → Option R) :
    fnK (mkCx Ty exts [(81, true, S81G soft_shape_full k)] fi69 [] []) 6 69 [.agg [.i .i64 a1, .i .i64 a2, .i .i64 a3]] ⟨0, []⟩ K = soft_shape_nanT soft_shape_full k a1 a2 a3 (fun q1 => K (.i .u64 q1) ⟨0, []⟩) := by kernel_rfl
noncomputable def S69G {R : Type} (soft_shape_nan : soft_shape_nanY R) (k : Nat) : Sum R := fun args H K => match args, H with
  | [.agg [.i .i64 a1, .i .i64 a2, .i .i64 a3]], ⟨0, []⟩ => soft_shape_nan k a1 a2 a3 (fun q1 => K (.i .u64 q1) ⟨0, []⟩)
  | _, _ => none
noncomputable def S69 {R : Type} (k : Nat) : Sum R := S69G soft_shape_nan k
theorem S69_ok0 {R : Type} (k : Nat) : SumOk Try.prog 69 false (S69 k : Sum R) := by
  intro args H K r h
  unfold S69 S69G at h
  split at h
  · exact fnK_sound (cx69_ok k) 6 69 _ _ K r ((soft_shape_nan_gen soft_shape_full k _ _ _ K).trans h)
  · cases h
theorem S69_ok {R : Type} (k : Nat) : SumOk Try.prog 69 true (S69 k : Sum R) := by
  refine sumOk_keep (S69_ok0 k) ?_
  intro args H K r h
  unfold S69 S69G at h ⊢
  split at h
  · refine Eq.trans ?_ h
    show soft_shape_nan k _ _ _ _ = soft_shape_nan k _ _ _ _
    congr 1
    all_goals first | exact (funext fun q1 => if_pos (keeps_app _ _ _ [])) | skip
  · cases h
-- function 38: plumbline/soft.Nan
noncomputable def fi38 : FnI := ⟨38, Try.f38, []⟩
theorem en38 : Enters Try.prog 38 := enters_of Try.func38 (c := ((Try.f38).body.getD .skip)) (by kernel_rfl) (by kernel_rfl)
noncomputable def cx38 {R : Type} (k : Nat) : Cx R := mkCx Ty exts [(68, true, S68 k), (69, true, S69 k)] fi38 [] []
theorem cx38_ok {R : Type} (k : Nat) : CxOk Try.prog (cx38 k : Cx R) := mkCx_ok (c := ((Try.f38).body.getD .skip)) ty_ok mixed exts_ok (allSum_cons (S68_ok k) en68 (allSum_cons (S69_ok k) en69 allSum_nil)) Try.func38 en38 (by kernel_rfl) (by kernel_rfl) allLoop_nil allCut_nil
@[reducible] def soft_NanY (R : Type) : Type := Nat → Int → (Int → Option R) → Option R
noncomputable def soft_NanT {R : Type} (soft_shapeOf : soft_shapeOfY R) (soft_shape_nan : soft_shape_nanY R) (k : Nat) (a1 : Int) (K0 : Int → Option R) : Option R :=
  soft_shapeOf k a1 (fun r1 r2 r3 =>
    soft_shape_nan k r1 r2 r3 (fun r4 =>
      K0 r4))
noncomputable def soft_Nan {R : Type} (k : Nat) (a1 : Int) (K0 : Int → Option R) : Option R := soft_NanT soft_shapeOf soft_shape_nan k a1 K0
theorem soft_Nan_gen {R : Type} (soft_shapeOf : soft_shapeOfY R) (soft_shape_nan : soft_shape_nanY R) (k : Nat) (a1 : Int) (K : AV → Heap → Option R) :
    fnK (mkCx Ty exts [(68, true, S68G soft_shapeOf k), (69, true, S69G soft_shape_nan k)] fi38 [] []) 6 38 [.i .i64 a1] ⟨0, []⟩ K = soft_NanT soft_shapeOf soft_shape_nan k a1 (fun q1 => K (.i .u64 q1) ⟨0, []⟩) := by kernel_rfl
noncomputable def S38G {R : Type} (soft_Nan : soft_NanY R) (k : Nat) : Sum R := fun args H K => match args, H with
  | [.i .i64 a1], ⟨0, []⟩ => soft_Nan k a1 (fun q1 => K (.i .u64 q1) ⟨0, []⟩)
  | _, _ => none
noncomputable def S38 {R : Type} (k : Nat) : Sum R := S38G soft_Nan k
theorem S38_ok0 {R : Type} (k : Nat) : SumOk Try.prog 38 false (S38 k : Sum R) := by
  intro args H K r h
  unfold S38 S38G at h
  split at h
  · exact fnK_sound (cx38_ok k) 6 38 _ _ K r ((soft_Nan_gen soft_shapeOf soft_shape_nan k _ K).trans h)
  · cases h
theorem S38_ok {R : Type} (k : Nat) : SumOk Try.prog 38 true (S38 k : Sum R) := by
  refine sumOk_keep (S38_ok0 k) ?_
  intro args H K r h
  unfold S38 S38G at h ⊢
  split at h
  · refine Eq.trans ?_ h
    show soft_Nan k _ _ = soft_Nan k _ _
    congr 1
    all_goals first | exact (funext fun q1 => if_pos (keeps_app _ _ _ [])) | skip
  · cases h
-- function 42: plumbline/soft.Class
noncomputable def fi42 : FnI := ⟨42, Try.f42, []⟩
theorem en42 : Enters Try.prog 42 := enters_of Try.func42 (c := ((Try.f42).body.getD .skip)) (by kernel_rfl) (by kernel_rfl)
noncomputable def cx42 {R : Type} (k : Nat) : Cx R := mkCx Ty exts [(60, true, S60 k)] fi42 [] []
theorem cx42_ok {R : Type} (k : Nat) : CxOk Try.prog (cx42 k : Cx R) := mkCx_ok (c := ((Try.f42).body.getD .skip)) ty_ok mixed exts_ok (allSum_cons (S60_ok k) en60 allSum_nil) Try.func42 en42 (by kernel_rfl) (by kernel_rfl) allLoop_nil allCut_nil
@[reducible] def soft_ClassY (R : Type) : Type := Nat → Int → Int → (Int → Option R) → Option R
noncomputable def soft_ClassT {R : Type} (soft_apart : soft_apartY R) (k : Nat) (a1 : Int) (a2 : Int) (K0 : Int → Option R) : Option R :=
  soft_apart k a1 a2 (fun r1 r2 r3 r4 r5 r6 r7 =>
    cond (a1 == 1) (
      cond ((shr .u64 a2 32) != 0) (
        K0 0) (
        cond (r4 == 0) (
          K0 5) (
          cond (r4 == 1) (
            K0 4) (
            cond (r4 == 2) (
              K0 1) (
              cond (decide (r1 < 0)) (
                none) (
                cond ((shr .u64 r6 r1) == 0) (
                  K0 2) (
                  K0 3))))))) (
      cond (r4 == 0) (
        K0 5) (
        cond (r4 == 1) (
          K0 4) (
          cond (r4 == 2) (
            K0 1) (
            cond (decide (r1 < 0)) (
              none) (
              cond ((shr .u64 r6 r1) == 0) (
                K0 2) (
                K0 3)))))))
noncomputable def soft_Class {R : Type} (k : Nat) (a1 : Int) (a2 : Int) (K0 : Int → Option R) : Option R := soft_ClassT soft_apart k a1 a2 K0
theorem soft_Class_gen {R : Type} (soft_apart : soft_apartY R) (k : Nat) (a1 : Int) (a2 : Int) (K : AV → Heap → Option R) :
    fnK (mkCx Ty exts [(60, true, S60G soft_apart k)] fi42 [] []) 6 42 [.i .i64 a1, .i .u64 a2] ⟨0, []⟩ K = soft_ClassT soft_apart k a1 a2 (fun q1 => K (.i .i64 q1) ⟨0, []⟩) := by kernel_rfl
noncomputable def S42G {R : Type} (soft_Class : soft_ClassY R) (k : Nat) : Sum R := fun args H K => match args, H with
  | [.i .i64 a1, .i .u64 a2], ⟨0, []⟩ => soft_Class k a1 a2 (fun q1 => K (.i .i64 q1) ⟨0, []⟩)
  | _, _ => none
noncomputable def S42 {R : Type} (k : Nat) : Sum R := S42G soft_Class k
theorem S42_ok0 {R : Type} (k : Nat) : SumOk Try.prog 42 false (S42 k : Sum R) := by
  intro args H K r h
  unfold S42 S42G at h
  split at h
  · exact fnK_sound (cx42_ok k) 6 42 _ _ K r ((soft_Class_gen soft_apart k _ _ K).trans h)
  · cases h
theorem S42_ok {R : Type} (k : Nat) : SumOk Try.prog 42 true (S42 k : Sum R) := by
  refine sumOk_keep (S42_ok0 k) ?_
  intro args H K r h
  unfold S42 S42G at h ⊢
  split at h
  · refine Eq.trans ?_ h
    show soft_Class k _ _ _ = soft_Class k _ _ _
    congr 1
    all_goals first | exact (funext fun q1 => if_pos (keeps_app _ _ _ [])) | skip
  · cases h
-- function 39: plumbline/soft.Most
noncomputable def fi39 : FnI := ⟨39, Try.f39, []⟩
theorem en39 : Enters Try.prog 39 := enters_of Try.func39 (c := ((Try.f39).body.getD .skip)) (by kernel_rfl) (by kernel_rfl)
noncomputable def cx39 {R : Type} (k : Nat) : Cx R := mkCx Ty exts [(68, true, S68 k), (70, true, S70 k)] fi39 [] []
theorem cx39_ok {R : Type} (k : Nat) : CxOk Try.prog (cx39 k : Cx R) := mkCx_ok (c := ((Try.f39).body.getD .skip)) ty_ok mixed exts_ok (allSum_cons (S68_ok k) en68 (allSum_cons (S70_ok k) en70 allSum_nil)) Try.func39 en39 (by kernel_rfl) (by kernel_rfl) allLoop_nil allCut_nil
@[reducible] def soft_MostY (R : Type) : Type := Nat → Int → (Int → Option R) → Option R
noncomputable def soft_MostT {R : Type} (soft_shapeOf : soft_shapeOfY R) (soft_shape_most : soft_shape_mostY R) (k : Nat) (a1 : Int) (K0 : Int → Option R) : Option R :=
  soft_shapeOf k a1 (fun r1 r2 r3 =>
    soft_shape_most k r1 r2 r3 false (fun r4 =>
      K0 r4))
noncomputable def soft_Most {R : Type} (k : Nat) (a1 : Int) (K0 : Int → Option R) : Option R := soft_MostT soft_shapeOf soft_shape_most k a1 K0
theorem soft_Most_gen {R : Type} (soft_shapeOf : soft_shapeOfY R) (soft_shape_most : soft_shape_mostY R) (k : Nat) (a1 : Int) (K : AV → Heap → Option R) :
    fnK (mkCx Ty exts [(68, true, S68G soft_shapeOf k), (70, true, S70G soft_shape_most k)] fi39 [] []) 6 39 [.i .i64 a1] ⟨0, []⟩ K = soft_MostT soft_shapeOf soft_shape_most k a1 (fun q1 => K (.i .u64 q1) ⟨0, []⟩) := by kernel_rfl
noncomputable def S39G {R : Type} (soft_Most : soft_MostY R) (k : Nat) : Sum R := fun args H K => match args, H with
  | [.i .i64 a1], ⟨0, []⟩ => soft_Most k a1 (fun q1 => K (.i .u64 q1) ⟨0, []⟩)
  | _, _ => none
noncomputable def S39 {R : Type} (k : Nat) : Sum R := S39G soft_Most k
theorem S39_ok0 {R : Type} (k : Nat) : SumOk Try.prog 39 false (S39 k : Sum R) := by
  intro args H K r h
  unfold S39 S39G at h
  split at h
  · exact fnK_sound (cx39_ok k) 6 39 _ _ K r ((soft_Most_gen soft_shapeOf soft_shape_most k _ K).trans h)
  · cases h
theorem S39_ok {R : Type} (k : Nat) : SumOk Try.prog 39 true (S39 k : Sum R) := by
  refine sumOk_keep (S39_ok0 k) ?_
  intro args H K r h
  unfold S39 S39G at h ⊢
  split at h
  · refine Eq.trans ?_ h
    show soft_Most k _ _ = soft_Most k _ _
    congr 1
    all_goals first | exact (funext fun q1 => if_pos (keeps_app _ _ _ [])) | skip
  · cases h
-- function 58: plumbline/soft.Neg
noncomputable def fi58 : FnI := ⟨58, Try.f58, []⟩
theorem en58 : Enters Try.prog 58 := enters_of Try.func58 (c := ((Try.f58).body.getD .skip)) (by kernel_rfl) (by kernel_rfl)
noncomputable def cx58 {R : Type} (k : Nat) : Cx R := mkCx Ty exts [(60, true, S60 k), (69, true, S69 k), (79, true, S79 k)] fi58 [] []
theorem cx58_ok {R : Type} (k : Nat) : CxOk Try.prog (cx58 k : Cx R) := mkCx_ok (c := ((Try.f58).body.getD .skip)) ty_ok mixed exts_ok (allSum_cons (S60_ok k) en60 (allSum_cons (S69_ok k) en69 (allSum_cons (S79_ok k) en79 allSum_nil))) Try.func58 en58 (by kernel_rfl) (by kernel_rfl) allLoop_nil allCut_nil
@[reducible] def soft_NegY (R : Type) : Type := Nat → Int → Int → (Int → Option R) → Option R
noncomputable def soft_NegT {R : Type} (soft_apart : soft_apartY R) (soft_shape_nan : soft_shape_nanY R) (soft_shape_sign : soft_shape_signY R) (k : Nat) (a1 : Int) (a2 : Int) (K0 : Int → Option R) : Option R :=
  soft_apart k a1 a2 (fun r1 r2 r3 r4 r5 r6 r7 =>
    cond (r4 == 0) (
      soft_shape_nan k r1 r2 r3 (fun r8 =>
        K0 r8)) (
      soft_shape_sign k r1 r2 r3 true (fun r9 =>
        K0 (bXor .u64 a2 r9))))
noncomputable def soft_Neg {R : Type} (k : Nat) (a1 : Int) (a2 : Int) (K0 : Int → Option R) : Option R := soft_NegT soft_apart soft_shape_nan soft_shape_sign k a1 a2 K0
theorem soft_Neg_gen {R : Type} (soft_apart : soft_apartY R) (soft_shape_nan : soft_shape_nanY R) (soft_shape_sign : soft_shape_signY R) (k : Nat) (a1 : Int) (a2 : Int) (K : AV → Heap → Option R) :
    fnK (mkCx Ty exts [(60, true, S60G soft_apart k), (69, true, S69G soft_shape_nan k), (79, true, S79G soft_shape_sign k)] fi58 [] []) 6 58 [.i .i64 a1, .i .u64 a2] ⟨0, []⟩ K = soft_NegT soft_apart soft_shape_nan soft_shape_sign k a1 a2 (fun q1 => K (.i .u64 q1) ⟨0, []⟩) := by kernel_rfl
noncomputable def S58G {R : Type} (soft_Neg : soft_NegY R) (k : Nat) : Sum R := fun args H K => match args, H with
  | [.i .i64 a1, .i .u64 a2], ⟨0, []⟩ => soft_Neg k a1 a2 (fun q1 => K (.i .u64 q1) ⟨0, []⟩)
  | _, _ => none
noncomputable def S58 {R : Type} (k : Nat) : Sum R := S58G soft_Neg k
theorem S58_ok0 {R : Type} (k : Nat) : SumOk Try.prog 58 false (S58 k : Sum R) := by
  intro args H K r h
  unfold S58 S58G at h
  split at h
  · exact fnK_sound (cx58_ok k) 6 58 _ _ K r ((soft_Neg_gen soft_apart soft_shape_nan soft_shape_sign k _ _ K).trans h)
  · cases h
theorem S58_ok {R : Type} (k : Nat) : SumOk Try.prog 58 true (S58 k : Sum R) := by
  refine sumOk_keep (S58_ok0 k) ?_
  intro args H K r h
  unfold S58 S58G at h ⊢
  split at h
  · refine Eq.trans ?_ h
    show soft_Neg k _ _ _ = soft_Neg k _ _ _
    congr 1
    all_goals first | exact (funext fun q1 => if_pos (keeps_app _ _ _ [])) | skip
  · cases h
-- function 84: plumbline/soft.Abs
noncomputable def fi84 : FnI := ⟨84, Try.f84, []⟩
theorem en84 : Enters Try.prog 84 := enters_of Try.func84 (c := ((Try.f84).body.getD .skip)) (by kernel_rfl) (by kernel_rfl)
noncomputable def cx84 {R : Type} (k : Nat) : Cx R := mkCx Ty exts [(60, true, S60 k), (69, true, S69 k), (79, true, S79 k)] fi84 [] []
theorem cx84_ok {R : Type} (k : Nat) : CxOk Try.prog (cx84 k : Cx R) := mkCx_ok (c := ((Try.f84).body.getD .skip)) ty_ok mixed exts_ok (allSum_cons (S60_ok k) en60 (allSum_cons (S69_ok k) en69 (allSum_cons (S79_ok k) en79 allSum_nil))) Try.func84 en84 (by kernel_rfl) (by kernel_rfl) allLoop_nil allCut_nil
@[reducible] def soft_AbsY (R : Type) : Type := Nat → Int → Int → (Int → Option R) → Option R
noncomputable def soft_AbsT {R : Type} (soft_apart : soft_apartY R) (soft_shape_nan : soft_shape_nanY R) (soft_shape_sign : soft_shape_signY R) (k : Nat) (a1 : Int) (a2 : Int) (K0 : Int → Option R) : Option R :=
  soft_apart k a1 a2 (fun r1 r2 r3 r4 r5 r6 r7 =>
    cond (r4 == 0) (
      soft_shape_nan k r1 r2 r3 (fun r8 =>
        K0 r8)) (
      soft_shape_sign k r1 r2 r3 true (fun r9 =>
        K0 (bAndNot .u64 a2 r9))))
noncomputable def soft_Abs {R : Type} (k : Nat) (a1 : Int) (a2 : Int) (K0 : Int → Option R) : Option R := soft_AbsT soft_apart soft_shape_nan soft_shape_sign k a1 a2 K0
theorem soft_Abs_gen {R : Type} (soft_apart : soft_apartY R) (soft_shape_nan : soft_shape_nanY R) (soft_shape_sign : soft_shape_signY R) (k : Nat) (a1 : Int) (a2 : Int) (K : AV → Heap → Option R) :
    fnK (mkCx Ty exts [(60, true, S60G soft_apart k), (69, true, S69G soft_shape_nan k), (79, true, S79G soft_shape_sign k)] fi84 [] []) 6 84 [.i .i64 a1, .i .u64 a2] ⟨0, []⟩ K = soft_AbsT soft_apart soft_shape_nan soft_shape_sign k a1 a2 (fun q1 => K (.i .u64 q1) ⟨0, []⟩) := by kernel_rfl
noncomputable def S84G {R : Type} (soft_Abs : soft_AbsY R) (k : Nat) : Sum R := fun args H K => match args, H with
  | [.i .i64 a1, .i .u64 a2], ⟨0, []⟩ => soft_Abs k a1 a2 (fun q1 => K (.i .u64 q1) ⟨0, []⟩)
  | _, _ => none
noncomputable def S84 {R : Type} (k : Nat) : Sum R := S84G soft_Abs k
theorem S84_ok0 {R : Type} (k : Nat) : SumOk Try.prog 84 false (S84 k : Sum R) := by
  intro args H K r h
  unfold S84 S84G at h
  split at h
  · exact fnK_sound (cx84_ok k) 6 84 _ _ K r ((soft_Abs_gen soft_apart soft_shape_nan soft_shape_sign k _ _ K).trans h)
  · cases h
theorem S84_ok {R : Type} (k : Nat) : SumOk Try.prog 84 true (S84 k : Sum R) := by
  refine sumOk_keep (S84_ok0 k) ?_
  intro args H K r h
  unfold S84 S84G at h ⊢
  split at h
  · refine Eq.trans ?_ h
    show soft_Abs k _ _ _ = soft_Abs k _ _ _
    congr 1
    all_goals first | exact (funext fun q1 => if_pos (keeps_app _ _ _ [])) | skip
  · cases h
-- function 62: (plumbline/soft.float).rank
noncomputable def fi62 : FnI := ⟨62, Try.f62, []⟩
theorem en62 : Enters Try.prog 62 := enters_of Try.func62 (c := ((Try.f62).body.getD .skip)) (by kernel_rfl) (by kernel_rfl)
noncomputable def cx62 {R : Type} (k : Nat) : Cx R := mkCx Ty exts [(79, true, S79 k)] fi62 [] []
theorem cx62_ok {R : Type} (k : Nat) : CxOk Try.prog (cx62 k : Cx R) := mkCx_ok (c := ((Try.f62).body.getD .skip)) ty_ok mixed exts_ok (allSum_cons (S79_ok k) en79 allSum_nil) Try.func62 en62 (by kernel_rfl) (by kernel_rfl) allLoop_nil allCut_nil
@[reducible] def soft_float_rankY (R : Type) : Type := Nat → Int → Int → Int → Int → Bool → Int → Int → Int → (Int → Option R) → Option R
noncomputable def soft_float_rankT {R : Type} (soft_shape_sign : soft_shape_signY R) (k : Nat) (a1 : Int) (a2 : Int) (a3 : Int) (a4 : Int) (a5 : Bool) (a6 : Int) (a7 : Int) (a8 : Int) (K0 : Int → Option R) : Option R :=
  soft_shape_sign k a1 a2 a3 true (fun r1 =>
    cond a5 (
      K0 (Wi64 (0 - (Wi64 (bAndNot .u64 a8 r1))))) (
      K0 (Wi64 (bAndNot .u64 a8 r1))))
noncomputable def soft_float_rank {R : Type} (k : Nat) (a1 : Int) (a2 : Int) (a3 : Int) (a4 : Int) (a5 : Bool) (a6 : Int) (a7 : Int) (a8 : Int) (K0 : Int → Option R) : Option R := soft_float_rankT soft_shape_sign k a1 a2 a3 a4 a5 a6 a7 a8 K0
theorem soft_float_rank_gen {R : Type} (soft_shape_sign : soft_shape_signY R) (k : Nat) (a1 : Int) (a2 : Int) (a3 : Int) (a4 : Int) (a5 : Bool) (a6 : Int) (a7 : Int) (a8 : Int) (K : AV → Heap → Option R) :
    fnK (mkCx Ty exts [(79, true, S79G soft_shape_sign k)] fi62 [] []) 6 62 [.agg [.i .i64 a1, .i .i64 a2, .i .i64 a3, .i .i64 a4, .b a5, .i .u64 a6, .i .i64 a7], .i .u64 a8] ⟨0, []⟩ K = soft_float_rankT soft_shape_sign k a1 a2 a3 a4 a5 a6 a7 a8 (fun q1 => K (.i .i64 q1) ⟨0, []⟩) := by kernel_rfl
noncomputable def S62G {R : Type} (soft_float_rank : soft_float_rankY R) (k : Nat) : Sum R := fun args H K => match args, H with
  | [.agg [.i .i64 a1, .i .i64 a2, .i .i64 a3, .i .i64 a4, .b a5, .i .u64 a6, .i .i64 a7], .i .u64 a8], ⟨0, []⟩ => soft_float_rank k a1 a2 a3 a4 a5 a6 a7 a8 (fun q1 => K (.i .i64 q1) ⟨0, []⟩)
  | _, _ => none
noncomputable def S62 {R : Type} (k : Nat) : Sum R := S62G soft_float_rank k
theorem S62_ok0 {R : Type} (k : Nat) : SumOk Try.prog 62 false (S62 k : Sum R) := by
  intro args H K r h
  unfold S62 S62G at h
  split at h
  · exact fnK_sound (cx62_ok k) 6 62 _ _ K r ((soft_float_rank_gen soft_shape_sign k _ _ _ _ _ _ _ _ K).trans h)
  · cases h
theorem S62_ok {R : Type} (k : Nat) : SumOk Try.prog 62 true (S62 k : Sum R) := by
  refine sumOk_keep (S62_ok0 k) ?_
  intro args H K r h
  unfold S62 S62G at h ⊢
  split at h
  · refine Eq.trans ?_ h
    show soft_float_rank k _ _ _ _ _ _ _ _ _ = soft_float_rank k _ _ _ _ _ _ _ _ _
    congr 1
    all_goals first | exact (funext fun q1 => if_pos (keeps_app _ _ _ [])) | skip
  · cases h
-- function 29: plumbline/soft.Compare
noncomputable def fi29 : FnI := ⟨29, Try.f29, []⟩
theorem en29 : Enters Try.prog 29 := enters_of Try.func29 (c := ((Try.f29).body.getD .skip)) (by kernel_rfl) (by kernel_rfl)
noncomputable def cx29 {R : Type} (k : Nat) : Cx R := mkCx Ty exts [(60, true, S60 k), (61, true, S61 k), (62, true, S62 k)] fi29 [] []
theorem cx29_ok {R : Type} (k : Nat) : CxOk Try.prog (cx29 k : Cx R) := mkCx_ok (c := ((Try.f29).body.getD .skip)) ty_ok mixed exts_ok (allSum_cons (S60_ok k) en60 (allSum_cons (S61_ok k) en61 (allSum_cons (S62_ok k) en62 allSum_nil))) Try.func29 en29 (by kernel_rfl) (by kernel_rfl) allLoop_nil allCut_nil
@[reducible] def soft_CompareY (R : Type) : Type := Nat → Int → Int → Int → (Int → Bool → Option R) → Option R
noncomputable def soft_CompareT {R : Type} (cmp_Compare_int64 : cmp_Compare_int64Y R) (soft_apart : soft_apartY R) (soft_float_rank : soft_float_rankY R) (k : Nat) (a1 : Int) (a2 : Int) (a3 : Int) (K0 : Int → Bool → Option R) : Option R :=
  soft_apart k a1 a2 (fun r1 r2 r3 r4 r5 r6 r7 =>
    soft_apart k a1 a3 (fun r8 r9 r10 r11 r12 r13 r14 =>
      cond (r4 == 0) (
        K0 0 false) (
        cond (r11 == 0) (
          K0 0 false) (
          soft_float_rank k r1 r2 r3 r4 r5 r6 r7 a2 (fun r15 =>
            soft_float_rank k r8 r9 r10 r11 r12 r13 r14 a3 (fun r16 =>
              cmp_Compare_int64 k r15 r16 (fun r17 =>
                K0 r17 true)))))))
noncomputable def soft_Compare {R : Type} (k : Nat) (a1 : Int) (a2 : Int) (a3 : Int) (K0 : Int → Bool → Option R) : Option R := soft_CompareT cmp_Compare_int64 soft_apart soft_float_rank k a1 a2 a3 K0
theorem soft_Compare_gen {R : Type} (soft_apart : soft_apartY R) (cmp_Compare_int64 : cmp_Compare_int64Y R) (soft_float_rank : soft_float_rankY R) (k : Nat) (a1 : Int) (a2 : Int) (a3 : Int) (K : AV → Heap → Option R) :
    fnK (mkCx Ty exts [(60, true, S60G soft_apart k), (61, true, S61G cmp_Compare_int64 k), (62, true, S62G soft_float_rank k)] fi29 [] []) 6 29 [.i .i64 a1, .i .u64 a2, .i .u64 a3] ⟨0, []⟩ K = soft_CompareT cmp_Compare_int64 soft_apart soft_float_rank k a1 a2 a3 (fun q1 q2 => K (.tup [.i .i64 q1, .b q2]) ⟨0, []⟩) := by kernel_rfl
noncomputable def S29G {R : Type} (soft_Compare : soft_CompareY R) (k : Nat) : Sum R := fun args H K => match args, H with
  | [.i .i64 a1, .i .u64 a2, .i .u64 a3], ⟨0, []⟩ => soft_Compare k a1 a2 a3 (fun q1 q2 => K (.tup [.i .i64 q1, .b q2]) ⟨0, []⟩)
  | _, _ => none
noncomputable def S29 {R : Type} (k : Nat) : Sum R := S29G soft_Compare k
theorem S29_ok0 {R : Type} (k : Nat) : SumOk Try.prog 29 false (S29 k : Sum R) := by
  intro args H K r h
  unfold S29 S29G at h
  split at h
  · exact fnK_sound (cx29_ok k) 6 29 _ _ K r ((soft_Compare_gen soft_apart cmp_Compare_int64 soft_float_rank k _ _ _ K).trans h)
  · cases h
theorem S29_ok {R : Type} (k : Nat) : SumOk Try.prog 29 true (S29 k : Sum R) := by
  refine sumOk_keep (S29_ok0 k) ?_
  intro args H K r h
  unfold S29 S29G at h ⊢
  split at h
  · refine Eq.trans ?_ h
    show soft_Compare k _ _ _ _ = soft_Compare k _ _ _ _
    congr 1
    all_goals first | exact (funext fun q1 => funext fun q2 => if_pos (keeps_app _ _ _ [])) | skip
  · cases h
end Go.Proofs.Ytelifkahdhhmoaa.N
