/- Printed by wip/gen/emit.py: functions of the program as plain Lean functions, tied to the model by the evaluator. Conditions: none. -/
import Derived.Test.YtbnmnkofekcodaaNlib
import Derived.Test.YtbnmnkofekcodaaNwide
namespace Go.Proofs.Ytbnmnkofekcodaa.N
set_option linter.unusedVariables false
set_option maxRecDepth 100000
open Go Go.Ab
-- function 65: plumbline/soft.shapeOf
noncomputable def fi65 : FnI := ⟨65, Try.f65, []⟩
theorem en65 : Enters Try.prog 65 := enters_of Try.func65 (c := ((Try.f65).body.getD .skip)) (by kernel_rfl) (by kernel_rfl)
noncomputable def cx65 {R : Type} (k : Nat) : Cx R := mkCx Ty exts [] fi65 [] []
theorem cx65_ok {R : Type} (k : Nat) : CxOk Try.prog (cx65 k : Cx R) := mkCx_ok (c := ((Try.f65).body.getD .skip)) ty_ok mixed exts_ok allSum_nil Try.func65 en65 (by kernel_rfl) (by kernel_rfl) allLoop_nil allCut_nil
@[reducible] def soft_shapeOfY (R : Type) : Type := Nat → Int → (Int → Int → Int → Option R) → Option R
noncomputable def soft_shapeOfT {R : Type} (k : Nat) (a1 : Int) (K0 : Int → Int → Int → Option R) : Option R :=
  cond (a1 == 1) (
    K0 23 8 (-149)) (
    K0 52 11 (-1074))
noncomputable def soft_shapeOf {R : Type} (k : Nat) (a1 : Int) (K0 : Int → Int → Int → Option R) : Option R := soft_shapeOfT k a1 K0
theorem soft_shapeOf_gen {R : Type} (k : Nat) (a1 : Int) (K : AV → Heap → Option R) :
    fnK (mkCx Ty exts [] fi65 [] []) 6 65 [.i .i64 a1] ⟨0, []⟩ K = soft_shapeOfT k a1 (fun q1 q2 q3 => K (.agg [.i .i64 q1, .i .i64 q2, .i .i64 q3]) ⟨0, []⟩) := by kernel_rfl
noncomputable def S65G {R : Type} (soft_shapeOf : soft_shapeOfY R) (k : Nat) : Sum R := fun args H K => match args, H with
  | [.i .i64 a1], ⟨0, []⟩ => soft_shapeOf k a1 (fun q1 q2 q3 => K (.agg [.i .i64 q1, .i .i64 q2, .i .i64 q3]) ⟨0, []⟩)
  | _, _ => none
noncomputable def S65 {R : Type} (k : Nat) : Sum R := S65G soft_shapeOf k
theorem S65_ok0 {R : Type} (k : Nat) : SumOk Try.prog 65 false (S65 k : Sum R) := by
  intro args H K r h
  unfold S65 S65G at h
  split at h
  · exact fnK_sound (cx65_ok k) 6 65 _ _ K r ((soft_shapeOf_gen k _ K).trans h)
  · cases h
theorem S65_ok {R : Type} (k : Nat) : SumOk Try.prog 65 true (S65 k : Sum R) := by
  refine sumOk_keep (S65_ok0 k) ?_
  intro args H K r h
  unfold S65 S65G at h ⊢
  split at h
  · refine Eq.trans ?_ h
    show soft_shapeOf k _ _ = soft_shapeOf k _ _
    congr 1
    all_goals first | exact (funext fun q1 => funext fun q2 => funext fun q3 => if_pos (keeps_app _ _ _ [])) | skip
  · cases h
-- function 79: (plumbline/soft.shape).full
noncomputable def fi79 : FnI := ⟨79, Try.f79, []⟩
theorem en79 : Enters Try.prog 79 := enters_of Try.func79 (c := ((Try.f79).body.getD .skip)) (by kernel_rfl) (by kernel_rfl)
noncomputable def cx79 {R : Type} (k : Nat) : Cx R := mkCx Ty exts [] fi79 [] []
theorem cx79_ok {R : Type} (k : Nat) : CxOk Try.prog (cx79 k : Cx R) := mkCx_ok (c := ((Try.f79).body.getD .skip)) ty_ok mixed exts_ok allSum_nil Try.func79 en79 (by kernel_rfl) (by kernel_rfl) allLoop_nil allCut_nil
@[reducible] def soft_shape_fullY (R : Type) : Type := Nat → Int → Int → Int → (Int → Option R) → Option R
noncomputable def soft_shape_fullT {R : Type} (k : Nat) (a1 : Int) (a2 : Int) (a3 : Int) (K0 : Int → Option R) : Option R :=
  cond (decide (a2 < 0)) (
    none) (
    K0 (Wu64 ((shl .u64 1 a2) - 1)))
noncomputable def soft_shape_full {R : Type} (k : Nat) (a1 : Int) (a2 : Int) (a3 : Int) (K0 : Int → Option R) : Option R := soft_shape_fullT k a1 a2 a3 K0
theorem soft_shape_full_gen {R : Type} (k : Nat) (a1 : Int) (a2 : Int) (a3 : Int) (K : AV → Heap → Option R) :
    fnK (mkCx Ty exts [] fi79 [] []) 6 79 [.agg [.i .i64 a1, .i .i64 a2, .i .i64 a3]] ⟨0, []⟩ K = soft_shape_fullT k a1 a2 a3 (fun q1 => K (.i .u64 q1) ⟨0, []⟩) := by kernel_rfl
noncomputable def S79G {R : Type} (soft_shape_full : soft_shape_fullY R) (k : Nat) : Sum R := fun args H K => match args, H with
  | [.agg [.i .i64 a1, .i .i64 a2, .i .i64 a3]], ⟨0, []⟩ => soft_shape_full k a1 a2 a3 (fun q1 => K (.i .u64 q1) ⟨0, []⟩)
  | _, _ => none
noncomputable def S79 {R : Type} (k : Nat) : Sum R := S79G soft_shape_full k
theorem S79_ok0 {R : Type} (k : Nat) : SumOk Try.prog 79 false (S79 k : Sum R) := by
  intro args H K r h
  unfold S79 S79G at h
  split at h
  · exact fnK_sound (cx79_ok k) 6 79 _ _ K r ((soft_shape_full_gen k _ _ _ K).trans h)
  · cases h
theorem S79_ok {R : Type} (k : Nat) : SumOk Try.prog 79 true (S79 k : Sum R) := by
  refine sumOk_keep (S79_ok0 k) ?_
  intro args H K r h
  unfold S79 S79G at h ⊢
  split at h
  · refine Eq.trans ?_ h
    show soft_shape_full k _ _ _ _ = soft_shape_full k _ _ _ _
    congr 1
    all_goals first | exact (funext fun q1 => if_pos (keeps_app _ _ _ [])) | skip
  · cases h
-- function 46: (plumbline/soft.shape).sign
noncomputable def fi46 : FnI := ⟨46, Try.f46, []⟩
theorem en46 : Enters Try.prog 46 := enters_of Try.func46 (c := ((Try.f46).body.getD .skip)) (by kernel_rfl) (by kernel_rfl)
noncomputable def cx46 {R : Type} (k : Nat) : Cx R := mkCx Ty exts [] fi46 [] []
theorem cx46_ok {R : Type} (k : Nat) : CxOk Try.prog (cx46 k : Cx R) := mkCx_ok (c := ((Try.f46).body.getD .skip)) ty_ok mixed exts_ok allSum_nil Try.func46 en46 (by kernel_rfl) (by kernel_rfl) allLoop_nil allCut_nil
@[reducible] def soft_shape_signY (R : Type) : Type := Nat → Int → Int → Int → Bool → (Int → Option R) → Option R
noncomputable def soft_shape_signT {R : Type} (k : Nat) (a1 : Int) (a2 : Int) (a3 : Int) (a4 : Bool) (K0 : Int → Option R) : Option R :=
  cond a4 (
    cond (decide ((Wi64 (a1 + a2)) < 0)) (
      none) (
      K0 (shl .u64 1 (Wi64 (a1 + a2))))) (
    K0 0)
noncomputable def soft_shape_sign {R : Type} (k : Nat) (a1 : Int) (a2 : Int) (a3 : Int) (a4 : Bool) (K0 : Int → Option R) : Option R := soft_shape_signT k a1 a2 a3 a4 K0
theorem soft_shape_sign_gen {R : Type} (k : Nat) (a1 : Int) (a2 : Int) (a3 : Int) (a4 : Bool) (K : AV → Heap → Option R) :
    fnK (mkCx Ty exts [] fi46 [] []) 6 46 [.agg [.i .i64 a1, .i .i64 a2, .i .i64 a3], .b a4] ⟨0, []⟩ K = soft_shape_signT k a1 a2 a3 a4 (fun q1 => K (.i .u64 q1) ⟨0, []⟩) := by kernel_rfl
noncomputable def S46G {R : Type} (soft_shape_sign : soft_shape_signY R) (k : Nat) : Sum R := fun args H K => match args, H with
  | [.agg [.i .i64 a1, .i .i64 a2, .i .i64 a3], .b a4], ⟨0, []⟩ => soft_shape_sign k a1 a2 a3 a4 (fun q1 => K (.i .u64 q1) ⟨0, []⟩)
  | _, _ => none
noncomputable def S46 {R : Type} (k : Nat) : Sum R := S46G soft_shape_sign k
theorem S46_ok0 {R : Type} (k : Nat) : SumOk Try.prog 46 false (S46 k : Sum R) := by
  intro args H K r h
  unfold S46 S46G at h
  split at h
  · exact fnK_sound (cx46_ok k) 6 46 _ _ K r ((soft_shape_sign_gen k _ _ _ _ K).trans h)
  · cases h
theorem S46_ok {R : Type} (k : Nat) : SumOk Try.prog 46 true (S46 k : Sum R) := by
  refine sumOk_keep (S46_ok0 k) ?_
  intro args H K r h
  unfold S46 S46G at h ⊢
  split at h
  · refine Eq.trans ?_ h
    show soft_shape_sign k _ _ _ _ _ = soft_shape_sign k _ _ _ _ _
    congr 1
    all_goals first | exact (funext fun q1 => if_pos (keeps_app _ _ _ [])) | skip
  · cases h
-- function 43: plumbline/soft.apart
noncomputable def fi43 : FnI := ⟨43, Try.f43, []⟩
theorem en43 : Enters Try.prog 43 := enters_of Try.func43 (c := ((Try.f43).body.getD .skip)) (by kernel_rfl) (by kernel_rfl)
noncomputable def cx43 {R : Type} (k : Nat) : Cx R := mkCx Ty exts [(46, true, S46 k), (65, true, S65 k), (79, true, S79 k)] fi43 [] []
theorem cx43_ok {R : Type} (k : Nat) : CxOk Try.prog (cx43 k : Cx R) := mkCx_ok (c := ((Try.f43).body.getD .skip)) ty_ok mixed exts_ok (allSum_cons (S46_ok k) en46 (allSum_cons (S65_ok k) en65 (allSum_cons (S79_ok k) en79 allSum_nil))) Try.func43 en43 (by kernel_rfl) (by kernel_rfl) allLoop_nil allCut_nil
@[reducible] def soft_apartY (R : Type) : Type := Nat → Int → Int → (Int → Int → Int → Int → Bool → Int → Int → Option R) → Option R
noncomputable def soft_apartT {R : Type} (soft_shapeOf : soft_shapeOfY R) (soft_shape_full : soft_shape_fullY R) (soft_shape_sign : soft_shape_signY R) (k : Nat) (a1 : Int) (a2 : Int) (K0 : Int → Int → Int → Int → Bool → Int → Int → Option R) : Option R :=
  soft_shapeOf k a1 (fun r1 r2 r3 =>
    cond (a1 == 1) (
      cond ((shr .u64 a2 32) != 0) (
        K0 r1 r2 r3 0 false 0 0) (
        cond (decide (r1 < 0)) (
          none) (
          soft_shape_full k r1 r2 r3 (fun r4 =>
            cond (decide (r1 < 0)) (
              none) (
              soft_shape_sign k r1 r2 r3 true (fun r5 =>
                soft_shape_full k r1 r2 r3 (fun r6 =>
                  cond ((bAnd .u64 (shr .u64 a2 r1) r4) == r6) (
                    cond ((bAnd .u64 a2 (Wu64 ((shl .u64 1 r1) - 1))) != 0) (
                      K0 r1 r2 r3 0 ((bAnd .u64 a2 r5) != 0) 0 0) (
                      soft_shape_full k r1 r2 r3 (fun r7 =>
                        cond ((bAnd .u64 (shr .u64 a2 r1) r4) == r7) (
                          K0 r1 r2 r3 1 ((bAnd .u64 a2 r5) != 0) 0 0) (
                          cond ((bAnd .u64 (shr .u64 a2 r1) r4) == 0) (
                            cond ((bAnd .u64 a2 (Wu64 ((shl .u64 1 r1) - 1))) == 0) (
                              K0 r1 r2 r3 2 ((bAnd .u64 a2 r5) != 0) 0 0) (
                              cond ((bAnd .u64 (shr .u64 a2 r1) r4) == 0) (
                                K0 r1 r2 r3 3 ((bAnd .u64 a2 r5) != 0) (bAnd .u64 a2 (Wu64 ((shl .u64 1 r1) - 1))) r3) (
                                cond (decide (r1 < 0)) (
                                  none) (
                                  K0 r1 r2 r3 3 ((bAnd .u64 a2 r5) != 0) (bOr .u64 (bAnd .u64 a2 (Wu64 ((shl .u64 1 r1) - 1))) (shl .u64 1 r1)) (Wi64 ((Wi64 ((Wi64 (bAnd .u64 (shr .u64 a2 r1) r4)) - 1)) + r3)))))) (
                            cond ((bAnd .u64 (shr .u64 a2 r1) r4) == 0) (
                              K0 r1 r2 r3 3 ((bAnd .u64 a2 r5) != 0) (bAnd .u64 a2 (Wu64 ((shl .u64 1 r1) - 1))) r3) (
                              cond (decide (r1 < 0)) (
                                none) (
                                K0 r1 r2 r3 3 ((bAnd .u64 a2 r5) != 0) (bOr .u64 (bAnd .u64 a2 (Wu64 ((shl .u64 1 r1) - 1))) (shl .u64 1 r1)) (Wi64 ((Wi64 ((Wi64 (bAnd .u64 (shr .u64 a2 r1) r4)) - 1)) + r3))))))))) (
                    soft_shape_full k r1 r2 r3 (fun r8 =>
                      cond ((bAnd .u64 (shr .u64 a2 r1) r4) == r8) (
                        K0 r1 r2 r3 1 ((bAnd .u64 a2 r5) != 0) 0 0) (
                        cond ((bAnd .u64 (shr .u64 a2 r1) r4) == 0) (
                          cond ((bAnd .u64 a2 (Wu64 ((shl .u64 1 r1) - 1))) == 0) (
                            K0 r1 r2 r3 2 ((bAnd .u64 a2 r5) != 0) 0 0) (
                            cond ((bAnd .u64 (shr .u64 a2 r1) r4) == 0) (
                              K0 r1 r2 r3 3 ((bAnd .u64 a2 r5) != 0) (bAnd .u64 a2 (Wu64 ((shl .u64 1 r1) - 1))) r3) (
                              cond (decide (r1 < 0)) (
                                none) (
                                K0 r1 r2 r3 3 ((bAnd .u64 a2 r5) != 0) (bOr .u64 (bAnd .u64 a2 (Wu64 ((shl .u64 1 r1) - 1))) (shl .u64 1 r1)) (Wi64 ((Wi64 ((Wi64 (bAnd .u64 (shr .u64 a2 r1) r4)) - 1)) + r3)))))) (
                          cond ((bAnd .u64 (shr .u64 a2 r1) r4) == 0) (
                            K0 r1 r2 r3 3 ((bAnd .u64 a2 r5) != 0) (bAnd .u64 a2 (Wu64 ((shl .u64 1 r1) - 1))) r3) (
                            cond (decide (r1 < 0)) (
                              none) (
                              K0 r1 r2 r3 3 ((bAnd .u64 a2 r5) != 0) (bOr .u64 (bAnd .u64 a2 (Wu64 ((shl .u64 1 r1) - 1))) (shl .u64 1 r1)) (Wi64 ((Wi64 ((Wi64 (bAnd .u64 (shr .u64 a2 r1) r4)) - 1)) + r3))))))))))))))) (
      cond (decide (r1 < 0)) (
        none) (
        soft_shape_full k r1 r2 r3 (fun r9 =>
          cond (decide (r1 < 0)) (
            none) (
            soft_shape_sign k r1 r2 r3 true (fun r10 =>
              soft_shape_full k r1 r2 r3 (fun r11 =>
                cond ((bAnd .u64 (shr .u64 a2 r1) r9) == r11) (
                  cond ((bAnd .u64 a2 (Wu64 ((shl .u64 1 r1) - 1))) != 0) (
                    K0 r1 r2 r3 0 ((bAnd .u64 a2 r10) != 0) 0 0) (
                    soft_shape_full k r1 r2 r3 (fun r12 =>
                      cond ((bAnd .u64 (shr .u64 a2 r1) r9) == r12) (
                        K0 r1 r2 r3 1 ((bAnd .u64 a2 r10) != 0) 0 0) (
                        cond ((bAnd .u64 (shr .u64 a2 r1) r9) == 0) (
                          cond ((bAnd .u64 a2 (Wu64 ((shl .u64 1 r1) - 1))) == 0) (
                            K0 r1 r2 r3 2 ((bAnd .u64 a2 r10) != 0) 0 0) (
                            cond ((bAnd .u64 (shr .u64 a2 r1) r9) == 0) (
                              K0 r1 r2 r3 3 ((bAnd .u64 a2 r10) != 0) (bAnd .u64 a2 (Wu64 ((shl .u64 1 r1) - 1))) r3) (
                              cond (decide (r1 < 0)) (
                                none) (
                                K0 r1 r2 r3 3 ((bAnd .u64 a2 r10) != 0) (bOr .u64 (bAnd .u64 a2 (Wu64 ((shl .u64 1 r1) - 1))) (shl .u64 1 r1)) (Wi64 ((Wi64 ((Wi64 (bAnd .u64 (shr .u64 a2 r1) r9)) - 1)) + r3)))))) (
                          cond ((bAnd .u64 (shr .u64 a2 r1) r9) == 0) (
                            K0 r1 r2 r3 3 ((bAnd .u64 a2 r10) != 0) (bAnd .u64 a2 (Wu64 ((shl .u64 1 r1) - 1))) r3) (
                            cond (decide (r1 < 0)) (
                              none) (
                              K0 r1 r2 r3 3 ((bAnd .u64 a2 r10) != 0) (bOr .u64 (bAnd .u64 a2 (Wu64 ((shl .u64 1 r1) - 1))) (shl .u64 1 r1)) (Wi64 ((Wi64 ((Wi64 (bAnd .u64 (shr .u64 a2 r1) r9)) - 1)) + r3))))))))) (
                  soft_shape_full k r1 r2 r3 (fun r13 =>
                    cond ((bAnd .u64 (shr .u64 a2 r1) r9) == r13) (
                      K0 r1 r2 r3 1 ((bAnd .u64 a2 r10) != 0) 0 0) (
                      cond ((bAnd .u64 (shr .u64 a2 r1) r9) == 0) (
                        cond ((bAnd .u64 a2 (Wu64 ((shl .u64 1 r1) - 1))) == 0) (
                          K0 r1 r2 r3 2 ((bAnd .u64 a2 r10) != 0) 0 0) (
                          cond ((bAnd .u64 (shr .u64 a2 r1) r9) == 0) (
                            K0 r1 r2 r3 3 ((bAnd .u64 a2 r10) != 0) (bAnd .u64 a2 (Wu64 ((shl .u64 1 r1) - 1))) r3) (
                            cond (decide (r1 < 0)) (
                              none) (
                              K0 r1 r2 r3 3 ((bAnd .u64 a2 r10) != 0) (bOr .u64 (bAnd .u64 a2 (Wu64 ((shl .u64 1 r1) - 1))) (shl .u64 1 r1)) (Wi64 ((Wi64 ((Wi64 (bAnd .u64 (shr .u64 a2 r1) r9)) - 1)) + r3)))))) (
                        cond ((bAnd .u64 (shr .u64 a2 r1) r9) == 0) (
                          K0 r1 r2 r3 3 ((bAnd .u64 a2 r10) != 0) (bAnd .u64 a2 (Wu64 ((shl .u64 1 r1) - 1))) r3) (
                          cond (decide (r1 < 0)) (
                            none) (
                            K0 r1 r2 r3 3 ((bAnd .u64 a2 r10) != 0) (bOr .u64 (bAnd .u64 a2 (Wu64 ((shl .u64 1 r1) - 1))) (shl .u64 1 r1)) (Wi64 ((Wi64 ((Wi64 (bAnd .u64 (shr .u64 a2 r1) r9)) - 1)) + r3)))))))))))))))
noncomputable def soft_apart {R : Type} (k : Nat) (a1 : Int) (a2 : Int) (K0 : Int → Int → Int → Int → Bool → Int → Int → Option R) : Option R := soft_apartT soft_shapeOf soft_shape_full soft_shape_sign k a1 a2 K0
theorem soft_apart_gen {R : Type} (soft_shape_sign : soft_shape_signY R) (soft_shapeOf : soft_shapeOfY R) (soft_shape_full : soft_shape_fullY R) (k : Nat) (a1 : Int) (a2 : Int) (K : AV → Heap → Option R) :
    fnK (mkCx Ty exts [(46, true, S46G soft_shape_sign k), (65, true, S65G soft_shapeOf k), (79, true, S79G soft_shape_full k)] fi43 [] []) 6 43 [.i .i64 a1, .i .u64 a2] ⟨0, []⟩ K = soft_apartT soft_shapeOf soft_shape_full soft_shape_sign k a1 a2 (fun q1 q2 q3 q4 q5 q6 q7 => K (.agg [.i .i64 q1, .i .i64 q2, .i .i64 q3, .i .i64 q4, .b q5, .i .u64 q6, .i .i64 q7]) ⟨0, []⟩) := by kernel_rfl
noncomputable def S43G {R : Type} (soft_apart : soft_apartY R) (k : Nat) : Sum R := fun args H K => match args, H with
  | [.i .i64 a1, .i .u64 a2], ⟨0, []⟩ => soft_apart k a1 a2 (fun q1 q2 q3 q4 q5 q6 q7 => K (.agg [.i .i64 q1, .i .i64 q2, .i .i64 q3, .i .i64 q4, .b q5, .i .u64 q6, .i .i64 q7]) ⟨0, []⟩)
  | _, _ => none
noncomputable def S43 {R : Type} (k : Nat) : Sum R := S43G soft_apart k
theorem S43_ok0 {R : Type} (k : Nat) : SumOk Try.prog 43 false (S43 k : Sum R) := by
  intro args H K r h
  unfold S43 S43G at h
  split at h
  · exact fnK_sound (cx43_ok k) 6 43 _ _ K r ((soft_apart_gen soft_shape_sign soft_shapeOf soft_shape_full k _ _ K).trans h)
  · cases h
theorem S43_ok {R : Type} (k : Nat) : SumOk Try.prog 43 true (S43 k : Sum R) := by
  refine sumOk_keep (S43_ok0 k) ?_
  intro args H K r h
  unfold S43 S43G at h ⊢
  split at h
  · refine Eq.trans ?_ h
    show soft_apart k _ _ _ = soft_apart k _ _ _
    congr 1
    all_goals first | exact (funext fun q1 => funext fun q2 => funext fun q3 => funext fun q4 => funext fun q5 => funext fun q6 => funext fun q7 => if_pos (keeps_app _ _ _ [])) | skip
  · cases h
-- function 44: (plumbline/soft.shape).nan
noncomputable def fi44 : FnI := ⟨44, Try.f44, []⟩
theorem en44 : Enters Try.prog 44 := enters_of Try.func44 (c := ((Try.f44).body.getD .skip)) (by kernel_rfl) (by kernel_rfl)
noncomputable def cx44 {R : Type} (k : Nat) : Cx R := mkCx Ty exts [(79, true, S79 k)] fi44 [] []
theorem cx44_ok {R : Type} (k : Nat) : CxOk Try.prog (cx44 k : Cx R) := mkCx_ok (c := ((Try.f44).body.getD .skip)) ty_ok mixed exts_ok (allSum_cons (S79_ok k) en79 allSum_nil) Try.func44 en44 (by kernel_rfl) (by kernel_rfl) allLoop_nil allCut_nil
@[reducible] def soft_shape_nanY (R : Type) : Type := Nat → Int → Int → Int → (Int → Option R) → Option R
noncomputable def soft_shape_nanT {R : Type} (soft_shape_full : soft_shape_fullY R) (k : Nat) (a1 : Int) (a2 : Int) (a3 : Int) (K0 : Int → Option R) : Option R :=
  soft_shape_full k a1 a2 a3 (fun r1 =>
    cond (decide (a1 < 0)) (
      none) (
      cond (decide ((Wi64 (a1 - 1)) < 0)) (
        none) (
        K0 (bOr .u64 (shl .u64 r1 a1) (shl .u64 1 (Wi64 (a1 - 1)))))))
noncomputable def soft_shape_nan {R : Type} (k : Nat) (a1 : Int) (a2 : Int) (a3 : Int) (K0 : Int → Option R) : Option R := soft_shape_nanT soft_shape_full k a1 a2 a3 K0
theorem soft_shape_nan_gen {R : Type} (soft_shape_full : soft_shape_fullY R) (k : Nat) (a1 : Int) (a2 : Int) (a3 : Int) (K : AV → Heap → Option R) :
    fnK (mkCx Ty exts [(79, true, S79G soft_shape_full k)] fi44 [] []) 6 44 [.agg [.i .i64 a1, .i .i64 a2, .i .i64 a3]] ⟨0, []⟩ K = soft_shape_nanT soft_shape_full k a1 a2 a3 (fun q1 => K (.i .u64 q1) ⟨0, []⟩) := by kernel_rfl
noncomputable def S44G {R : Type} (soft_shape_nan : soft_shape_nanY R) (k : Nat) : Sum R := fun args H K => match args, H with
  | [.agg [.i .i64 a1, .i .i64 a2, .i .i64 a3]], ⟨0, []⟩ => soft_shape_nan k a1 a2 a3 (fun q1 => K (.i .u64 q1) ⟨0, []⟩)
  | _, _ => none
noncomputable def S44 {R : Type} (k : Nat) : Sum R := S44G soft_shape_nan k
theorem S44_ok0 {R : Type} (k : Nat) : SumOk Try.prog 44 false (S44 k : Sum R) := by
  intro args H K r h
  unfold S44 S44G at h
  split at h
  · exact fnK_sound (cx44_ok k) 6 44 _ _ K r ((soft_shape_nan_gen soft_shape_full k _ _ _ K).trans h)
  · cases h
theorem S44_ok {R : Type} (k : Nat) : SumOk Try.prog 44 true (S44 k : Sum R) := by
  refine sumOk_keep (S44_ok0 k) ?_
  intro args H K r h
  unfold S44 S44G at h ⊢
  split at h
  · refine Eq.trans ?_ h
    show soft_shape_nan k _ _ _ _ = soft_shape_nan k _ _ _ _
    congr 1
    all_goals first | exact (funext fun q1 => if_pos (keeps_app _ _ _ [])) | skip
  · cases h
-- function 45: (plumbline/soft.shape).inf
noncomputable def fi45 : FnI := ⟨45, Try.f45, []⟩
theorem en45 : Enters Try.prog 45 := enters_of Try.func45 (c := ((Try.f45).body.getD .skip)) (by kernel_rfl) (by kernel_rfl)
noncomputable def cx45 {R : Type} (k : Nat) : Cx R := mkCx Ty exts [(46, true, S46 k), (79, true, S79 k)] fi45 [] []
theorem cx45_ok {R : Type} (k : Nat) : CxOk Try.prog (cx45 k : Cx R) := mkCx_ok (c := ((Try.f45).body.getD .skip)) ty_ok mixed exts_ok (allSum_cons (S46_ok k) en46 (allSum_cons (S79_ok k) en79 allSum_nil)) Try.func45 en45 (by kernel_rfl) (by kernel_rfl) allLoop_nil allCut_nil
@[reducible] def soft_shape_infY (R : Type) : Type := Nat → Int → Int → Int → Bool → (Int → Option R) → Option R
noncomputable def soft_shape_infT {R : Type} (soft_shape_full : soft_shape_fullY R) (soft_shape_sign : soft_shape_signY R) (k : Nat) (a1 : Int) (a2 : Int) (a3 : Int) (a4 : Bool) (K0 : Int → Option R) : Option R :=
  soft_shape_sign k a1 a2 a3 a4 (fun r1 =>
    soft_shape_full k a1 a2 a3 (fun r2 =>
      cond (decide (a1 < 0)) (
        none) (
        K0 (bOr .u64 r1 (shl .u64 r2 a1)))))
noncomputable def soft_shape_inf {R : Type} (k : Nat) (a1 : Int) (a2 : Int) (a3 : Int) (a4 : Bool) (K0 : Int → Option R) : Option R := soft_shape_infT soft_shape_full soft_shape_sign k a1 a2 a3 a4 K0
theorem soft_shape_inf_gen {R : Type} (soft_shape_sign : soft_shape_signY R) (soft_shape_full : soft_shape_fullY R) (k : Nat) (a1 : Int) (a2 : Int) (a3 : Int) (a4 : Bool) (K : AV → Heap → Option R) :
    fnK (mkCx Ty exts [(46, true, S46G soft_shape_sign k), (79, true, S79G soft_shape_full k)] fi45 [] []) 6 45 [.agg [.i .i64 a1, .i .i64 a2, .i .i64 a3], .b a4] ⟨0, []⟩ K = soft_shape_infT soft_shape_full soft_shape_sign k a1 a2 a3 a4 (fun q1 => K (.i .u64 q1) ⟨0, []⟩) := by kernel_rfl
noncomputable def S45G {R : Type} (soft_shape_inf : soft_shape_infY R) (k : Nat) : Sum R := fun args H K => match args, H with
  | [.agg [.i .i64 a1, .i .i64 a2, .i .i64 a3], .b a4], ⟨0, []⟩ => soft_shape_inf k a1 a2 a3 a4 (fun q1 => K (.i .u64 q1) ⟨0, []⟩)
  | _, _ => none
noncomputable def S45 {R : Type} (k : Nat) : Sum R := S45G soft_shape_inf k
theorem S45_ok0 {R : Type} (k : Nat) : SumOk Try.prog 45 false (S45 k : Sum R) := by
  intro args H K r h
  unfold S45 S45G at h
  split at h
  · exact fnK_sound (cx45_ok k) 6 45 _ _ K r ((soft_shape_inf_gen soft_shape_sign soft_shape_full k _ _ _ _ K).trans h)
  · cases h
theorem S45_ok {R : Type} (k : Nat) : SumOk Try.prog 45 true (S45 k : Sum R) := by
  refine sumOk_keep (S45_ok0 k) ?_
  intro args H K r h
  unfold S45 S45G at h ⊢
  split at h
  · refine Eq.trans ?_ h
    show soft_shape_inf k _ _ _ _ _ = soft_shape_inf k _ _ _ _ _
    congr 1
    all_goals first | exact (funext fun q1 => if_pos (keeps_app _ _ _ [])) | skip
  · cases h
-- function 82: plumbline/soft.rounderOf
noncomputable def fi82 : FnI := ⟨82, Try.f82, []⟩
theorem en82 : Enters Try.prog 82 := enters_of Try.func82 (c := ((Try.f82).body.getD .skip)) (by kernel_rfl) (by kernel_rfl)
noncomputable def cx82 {R : Type} (k : Nat) : Cx R := mkCx Ty exts [] fi82 [] []
theorem cx82_ok {R : Type} (k : Nat) : CxOk Try.prog (cx82 k : Cx R) := mkCx_ok (c := ((Try.f82).body.getD .skip)) ty_ok mixed exts_ok allSum_nil Try.func82 en82 (by kernel_rfl) (by kernel_rfl) allLoop_nil allCut_nil
@[reducible] def soft_rounderOfY (R : Type) : Type := Nat → Int → Bool → (Option R) → (Option R) → (Option R) → Option R
noncomputable def soft_rounderOfT {R : Type} (k : Nat) (a1 : Int) (a2 : Bool) (K0 : Option R) (K1 : Option R) (K2 : Option R) : Option R :=
  cond (a1 == 1) (
    cond (!a2) (
      K0) (
      cond (a1 == 2) (
        cond a2 (
          K0) (
          cond (a1 == 1) (
            K1) (
            cond (a1 == 2) (
              K1) (
              cond (a1 == 3) (
                K1) (
                K2))))) (
        cond (a1 == 1) (
          K1) (
          cond (a1 == 2) (
            K1) (
            cond (a1 == 3) (
              K1) (
              K2)))))) (
    cond (a1 == 2) (
      cond a2 (
        K0) (
        cond (a1 == 1) (
          K1) (
          cond (a1 == 2) (
            K1) (
            cond (a1 == 3) (
              K1) (
              K2))))) (
      cond (a1 == 1) (
        K1) (
        cond (a1 == 2) (
          K1) (
          cond (a1 == 3) (
            K1) (
            K2)))))
noncomputable def soft_rounderOf {R : Type} (k : Nat) (a1 : Int) (a2 : Bool) (K0 : Option R) (K1 : Option R) (K2 : Option R) : Option R := soft_rounderOfT k a1 a2 K0 K1 K2
theorem soft_rounderOf_gen {R : Type} (k : Nat) (a1 : Int) (a2 : Bool) (K : AV → Heap → Option R) :
    fnK (mkCx Ty exts [] fi82 [] []) 6 82 [.i .i64 a1, .b a2] ⟨0, []⟩ K = soft_rounderOfT k a1 a2 (K (.agg [.fn 95 []]) ⟨0, []⟩) (K (.agg [.fn 96 []]) ⟨0, []⟩) (K (.agg [.fn 97 []]) ⟨0, []⟩) := by kernel_rfl
noncomputable def S82G {R : Type} (soft_rounderOf : soft_rounderOfY R) (k : Nat) : Sum R := fun args H K => match args, H with
  | [.i .i64 a1, .b a2], ⟨0, []⟩ => soft_rounderOf k a1 a2 (K (.agg [.fn 95 []]) ⟨0, []⟩) (K (.agg [.fn 96 []]) ⟨0, []⟩) (K (.agg [.fn 97 []]) ⟨0, []⟩)
  | _, _ => none
noncomputable def S82 {R : Type} (k : Nat) : Sum R := S82G soft_rounderOf k
theorem S82_ok0 {R : Type} (k : Nat) : SumOk Try.prog 82 false (S82 k : Sum R) := by
  intro args H K r h
  unfold S82 S82G at h
  split at h
  · exact fnK_sound (cx82_ok k) 6 82 _ _ K r ((soft_rounderOf_gen k _ _ K).trans h)
  · cases h
theorem S82_ok {R : Type} (k : Nat) : SumOk Try.prog 82 true (S82 k : Sum R) := by
  refine sumOk_keep (S82_ok0 k) ?_
  intro args H K r h
  unfold S82 S82G at h ⊢
  split at h
  · refine Eq.trans ?_ h
    show soft_rounderOf k _ _ _ _ _ = soft_rounderOf k _ _ _ _ _
    congr 1
    all_goals first | exact (if_pos (keeps_app _ _ _ [])) | skip
    all_goals first | exact (if_pos (keeps_app _ _ _ [])) | skip
    all_goals first | exact (if_pos (keeps_app _ _ _ [])) | skip
  · cases h
-- function 95: plumbline/soft.rounderOf$1
noncomputable def fi95 : FnI := ⟨95, Try.f95, []⟩
theorem en95 : Enters Try.prog 95 := enters_of Try.func95 (c := ((Try.f95).body.getD .skip)) (by kernel_rfl) (by kernel_rfl)
noncomputable def cx95 {R : Type} (k : Nat) : Cx R := mkCx Ty exts [] fi95 [] []
theorem cx95_ok {R : Type} (k : Nat) : CxOk Try.prog (cx95 k : Cx R) := mkCx_ok (c := ((Try.f95).body.getD .skip)) ty_ok mixed exts_ok allSum_nil Try.func95 en95 (by kernel_rfl) (by kernel_rfl) allLoop_nil allCut_nil
@[reducible] def soft_rounderOf_1Y (R : Type) : Type := Nat → Bool → Bool → Bool → (Bool → Option R) → Option R
noncomputable def soft_rounderOf_1T {R : Type} (k : Nat) (a1 : Bool) (a2 : Bool) (a3 : Bool) (K0 : Bool → Option R) : Option R :=
  cond a2 (
    K0 true) (
    K0 a3)
noncomputable def soft_rounderOf_1 {R : Type} (k : Nat) (a1 : Bool) (a2 : Bool) (a3 : Bool) (K0 : Bool → Option R) : Option R := soft_rounderOf_1T k a1 a2 a3 K0
theorem soft_rounderOf_1_gen {R : Type} (k : Nat) (a1 : Bool) (a2 : Bool) (a3 : Bool) (K : AV → Heap → Option R) :
    fnK (mkCx Ty exts [] fi95 [] []) 6 95 [.b a1, .b a2, .b a3] ⟨0, []⟩ K = soft_rounderOf_1T k a1 a2 a3 (fun q1 => K (.b q1) ⟨0, []⟩) := by kernel_rfl
noncomputable def S95G {R : Type} (soft_rounderOf_1 : soft_rounderOf_1Y R) (k : Nat) : Sum R := fun args H K => match args, H with
  | [.b a1, .b a2, .b a3], ⟨0, []⟩ => soft_rounderOf_1 k a1 a2 a3 (fun q1 => K (.b q1) ⟨0, []⟩)
  | _, _ => none
noncomputable def S95 {R : Type} (k : Nat) : Sum R := S95G soft_rounderOf_1 k
theorem S95_ok0 {R : Type} (k : Nat) : SumOk Try.prog 95 false (S95 k : Sum R) := by
  intro args H K r h
  unfold S95 S95G at h
  split at h
  · exact fnK_sound (cx95_ok k) 6 95 _ _ K r ((soft_rounderOf_1_gen k _ _ _ K).trans h)
  · cases h
theorem S95_ok {R : Type} (k : Nat) : SumOk Try.prog 95 true (S95 k : Sum R) := by
  refine sumOk_keep (S95_ok0 k) ?_
  intro args H K r h
  unfold S95 S95G at h ⊢
  split at h
  · refine Eq.trans ?_ h
    show soft_rounderOf_1 k _ _ _ _ = soft_rounderOf_1 k _ _ _ _
    congr 1
    all_goals first | exact (funext fun q1 => if_pos (keeps_app _ _ _ [])) | skip
  · cases h
-- function 71: (plumbline/soft.shape).most
noncomputable def fi71 : FnI := ⟨71, Try.f71, []⟩
theorem en71 : Enters Try.prog 71 := enters_of Try.func71 (c := ((Try.f71).body.getD .skip)) (by kernel_rfl) (by kernel_rfl)
noncomputable def cx71 {R : Type} (k : Nat) : Cx R := mkCx Ty exts [(45, true, S45 k)] fi71 [] []
theorem cx71_ok {R : Type} (k : Nat) : CxOk Try.prog (cx71 k : Cx R) := mkCx_ok (c := ((Try.f71).body.getD .skip)) ty_ok mixed exts_ok (allSum_cons (S45_ok k) en45 allSum_nil) Try.func71 en71 (by kernel_rfl) (by kernel_rfl) allLoop_nil allCut_nil
@[reducible] def soft_shape_mostY (R : Type) : Type := Nat → Int → Int → Int → Bool → (Int → Option R) → Option R
noncomputable def soft_shape_mostT {R : Type} (soft_shape_inf : soft_shape_infY R) (k : Nat) (a1 : Int) (a2 : Int) (a3 : Int) (a4 : Bool) (K0 : Int → Option R) : Option R :=
  soft_shape_inf k a1 a2 a3 a4 (fun r1 =>
    K0 (Wu64 (r1 - 1)))
noncomputable def soft_shape_most {R : Type} (k : Nat) (a1 : Int) (a2 : Int) (a3 : Int) (a4 : Bool) (K0 : Int → Option R) : Option R := soft_shape_mostT soft_shape_inf k a1 a2 a3 a4 K0
theorem soft_shape_most_gen {R : Type} (soft_shape_inf : soft_shape_infY R) (k : Nat) (a1 : Int) (a2 : Int) (a3 : Int) (a4 : Bool) (K : AV → Heap → Option R) :
    fnK (mkCx Ty exts [(45, true, S45G soft_shape_inf k)] fi71 [] []) 6 71 [.agg [.i .i64 a1, .i .i64 a2, .i .i64 a3], .b a4] ⟨0, []⟩ K = soft_shape_mostT soft_shape_inf k a1 a2 a3 a4 (fun q1 => K (.i .u64 q1) ⟨0, []⟩) := by kernel_rfl
noncomputable def S71G {R : Type} (soft_shape_most : soft_shape_mostY R) (k : Nat) : Sum R := fun args H K => match args, H with
  | [.agg [.i .i64 a1, .i .i64 a2, .i .i64 a3], .b a4], ⟨0, []⟩ => soft_shape_most k a1 a2 a3 a4 (fun q1 => K (.i .u64 q1) ⟨0, []⟩)
  | _, _ => none
noncomputable def S71 {R : Type} (k : Nat) : Sum R := S71G soft_shape_most k
theorem S71_ok0 {R : Type} (k : Nat) : SumOk Try.prog 71 false (S71 k : Sum R) := by
  intro args H K r h
  unfold S71 S71G at h
  split at h
  · exact fnK_sound (cx71_ok k) 6 71 _ _ K r ((soft_shape_most_gen soft_shape_inf k _ _ _ _ K).trans h)
  · cases h
theorem S71_ok {R : Type} (k : Nat) : SumOk Try.prog 71 true (S71 k : Sum R) := by
  refine sumOk_keep (S71_ok0 k) ?_
  intro args H K r h
  unfold S71 S71G at h ⊢
  split at h
  · refine Eq.trans ?_ h
    show soft_shape_most k _ _ _ _ _ = soft_shape_most k _ _ _ _ _
    congr 1
    all_goals first | exact (funext fun q1 => if_pos (keeps_app _ _ _ [])) | skip
  · cases h
-- function 96: plumbline/soft.rounderOf$2
noncomputable def fi96 : FnI := ⟨96, Try.f96, []⟩
theorem en96 : Enters Try.prog 96 := enters_of Try.func96 (c := ((Try.f96).body.getD .skip)) (by kernel_rfl) (by kernel_rfl)
noncomputable def cx96 {R : Type} (k : Nat) : Cx R := mkCx Ty exts [] fi96 [] []
theorem cx96_ok {R : Type} (k : Nat) : CxOk Try.prog (cx96 k : Cx R) := mkCx_ok (c := ((Try.f96).body.getD .skip)) ty_ok mixed exts_ok allSum_nil Try.func96 en96 (by kernel_rfl) (by kernel_rfl) allLoop_nil allCut_nil
@[reducible] def soft_rounderOf_2Y (R : Type) : Type := Nat → Bool → Bool → Bool → (Bool → Option R) → Option R
noncomputable def soft_rounderOf_2T {R : Type} (k : Nat) (a1 : Bool) (a2 : Bool) (a3 : Bool) (K0 : Bool → Option R) : Option R :=
  K0 false
noncomputable def soft_rounderOf_2 {R : Type} (k : Nat) (a1 : Bool) (a2 : Bool) (a3 : Bool) (K0 : Bool → Option R) : Option R := soft_rounderOf_2T k a1 a2 a3 K0
theorem soft_rounderOf_2_gen {R : Type} (k : Nat) (a1 : Bool) (a2 : Bool) (a3 : Bool) (K : AV → Heap → Option R) :
    fnK (mkCx Ty exts [] fi96 [] []) 6 96 [.b a1, .b a2, .b a3] ⟨0, []⟩ K = soft_rounderOf_2T k a1 a2 a3 (fun q1 => K (.b q1) ⟨0, []⟩) := by kernel_rfl
noncomputable def S96G {R : Type} (soft_rounderOf_2 : soft_rounderOf_2Y R) (k : Nat) : Sum R := fun args H K => match args, H with
  | [.b a1, .b a2, .b a3], ⟨0, []⟩ => soft_rounderOf_2 k a1 a2 a3 (fun q1 => K (.b q1) ⟨0, []⟩)
  | _, _ => none
noncomputable def S96 {R : Type} (k : Nat) : Sum R := S96G soft_rounderOf_2 k
theorem S96_ok0 {R : Type} (k : Nat) : SumOk Try.prog 96 false (S96 k : Sum R) := by
  intro args H K r h
  unfold S96 S96G at h
  split at h
  · exact fnK_sound (cx96_ok k) 6 96 _ _ K r ((soft_rounderOf_2_gen k _ _ _ K).trans h)
  · cases h
theorem S96_ok {R : Type} (k : Nat) : SumOk Try.prog 96 true (S96 k : Sum R) := by
  refine sumOk_keep (S96_ok0 k) ?_
  intro args H K r h
  unfold S96 S96G at h ⊢
  split at h
  · refine Eq.trans ?_ h
    show soft_rounderOf_2 k _ _ _ _ = soft_rounderOf_2 k _ _ _ _
    congr 1
    all_goals first | exact (funext fun q1 => if_pos (keeps_app _ _ _ [])) | skip
  · cases h
-- function 97: plumbline/soft.rounderOf$3
noncomputable def fi97 : FnI := ⟨97, Try.f97, []⟩
theorem en97 : Enters Try.prog 97 := enters_of Try.func97 (c := ((Try.f97).body.getD .skip)) (by kernel_rfl) (by kernel_rfl)
noncomputable def cx97 {R : Type} (k : Nat) : Cx R := mkCx Ty exts [] fi97 [] []
theorem cx97_ok {R : Type} (k : Nat) : CxOk Try.prog (cx97 k : Cx R) := mkCx_ok (c := ((Try.f97).body.getD .skip)) ty_ok mixed exts_ok allSum_nil Try.func97 en97 (by kernel_rfl) (by kernel_rfl) allLoop_nil allCut_nil
@[reducible] def soft_rounderOf_3Y (R : Type) : Type := Nat → Bool → Bool → Bool → (Bool → Option R) → Option R
noncomputable def soft_rounderOf_3T {R : Type} (k : Nat) (a1 : Bool) (a2 : Bool) (a3 : Bool) (K0 : Bool → Option R) : Option R :=
  cond a2 (
    cond a3 (
      K0 true) (
      K0 a1)) (
    K0 false)
noncomputable def soft_rounderOf_3 {R : Type} (k : Nat) (a1 : Bool) (a2 : Bool) (a3 : Bool) (K0 : Bool → Option R) : Option R := soft_rounderOf_3T k a1 a2 a3 K0
theorem soft_rounderOf_3_gen {R : Type} (k : Nat) (a1 : Bool) (a2 : Bool) (a3 : Bool) (K : AV → Heap → Option R) :
    fnK (mkCx Ty exts [] fi97 [] []) 6 97 [.b a1, .b a2, .b a3] ⟨0, []⟩ K = soft_rounderOf_3T k a1 a2 a3 (fun q1 => K (.b q1) ⟨0, []⟩) := by kernel_rfl
noncomputable def S97G {R : Type} (soft_rounderOf_3 : soft_rounderOf_3Y R) (k : Nat) : Sum R := fun args H K => match args, H with
  | [.b a1, .b a2, .b a3], ⟨0, []⟩ => soft_rounderOf_3 k a1 a2 a3 (fun q1 => K (.b q1) ⟨0, []⟩)
  | _, _ => none
noncomputable def S97 {R : Type} (k : Nat) : Sum R := S97G soft_rounderOf_3 k
theorem S97_ok0 {R : Type} (k : Nat) : SumOk Try.prog 97 false (S97 k : Sum R) := by
  intro args H K r h
  unfold S97 S97G at h
  split at h
  · exact fnK_sound (cx97_ok k) 6 97 _ _ K r ((soft_rounderOf_3_gen k _ _ _ K).trans h)
  · cases h
theorem S97_ok {R : Type} (k : Nat) : SumOk Try.prog 97 true (S97 k : Sum R) := by
  refine sumOk_keep (S97_ok0 k) ?_
  intro args H K r h
  unfold S97 S97G at h ⊢
  split at h
  · refine Eq.trans ?_ h
    show soft_rounderOf_3 k _ _ _ _ = soft_rounderOf_3 k _ _ _ _
    congr 1
    all_goals first | exact (funext fun q1 => if_pos (keeps_app _ _ _ [])) | skip
  · cases h
-- function 50: (plumbline/soft.shape).round
noncomputable def fi50 : FnI := ⟨50, Try.f50, [(600003, [1, 2, 4, 5, 6, 9]), (600010, [2, 5, 6, 9, 13, 14, 15, 16, 18]), (600015, [2, 5, 6, 9, 13, 14, 15]), (600018, [2, 6, 13, 14, 19]), (2500003, [12]), (2500015, [12]), (2500018, [12]), (5500010, [2, 5, 6, 9, 13, 14, 15])]⟩
theorem en50 : Enters Try.prog 50 := enters_of Try.func50 (c := ((Try.f50).body.getD .skip)) (by kernel_rfl) (by kernel_rfl)
@[reducible] def soft_shape_round_c0Y (R : Type) : Type := Nat → Bool → Bool → Int → Bool → Int → Bool → Int → Int → Int → Int → Int → (Bool → Int → Int → Option R) → Option R
noncomputable def soft_shape_round_c0T {R : Type} (wide_Shr : wide_ShrY R) (k : Nat) (x1 : Bool) (x2 : Bool) (x3 : Int) (x4 : Bool) (x5 : Int) (x6 : Bool) (x7 : Int) (x8 : Int) (x9 : Int) (x10 : Int) (x11 : Int) (K0 : Bool → Int → Int → Option R) : Option R :=
  cond x2 (
    cond (decide (x5 > 129)) (
      wide_Shr k x10 x11 x5 (fun yyr1 yyr2 yyr3 =>
        K0 true yyr1 yyr2)) (
      wide_Shr k x10 x11 x5 (fun yyr4 yyr5 yyr6 =>
        K0 true yyr4 yyr5))) (
    cond (decide (x5 > 129)) (
      cond x6 (
        wide_Shr k x10 x11 x5 (fun yyr7 yyr8 yyr9 =>
          K0 true yyr7 yyr8)) (
        wide_Shr k x10 x11 x5 (fun yyr10 yyr11 yyr12 =>
          K0 (!((x10 == 0) && (x11 == 0))) yyr10 yyr11))) (
      wide_Shr k x10 x11 x5 (fun yyr13 yyr14 yyr15 =>
        K0 x6 yyr13 yyr14)))
noncomputable def soft_shape_round_c0 {R : Type} (k : Nat) (x1 : Bool) (x2 : Bool) (x3 : Int) (x4 : Bool) (x5 : Int) (x6 : Bool) (x7 : Int) (x8 : Int) (x9 : Int) (x10 : Int) (x11 : Int) (K0 : Bool → Int → Int → Option R) : Option R := soft_shape_round_c0T wide_Shr k x1 x2 x3 x4 x5 x6 x7 x8 x9 x10 x11 K0
@[reducible] def soft_shape_round_c3Y (R : Type) : Type := Nat → Bool → Bool → Int → Bool → Int → Bool → Int → Int → Int → Int → Int → (Bool → Int → Int → Option R) → Option R
noncomputable def soft_shape_round_c3T {R : Type} (wide_Shr : wide_ShrY R) (k : Nat) (x1 : Bool) (x2 : Bool) (x3 : Int) (x4 : Bool) (x5 : Int) (x6 : Bool) (x7 : Int) (x8 : Int) (x9 : Int) (x10 : Int) (x11 : Int) (K0 : Bool → Int → Int → Option R) : Option R :=
  cond x2 (
    cond (decide (x5 > 129)) (
      wide_Shr k x10 x11 x5 (fun yyr1 yyr2 yyr3 =>
        K0 true yyr1 yyr2)) (
      wide_Shr k x10 x11 x5 (fun yyr4 yyr5 yyr6 =>
        K0 true yyr4 yyr5))) (
    cond (decide (x5 > 129)) (
      cond x6 (
        wide_Shr k x10 x11 x5 (fun yyr7 yyr8 yyr9 =>
          K0 true yyr7 yyr8)) (
        wide_Shr k x10 x11 x5 (fun yyr10 yyr11 yyr12 =>
          K0 (!((x10 == 0) && (x11 == 0))) yyr10 yyr11))) (
      wide_Shr k x10 x11 x5 (fun yyr13 yyr14 yyr15 =>
        K0 x6 yyr13 yyr14)))
noncomputable def soft_shape_round_c3 {R : Type} (k : Nat) (x1 : Bool) (x2 : Bool) (x3 : Int) (x4 : Bool) (x5 : Int) (x6 : Bool) (x7 : Int) (x8 : Int) (x9 : Int) (x10 : Int) (x11 : Int) (K0 : Bool → Int → Int → Option R) : Option R := soft_shape_round_c3T wide_Shr k x1 x2 x3 x4 x5 x6 x7 x8 x9 x10 x11 K0
@[reducible] def soft_shape_round_c6Y (R : Type) : Type := Nat → Bool → Bool → Int → Bool → Int → Bool → Int → Int → Int → Int → Int → (Bool → Int → Int → Option R) → Option R
noncomputable def soft_shape_round_c6T {R : Type} (wide_Shr : wide_ShrY R) (k : Nat) (x1 : Bool) (x2 : Bool) (x3 : Int) (x4 : Bool) (x5 : Int) (x6 : Bool) (x7 : Int) (x8 : Int) (x9 : Int) (x10 : Int) (x11 : Int) (K0 : Bool → Int → Int → Option R) : Option R :=
  cond x2 (
    cond (decide (x5 > 129)) (
      wide_Shr k x10 x11 x5 (fun yyr1 yyr2 yyr3 =>
        K0 true yyr1 yyr2)) (
      wide_Shr k x10 x11 x5 (fun yyr4 yyr5 yyr6 =>
        K0 true yyr4 yyr5))) (
    cond (decide (x5 > 129)) (
      cond x6 (
        wide_Shr k x10 x11 x5 (fun yyr7 yyr8 yyr9 =>
          K0 true yyr7 yyr8)) (
        wide_Shr k x10 x11 x5 (fun yyr10 yyr11 yyr12 =>
          K0 (!((x10 == 0) && (x11 == 0))) yyr10 yyr11))) (
      wide_Shr k x10 x11 x5 (fun yyr13 yyr14 yyr15 =>
        K0 x6 yyr13 yyr14)))
noncomputable def soft_shape_round_c6 {R : Type} (k : Nat) (x1 : Bool) (x2 : Bool) (x3 : Int) (x4 : Bool) (x5 : Int) (x6 : Bool) (x7 : Int) (x8 : Int) (x9 : Int) (x10 : Int) (x11 : Int) (K0 : Bool → Int → Int → Option R) : Option R := soft_shape_round_c6T wide_Shr k x1 x2 x3 x4 x5 x6 x7 x8 x9 x10 x11 K0
noncomputable def cc50_10 {R : Type} (k : Nat) : Cx R := mkCx Ty exts [(45, true, S45 k), (46, true, S46 k), (47, true, S47 k), (49, true, S49 k), (71, true, S71 k), (79, true, S79 k), (82, true, S82 k), (83, true, S83 k), (95, true, S95 k), (96, true, S96 k), (97, true, S97 k)] fi50 [] []
theorem cc50_10_ok {R : Type} (k : Nat) : CxOk Try.prog (cc50_10 k : Cx R) := mkCx_ok (c := ((Try.f50).body.getD .skip)) ty_ok mixed exts_ok (allSum_cons (S45_ok k) en45 (allSum_cons (S46_ok k) en46 (allSum_cons (S47_ok k) en47 (allSum_cons (S49_ok k) en49 (allSum_cons (S71_ok k) en71 (allSum_cons (S79_ok k) en79 (allSum_cons (S82_ok k) en82 (allSum_cons (S83_ok k) en83 (allSum_cons (S95_ok k) en95 (allSum_cons (S96_ok k) en96 (allSum_cons (S97_ok k) en97 allSum_nil))))))))))) Try.func50 en50 (by kernel_rfl) (by kernel_rfl) allLoop_nil allCut_nil
noncomputable def C50_10G {R : Type} (soft_shape_round_c0 : soft_shape_round_c0Y R) (soft_shape_round_c3 : soft_shape_round_c3Y R) (soft_shape_round_c6 : soft_shape_round_c6Y R) (k : Nat) : LSum R := fun pin T H K => match pin, T, H with
  | 0, [(2, .b x1), (5, .b x2), (6, .ptr 0 0 0 0 0), (9, .ptr 1 0 0 0 0), (13, .ptr 2 0 0 0 0), (14, .i .i64 x3), (15, .b x4), (16, .i .i64 x5), (18, .b x6)], ⟨3, [(0, some ⟨0, false, .cells [.i .i64 x7, .i .i64 x8, .i .i64 x9]⟩), (1, some ⟨1, false, .cells [.i .u64 x10, .i .u64 x11]⟩), (2, some ⟨2, false, .cells [.fn 95 []]⟩)]⟩ => soft_shape_round_c0 k x1 x2 x3 x4 x5 x6 x7 x8 x9 x10 x11 (fun q2 q8 q9 => K .normal [(2, .b x1), (5, .b q2), (6, .ptr 0 0 0 0 0), (9, .ptr 1 0 0 0 0), (13, .ptr 2 0 0 0 0), (14, .i .i64 x3), (15, .b x4)] ⟨3, [(0, some ⟨0, false, .cells [.i .i64 x7, .i .i64 x8, .i .i64 x9]⟩), (1, some ⟨1, false, .cells [.i .u64 q8, .i .u64 q9]⟩), (2, some ⟨2, false, .cells [.fn 95 []]⟩)]⟩)
  | 0, [(2, .b x1), (5, .b x2), (6, .ptr 0 0 0 0 0), (9, .ptr 1 0 0 0 0), (13, .ptr 2 0 0 0 0), (14, .i .i64 x3), (15, .b x4), (16, .i .i64 x5), (18, .b x6)], ⟨3, [(0, some ⟨0, false, .cells [.i .i64 x7, .i .i64 x8, .i .i64 x9]⟩), (1, some ⟨1, false, .cells [.i .u64 x10, .i .u64 x11]⟩), (2, some ⟨2, false, .cells [.fn 96 []]⟩)]⟩ => soft_shape_round_c3 k x1 x2 x3 x4 x5 x6 x7 x8 x9 x10 x11 (fun q2 q8 q9 => K .normal [(2, .b x1), (5, .b q2), (6, .ptr 0 0 0 0 0), (9, .ptr 1 0 0 0 0), (13, .ptr 2 0 0 0 0), (14, .i .i64 x3), (15, .b x4)] ⟨3, [(0, some ⟨0, false, .cells [.i .i64 x7, .i .i64 x8, .i .i64 x9]⟩), (1, some ⟨1, false, .cells [.i .u64 q8, .i .u64 q9]⟩), (2, some ⟨2, false, .cells [.fn 96 []]⟩)]⟩)
  | 0, [(2, .b x1), (5, .b x2), (6, .ptr 0 0 0 0 0), (9, .ptr 1 0 0 0 0), (13, .ptr 2 0 0 0 0), (14, .i .i64 x3), (15, .b x4), (16, .i .i64 x5), (18, .b x6)], ⟨3, [(0, some ⟨0, false, .cells [.i .i64 x7, .i .i64 x8, .i .i64 x9]⟩), (1, some ⟨1, false, .cells [.i .u64 x10, .i .u64 x11]⟩), (2, some ⟨2, false, .cells [.fn 97 []]⟩)]⟩ => soft_shape_round_c6 k x1 x2 x3 x4 x5 x6 x7 x8 x9 x10 x11 (fun q2 q8 q9 => K .normal [(2, .b x1), (5, .b q2), (6, .ptr 0 0 0 0 0), (9, .ptr 1 0 0 0 0), (13, .ptr 2 0 0 0 0), (14, .i .i64 x3), (15, .b x4)] ⟨3, [(0, some ⟨0, false, .cells [.i .i64 x7, .i .i64 x8, .i .i64 x9]⟩), (1, some ⟨1, false, .cells [.i .u64 q8, .i .u64 q9]⟩), (2, some ⟨2, false, .cells [.fn 97 []]⟩)]⟩)
  | _, _, _ => none
noncomputable def C50_10 {R : Type} (k : Nat) : LSum R := C50_10G soft_shape_round_c0 soft_shape_round_c3 soft_shape_round_c6 k
theorem soft_shape_round_c0_gen {R : Type} (soft_shape_inf : soft_shape_infY R) (soft_shape_sign : soft_shape_signY R) (wide_Len : wide_LenY R) (wide_Shl : wide_ShlY R) (soft_shape_most : soft_shape_mostY R) (soft_shape_full : soft_shape_fullY R) (soft_rounderOf : soft_rounderOfY R) (wide_Shr : wide_ShrY R) (soft_rounderOf_1 : soft_rounderOf_1Y R) (soft_rounderOf_2 : soft_rounderOf_2Y R) (soft_rounderOf_3 : soft_rounderOf_3Y R) (k : Nat) (x1 : Bool) (x2 : Bool) (x3 : Int) (x4 : Bool) (x5 : Int) (x6 : Bool) (x7 : Int) (x8 : Int) (x9 : Int) (x10 : Int) (x11 : Int) (K : Kont R) :
    (fun C => codeK C (run C 4)) (mkCx Ty exts [(45, true, S45G soft_shape_inf k), (46, true, S46G soft_shape_sign k), (47, true, S47G wide_Len k), (49, true, S49G wide_Shl k), (71, true, S71G soft_shape_most k), (79, true, S79G soft_shape_full k), (82, true, S82G soft_rounderOf k), (83, true, S83G wide_Shr k), (95, true, S95G soft_rounderOf_1 k), (96, true, S96G soft_rounderOf_2 k), (97, true, S97G soft_rounderOf_3 k)] fi50 [] []) 0 fi50 (cutAt ((Try.f50).body.getD .skip) 10) [(2, .b x1), (5, .b x2), (6, .ptr 0 0 0 0 0), (9, .ptr 1 0 0 0 0), (13, .ptr 2 0 0 0 0), (14, .i .i64 x3), (15, .b x4), (16, .i .i64 x5), (18, .b x6)] ⟨3, [(0, some ⟨0, false, .cells [.i .i64 x7, .i .i64 x8, .i .i64 x9]⟩), (1, some ⟨1, false, .cells [.i .u64 x10, .i .u64 x11]⟩), (2, some ⟨2, false, .cells [.fn 95 []]⟩)]⟩ (exitNorm fi50.ann 500010 0 K) = soft_shape_round_c0T wide_Shr k x1 x2 x3 x4 x5 x6 x7 x8 x9 x10 x11 (fun q2 q8 q9 => K .normal [(2, .b x1), (5, .b q2), (6, .ptr 0 0 0 0 0), (9, .ptr 1 0 0 0 0), (13, .ptr 2 0 0 0 0), (14, .i .i64 x3), (15, .b x4)] ⟨3, [(0, some ⟨0, false, .cells [.i .i64 x7, .i .i64 x8, .i .i64 x9]⟩), (1, some ⟨1, false, .cells [.i .u64 q8, .i .u64 q9]⟩), (2, some ⟨2, false, .cells [.fn 95 []]⟩)]⟩) := by kernel_rfl
theorem soft_shape_round_c3_gen {R : Type} (soft_shape_inf : soft_shape_infY R) (soft_shape_sign : soft_shape_signY R) (wide_Len : wide_LenY R) (wide_Shl : wide_ShlY R) (soft_shape_most : soft_shape_mostY R) (soft_shape_full : soft_shape_fullY R) (soft_rounderOf : soft_rounderOfY R) (wide_Shr : wide_ShrY R) (soft_rounderOf_1 : soft_rounderOf_1Y R) (soft_rounderOf_2 : soft_rounderOf_2Y R) (soft_rounderOf_3 : soft_rounderOf_3Y R) (k : Nat) (x1 : Bool) (x2 : Bool) (x3 : Int) (x4 : Bool) (x5 : Int) (x6 : Bool) (x7 : Int) (x8 : Int) (x9 : Int) (x10 : Int) (x11 : Int) (K : Kont R) :
    (fun C => codeK C (run C 4)) (mkCx Ty exts [(45, true, S45G soft_shape_inf k), (46, true, S46G soft_shape_sign k), (47, true, S47G wide_Len k), (49, true, S49G wide_Shl k), (71, true, S71G soft_shape_most k), (79, true, S79G soft_shape_full k), (82, true, S82G soft_rounderOf k), (83, true, S83G wide_Shr k), (95, true, S95G soft_rounderOf_1 k), (96, true, S96G soft_rounderOf_2 k), (97, true, S97G soft_rounderOf_3 k)] fi50 [] []) 0 fi50 (cutAt ((Try.f50).body.getD .skip) 10) [(2, .b x1), (5, .b x2), (6, .ptr 0 0 0 0 0), (9, .ptr 1 0 0 0 0), (13, .ptr 2 0 0 0 0), (14, .i .i64 x3), (15, .b x4), (16, .i .i64 x5), (18, .b x6)] ⟨3, [(0, some ⟨0, false, .cells [.i .i64 x7, .i .i64 x8, .i .i64 x9]⟩), (1, some ⟨1, false, .cells [.i .u64 x10, .i .u64 x11]⟩), (2, some ⟨2, false, .cells [.fn 96 []]⟩)]⟩ (exitNorm fi50.ann 500010 0 K) = soft_shape_round_c3T wide_Shr k x1 x2 x3 x4 x5 x6 x7 x8 x9 x10 x11 (fun q2 q8 q9 => K .normal [(2, .b x1), (5, .b q2), (6, .ptr 0 0 0 0 0), (9, .ptr 1 0 0 0 0), (13, .ptr 2 0 0 0 0), (14, .i .i64 x3), (15, .b x4)] ⟨3, [(0, some ⟨0, false, .cells [.i .i64 x7, .i .i64 x8, .i .i64 x9]⟩), (1, some ⟨1, false, .cells [.i .u64 q8, .i .u64 q9]⟩), (2, some ⟨2, false, .cells [.fn 96 []]⟩)]⟩) := by kernel_rfl
theorem soft_shape_round_c6_gen {R : Type} (soft_shape_inf : soft_shape_infY R) (soft_shape_sign : soft_shape_signY R) (wide_Len : wide_LenY R) (wide_Shl : wide_ShlY R) (soft_shape_most : soft_shape_mostY R) (soft_shape_full : soft_shape_fullY R) (soft_rounderOf : soft_rounderOfY R) (wide_Shr : wide_ShrY R) (soft_rounderOf_1 : soft_rounderOf_1Y R) (soft_rounderOf_2 : soft_rounderOf_2Y R) (soft_rounderOf_3 : soft_rounderOf_3Y R) (k : Nat) (x1 : Bool) (x2 : Bool) (x3 : Int) (x4 : Bool) (x5 : Int) (x6 : Bool) (x7 : Int) (x8 : Int) (x9 : Int) (x10 : Int) (x11 : Int) (K : Kont R) :
    (fun C => codeK C (run C 4)) (mkCx Ty exts [(45, true, S45G soft_shape_inf k), (46, true, S46G soft_shape_sign k), (47, true, S47G wide_Len k), (49, true, S49G wide_Shl k), (71, true, S71G soft_shape_most k), (79, true, S79G soft_shape_full k), (82, true, S82G soft_rounderOf k), (83, true, S83G wide_Shr k), (95, true, S95G soft_rounderOf_1 k), (96, true, S96G soft_rounderOf_2 k), (97, true, S97G soft_rounderOf_3 k)] fi50 [] []) 0 fi50 (cutAt ((Try.f50).body.getD .skip) 10) [(2, .b x1), (5, .b x2), (6, .ptr 0 0 0 0 0), (9, .ptr 1 0 0 0 0), (13, .ptr 2 0 0 0 0), (14, .i .i64 x3), (15, .b x4), (16, .i .i64 x5), (18, .b x6)] ⟨3, [(0, some ⟨0, false, .cells [.i .i64 x7, .i .i64 x8, .i .i64 x9]⟩), (1, some ⟨1, false, .cells [.i .u64 x10, .i .u64 x11]⟩), (2, some ⟨2, false, .cells [.fn 97 []]⟩)]⟩ (exitNorm fi50.ann 500010 0 K) = soft_shape_round_c6T wide_Shr k x1 x2 x3 x4 x5 x6 x7 x8 x9 x10 x11 (fun q2 q8 q9 => K .normal [(2, .b x1), (5, .b q2), (6, .ptr 0 0 0 0 0), (9, .ptr 1 0 0 0 0), (13, .ptr 2 0 0 0 0), (14, .i .i64 x3), (15, .b x4)] ⟨3, [(0, some ⟨0, false, .cells [.i .i64 x7, .i .i64 x8, .i .i64 x9]⟩), (1, some ⟨1, false, .cells [.i .u64 q8, .i .u64 q9]⟩), (2, some ⟨2, false, .cells [.fn 97 []]⟩)]⟩) := by kernel_rfl
theorem C50_10_cok {R : Type} (k : Nat) : CodeOk Try.prog (cc50_10 k : Cx R) fi50 (cutAt ((Try.f50).body.getD .skip) 10) := cutAt_ok (((cc50_10_ok k).fns 50 fi50 (by kernel_rfl)).2.2.2 ((Try.f50).body.getD .skip) (by kernel_rfl))
theorem C50_10_ok {R : Type} (k : Nat) : CutOk Try.prog (Try.f50).ntmps (cutAt ((Try.f50).body.getD .skip) 10) (C50_10 k : LSum R) := by
  intro pin T H K r h
  unfold C50_10 C50_10G at h
  split at h
  · obtain ⟨ex, T1, H1, h, hb⟩ := codeK_sound (cc50_10_ok k) (run_sound (cc50_10_ok k) 4) _ fi50 _ _ _ _ _ (C50_10_cok k) ((soft_shape_round_c0_gen soft_shape_inf soft_shape_sign wide_Len wide_Shl soft_shape_most soft_shape_full soft_rounderOf wide_Shr soft_rounderOf_1 soft_rounderOf_2 soft_rounderOf_3 k _ _ _ _ _ _ _ _ _ _ _ K).trans h)
    exact cut_step hb h
  · obtain ⟨ex, T1, H1, h, hb⟩ := codeK_sound (cc50_10_ok k) (run_sound (cc50_10_ok k) 4) _ fi50 _ _ _ _ _ (C50_10_cok k) ((soft_shape_round_c3_gen soft_shape_inf soft_shape_sign wide_Len wide_Shl soft_shape_most soft_shape_full soft_rounderOf wide_Shr soft_rounderOf_1 soft_rounderOf_2 soft_rounderOf_3 k _ _ _ _ _ _ _ _ _ _ _ K).trans h)
    exact cut_step hb h
  · obtain ⟨ex, T1, H1, h, hb⟩ := codeK_sound (cc50_10_ok k) (run_sound (cc50_10_ok k) 4) _ fi50 _ _ _ _ _ (C50_10_cok k) ((soft_shape_round_c6_gen soft_shape_inf soft_shape_sign wide_Len wide_Shl soft_shape_most soft_shape_full soft_rounderOf wide_Shr soft_rounderOf_1 soft_rounderOf_2 soft_rounderOf_3 k _ _ _ _ _ _ _ _ _ _ _ K).trans h)
    exact cut_step hb h
  · cases h
@[reducible] def soft_shape_round_c1Y (R : Type) : Type := Nat → Bool → Int → Int → Int → Int → Int → (Int → Option R) → Option R
noncomputable def soft_shape_round_c1T {R : Type} (soft_rounderOf_1 : soft_rounderOf_1Y R) (soft_shape_full : soft_shape_fullY R) (soft_shape_inf : soft_shape_infY R) (soft_shape_most : soft_shape_mostY R) (soft_shape_sign : soft_shape_signY R) (k : Nat) (x1 : Bool) (x2 : Int) (x3 : Int) (x4 : Int) (x5 : Int) (x6 : Int) (K0 : Int → Option R) : Option R :=
  cond (decide ((Wi64 (x4 + 1)) < 0)) (
    none) (
    cond ((shr .u64 x3 (Wi64 (x4 + 1))) != 0) (
      cond (decide (x4 < 0)) (
        none) (
        cond ((shr .u64 (shr .u64 x3 1) x4) == 0) (
          soft_shape_sign k x4 x5 x6 x1 (fun yyyr1 =>
            K0 (bOr .u64 yyyr1 (shr .u64 x3 1)))) (
          soft_shape_full k x4 x5 x6 (fun yyyr2 =>
            cond (decide ((Wu64 (Wi64 ((Wi64 ((Wi64 (x2 + 1)) - x6)) + 1))) < yyyr2)) (
              soft_shape_sign k x4 x5 x6 x1 (fun yyyr3 =>
                cond (decide (x4 < 0)) (
                  none) (
                  cond (decide (x4 < 0)) (
                    none) (
                    K0 (bOr .u64 (bOr .u64 yyyr3 (shl .u64 (Wu64 (Wi64 ((Wi64 ((Wi64 (x2 + 1)) - x6)) + 1))) x4)) (bAnd .u64 (shr .u64 x3 1) (Wu64 ((shl .u64 1 x4) - 1)))))))) (
              soft_rounderOf_1 k true true true (fun yyyr4 =>
                cond yyyr4 (
                  soft_shape_inf k x4 x5 x6 x1 (fun yyyr5 =>
                    K0 yyyr5)) (
                  soft_shape_most k x4 x5 x6 x1 (fun yyyr6 =>
                    K0 yyyr6)))))))) (
      cond (decide (x4 < 0)) (
        none) (
        cond ((shr .u64 x3 x4) == 0) (
          soft_shape_sign k x4 x5 x6 x1 (fun yyyr7 =>
            K0 (bOr .u64 yyyr7 x3))) (
          soft_shape_full k x4 x5 x6 (fun yyyr8 =>
            cond (decide ((Wu64 (Wi64 ((Wi64 (x2 - x6)) + 1))) < yyyr8)) (
              soft_shape_sign k x4 x5 x6 x1 (fun yyyr9 =>
                cond (decide (x4 < 0)) (
                  none) (
                  cond (decide (x4 < 0)) (
                    none) (
                    K0 (bOr .u64 (bOr .u64 yyyr9 (shl .u64 (Wu64 (Wi64 ((Wi64 (x2 - x6)) + 1))) x4)) (bAnd .u64 x3 (Wu64 ((shl .u64 1 x4) - 1)))))))) (
              soft_rounderOf_1 k true true true (fun yyyr10 =>
                cond yyyr10 (
                  soft_shape_inf k x4 x5 x6 x1 (fun yyyr11 =>
                    K0 yyyr11)) (
                  soft_shape_most k x4 x5 x6 x1 (fun yyyr12 =>
                    K0 yyyr12)))))))))
noncomputable def soft_shape_round_c1 {R : Type} (k : Nat) (x1 : Bool) (x2 : Int) (x3 : Int) (x4 : Int) (x5 : Int) (x6 : Int) (K0 : Int → Option R) : Option R := soft_shape_round_c1T soft_rounderOf_1 soft_shape_full soft_shape_inf soft_shape_most soft_shape_sign k x1 x2 x3 x4 x5 x6 K0
@[reducible] def soft_shape_round_c4Y (R : Type) : Type := Nat → Bool → Int → Int → Int → Int → Int → (Int → Option R) → Option R
noncomputable def soft_shape_round_c4T {R : Type} (soft_rounderOf_2 : soft_rounderOf_2Y R) (soft_shape_full : soft_shape_fullY R) (soft_shape_inf : soft_shape_infY R) (soft_shape_most : soft_shape_mostY R) (soft_shape_sign : soft_shape_signY R) (k : Nat) (x1 : Bool) (x2 : Int) (x3 : Int) (x4 : Int) (x5 : Int) (x6 : Int) (K0 : Int → Option R) : Option R :=
  cond (decide ((Wi64 (x4 + 1)) < 0)) (
    none) (
    cond ((shr .u64 x3 (Wi64 (x4 + 1))) != 0) (
      cond (decide (x4 < 0)) (
        none) (
        cond ((shr .u64 (shr .u64 x3 1) x4) == 0) (
          soft_shape_sign k x4 x5 x6 x1 (fun yyyr1 =>
            K0 (bOr .u64 yyyr1 (shr .u64 x3 1)))) (
          soft_shape_full k x4 x5 x6 (fun yyyr2 =>
            cond (decide ((Wu64 (Wi64 ((Wi64 ((Wi64 (x2 + 1)) - x6)) + 1))) < yyyr2)) (
              soft_shape_sign k x4 x5 x6 x1 (fun yyyr3 =>
                cond (decide (x4 < 0)) (
                  none) (
                  cond (decide (x4 < 0)) (
                    none) (
                    K0 (bOr .u64 (bOr .u64 yyyr3 (shl .u64 (Wu64 (Wi64 ((Wi64 ((Wi64 (x2 + 1)) - x6)) + 1))) x4)) (bAnd .u64 (shr .u64 x3 1) (Wu64 ((shl .u64 1 x4) - 1)))))))) (
              soft_rounderOf_2 k true true true (fun yyyr4 =>
                cond yyyr4 (
                  soft_shape_inf k x4 x5 x6 x1 (fun yyyr5 =>
                    K0 yyyr5)) (
                  soft_shape_most k x4 x5 x6 x1 (fun yyyr6 =>
                    K0 yyyr6)))))))) (
      cond (decide (x4 < 0)) (
        none) (
        cond ((shr .u64 x3 x4) == 0) (
          soft_shape_sign k x4 x5 x6 x1 (fun yyyr7 =>
            K0 (bOr .u64 yyyr7 x3))) (
          soft_shape_full k x4 x5 x6 (fun yyyr8 =>
            cond (decide ((Wu64 (Wi64 ((Wi64 (x2 - x6)) + 1))) < yyyr8)) (
              soft_shape_sign k x4 x5 x6 x1 (fun yyyr9 =>
                cond (decide (x4 < 0)) (
                  none) (
                  cond (decide (x4 < 0)) (
                    none) (
                    K0 (bOr .u64 (bOr .u64 yyyr9 (shl .u64 (Wu64 (Wi64 ((Wi64 (x2 - x6)) + 1))) x4)) (bAnd .u64 x3 (Wu64 ((shl .u64 1 x4) - 1)))))))) (
              soft_rounderOf_2 k true true true (fun yyyr10 =>
                cond yyyr10 (
                  soft_shape_inf k x4 x5 x6 x1 (fun yyyr11 =>
                    K0 yyyr11)) (
                  soft_shape_most k x4 x5 x6 x1 (fun yyyr12 =>
                    K0 yyyr12)))))))))
noncomputable def soft_shape_round_c4 {R : Type} (k : Nat) (x1 : Bool) (x2 : Int) (x3 : Int) (x4 : Int) (x5 : Int) (x6 : Int) (K0 : Int → Option R) : Option R := soft_shape_round_c4T soft_rounderOf_2 soft_shape_full soft_shape_inf soft_shape_most soft_shape_sign k x1 x2 x3 x4 x5 x6 K0
@[reducible] def soft_shape_round_c7Y (R : Type) : Type := Nat → Bool → Int → Int → Int → Int → Int → (Int → Option R) → Option R
noncomputable def soft_shape_round_c7T {R : Type} (soft_rounderOf_3 : soft_rounderOf_3Y R) (soft_shape_full : soft_shape_fullY R) (soft_shape_inf : soft_shape_infY R) (soft_shape_most : soft_shape_mostY R) (soft_shape_sign : soft_shape_signY R) (k : Nat) (x1 : Bool) (x2 : Int) (x3 : Int) (x4 : Int) (x5 : Int) (x6 : Int) (K0 : Int → Option R) : Option R :=
  cond (decide ((Wi64 (x4 + 1)) < 0)) (
    none) (
    cond ((shr .u64 x3 (Wi64 (x4 + 1))) != 0) (
      cond (decide (x4 < 0)) (
        none) (
        cond ((shr .u64 (shr .u64 x3 1) x4) == 0) (
          soft_shape_sign k x4 x5 x6 x1 (fun yyyr1 =>
            K0 (bOr .u64 yyyr1 (shr .u64 x3 1)))) (
          soft_shape_full k x4 x5 x6 (fun yyyr2 =>
            cond (decide ((Wu64 (Wi64 ((Wi64 ((Wi64 (x2 + 1)) - x6)) + 1))) < yyyr2)) (
              soft_shape_sign k x4 x5 x6 x1 (fun yyyr3 =>
                cond (decide (x4 < 0)) (
                  none) (
                  cond (decide (x4 < 0)) (
                    none) (
                    K0 (bOr .u64 (bOr .u64 yyyr3 (shl .u64 (Wu64 (Wi64 ((Wi64 ((Wi64 (x2 + 1)) - x6)) + 1))) x4)) (bAnd .u64 (shr .u64 x3 1) (Wu64 ((shl .u64 1 x4) - 1)))))))) (
              soft_rounderOf_3 k true true true (fun yyyr4 =>
                cond yyyr4 (
                  soft_shape_inf k x4 x5 x6 x1 (fun yyyr5 =>
                    K0 yyyr5)) (
                  soft_shape_most k x4 x5 x6 x1 (fun yyyr6 =>
                    K0 yyyr6)))))))) (
      cond (decide (x4 < 0)) (
        none) (
        cond ((shr .u64 x3 x4) == 0) (
          soft_shape_sign k x4 x5 x6 x1 (fun yyyr7 =>
            K0 (bOr .u64 yyyr7 x3))) (
          soft_shape_full k x4 x5 x6 (fun yyyr8 =>
            cond (decide ((Wu64 (Wi64 ((Wi64 (x2 - x6)) + 1))) < yyyr8)) (
              soft_shape_sign k x4 x5 x6 x1 (fun yyyr9 =>
                cond (decide (x4 < 0)) (
                  none) (
                  cond (decide (x4 < 0)) (
                    none) (
                    K0 (bOr .u64 (bOr .u64 yyyr9 (shl .u64 (Wu64 (Wi64 ((Wi64 (x2 - x6)) + 1))) x4)) (bAnd .u64 x3 (Wu64 ((shl .u64 1 x4) - 1)))))))) (
              soft_rounderOf_3 k true true true (fun yyyr10 =>
                cond yyyr10 (
                  soft_shape_inf k x4 x5 x6 x1 (fun yyyr11 =>
                    K0 yyyr11)) (
                  soft_shape_most k x4 x5 x6 x1 (fun yyyr12 =>
                    K0 yyyr12)))))))))
noncomputable def soft_shape_round_c7 {R : Type} (k : Nat) (x1 : Bool) (x2 : Int) (x3 : Int) (x4 : Int) (x5 : Int) (x6 : Int) (K0 : Int → Option R) : Option R := soft_shape_round_c7T soft_rounderOf_3 soft_shape_full soft_shape_inf soft_shape_most soft_shape_sign k x1 x2 x3 x4 x5 x6 K0
noncomputable def cc50_18 {R : Type} (k : Nat) : Cx R := mkCx Ty exts [(45, true, S45 k), (46, true, S46 k), (47, true, S47 k), (49, true, S49 k), (71, true, S71 k), (79, true, S79 k), (82, true, S82 k), (83, true, S83 k), (95, true, S95 k), (96, true, S96 k), (97, true, S97 k)] fi50 [] [(10, C50_10 k)]
theorem cc50_18_ok {R : Type} (k : Nat) : CxOk Try.prog (cc50_18 k : Cx R) := mkCx_ok (c := ((Try.f50).body.getD .skip)) ty_ok mixed exts_ok (allSum_cons (S45_ok k) en45 (allSum_cons (S46_ok k) en46 (allSum_cons (S47_ok k) en47 (allSum_cons (S49_ok k) en49 (allSum_cons (S71_ok k) en71 (allSum_cons (S79_ok k) en79 (allSum_cons (S82_ok k) en82 (allSum_cons (S83_ok k) en83 (allSum_cons (S95_ok k) en95 (allSum_cons (S96_ok k) en96 (allSum_cons (S97_ok k) en97 allSum_nil))))))))))) Try.func50 en50 (by kernel_rfl) (by kernel_rfl) allLoop_nil (allCut_cons (C50_10_ok k) (by kernel_rfl) allCut_nil)
noncomputable def C50_18G {R : Type} (soft_shape_round_c1 : soft_shape_round_c1Y R) (soft_shape_round_c4 : soft_shape_round_c4Y R) (soft_shape_round_c7 : soft_shape_round_c7Y R) (k : Nat) : LSum R := fun pin T H K => match pin, T, H with
  | 0, [(2, .b x1), (6, .ptr 0 0 0 0 0), (13, .ptr 1 0 0 0 0), (14, .i .i64 x2), (19, .i .u64 x3)], ⟨2, [(0, some ⟨0, false, .cells [.i .i64 x4, .i .i64 x5, .i .i64 x6]⟩), (1, some ⟨1, false, .cells [.fn 95 []]⟩)]⟩ => soft_shape_round_c1 k x1 x2 x3 x4 x5 x6 (fun q1 => K .ret [(12, .i .u64 q1)] ⟨0, []⟩)
  | 0, [(2, .b x1), (6, .ptr 0 0 0 0 0), (13, .ptr 1 0 0 0 0), (14, .i .i64 x2), (19, .i .u64 x3)], ⟨2, [(0, some ⟨0, false, .cells [.i .i64 x4, .i .i64 x5, .i .i64 x6]⟩), (1, some ⟨1, false, .cells [.fn 96 []]⟩)]⟩ => soft_shape_round_c4 k x1 x2 x3 x4 x5 x6 (fun q1 => K .ret [(12, .i .u64 q1)] ⟨0, []⟩)
  | 0, [(2, .b x1), (6, .ptr 0 0 0 0 0), (13, .ptr 1 0 0 0 0), (14, .i .i64 x2), (19, .i .u64 x3)], ⟨2, [(0, some ⟨0, false, .cells [.i .i64 x4, .i .i64 x5, .i .i64 x6]⟩), (1, some ⟨1, false, .cells [.fn 97 []]⟩)]⟩ => soft_shape_round_c7 k x1 x2 x3 x4 x5 x6 (fun q1 => K .ret [(12, .i .u64 q1)] ⟨0, []⟩)
  | _, _, _ => none
noncomputable def C50_18 {R : Type} (k : Nat) : LSum R := C50_18G soft_shape_round_c1 soft_shape_round_c4 soft_shape_round_c7 k
theorem soft_shape_round_c1_gen {R : Type} (soft_shape_inf : soft_shape_infY R) (soft_shape_sign : soft_shape_signY R) (wide_Len : wide_LenY R) (wide_Shl : wide_ShlY R) (soft_shape_most : soft_shape_mostY R) (soft_shape_full : soft_shape_fullY R) (soft_rounderOf : soft_rounderOfY R) (wide_Shr : wide_ShrY R) (soft_rounderOf_1 : soft_rounderOf_1Y R) (soft_rounderOf_2 : soft_rounderOf_2Y R) (soft_rounderOf_3 : soft_rounderOf_3Y R) (soft_shape_round_c0 : soft_shape_round_c0Y R) (soft_shape_round_c3 : soft_shape_round_c3Y R) (soft_shape_round_c6 : soft_shape_round_c6Y R) (k : Nat) (x1 : Bool) (x2 : Int) (x3 : Int) (x4 : Int) (x5 : Int) (x6 : Int) (K : Kont R) :
    (fun C => codeK C (run C 4)) (mkCx Ty exts [(45, true, S45G soft_shape_inf k), (46, true, S46G soft_shape_sign k), (47, true, S47G wide_Len k), (49, true, S49G wide_Shl k), (71, true, S71G soft_shape_most k), (79, true, S79G soft_shape_full k), (82, true, S82G soft_rounderOf k), (83, true, S83G wide_Shr k), (95, true, S95G soft_rounderOf_1 k), (96, true, S96G soft_rounderOf_2 k), (97, true, S97G soft_rounderOf_3 k)] fi50 [] [(10, C50_10G soft_shape_round_c0 soft_shape_round_c3 soft_shape_round_c6 k)]) 0 fi50 (cutAt ((Try.f50).body.getD .skip) 18) [(2, .b x1), (6, .ptr 0 0 0 0 0), (13, .ptr 1 0 0 0 0), (14, .i .i64 x2), (19, .i .u64 x3)] ⟨2, [(0, some ⟨0, false, .cells [.i .i64 x4, .i .i64 x5, .i .i64 x6]⟩), (1, some ⟨1, false, .cells [.fn 95 []]⟩)]⟩ (exitNorm fi50.ann 500018 0 K) = soft_shape_round_c1T soft_rounderOf_1 soft_shape_full soft_shape_inf soft_shape_most soft_shape_sign k x1 x2 x3 x4 x5 x6 (fun q1 => K .ret [(12, .i .u64 q1)] ⟨0, []⟩) := by kernel_rfl
theorem soft_shape_round_c4_gen {R : Type} (soft_shape_inf : soft_shape_infY R) (soft_shape_sign : soft_shape_signY R) (wide_Len : wide_LenY R) (wide_Shl : wide_ShlY R) (soft_shape_most : soft_shape_mostY R) (soft_shape_full : soft_shape_fullY R) (soft_rounderOf : soft_rounderOfY R) (wide_Shr : wide_ShrY R) (soft_rounderOf_1 : soft_rounderOf_1Y R) (soft_rounderOf_2 : soft_rounderOf_2Y R) (soft_rounderOf_3 : soft_rounderOf_3Y R) (soft_shape_round_c0 : soft_shape_round_c0Y R) (soft_shape_round_c3 : soft_shape_round_c3Y R) (soft_shape_round_c6 : soft_shape_round_c6Y R) (k : Nat) (x1 : Bool) (x2 : Int) (x3 : Int) (x4 : Int) (x5 : Int) (x6 : Int) (K : Kont R) :
    (fun C => codeK C (run C 4)) (mkCx Ty exts [(45, true, S45G soft_shape_inf k), (46, true, S46G soft_shape_sign k), (47, true, S47G wide_Len k), (49, true, S49G wide_Shl k), (71, true, S71G soft_shape_most k), (79, true, S79G soft_shape_full k), (82, true, S82G soft_rounderOf k), (83, true, S83G wide_Shr k), (95, true, S95G soft_rounderOf_1 k), (96, true, S96G soft_rounderOf_2 k), (97, true, S97G soft_rounderOf_3 k)] fi50 [] [(10, C50_10G soft_shape_round_c0 soft_shape_round_c3 soft_shape_round_c6 k)]) 0 fi50 (cutAt ((Try.f50).body.getD .skip) 18) [(2, .b x1), (6, .ptr 0 0 0 0 0), (13, .ptr 1 0 0 0 0), (14, .i .i64 x2), (19, .i .u64 x3)] ⟨2, [(0, some ⟨0, false, .cells [.i .i64 x4, .i .i64 x5, .i .i64 x6]⟩), (1, some ⟨1, false, .cells [.fn 96 []]⟩)]⟩ (exitNorm fi50.ann 500018 0 K) = soft_shape_round_c4T soft_rounderOf_2 soft_shape_full soft_shape_inf soft_shape_most soft_shape_sign k x1 x2 x3 x4 x5 x6 (fun q1 => K .ret [(12, .i .u64 q1)] ⟨0, []⟩) := by kernel_rfl
theorem soft_shape_round_c7_gen {R : Type} (soft_shape_inf : soft_shape_infY R) (soft_shape_sign : soft_shape_signY R) (wide_Len : wide_LenY R) (wide_Shl : wide_ShlY R) (soft_shape_most : soft_shape_mostY R) (soft_shape_full : soft_shape_fullY R) (soft_rounderOf : soft_rounderOfY R) (wide_Shr : wide_ShrY R) (soft_rounderOf_1 : soft_rounderOf_1Y R) (soft_rounderOf_2 : soft_rounderOf_2Y R) (soft_rounderOf_3 : soft_rounderOf_3Y R) (soft_shape_round_c0 : soft_shape_round_c0Y R) (soft_shape_round_c3 : soft_shape_round_c3Y R) (soft_shape_round_c6 : soft_shape_round_c6Y R) (k : Nat) (x1 : Bool) (x2 : Int) (x3 : Int) (x4 : Int) (x5 : Int) (x6 : Int) (K : Kont R) :
    (fun C => codeK C (run C 4)) (mkCx Ty exts [(45, true, S45G soft_shape_inf k), (46, true, S46G soft_shape_sign k), (47, true, S47G wide_Len k), (49, true, S49G wide_Shl k), (71, true, S71G soft_shape_most k), (79, true, S79G soft_shape_full k), (82, true, S82G soft_rounderOf k), (83, true, S83G wide_Shr k), (95, true, S95G soft_rounderOf_1 k), (96, true, S96G soft_rounderOf_2 k), (97, true, S97G soft_rounderOf_3 k)] fi50 [] [(10, C50_10G soft_shape_round_c0 soft_shape_round_c3 soft_shape_round_c6 k)]) 0 fi50 (cutAt ((Try.f50).body.getD .skip) 18) [(2, .b x1), (6, .ptr 0 0 0 0 0), (13, .ptr 1 0 0 0 0), (14, .i .i64 x2), (19, .i .u64 x3)] ⟨2, [(0, some ⟨0, false, .cells [.i .i64 x4, .i .i64 x5, .i .i64 x6]⟩), (1, some ⟨1, false, .cells [.fn 97 []]⟩)]⟩ (exitNorm fi50.ann 500018 0 K) = soft_shape_round_c7T soft_rounderOf_3 soft_shape_full soft_shape_inf soft_shape_most soft_shape_sign k x1 x2 x3 x4 x5 x6 (fun q1 => K .ret [(12, .i .u64 q1)] ⟨0, []⟩) := by kernel_rfl
theorem C50_18_cok {R : Type} (k : Nat) : CodeOk Try.prog (cc50_18 k : Cx R) fi50 (cutAt ((Try.f50).body.getD .skip) 18) := cutAt_ok (((cc50_18_ok k).fns 50 fi50 (by kernel_rfl)).2.2.2 ((Try.f50).body.getD .skip) (by kernel_rfl))
theorem C50_18_ok {R : Type} (k : Nat) : CutOk Try.prog (Try.f50).ntmps (cutAt ((Try.f50).body.getD .skip) 18) (C50_18 k : LSum R) := by
  intro pin T H K r h
  unfold C50_18 C50_18G at h
  split at h
  · obtain ⟨ex, T1, H1, h, hb⟩ := codeK_sound (cc50_18_ok k) (run_sound (cc50_18_ok k) 4) _ fi50 _ _ _ _ _ (C50_18_cok k) ((soft_shape_round_c1_gen soft_shape_inf soft_shape_sign wide_Len wide_Shl soft_shape_most soft_shape_full soft_rounderOf wide_Shr soft_rounderOf_1 soft_rounderOf_2 soft_rounderOf_3 soft_shape_round_c0 soft_shape_round_c3 soft_shape_round_c6 k _ _ _ _ _ _ K).trans h)
    exact cut_step hb h
  · obtain ⟨ex, T1, H1, h, hb⟩ := codeK_sound (cc50_18_ok k) (run_sound (cc50_18_ok k) 4) _ fi50 _ _ _ _ _ (C50_18_cok k) ((soft_shape_round_c4_gen soft_shape_inf soft_shape_sign wide_Len wide_Shl soft_shape_most soft_shape_full soft_rounderOf wide_Shr soft_rounderOf_1 soft_rounderOf_2 soft_rounderOf_3 soft_shape_round_c0 soft_shape_round_c3 soft_shape_round_c6 k _ _ _ _ _ _ K).trans h)
    exact cut_step hb h
  · obtain ⟨ex, T1, H1, h, hb⟩ := codeK_sound (cc50_18_ok k) (run_sound (cc50_18_ok k) 4) _ fi50 _ _ _ _ _ (C50_18_cok k) ((soft_shape_round_c7_gen soft_shape_inf soft_shape_sign wide_Len wide_Shl soft_shape_most soft_shape_full soft_rounderOf wide_Shr soft_rounderOf_1 soft_rounderOf_2 soft_rounderOf_3 soft_shape_round_c0 soft_shape_round_c3 soft_shape_round_c6 k _ _ _ _ _ _ K).trans h)
    exact cut_step hb h
  · cases h
@[reducible] def soft_shape_round_c2Y (R : Type) : Type := Nat → Bool → Bool → Int → Bool → Int → Int → Int → Int → Int → (Int → Option R) → Option R
noncomputable def soft_shape_round_c2T {R : Type} (soft_rounderOf_1 : soft_rounderOf_1Y R) (soft_shape_round_c1 : soft_shape_round_c1Y R) (k : Nat) (x1 : Bool) (x2 : Bool) (x3 : Int) (x4 : Bool) (x5 : Int) (x6 : Int) (x7 : Int) (x8 : Int) (x9 : Int) (K0 : Int → Option R) : Option R :=
  soft_rounderOf_1 k ((bAnd .u64 x9 1) == 1) x4 x2 (fun yyr1 =>
    cond yyr1 (
      soft_shape_round_c1 k x1 x3 (Wu64 (x9 + 1)) x5 x6 x7 (fun yyr2 =>
        K0 yyr2)) (
      soft_shape_round_c1 k x1 x3 x9 x5 x6 x7 (fun yyr3 =>
        K0 yyr3)))
noncomputable def soft_shape_round_c2 {R : Type} (k : Nat) (x1 : Bool) (x2 : Bool) (x3 : Int) (x4 : Bool) (x5 : Int) (x6 : Int) (x7 : Int) (x8 : Int) (x9 : Int) (K0 : Int → Option R) : Option R := soft_shape_round_c2T soft_rounderOf_1 soft_shape_round_c1 k x1 x2 x3 x4 x5 x6 x7 x8 x9 K0
@[reducible] def soft_shape_round_c5Y (R : Type) : Type := Nat → Bool → Bool → Int → Bool → Int → Int → Int → Int → Int → (Int → Option R) → Option R
noncomputable def soft_shape_round_c5T {R : Type} (soft_rounderOf_2 : soft_rounderOf_2Y R) (soft_shape_round_c4 : soft_shape_round_c4Y R) (k : Nat) (x1 : Bool) (x2 : Bool) (x3 : Int) (x4 : Bool) (x5 : Int) (x6 : Int) (x7 : Int) (x8 : Int) (x9 : Int) (K0 : Int → Option R) : Option R :=
  soft_rounderOf_2 k ((bAnd .u64 x9 1) == 1) x4 x2 (fun yyr1 =>
    cond yyr1 (
      soft_shape_round_c4 k x1 x3 (Wu64 (x9 + 1)) x5 x6 x7 (fun yyr2 =>
        K0 yyr2)) (
      soft_shape_round_c4 k x1 x3 x9 x5 x6 x7 (fun yyr3 =>
        K0 yyr3)))
noncomputable def soft_shape_round_c5 {R : Type} (k : Nat) (x1 : Bool) (x2 : Bool) (x3 : Int) (x4 : Bool) (x5 : Int) (x6 : Int) (x7 : Int) (x8 : Int) (x9 : Int) (K0 : Int → Option R) : Option R := soft_shape_round_c5T soft_rounderOf_2 soft_shape_round_c4 k x1 x2 x3 x4 x5 x6 x7 x8 x9 K0
@[reducible] def soft_shape_round_c8Y (R : Type) : Type := Nat → Bool → Bool → Int → Bool → Int → Int → Int → Int → Int → (Int → Option R) → Option R
noncomputable def soft_shape_round_c8T {R : Type} (soft_rounderOf_3 : soft_rounderOf_3Y R) (soft_shape_round_c7 : soft_shape_round_c7Y R) (k : Nat) (x1 : Bool) (x2 : Bool) (x3 : Int) (x4 : Bool) (x5 : Int) (x6 : Int) (x7 : Int) (x8 : Int) (x9 : Int) (K0 : Int → Option R) : Option R :=
  soft_rounderOf_3 k ((bAnd .u64 x9 1) == 1) x4 x2 (fun yyr1 =>
    cond yyr1 (
      soft_shape_round_c7 k x1 x3 (Wu64 (x9 + 1)) x5 x6 x7 (fun yyr2 =>
        K0 yyr2)) (
      soft_shape_round_c7 k x1 x3 x9 x5 x6 x7 (fun yyr3 =>
        K0 yyr3)))
noncomputable def soft_shape_round_c8 {R : Type} (k : Nat) (x1 : Bool) (x2 : Bool) (x3 : Int) (x4 : Bool) (x5 : Int) (x6 : Int) (x7 : Int) (x8 : Int) (x9 : Int) (K0 : Int → Option R) : Option R := soft_shape_round_c8T soft_rounderOf_3 soft_shape_round_c7 k x1 x2 x3 x4 x5 x6 x7 x8 x9 K0
noncomputable def cc50_15 {R : Type} (k : Nat) : Cx R := mkCx Ty exts [(45, true, S45 k), (46, true, S46 k), (47, true, S47 k), (49, true, S49 k), (71, true, S71 k), (79, true, S79 k), (82, true, S82 k), (83, true, S83 k), (95, true, S95 k), (96, true, S96 k), (97, true, S97 k)] fi50 [] [(10, C50_10 k), (18, C50_18 k)]
theorem cc50_15_ok {R : Type} (k : Nat) : CxOk Try.prog (cc50_15 k : Cx R) := mkCx_ok (c := ((Try.f50).body.getD .skip)) ty_ok mixed exts_ok (allSum_cons (S45_ok k) en45 (allSum_cons (S46_ok k) en46 (allSum_cons (S47_ok k) en47 (allSum_cons (S49_ok k) en49 (allSum_cons (S71_ok k) en71 (allSum_cons (S79_ok k) en79 (allSum_cons (S82_ok k) en82 (allSum_cons (S83_ok k) en83 (allSum_cons (S95_ok k) en95 (allSum_cons (S96_ok k) en96 (allSum_cons (S97_ok k) en97 allSum_nil))))))))))) Try.func50 en50 (by kernel_rfl) (by kernel_rfl) allLoop_nil (allCut_cons (C50_10_ok k) (by kernel_rfl) (allCut_cons (C50_18_ok k) (by kernel_rfl) allCut_nil))
noncomputable def C50_15G {R : Type} (soft_shape_round_c2 : soft_shape_round_c2Y R) (soft_shape_round_c5 : soft_shape_round_c5Y R) (soft_shape_round_c8 : soft_shape_round_c8Y R) (k : Nat) : LSum R := fun pin T H K => match pin, T, H with
  | 0, [(2, .b x1), (5, .b x2), (6, .ptr 0 0 0 0 0), (9, .ptr 1 0 0 0 0), (13, .ptr 2 0 0 0 0), (14, .i .i64 x3), (15, .b x4)], ⟨3, [(0, some ⟨0, false, .cells [.i .i64 x5, .i .i64 x6, .i .i64 x7]⟩), (1, some ⟨1, false, .cells [.i .u64 x8, .i .u64 x9]⟩), (2, some ⟨2, false, .cells [.fn 95 []]⟩)]⟩ => soft_shape_round_c2 k x1 x2 x3 x4 x5 x6 x7 x8 x9 (fun q1 => K .ret [(12, .i .u64 q1)] ⟨0, []⟩)
  | 0, [(2, .b x1), (5, .b x2), (6, .ptr 0 0 0 0 0), (9, .ptr 1 0 0 0 0), (13, .ptr 2 0 0 0 0), (14, .i .i64 x3), (15, .b x4)], ⟨3, [(0, some ⟨0, false, .cells [.i .i64 x5, .i .i64 x6, .i .i64 x7]⟩), (1, some ⟨1, false, .cells [.i .u64 x8, .i .u64 x9]⟩), (2, some ⟨2, false, .cells [.fn 96 []]⟩)]⟩ => soft_shape_round_c5 k x1 x2 x3 x4 x5 x6 x7 x8 x9 (fun q1 => K .ret [(12, .i .u64 q1)] ⟨0, []⟩)
  | 0, [(2, .b x1), (5, .b x2), (6, .ptr 0 0 0 0 0), (9, .ptr 1 0 0 0 0), (13, .ptr 2 0 0 0 0), (14, .i .i64 x3), (15, .b x4)], ⟨3, [(0, some ⟨0, false, .cells [.i .i64 x5, .i .i64 x6, .i .i64 x7]⟩), (1, some ⟨1, false, .cells [.i .u64 x8, .i .u64 x9]⟩), (2, some ⟨2, false, .cells [.fn 97 []]⟩)]⟩ => soft_shape_round_c8 k x1 x2 x3 x4 x5 x6 x7 x8 x9 (fun q1 => K .ret [(12, .i .u64 q1)] ⟨0, []⟩)
  | _, _, _ => none
noncomputable def C50_15 {R : Type} (k : Nat) : LSum R := C50_15G soft_shape_round_c2 soft_shape_round_c5 soft_shape_round_c8 k
theorem soft_shape_round_c2_gen {R : Type} (soft_shape_inf : soft_shape_infY R) (soft_shape_sign : soft_shape_signY R) (wide_Len : wide_LenY R) (wide_Shl : wide_ShlY R) (soft_shape_most : soft_shape_mostY R) (soft_shape_full : soft_shape_fullY R) (soft_rounderOf : soft_rounderOfY R) (wide_Shr : wide_ShrY R) (soft_rounderOf_1 : soft_rounderOf_1Y R) (soft_rounderOf_2 : soft_rounderOf_2Y R) (soft_rounderOf_3 : soft_rounderOf_3Y R) (soft_shape_round_c0 : soft_shape_round_c0Y R) (soft_shape_round_c3 : soft_shape_round_c3Y R) (soft_shape_round_c6 : soft_shape_round_c6Y R) (soft_shape_round_c1 : soft_shape_round_c1Y R) (soft_shape_round_c4 : soft_shape_round_c4Y R) (soft_shape_round_c7 : soft_shape_round_c7Y R) (k : Nat) (x1 : Bool) (x2 : Bool) (x3 : Int) (x4 : Bool) (x5 : Int) (x6 : Int) (x7 : Int) (x8 : Int) (x9 : Int) (K : Kont R) :
    (fun C => codeK C (run C 4)) (mkCx Ty exts [(45, true, S45G soft_shape_inf k), (46, true, S46G soft_shape_sign k), (47, true, S47G wide_Len k), (49, true, S49G wide_Shl k), (71, true, S71G soft_shape_most k), (79, true, S79G soft_shape_full k), (82, true, S82G soft_rounderOf k), (83, true, S83G wide_Shr k), (95, true, S95G soft_rounderOf_1 k), (96, true, S96G soft_rounderOf_2 k), (97, true, S97G soft_rounderOf_3 k)] fi50 [] [(10, C50_10G soft_shape_round_c0 soft_shape_round_c3 soft_shape_round_c6 k), (18, C50_18G soft_shape_round_c1 soft_shape_round_c4 soft_shape_round_c7 k)]) 0 fi50 (cutAt ((Try.f50).body.getD .skip) 15) [(2, .b x1), (5, .b x2), (6, .ptr 0 0 0 0 0), (9, .ptr 1 0 0 0 0), (13, .ptr 2 0 0 0 0), (14, .i .i64 x3), (15, .b x4)] ⟨3, [(0, some ⟨0, false, .cells [.i .i64 x5, .i .i64 x6, .i .i64 x7]⟩), (1, some ⟨1, false, .cells [.i .u64 x8, .i .u64 x9]⟩), (2, some ⟨2, false, .cells [.fn 95 []]⟩)]⟩ (exitNorm fi50.ann 500015 0 K) = soft_shape_round_c2T soft_rounderOf_1 soft_shape_round_c1 k x1 x2 x3 x4 x5 x6 x7 x8 x9 (fun q1 => K .ret [(12, .i .u64 q1)] ⟨0, []⟩) := by kernel_rfl
theorem soft_shape_round_c5_gen {R : Type} (soft_shape_inf : soft_shape_infY R) (soft_shape_sign : soft_shape_signY R) (wide_Len : wide_LenY R) (wide_Shl : wide_ShlY R) (soft_shape_most : soft_shape_mostY R) (soft_shape_full : soft_shape_fullY R) (soft_rounderOf : soft_rounderOfY R) (wide_Shr : wide_ShrY R) (soft_rounderOf_1 : soft_rounderOf_1Y R) (soft_rounderOf_2 : soft_rounderOf_2Y R) (soft_rounderOf_3 : soft_rounderOf_3Y R) (soft_shape_round_c0 : soft_shape_round_c0Y R) (soft_shape_round_c3 : soft_shape_round_c3Y R) (soft_shape_round_c6 : soft_shape_round_c6Y R) (soft_shape_round_c1 : soft_shape_round_c1Y R) (soft_shape_round_c4 : soft_shape_round_c4Y R) (soft_shape_round_c7 : soft_shape_round_c7Y R) (k : Nat) (x1 : Bool) (x2 : Bool) (x3 : Int) (x4 : Bool) (x5 : Int) (x6 : Int) (x7 : Int) (x8 : Int) (x9 : Int) (K : Kont R) :
    (fun C => codeK C (run C 4)) (mkCx Ty exts [(45, true, S45G soft_shape_inf k), (46, true, S46G soft_shape_sign k), (47, true, S47G wide_Len k), (49, true, S49G wide_Shl k), (71, true, S71G soft_shape_most k), (79, true, S79G soft_shape_full k), (82, true, S82G soft_rounderOf k), (83, true, S83G wide_Shr k), (95, true, S95G soft_rounderOf_1 k), (96, true, S96G soft_rounderOf_2 k), (97, true, S97G soft_rounderOf_3 k)] fi50 [] [(10, C50_10G soft_shape_round_c0 soft_shape_round_c3 soft_shape_round_c6 k), (18, C50_18G soft_shape_round_c1 soft_shape_round_c4 soft_shape_round_c7 k)]) 0 fi50 (cutAt ((Try.f50).body.getD .skip) 15) [(2, .b x1), (5, .b x2), (6, .ptr 0 0 0 0 0), (9, .ptr 1 0 0 0 0), (13, .ptr 2 0 0 0 0), (14, .i .i64 x3), (15, .b x4)] ⟨3, [(0, some ⟨0, false, .cells [.i .i64 x5, .i .i64 x6, .i .i64 x7]⟩), (1, some ⟨1, false, .cells [.i .u64 x8, .i .u64 x9]⟩), (2, some ⟨2, false, .cells [.fn 96 []]⟩)]⟩ (exitNorm fi50.ann 500015 0 K) = soft_shape_round_c5T soft_rounderOf_2 soft_shape_round_c4 k x1 x2 x3 x4 x5 x6 x7 x8 x9 (fun q1 => K .ret [(12, .i .u64 q1)] ⟨0, []⟩) := by kernel_rfl
theorem soft_shape_round_c8_gen {R : Type} (soft_shape_inf : soft_shape_infY R) (soft_shape_sign : soft_shape_signY R) (wide_Len : wide_LenY R) (wide_Shl : wide_ShlY R) (soft_shape_most : soft_shape_mostY R) (soft_shape_full : soft_shape_fullY R) (soft_rounderOf : soft_rounderOfY R) (wide_Shr : wide_ShrY R) (soft_rounderOf_1 : soft_rounderOf_1Y R) (soft_rounderOf_2 : soft_rounderOf_2Y R) (soft_rounderOf_3 : soft_rounderOf_3Y R) (soft_shape_round_c0 : soft_shape_round_c0Y R) (soft_shape_round_c3 : soft_shape_round_c3Y R) (soft_shape_round_c6 : soft_shape_round_c6Y R) (soft_shape_round_c1 : soft_shape_round_c1Y R) (soft_shape_round_c4 : soft_shape_round_c4Y R) (soft_shape_round_c7 : soft_shape_round_c7Y R) (k : Nat) (x1 : Bool) (x2 : Bool) (x3 : Int) (x4 : Bool) (x5 : Int) (x6 : Int) (x7 : Int) (x8 : Int) (x9 : Int) (K : Kont R) :
    (fun C => codeK C (run C 4)) (mkCx Ty exts [(45, true, S45G soft_shape_inf k), (46, true, S46G soft_shape_sign k), (47, true, S47G wide_Len k), (49, true, S49G wide_Shl k), (71, true, S71G soft_shape_most k), (79, true, S79G soft_shape_full k), (82, true, S82G soft_rounderOf k), (83, true, S83G wide_Shr k), (95, true, S95G soft_rounderOf_1 k), (96, true, S96G soft_rounderOf_2 k), (97, true, S97G soft_rounderOf_3 k)] fi50 [] [(10, C50_10G soft_shape_round_c0 soft_shape_round_c3 soft_shape_round_c6 k), (18, C50_18G soft_shape_round_c1 soft_shape_round_c4 soft_shape_round_c7 k)]) 0 fi50 (cutAt ((Try.f50).body.getD .skip) 15) [(2, .b x1), (5, .b x2), (6, .ptr 0 0 0 0 0), (9, .ptr 1 0 0 0 0), (13, .ptr 2 0 0 0 0), (14, .i .i64 x3), (15, .b x4)] ⟨3, [(0, some ⟨0, false, .cells [.i .i64 x5, .i .i64 x6, .i .i64 x7]⟩), (1, some ⟨1, false, .cells [.i .u64 x8, .i .u64 x9]⟩), (2, some ⟨2, false, .cells [.fn 97 []]⟩)]⟩ (exitNorm fi50.ann 500015 0 K) = soft_shape_round_c8T soft_rounderOf_3 soft_shape_round_c7 k x1 x2 x3 x4 x5 x6 x7 x8 x9 (fun q1 => K .ret [(12, .i .u64 q1)] ⟨0, []⟩) := by kernel_rfl
theorem C50_15_cok {R : Type} (k : Nat) : CodeOk Try.prog (cc50_15 k : Cx R) fi50 (cutAt ((Try.f50).body.getD .skip) 15) := cutAt_ok (((cc50_15_ok k).fns 50 fi50 (by kernel_rfl)).2.2.2 ((Try.f50).body.getD .skip) (by kernel_rfl))
theorem C50_15_ok {R : Type} (k : Nat) : CutOk Try.prog (Try.f50).ntmps (cutAt ((Try.f50).body.getD .skip) 15) (C50_15 k : LSum R) := by
  intro pin T H K r h
  unfold C50_15 C50_15G at h
  split at h
  · obtain ⟨ex, T1, H1, h, hb⟩ := codeK_sound (cc50_15_ok k) (run_sound (cc50_15_ok k) 4) _ fi50 _ _ _ _ _ (C50_15_cok k) ((soft_shape_round_c2_gen soft_shape_inf soft_shape_sign wide_Len wide_Shl soft_shape_most soft_shape_full soft_rounderOf wide_Shr soft_rounderOf_1 soft_rounderOf_2 soft_rounderOf_3 soft_shape_round_c0 soft_shape_round_c3 soft_shape_round_c6 soft_shape_round_c1 soft_shape_round_c4 soft_shape_round_c7 k _ _ _ _ _ _ _ _ _ K).trans h)
    exact cut_step hb h
  · obtain ⟨ex, T1, H1, h, hb⟩ := codeK_sound (cc50_15_ok k) (run_sound (cc50_15_ok k) 4) _ fi50 _ _ _ _ _ (C50_15_cok k) ((soft_shape_round_c5_gen soft_shape_inf soft_shape_sign wide_Len wide_Shl soft_shape_most soft_shape_full soft_rounderOf wide_Shr soft_rounderOf_1 soft_rounderOf_2 soft_rounderOf_3 soft_shape_round_c0 soft_shape_round_c3 soft_shape_round_c6 soft_shape_round_c1 soft_shape_round_c4 soft_shape_round_c7 k _ _ _ _ _ _ _ _ _ K).trans h)
    exact cut_step hb h
  · obtain ⟨ex, T1, H1, h, hb⟩ := codeK_sound (cc50_15_ok k) (run_sound (cc50_15_ok k) 4) _ fi50 _ _ _ _ _ (C50_15_cok k) ((soft_shape_round_c8_gen soft_shape_inf soft_shape_sign wide_Len wide_Shl soft_shape_most soft_shape_full soft_rounderOf wide_Shr soft_rounderOf_1 soft_rounderOf_2 soft_rounderOf_3 soft_shape_round_c0 soft_shape_round_c3 soft_shape_round_c6 soft_shape_round_c1 soft_shape_round_c4 soft_shape_round_c7 k _ _ _ _ _ _ _ _ _ K).trans h)
    exact cut_step hb h
  · cases h
@[reducible] def soft_shape_round_c9Y (R : Type) : Type := Nat → Int → Bool → Int → Bool → Int → Int → Int → Int → Int → (Int → Option R) → Option R
noncomputable def soft_shape_round_c9T {R : Type} (soft_rounderOf : soft_rounderOfY R) (soft_shape_round_c0 : soft_shape_round_c0Y R) (soft_shape_round_c2 : soft_shape_round_c2Y R) (soft_shape_round_c3 : soft_shape_round_c3Y R) (soft_shape_round_c5 : soft_shape_round_c5Y R) (soft_shape_round_c6 : soft_shape_round_c6Y R) (soft_shape_round_c8 : soft_shape_round_c8Y R) (wide_Len : wide_LenY R) (wide_Shl : wide_ShlY R) (wide_Shr : wide_ShrY R) (k : Nat) (x1 : Int) (x2 : Bool) (x3 : Int) (x4 : Bool) (x5 : Int) (x6 : Int) (x7 : Int) (x8 : Int) (x9 : Int) (K0 : Int → Option R) : Option R :=
  soft_rounderOf k x1 x2 (
    wide_Len k x8 x9 (fun yr1 =>
      cond (decide ((Wi64 ((if x7 > (Wi64 ((Wi64 ((Wi64 (x3 + yr1)) - 1)) - x5)) then x7 else (Wi64 ((Wi64 ((Wi64 (x3 + yr1)) - 1)) - x5))) - x3)) > 0)) (
        wide_Shr k x8 x9 (Wi64 ((Wi64 ((if x7 > (Wi64 ((Wi64 ((Wi64 (x3 + yr1)) - 1)) - x5)) then x7 else (Wi64 ((Wi64 ((Wi64 (x3 + yr1)) - 1)) - x5))) - x3)) - 1)) (fun yr2 yr3 yr4 =>
          cond ((bAnd .u64 yr3 1) == 1) (
            soft_shape_round_c0 k x2 x4 (if x7 > (Wi64 ((Wi64 ((Wi64 (x3 + yr1)) - 1)) - x5)) then x7 else (Wi64 ((Wi64 ((Wi64 (x3 + yr1)) - 1)) - x5))) (decide ((Wi64 ((if x7 > (Wi64 ((Wi64 ((Wi64 (x3 + yr1)) - 1)) - x5)) then x7 else (Wi64 ((Wi64 ((Wi64 (x3 + yr1)) - 1)) - x5))) - x3)) ≤ 129)) (Wi64 ((if x7 > (Wi64 ((Wi64 ((Wi64 (x3 + yr1)) - 1)) - x5)) then x7 else (Wi64 ((Wi64 ((Wi64 (x3 + yr1)) - 1)) - x5))) - x3)) yr4 x5 x6 x7 x8 x9 (fun yr5 yr6 yr7 =>
              soft_shape_round_c2 k x2 yr5 (if x7 > (Wi64 ((Wi64 ((Wi64 (x3 + yr1)) - 1)) - x5)) then x7 else (Wi64 ((Wi64 ((Wi64 (x3 + yr1)) - 1)) - x5))) (decide ((Wi64 ((if x7 > (Wi64 ((Wi64 ((Wi64 (x3 + yr1)) - 1)) - x5)) then x7 else (Wi64 ((Wi64 ((Wi64 (x3 + yr1)) - 1)) - x5))) - x3)) ≤ 129)) x5 x6 x7 yr6 yr7 (fun yr8 =>
                K0 yr8))) (
            soft_shape_round_c0 k x2 x4 (if x7 > (Wi64 ((Wi64 ((Wi64 (x3 + yr1)) - 1)) - x5)) then x7 else (Wi64 ((Wi64 ((Wi64 (x3 + yr1)) - 1)) - x5))) false (Wi64 ((if x7 > (Wi64 ((Wi64 ((Wi64 (x3 + yr1)) - 1)) - x5)) then x7 else (Wi64 ((Wi64 ((Wi64 (x3 + yr1)) - 1)) - x5))) - x3)) yr4 x5 x6 x7 x8 x9 (fun yr9 yr10 yr11 =>
              soft_shape_round_c2 k x2 yr9 (if x7 > (Wi64 ((Wi64 ((Wi64 (x3 + yr1)) - 1)) - x5)) then x7 else (Wi64 ((Wi64 ((Wi64 (x3 + yr1)) - 1)) - x5))) false x5 x6 x7 yr10 yr11 (fun yr12 =>
                K0 yr12))))) (
        wide_Shl k x8 x9 (Wi64 (0 - (Wi64 ((if x7 > (Wi64 ((Wi64 ((Wi64 (x3 + yr1)) - 1)) - x5)) then x7 else (Wi64 ((Wi64 ((Wi64 (x3 + yr1)) - 1)) - x5))) - x3)))) (fun yr13 yr14 =>
          soft_shape_round_c2 k x2 x4 (if x7 > (Wi64 ((Wi64 ((Wi64 (x3 + yr1)) - 1)) - x5)) then x7 else (Wi64 ((Wi64 ((Wi64 (x3 + yr1)) - 1)) - x5))) false x5 x6 x7 yr13 yr14 (fun yr15 =>
            K0 yr15))))) (
    wide_Len k x8 x9 (fun yr16 =>
      cond (decide ((Wi64 ((if x7 > (Wi64 ((Wi64 ((Wi64 (x3 + yr16)) - 1)) - x5)) then x7 else (Wi64 ((Wi64 ((Wi64 (x3 + yr16)) - 1)) - x5))) - x3)) > 0)) (
        wide_Shr k x8 x9 (Wi64 ((Wi64 ((if x7 > (Wi64 ((Wi64 ((Wi64 (x3 + yr16)) - 1)) - x5)) then x7 else (Wi64 ((Wi64 ((Wi64 (x3 + yr16)) - 1)) - x5))) - x3)) - 1)) (fun yr17 yr18 yr19 =>
          cond ((bAnd .u64 yr18 1) == 1) (
            soft_shape_round_c3 k x2 x4 (if x7 > (Wi64 ((Wi64 ((Wi64 (x3 + yr16)) - 1)) - x5)) then x7 else (Wi64 ((Wi64 ((Wi64 (x3 + yr16)) - 1)) - x5))) (decide ((Wi64 ((if x7 > (Wi64 ((Wi64 ((Wi64 (x3 + yr16)) - 1)) - x5)) then x7 else (Wi64 ((Wi64 ((Wi64 (x3 + yr16)) - 1)) - x5))) - x3)) ≤ 129)) (Wi64 ((if x7 > (Wi64 ((Wi64 ((Wi64 (x3 + yr16)) - 1)) - x5)) then x7 else (Wi64 ((Wi64 ((Wi64 (x3 + yr16)) - 1)) - x5))) - x3)) yr19 x5 x6 x7 x8 x9 (fun yr20 yr21 yr22 =>
              soft_shape_round_c5 k x2 yr20 (if x7 > (Wi64 ((Wi64 ((Wi64 (x3 + yr16)) - 1)) - x5)) then x7 else (Wi64 ((Wi64 ((Wi64 (x3 + yr16)) - 1)) - x5))) (decide ((Wi64 ((if x7 > (Wi64 ((Wi64 ((Wi64 (x3 + yr16)) - 1)) - x5)) then x7 else (Wi64 ((Wi64 ((Wi64 (x3 + yr16)) - 1)) - x5))) - x3)) ≤ 129)) x5 x6 x7 yr21 yr22 (fun yr23 =>
                K0 yr23))) (
            soft_shape_round_c3 k x2 x4 (if x7 > (Wi64 ((Wi64 ((Wi64 (x3 + yr16)) - 1)) - x5)) then x7 else (Wi64 ((Wi64 ((Wi64 (x3 + yr16)) - 1)) - x5))) false (Wi64 ((if x7 > (Wi64 ((Wi64 ((Wi64 (x3 + yr16)) - 1)) - x5)) then x7 else (Wi64 ((Wi64 ((Wi64 (x3 + yr16)) - 1)) - x5))) - x3)) yr19 x5 x6 x7 x8 x9 (fun yr24 yr25 yr26 =>
              soft_shape_round_c5 k x2 yr24 (if x7 > (Wi64 ((Wi64 ((Wi64 (x3 + yr16)) - 1)) - x5)) then x7 else (Wi64 ((Wi64 ((Wi64 (x3 + yr16)) - 1)) - x5))) false x5 x6 x7 yr25 yr26 (fun yr27 =>
                K0 yr27))))) (
        wide_Shl k x8 x9 (Wi64 (0 - (Wi64 ((if x7 > (Wi64 ((Wi64 ((Wi64 (x3 + yr16)) - 1)) - x5)) then x7 else (Wi64 ((Wi64 ((Wi64 (x3 + yr16)) - 1)) - x5))) - x3)))) (fun yr28 yr29 =>
          soft_shape_round_c5 k x2 x4 (if x7 > (Wi64 ((Wi64 ((Wi64 (x3 + yr16)) - 1)) - x5)) then x7 else (Wi64 ((Wi64 ((Wi64 (x3 + yr16)) - 1)) - x5))) false x5 x6 x7 yr28 yr29 (fun yr30 =>
            K0 yr30))))) (
    wide_Len k x8 x9 (fun yr31 =>
      cond (decide ((Wi64 ((if x7 > (Wi64 ((Wi64 ((Wi64 (x3 + yr31)) - 1)) - x5)) then x7 else (Wi64 ((Wi64 ((Wi64 (x3 + yr31)) - 1)) - x5))) - x3)) > 0)) (
        wide_Shr k x8 x9 (Wi64 ((Wi64 ((if x7 > (Wi64 ((Wi64 ((Wi64 (x3 + yr31)) - 1)) - x5)) then x7 else (Wi64 ((Wi64 ((Wi64 (x3 + yr31)) - 1)) - x5))) - x3)) - 1)) (fun yr32 yr33 yr34 =>
          cond ((bAnd .u64 yr33 1) == 1) (
            soft_shape_round_c6 k x2 x4 (if x7 > (Wi64 ((Wi64 ((Wi64 (x3 + yr31)) - 1)) - x5)) then x7 else (Wi64 ((Wi64 ((Wi64 (x3 + yr31)) - 1)) - x5))) (decide ((Wi64 ((if x7 > (Wi64 ((Wi64 ((Wi64 (x3 + yr31)) - 1)) - x5)) then x7 else (Wi64 ((Wi64 ((Wi64 (x3 + yr31)) - 1)) - x5))) - x3)) ≤ 129)) (Wi64 ((if x7 > (Wi64 ((Wi64 ((Wi64 (x3 + yr31)) - 1)) - x5)) then x7 else (Wi64 ((Wi64 ((Wi64 (x3 + yr31)) - 1)) - x5))) - x3)) yr34 x5 x6 x7 x8 x9 (fun yr35 yr36 yr37 =>
              soft_shape_round_c8 k x2 yr35 (if x7 > (Wi64 ((Wi64 ((Wi64 (x3 + yr31)) - 1)) - x5)) then x7 else (Wi64 ((Wi64 ((Wi64 (x3 + yr31)) - 1)) - x5))) (decide ((Wi64 ((if x7 > (Wi64 ((Wi64 ((Wi64 (x3 + yr31)) - 1)) - x5)) then x7 else (Wi64 ((Wi64 ((Wi64 (x3 + yr31)) - 1)) - x5))) - x3)) ≤ 129)) x5 x6 x7 yr36 yr37 (fun yr38 =>
                K0 yr38))) (
            soft_shape_round_c6 k x2 x4 (if x7 > (Wi64 ((Wi64 ((Wi64 (x3 + yr31)) - 1)) - x5)) then x7 else (Wi64 ((Wi64 ((Wi64 (x3 + yr31)) - 1)) - x5))) false (Wi64 ((if x7 > (Wi64 ((Wi64 ((Wi64 (x3 + yr31)) - 1)) - x5)) then x7 else (Wi64 ((Wi64 ((Wi64 (x3 + yr31)) - 1)) - x5))) - x3)) yr34 x5 x6 x7 x8 x9 (fun yr39 yr40 yr41 =>
              soft_shape_round_c8 k x2 yr39 (if x7 > (Wi64 ((Wi64 ((Wi64 (x3 + yr31)) - 1)) - x5)) then x7 else (Wi64 ((Wi64 ((Wi64 (x3 + yr31)) - 1)) - x5))) false x5 x6 x7 yr40 yr41 (fun yr42 =>
                K0 yr42))))) (
        wide_Shl k x8 x9 (Wi64 (0 - (Wi64 ((if x7 > (Wi64 ((Wi64 ((Wi64 (x3 + yr31)) - 1)) - x5)) then x7 else (Wi64 ((Wi64 ((Wi64 (x3 + yr31)) - 1)) - x5))) - x3)))) (fun yr43 yr44 =>
          soft_shape_round_c8 k x2 x4 (if x7 > (Wi64 ((Wi64 ((Wi64 (x3 + yr31)) - 1)) - x5)) then x7 else (Wi64 ((Wi64 ((Wi64 (x3 + yr31)) - 1)) - x5))) false x5 x6 x7 yr43 yr44 (fun yr45 =>
            K0 yr45)))))
noncomputable def soft_shape_round_c9 {R : Type} (k : Nat) (x1 : Int) (x2 : Bool) (x3 : Int) (x4 : Bool) (x5 : Int) (x6 : Int) (x7 : Int) (x8 : Int) (x9 : Int) (K0 : Int → Option R) : Option R := soft_shape_round_c9T soft_rounderOf soft_shape_round_c0 soft_shape_round_c2 soft_shape_round_c3 soft_shape_round_c5 soft_shape_round_c6 soft_shape_round_c8 wide_Len wide_Shl wide_Shr k x1 x2 x3 x4 x5 x6 x7 x8 x9 K0
noncomputable def cc50_3 {R : Type} (k : Nat) : Cx R := mkCx Ty exts [(45, true, S45 k), (46, true, S46 k), (47, true, S47 k), (49, true, S49 k), (71, true, S71 k), (79, true, S79 k), (82, true, S82 k), (83, true, S83 k), (95, true, S95 k), (96, true, S96 k), (97, true, S97 k)] fi50 [] [(10, C50_10 k), (18, C50_18 k), (15, C50_15 k)]
theorem cc50_3_ok {R : Type} (k : Nat) : CxOk Try.prog (cc50_3 k : Cx R) := mkCx_ok (c := ((Try.f50).body.getD .skip)) ty_ok mixed exts_ok (allSum_cons (S45_ok k) en45 (allSum_cons (S46_ok k) en46 (allSum_cons (S47_ok k) en47 (allSum_cons (S49_ok k) en49 (allSum_cons (S71_ok k) en71 (allSum_cons (S79_ok k) en79 (allSum_cons (S82_ok k) en82 (allSum_cons (S83_ok k) en83 (allSum_cons (S95_ok k) en95 (allSum_cons (S96_ok k) en96 (allSum_cons (S97_ok k) en97 allSum_nil))))))))))) Try.func50 en50 (by kernel_rfl) (by kernel_rfl) allLoop_nil (allCut_cons (C50_10_ok k) (by kernel_rfl) (allCut_cons (C50_18_ok k) (by kernel_rfl) (allCut_cons (C50_15_ok k) (by kernel_rfl) allCut_nil)))
noncomputable def C50_3G {R : Type} (soft_shape_round_c9 : soft_shape_round_c9Y R) (k : Nat) : LSum R := fun pin T H K => match pin, T, H with
  | 0, [(1, .i .i64 x1), (2, .b x2), (4, .i .i64 x3), (5, .b x4), (6, .ptr 0 0 0 0 0), (9, .ptr 1 0 0 0 0)], ⟨2, [(0, some ⟨0, false, .cells [.i .i64 x5, .i .i64 x6, .i .i64 x7]⟩), (1, some ⟨1, false, .cells [.i .u64 x8, .i .u64 x9]⟩)]⟩ => soft_shape_round_c9 k x1 x2 x3 x4 x5 x6 x7 x8 x9 (fun q1 => K .ret [(12, .i .u64 q1)] ⟨0, []⟩)
  | _, _, _ => none
noncomputable def C50_3 {R : Type} (k : Nat) : LSum R := C50_3G soft_shape_round_c9 k
theorem soft_shape_round_c9_gen {R : Type} (soft_shape_inf : soft_shape_infY R) (soft_shape_sign : soft_shape_signY R) (wide_Len : wide_LenY R) (wide_Shl : wide_ShlY R) (soft_shape_most : soft_shape_mostY R) (soft_shape_full : soft_shape_fullY R) (soft_rounderOf : soft_rounderOfY R) (wide_Shr : wide_ShrY R) (soft_rounderOf_1 : soft_rounderOf_1Y R) (soft_rounderOf_2 : soft_rounderOf_2Y R) (soft_rounderOf_3 : soft_rounderOf_3Y R) (soft_shape_round_c0 : soft_shape_round_c0Y R) (soft_shape_round_c3 : soft_shape_round_c3Y R) (soft_shape_round_c6 : soft_shape_round_c6Y R) (soft_shape_round_c1 : soft_shape_round_c1Y R) (soft_shape_round_c4 : soft_shape_round_c4Y R) (soft_shape_round_c7 : soft_shape_round_c7Y R) (soft_shape_round_c2 : soft_shape_round_c2Y R) (soft_shape_round_c5 : soft_shape_round_c5Y R) (soft_shape_round_c8 : soft_shape_round_c8Y R) (k : Nat) (x1 : Int) (x2 : Bool) (x3 : Int) (x4 : Bool) (x5 : Int) (x6 : Int) (x7 : Int) (x8 : Int) (x9 : Int) (K : Kont R) :
    (fun C => codeK C (run C 4)) (mkCx Ty exts [(45, true, S45G soft_shape_inf k), (46, true, S46G soft_shape_sign k), (47, true, S47G wide_Len k), (49, true, S49G wide_Shl k), (71, true, S71G soft_shape_most k), (79, true, S79G soft_shape_full k), (82, true, S82G soft_rounderOf k), (83, true, S83G wide_Shr k), (95, true, S95G soft_rounderOf_1 k), (96, true, S96G soft_rounderOf_2 k), (97, true, S97G soft_rounderOf_3 k)] fi50 [] [(10, C50_10G soft_shape_round_c0 soft_shape_round_c3 soft_shape_round_c6 k), (18, C50_18G soft_shape_round_c1 soft_shape_round_c4 soft_shape_round_c7 k), (15, C50_15G soft_shape_round_c2 soft_shape_round_c5 soft_shape_round_c8 k)]) 0 fi50 (cutAt ((Try.f50).body.getD .skip) 3) [(1, .i .i64 x1), (2, .b x2), (4, .i .i64 x3), (5, .b x4), (6, .ptr 0 0 0 0 0), (9, .ptr 1 0 0 0 0)] ⟨2, [(0, some ⟨0, false, .cells [.i .i64 x5, .i .i64 x6, .i .i64 x7]⟩), (1, some ⟨1, false, .cells [.i .u64 x8, .i .u64 x9]⟩)]⟩ (exitNorm fi50.ann 500003 0 K) = soft_shape_round_c9T soft_rounderOf soft_shape_round_c0 soft_shape_round_c2 soft_shape_round_c3 soft_shape_round_c5 soft_shape_round_c6 soft_shape_round_c8 wide_Len wide_Shl wide_Shr k x1 x2 x3 x4 x5 x6 x7 x8 x9 (fun q1 => K .ret [(12, .i .u64 q1)] ⟨0, []⟩) := by kernel_rfl
theorem C50_3_cok {R : Type} (k : Nat) : CodeOk Try.prog (cc50_3 k : Cx R) fi50 (cutAt ((Try.f50).body.getD .skip) 3) := cutAt_ok (((cc50_3_ok k).fns 50 fi50 (by kernel_rfl)).2.2.2 ((Try.f50).body.getD .skip) (by kernel_rfl))
theorem C50_3_ok {R : Type} (k : Nat) : CutOk Try.prog (Try.f50).ntmps (cutAt ((Try.f50).body.getD .skip) 3) (C50_3 k : LSum R) := by
  intro pin T H K r h
  unfold C50_3 C50_3G at h
  split at h
  · obtain ⟨ex, T1, H1, h, hb⟩ := codeK_sound (cc50_3_ok k) (run_sound (cc50_3_ok k) 4) _ fi50 _ _ _ _ _ (C50_3_cok k) ((soft_shape_round_c9_gen soft_shape_inf soft_shape_sign wide_Len wide_Shl soft_shape_most soft_shape_full soft_rounderOf wide_Shr soft_rounderOf_1 soft_rounderOf_2 soft_rounderOf_3 soft_shape_round_c0 soft_shape_round_c3 soft_shape_round_c6 soft_shape_round_c1 soft_shape_round_c4 soft_shape_round_c7 soft_shape_round_c2 soft_shape_round_c5 soft_shape_round_c8 k _ _ _ _ _ _ _ _ _ K).trans h)
    exact cut_step hb h
  · cases h
noncomputable def cx50 {R : Type} (k : Nat) : Cx R := mkCx Ty exts [(45, true, S45 k), (46, true, S46 k), (47, true, S47 k), (49, true, S49 k), (71, true, S71 k), (79, true, S79 k), (82, true, S82 k), (83, true, S83 k), (95, true, S95 k), (96, true, S96 k), (97, true, S97 k)] fi50 [] [(10, C50_10 k), (18, C50_18 k), (15, C50_15 k), (3, C50_3 k)]
theorem cx50_ok {R : Type} (k : Nat) : CxOk Try.prog (cx50 k : Cx R) := mkCx_ok (c := ((Try.f50).body.getD .skip)) ty_ok mixed exts_ok (allSum_cons (S45_ok k) en45 (allSum_cons (S46_ok k) en46 (allSum_cons (S47_ok k) en47 (allSum_cons (S49_ok k) en49 (allSum_cons (S71_ok k) en71 (allSum_cons (S79_ok k) en79 (allSum_cons (S82_ok k) en82 (allSum_cons (S83_ok k) en83 (allSum_cons (S95_ok k) en95 (allSum_cons (S96_ok k) en96 (allSum_cons (S97_ok k) en97 allSum_nil))))))))))) Try.func50 en50 (by kernel_rfl) (by kernel_rfl) allLoop_nil (allCut_cons (C50_10_ok k) (by kernel_rfl) (allCut_cons (C50_18_ok k) (by kernel_rfl) (allCut_cons (C50_15_ok k) (by kernel_rfl) (allCut_cons (C50_3_ok k) (by kernel_rfl) allCut_nil))))
@[reducible] def soft_shape_roundY (R : Type) : Type := Nat → Int → Int → Int → Int → Bool → Int → Int → Int → Bool → (Int → Option R) → Option R
noncomputable def soft_shape_roundT {R : Type} (soft_shape_round_c9 : soft_shape_round_c9Y R) (soft_shape_sign : soft_shape_signY R) (k : Nat) (a1 : Int) (a2 : Int) (a3 : Int) (a4 : Int) (a5 : Bool) (a6 : Int) (a7 : Int) (a8 : Int) (a9 : Bool) (K0 : Int → Option R) : Option R :=
  cond ((a6 == 0) && (a7 == 0)) (
    cond (!a9) (
      soft_shape_sign k a1 a2 a3 a5 (fun r1 =>
        K0 r1)) (
      soft_shape_round_c9 k a4 a5 a8 a9 a1 a2 a3 a6 a7 (fun r2 =>
        K0 r2))) (
    soft_shape_round_c9 k a4 a5 a8 a9 a1 a2 a3 a6 a7 (fun r3 =>
      K0 r3))
noncomputable def soft_shape_round {R : Type} (k : Nat) (a1 : Int) (a2 : Int) (a3 : Int) (a4 : Int) (a5 : Bool) (a6 : Int) (a7 : Int) (a8 : Int) (a9 : Bool) (K0 : Int → Option R) : Option R := soft_shape_roundT soft_shape_round_c9 soft_shape_sign k a1 a2 a3 a4 a5 a6 a7 a8 a9 K0
theorem soft_shape_round_gen {R : Type} (soft_shape_inf : soft_shape_infY R) (soft_shape_sign : soft_shape_signY R) (wide_Len : wide_LenY R) (wide_Shl : wide_ShlY R) (soft_shape_most : soft_shape_mostY R) (soft_shape_full : soft_shape_fullY R) (soft_rounderOf : soft_rounderOfY R) (wide_Shr : wide_ShrY R) (soft_rounderOf_1 : soft_rounderOf_1Y R) (soft_rounderOf_2 : soft_rounderOf_2Y R) (soft_rounderOf_3 : soft_rounderOf_3Y R) (soft_shape_round_c0 : soft_shape_round_c0Y R) (soft_shape_round_c3 : soft_shape_round_c3Y R) (soft_shape_round_c6 : soft_shape_round_c6Y R) (soft_shape_round_c1 : soft_shape_round_c1Y R) (soft_shape_round_c4 : soft_shape_round_c4Y R) (soft_shape_round_c7 : soft_shape_round_c7Y R) (soft_shape_round_c2 : soft_shape_round_c2Y R) (soft_shape_round_c5 : soft_shape_round_c5Y R) (soft_shape_round_c8 : soft_shape_round_c8Y R) (soft_shape_round_c9 : soft_shape_round_c9Y R) (k : Nat) (a1 : Int) (a2 : Int) (a3 : Int) (a4 : Int) (a5 : Bool) (a6 : Int) (a7 : Int) (a8 : Int) (a9 : Bool) (K : AV → Heap → Option R) :
    fnK (mkCx Ty exts [(45, true, S45G soft_shape_inf k), (46, true, S46G soft_shape_sign k), (47, true, S47G wide_Len k), (49, true, S49G wide_Shl k), (71, true, S71G soft_shape_most k), (79, true, S79G soft_shape_full k), (82, true, S82G soft_rounderOf k), (83, true, S83G wide_Shr k), (95, true, S95G soft_rounderOf_1 k), (96, true, S96G soft_rounderOf_2 k), (97, true, S97G soft_rounderOf_3 k)] fi50 [] [(10, C50_10G soft_shape_round_c0 soft_shape_round_c3 soft_shape_round_c6 k), (18, C50_18G soft_shape_round_c1 soft_shape_round_c4 soft_shape_round_c7 k), (15, C50_15G soft_shape_round_c2 soft_shape_round_c5 soft_shape_round_c8 k), (3, C50_3G soft_shape_round_c9 k)]) 6 50 [.agg [.i .i64 a1, .i .i64 a2, .i .i64 a3], .i .i64 a4, .b a5, .agg [.i .u64 a6, .i .u64 a7], .i .i64 a8, .b a9] ⟨0, []⟩ K = soft_shape_roundT soft_shape_round_c9 soft_shape_sign k a1 a2 a3 a4 a5 a6 a7 a8 a9 (fun q1 => K (.i .u64 q1) ⟨0, []⟩) := by kernel_rfl
noncomputable def S50G {R : Type} (soft_shape_round : soft_shape_roundY R) (k : Nat) : Sum R := fun args H K => match args, H with
  | [.agg [.i .i64 a1, .i .i64 a2, .i .i64 a3], .i .i64 a4, .b a5, .agg [.i .u64 a6, .i .u64 a7], .i .i64 a8, .b a9], ⟨0, []⟩ => soft_shape_round k a1 a2 a3 a4 a5 a6 a7 a8 a9 (fun q1 => K (.i .u64 q1) ⟨0, []⟩)
  | _, _ => none
noncomputable def S50 {R : Type} (k : Nat) : Sum R := S50G soft_shape_round k
theorem S50_ok0 {R : Type} (k : Nat) : SumOk Try.prog 50 false (S50 k : Sum R) := by
  intro args H K r h
  unfold S50 S50G at h
  split at h
  · exact fnK_sound (cx50_ok k) 6 50 _ _ K r ((soft_shape_round_gen soft_shape_inf soft_shape_sign wide_Len wide_Shl soft_shape_most soft_shape_full soft_rounderOf wide_Shr soft_rounderOf_1 soft_rounderOf_2 soft_rounderOf_3 soft_shape_round_c0 soft_shape_round_c3 soft_shape_round_c6 soft_shape_round_c1 soft_shape_round_c4 soft_shape_round_c7 soft_shape_round_c2 soft_shape_round_c5 soft_shape_round_c8 soft_shape_round_c9 k _ _ _ _ _ _ _ _ _ K).trans h)
  · cases h
theorem S50_ok {R : Type} (k : Nat) : SumOk Try.prog 50 true (S50 k : Sum R) := by
  refine sumOk_keep (S50_ok0 k) ?_
  intro args H K r h
  unfold S50 S50G at h ⊢
  split at h
  · refine Eq.trans ?_ h
    show soft_shape_round k _ _ _ _ _ _ _ _ _ _ = soft_shape_round k _ _ _ _ _ _ _ _ _ _
    congr 1
    all_goals first | exact (funext fun q1 => if_pos (keeps_app _ _ _ [])) | skip
  · cases h
-- function 15: plumbline/soft.Div
noncomputable def fi15 : FnI := ⟨15, Try.f15, []⟩
theorem en15 : Enters Try.prog 15 := enters_of Try.func15 (c := ((Try.f15).body.getD .skip)) (by kernel_rfl) (by kernel_rfl)
noncomputable def cx15 {R : Type} (k : Nat) : Cx R := mkCx Ty exts [(43, true, S43 k), (44, true, S44 k), (45, true, S45 k), (46, true, S46 k), (47, true, S47 k), (48, true, S48 k), (49, true, S49 k), (50, true, S50 k)] fi15 [] []
theorem cx15_ok {R : Type} (k : Nat) : CxOk Try.prog (cx15 k : Cx R) := mkCx_ok (c := ((Try.f15).body.getD .skip)) ty_ok mixed exts_ok (allSum_cons (S43_ok k) en43 (allSum_cons (S44_ok k) en44 (allSum_cons (S45_ok k) en45 (allSum_cons (S46_ok k) en46 (allSum_cons (S47_ok k) en47 (allSum_cons (S48_ok k) en48 (allSum_cons (S49_ok k) en49 (allSum_cons (S50_ok k) en50 allSum_nil)))))))) Try.func15 en15 (by kernel_rfl) (by kernel_rfl) allLoop_nil allCut_nil
@[reducible] def soft_DivY (R : Type) : Type := Nat → Int → Int → Int → Int → (Int → Option R) → Option R
noncomputable def soft_DivT {R : Type} (soft_apart : soft_apartY R) (soft_shape_inf : soft_shape_infY R) (soft_shape_nan : soft_shape_nanY R) (soft_shape_round : soft_shape_roundY R) (soft_shape_sign : soft_shape_signY R) (wide_Div : wide_DivY R) (wide_Len : wide_LenY R) (wide_Shl : wide_ShlY R) (k : Nat) (a1 : Int) (a2 : Int) (a3 : Int) (a4 : Int) (K0 : Int → Option R) : Option R :=
  soft_apart k a1 a3 (fun r1 r2 r3 r4 r5 r6 r7 =>
    soft_apart k a1 a4 (fun r8 r9 r10 r11 r12 r13 r14 =>
      cond ((if r11 < r4 then r11 else r4) == 0) (
        soft_shape_nan k r1 r2 r3 (fun r15 =>
          K0 r15)) (
        cond (r4 == r11) (
          cond (decide (r4 < 3)) (
            soft_shape_nan k r1 r2 r3 (fun r16 =>
              K0 r16)) (
            cond (r4 == 1) (
              soft_shape_inf k r1 r2 r3 (!(r5 == r12)) (fun r17 =>
                K0 r17)) (
              cond (r11 == 2) (
                soft_shape_inf k r1 r2 r3 (!(r5 == r12)) (fun r18 =>
                  K0 r18)) (
                cond (r11 == 1) (
                  soft_shape_sign k r1 r2 r3 (!(r5 == r12)) (fun r19 =>
                    K0 r19)) (
                  cond (r4 == 2) (
                    soft_shape_sign k r1 r2 r3 (!(r5 == r12)) (fun r20 =>
                      K0 r20)) (
                    wide_Len k 0 r6 (fun r21 =>
                      wide_Shl k 0 r6 (Wi64 (127 - r21)) (fun r22 r23 =>
                        wide_Div k r22 r23 r13 (fun r24 r25 r26 =>
                          soft_shape_round k r1 r2 r3 a2 (!(r5 == r12)) r24 r25 (Wi64 ((Wi64 (r7 - r14)) - (Wi64 (127 - r21)))) (r26 != 0) (fun r27 =>
                            K0 r27)))))))))) (
          cond (r4 == 1) (
            soft_shape_inf k r1 r2 r3 (!(r5 == r12)) (fun r28 =>
              K0 r28)) (
            cond (r11 == 2) (
              soft_shape_inf k r1 r2 r3 (!(r5 == r12)) (fun r29 =>
                K0 r29)) (
              cond (r11 == 1) (
                soft_shape_sign k r1 r2 r3 (!(r5 == r12)) (fun r30 =>
                  K0 r30)) (
                cond (r4 == 2) (
                  soft_shape_sign k r1 r2 r3 (!(r5 == r12)) (fun r31 =>
                    K0 r31)) (
                  wide_Len k 0 r6 (fun r32 =>
                    wide_Shl k 0 r6 (Wi64 (127 - r32)) (fun r33 r34 =>
                      wide_Div k r33 r34 r13 (fun r35 r36 r37 =>
                        soft_shape_round k r1 r2 r3 a2 (!(r5 == r12)) r35 r36 (Wi64 ((Wi64 (r7 - r14)) - (Wi64 (127 - r32)))) (r37 != 0) (fun r38 =>
                          K0 r38))))))))))))
noncomputable def soft_Div {R : Type} (k : Nat) (a1 : Int) (a2 : Int) (a3 : Int) (a4 : Int) (K0 : Int → Option R) : Option R := soft_DivT soft_apart soft_shape_inf soft_shape_nan soft_shape_round soft_shape_sign wide_Div wide_Len wide_Shl k a1 a2 a3 a4 K0
theorem soft_Div_gen {R : Type} (soft_apart : soft_apartY R) (soft_shape_nan : soft_shape_nanY R) (soft_shape_inf : soft_shape_infY R) (soft_shape_sign : soft_shape_signY R) (wide_Len : wide_LenY R) (wide_Div : wide_DivY R) (wide_Shl : wide_ShlY R) (soft_shape_round : soft_shape_roundY R) (k : Nat) (a1 : Int) (a2 : Int) (a3 : Int) (a4 : Int) (K : AV → Heap → Option R) :
    fnK (mkCx Ty exts [(43, true, S43G soft_apart k), (44, true, S44G soft_shape_nan k), (45, true, S45G soft_shape_inf k), (46, true, S46G soft_shape_sign k), (47, true, S47G wide_Len k), (48, true, S48G wide_Div k), (49, true, S49G wide_Shl k), (50, true, S50G soft_shape_round k)] fi15 [] []) 6 15 [.i .i64 a1, .i .i64 a2, .i .u64 a3, .i .u64 a4] ⟨0, []⟩ K = soft_DivT soft_apart soft_shape_inf soft_shape_nan soft_shape_round soft_shape_sign wide_Div wide_Len wide_Shl k a1 a2 a3 a4 (fun q1 => K (.i .u64 q1) ⟨0, []⟩) := by kernel_rfl
noncomputable def S15G {R : Type} (soft_Div : soft_DivY R) (k : Nat) : Sum R := fun args H K => match args, H with
  | [.i .i64 a1, .i .i64 a2, .i .u64 a3, .i .u64 a4], ⟨0, []⟩ => soft_Div k a1 a2 a3 a4 (fun q1 => K (.i .u64 q1) ⟨0, []⟩)
  | _, _ => none
noncomputable def S15 {R : Type} (k : Nat) : Sum R := S15G soft_Div k
theorem S15_ok0 {R : Type} (k : Nat) : SumOk Try.prog 15 false (S15 k : Sum R) := by
  intro args H K r h
  unfold S15 S15G at h
  split at h
  · exact fnK_sound (cx15_ok k) 6 15 _ _ K r ((soft_Div_gen soft_apart soft_shape_nan soft_shape_inf soft_shape_sign wide_Len wide_Div wide_Shl soft_shape_round k _ _ _ _ K).trans h)
  · cases h
theorem S15_ok {R : Type} (k : Nat) : SumOk Try.prog 15 true (S15 k : Sum R) := by
  refine sumOk_keep (S15_ok0 k) ?_
  intro args H K r h
  unfold S15 S15G at h ⊢
  split at h
  · refine Eq.trans ?_ h
    show soft_Div k _ _ _ _ _ = soft_Div k _ _ _ _ _
    congr 1
    all_goals first | exact (funext fun q1 => if_pos (keeps_app _ _ _ [])) | skip
  · cases h
-- function 60: plumbline/soft.sum
noncomputable def fi60 : FnI := ⟨60, Try.f60, []⟩
theorem en60 : Enters Try.prog 60 := enters_of Try.func60 (c := ((Try.f60).body.getD .skip)) (by kernel_rfl) (by kernel_rfl)
noncomputable def cx60 {R : Type} (k : Nat) : Cx R := mkCx Ty exts [(49, true, S49 k), (50, true, S50 k), (83, true, S83 k), (87, true, S87 k), (88, true, S88 k)] fi60 [] []
theorem cx60_ok {R : Type} (k : Nat) : CxOk Try.prog (cx60 k : Cx R) := mkCx_ok (c := ((Try.f60).body.getD .skip)) ty_ok mixed exts_ok (allSum_cons (S49_ok k) en49 (allSum_cons (S50_ok k) en50 (allSum_cons (S83_ok k) en83 (allSum_cons (S87_ok k) en87 (allSum_cons (S88_ok k) en88 allSum_nil))))) Try.func60 en60 (by kernel_rfl) (by kernel_rfl) allLoop_nil allCut_nil
@[reducible] def soft_sumY (R : Type) : Type := Nat → Int → Int → Int → Int → Int → Bool → Int → Int → Int → Int → Int → Int → Bool → Int → Int → (Int → Option R) → Option R
noncomputable def soft_sumT {R : Type} (soft_shape_round : soft_shape_roundY R) (wide_Add : wide_AddY R) (wide_Shl : wide_ShlY R) (wide_Shr : wide_ShrY R) (wide_Sub : wide_SubY R) (k : Nat) (a1 : Int) (a2 : Int) (a3 : Int) (a4 : Int) (a5 : Int) (a6 : Bool) (a7 : Int) (a8 : Int) (a9 : Int) (a10 : Int) (a11 : Int) (a12 : Int) (a13 : Bool) (a14 : Int) (a15 : Int) (K0 : Int → Option R) : Option R :=
  wide_Shl k 0 a7 60 (fun r1 r2 =>
    wide_Shl k 0 a14 60 (fun r3 r4 =>
      wide_Shr k r3 r4 (if 128 < (Wi64 (a8 - a15)) then 128 else (Wi64 (a8 - a15))) (fun r5 r6 r7 =>
        cond (a6 == a13) (
          wide_Add k r1 r2 r5 r6 (fun r8 r9 r10 =>
            soft_shape_round k a2 a3 a4 a1 a6 r8 r9 (Wi64 (a8 - 60)) r7 (fun r11 =>
              K0 r11))) (
          cond r7 (
            wide_Add k r5 r6 0 1 (fun r12 r13 r14 =>
              wide_Sub k r1 r2 r12 r13 (fun r15 r16 r17 =>
                cond r17 (
                  wide_Sub k r12 r13 r1 r2 (fun r18 r19 r20 =>
                    cond ((r18 == 0) && (r19 == 0)) (
                      cond (!r7) (
                        soft_shape_round k a2 a3 a4 a1 (a1 == 2) r18 r19 (Wi64 (a8 - 60)) r7 (fun r21 =>
                          K0 r21)) (
                        soft_shape_round k a2 a3 a4 a1 a13 r18 r19 (Wi64 (a8 - 60)) r7 (fun r22 =>
                          K0 r22))) (
                      soft_shape_round k a2 a3 a4 a1 a13 r18 r19 (Wi64 (a8 - 60)) r7 (fun r23 =>
                        K0 r23)))) (
                  cond ((r15 == 0) && (r16 == 0)) (
                    cond (!r7) (
                      soft_shape_round k a2 a3 a4 a1 (a1 == 2) r15 r16 (Wi64 (a8 - 60)) r7 (fun r24 =>
                        K0 r24)) (
                      soft_shape_round k a2 a3 a4 a1 a6 r15 r16 (Wi64 (a8 - 60)) r7 (fun r25 =>
                        K0 r25))) (
                    soft_shape_round k a2 a3 a4 a1 a6 r15 r16 (Wi64 (a8 - 60)) r7 (fun r26 =>
                      K0 r26)))))) (
            wide_Sub k r1 r2 r5 r6 (fun r27 r28 r29 =>
              cond r29 (
                wide_Sub k r5 r6 r1 r2 (fun r30 r31 r32 =>
                  cond ((r30 == 0) && (r31 == 0)) (
                    cond (!r7) (
                      soft_shape_round k a2 a3 a4 a1 (a1 == 2) r30 r31 (Wi64 (a8 - 60)) r7 (fun r33 =>
                        K0 r33)) (
                      soft_shape_round k a2 a3 a4 a1 a13 r30 r31 (Wi64 (a8 - 60)) r7 (fun r34 =>
                        K0 r34))) (
                    soft_shape_round k a2 a3 a4 a1 a13 r30 r31 (Wi64 (a8 - 60)) r7 (fun r35 =>
                      K0 r35)))) (
                cond ((r27 == 0) && (r28 == 0)) (
                  cond (!r7) (
                    soft_shape_round k a2 a3 a4 a1 (a1 == 2) r27 r28 (Wi64 (a8 - 60)) r7 (fun r36 =>
                      K0 r36)) (
                    soft_shape_round k a2 a3 a4 a1 a6 r27 r28 (Wi64 (a8 - 60)) r7 (fun r37 =>
                      K0 r37))) (
                  soft_shape_round k a2 a3 a4 a1 a6 r27 r28 (Wi64 (a8 - 60)) r7 (fun r38 =>
                    K0 r38)))))))))
noncomputable def soft_sum {R : Type} (k : Nat) (a1 : Int) (a2 : Int) (a3 : Int) (a4 : Int) (a5 : Int) (a6 : Bool) (a7 : Int) (a8 : Int) (a9 : Int) (a10 : Int) (a11 : Int) (a12 : Int) (a13 : Bool) (a14 : Int) (a15 : Int) (K0 : Int → Option R) : Option R := soft_sumT soft_shape_round wide_Add wide_Shl wide_Shr wide_Sub k a1 a2 a3 a4 a5 a6 a7 a8 a9 a10 a11 a12 a13 a14 a15 K0
theorem soft_sum_gen {R : Type} (wide_Shl : wide_ShlY R) (soft_shape_round : soft_shape_roundY R) (wide_Shr : wide_ShrY R) (wide_Add : wide_AddY R) (wide_Sub : wide_SubY R) (k : Nat) (a1 : Int) (a2 : Int) (a3 : Int) (a4 : Int) (a5 : Int) (a6 : Bool) (a7 : Int) (a8 : Int) (a9 : Int) (a10 : Int) (a11 : Int) (a12 : Int) (a13 : Bool) (a14 : Int) (a15 : Int) (K : AV → Heap → Option R) :
    fnK (mkCx Ty exts [(49, true, S49G wide_Shl k), (50, true, S50G soft_shape_round k), (83, true, S83G wide_Shr k), (87, true, S87G wide_Add k), (88, true, S88G wide_Sub k)] fi60 [] []) 6 60 [.i .i64 a1, .agg [.i .i64 a2, .i .i64 a3, .i .i64 a4, .i .i64 a5, .b a6, .i .u64 a7, .i .i64 a8], .agg [.i .i64 a9, .i .i64 a10, .i .i64 a11, .i .i64 a12, .b a13, .i .u64 a14, .i .i64 a15]] ⟨0, []⟩ K = soft_sumT soft_shape_round wide_Add wide_Shl wide_Shr wide_Sub k a1 a2 a3 a4 a5 a6 a7 a8 a9 a10 a11 a12 a13 a14 a15 (fun q1 => K (.i .u64 q1) ⟨0, []⟩) := by kernel_rfl
noncomputable def S60G {R : Type} (soft_sum : soft_sumY R) (k : Nat) : Sum R := fun args H K => match args, H with
  | [.i .i64 a1, .agg [.i .i64 a2, .i .i64 a3, .i .i64 a4, .i .i64 a5, .b a6, .i .u64 a7, .i .i64 a8], .agg [.i .i64 a9, .i .i64 a10, .i .i64 a11, .i .i64 a12, .b a13, .i .u64 a14, .i .i64 a15]], ⟨0, []⟩ => soft_sum k a1 a2 a3 a4 a5 a6 a7 a8 a9 a10 a11 a12 a13 a14 a15 (fun q1 => K (.i .u64 q1) ⟨0, []⟩)
  | _, _ => none
noncomputable def S60 {R : Type} (k : Nat) : Sum R := S60G soft_sum k
theorem S60_ok0 {R : Type} (k : Nat) : SumOk Try.prog 60 false (S60 k : Sum R) := by
  intro args H K r h
  unfold S60 S60G at h
  split at h
  · exact fnK_sound (cx60_ok k) 6 60 _ _ K r ((soft_sum_gen wide_Shl soft_shape_round wide_Shr wide_Add wide_Sub k _ _ _ _ _ _ _ _ _ _ _ _ _ _ _ K).trans h)
  · cases h
theorem S60_ok {R : Type} (k : Nat) : SumOk Try.prog 60 true (S60 k : Sum R) := by
  refine sumOk_keep (S60_ok0 k) ?_
  intro args H K r h
  unfold S60 S60G at h ⊢
  split at h
  · refine Eq.trans ?_ h
    show soft_sum k _ _ _ _ _ _ _ _ _ _ _ _ _ _ _ _ = soft_sum k _ _ _ _ _ _ _ _ _ _ _ _ _ _ _ _
    congr 1
    all_goals first | exact (funext fun q1 => if_pos (keeps_app _ _ _ [])) | skip
  · cases h
-- function 18: plumbline/soft.Add
noncomputable def fi18 : FnI := ⟨18, Try.f18, [(600017, [1, 9, 10]), (2500017, [8])]⟩
theorem en18 : Enters Try.prog 18 := enters_of Try.func18 (c := ((Try.f18).body.getD .skip)) (by kernel_rfl) (by kernel_rfl)
@[reducible] def soft_Add_c0Y (R : Type) : Type := Nat → Int → Int → Int → Int → Int → Bool → Int → Int → Int → Int → Int → Int → Bool → Int → Int → (Int → Option R) → Option R
noncomputable def soft_Add_c0T {R : Type} (soft_sum : soft_sumY R) (k : Nat) (x1 : Int) (x2 : Int) (x3 : Int) (x4 : Int) (x5 : Int) (x6 : Bool) (x7 : Int) (x8 : Int) (x9 : Int) (x10 : Int) (x11 : Int) (x12 : Int) (x13 : Bool) (x14 : Int) (x15 : Int) (K0 : Int → Option R) : Option R :=
  soft_sum k x1 x2 x3 x4 x5 x6 x7 x8 x9 x10 x11 x12 x13 x14 x15 (fun yr1 =>
    K0 yr1)
noncomputable def soft_Add_c0 {R : Type} (k : Nat) (x1 : Int) (x2 : Int) (x3 : Int) (x4 : Int) (x5 : Int) (x6 : Bool) (x7 : Int) (x8 : Int) (x9 : Int) (x10 : Int) (x11 : Int) (x12 : Int) (x13 : Bool) (x14 : Int) (x15 : Int) (K0 : Int → Option R) : Option R := soft_Add_c0T soft_sum k x1 x2 x3 x4 x5 x6 x7 x8 x9 x10 x11 x12 x13 x14 x15 K0
noncomputable def cc18_17 {R : Type} (k : Nat) : Cx R := mkCx Ty exts [(43, true, S43 k), (44, true, S44 k), (46, true, S46 k), (60, true, S60 k)] fi18 [] []
theorem cc18_17_ok {R : Type} (k : Nat) : CxOk Try.prog (cc18_17 k : Cx R) := mkCx_ok (c := ((Try.f18).body.getD .skip)) ty_ok mixed exts_ok (allSum_cons (S43_ok k) en43 (allSum_cons (S44_ok k) en44 (allSum_cons (S46_ok k) en46 (allSum_cons (S60_ok k) en60 allSum_nil)))) Try.func18 en18 (by kernel_rfl) (by kernel_rfl) allLoop_nil allCut_nil
noncomputable def C18_17G {R : Type} (soft_Add_c0 : soft_Add_c0Y R) (k : Nat) : LSum R := fun pin T H K => match pin, T, H with
  | 0, [(1, .i .i64 x1), (9, .ptr 0 0 0 0 0), (10, .ptr 1 0 0 0 0)], ⟨2, [(0, some ⟨0, false, .cells [.i .i64 x2, .i .i64 x3, .i .i64 x4, .i .i64 x5, .b x6, .i .u64 x7, .i .i64 x8]⟩), (1, some ⟨1, false, .cells [.i .i64 x9, .i .i64 x10, .i .i64 x11, .i .i64 x12, .b x13, .i .u64 x14, .i .i64 x15]⟩)]⟩ => soft_Add_c0 k x1 x2 x3 x4 x5 x6 x7 x8 x9 x10 x11 x12 x13 x14 x15 (fun q1 => K .ret [(8, .i .u64 q1)] ⟨0, []⟩)
  | _, _, _ => none
noncomputable def C18_17 {R : Type} (k : Nat) : LSum R := C18_17G soft_Add_c0 k
theorem soft_Add_c0_gen {R : Type} (soft_apart : soft_apartY R) (soft_shape_nan : soft_shape_nanY R) (soft_shape_sign : soft_shape_signY R) (soft_sum : soft_sumY R) (k : Nat) (x1 : Int) (x2 : Int) (x3 : Int) (x4 : Int) (x5 : Int) (x6 : Bool) (x7 : Int) (x8 : Int) (x9 : Int) (x10 : Int) (x11 : Int) (x12 : Int) (x13 : Bool) (x14 : Int) (x15 : Int) (K : Kont R) :
    (fun C => codeK C (run C 4)) (mkCx Ty exts [(43, true, S43G soft_apart k), (44, true, S44G soft_shape_nan k), (46, true, S46G soft_shape_sign k), (60, true, S60G soft_sum k)] fi18 [] []) 0 fi18 (cutAt ((Try.f18).body.getD .skip) 17) [(1, .i .i64 x1), (9, .ptr 0 0 0 0 0), (10, .ptr 1 0 0 0 0)] ⟨2, [(0, some ⟨0, false, .cells [.i .i64 x2, .i .i64 x3, .i .i64 x4, .i .i64 x5, .b x6, .i .u64 x7, .i .i64 x8]⟩), (1, some ⟨1, false, .cells [.i .i64 x9, .i .i64 x10, .i .i64 x11, .i .i64 x12, .b x13, .i .u64 x14, .i .i64 x15]⟩)]⟩ (exitNorm fi18.ann 500017 0 K) = soft_Add_c0T soft_sum k x1 x2 x3 x4 x5 x6 x7 x8 x9 x10 x11 x12 x13 x14 x15 (fun q1 => K .ret [(8, .i .u64 q1)] ⟨0, []⟩) := by kernel_rfl
theorem C18_17_cok {R : Type} (k : Nat) : CodeOk Try.prog (cc18_17 k : Cx R) fi18 (cutAt ((Try.f18).body.getD .skip) 17) := cutAt_ok (((cc18_17_ok k).fns 18 fi18 (by kernel_rfl)).2.2.2 ((Try.f18).body.getD .skip) (by kernel_rfl))
theorem C18_17_ok {R : Type} (k : Nat) : CutOk Try.prog (Try.f18).ntmps (cutAt ((Try.f18).body.getD .skip) 17) (C18_17 k : LSum R) := by
  intro pin T H K r h
  unfold C18_17 C18_17G at h
  split at h
  · obtain ⟨ex, T1, H1, h, hb⟩ := codeK_sound (cc18_17_ok k) (run_sound (cc18_17_ok k) 4) _ fi18 _ _ _ _ _ (C18_17_cok k) ((soft_Add_c0_gen soft_apart soft_shape_nan soft_shape_sign soft_sum k _ _ _ _ _ _ _ _ _ _ _ _ _ _ _ K).trans h)
    exact cut_step hb h
  · cases h
noncomputable def cx18 {R : Type} (k : Nat) : Cx R := mkCx Ty exts [(43, true, S43 k), (44, true, S44 k), (46, true, S46 k), (60, true, S60 k)] fi18 [] [(17, C18_17 k)]
theorem cx18_ok {R : Type} (k : Nat) : CxOk Try.prog (cx18 k : Cx R) := mkCx_ok (c := ((Try.f18).body.getD .skip)) ty_ok mixed exts_ok (allSum_cons (S43_ok k) en43 (allSum_cons (S44_ok k) en44 (allSum_cons (S46_ok k) en46 (allSum_cons (S60_ok k) en60 allSum_nil)))) Try.func18 en18 (by kernel_rfl) (by kernel_rfl) allLoop_nil (allCut_cons (C18_17_ok k) (by kernel_rfl) allCut_nil)
@[reducible] def soft_AddY (R : Type) : Type := Nat → Int → Int → Int → Int → (Int → Option R) → Option R
noncomputable def soft_AddT {R : Type} (soft_Add_c0 : soft_Add_c0Y R) (soft_apart : soft_apartY R) (soft_shape_nan : soft_shape_nanY R) (soft_shape_sign : soft_shape_signY R) (k : Nat) (a1 : Int) (a2 : Int) (a3 : Int) (a4 : Int) (K0 : Int → Option R) : Option R :=
  soft_apart k a1 a3 (fun r1 r2 r3 r4 r5 r6 r7 =>
    soft_apart k a1 a4 (fun r8 r9 r10 r11 r12 r13 r14 =>
      cond (r4 == 0) (
        soft_shape_nan k r1 r2 r3 (fun r15 =>
          K0 r15)) (
        cond (r11 == 0) (
          soft_shape_nan k r1 r2 r3 (fun r16 =>
            K0 r16)) (
          cond (r4 == 1) (
            cond (r11 == 1) (
              cond (!(r5 == r12)) (
                soft_shape_nan k r1 r2 r3 (fun r17 =>
                  K0 r17)) (
                cond (r4 == 1) (
                  K0 a3) (
                  cond (r11 == 1) (
                    K0 a4) (
                    cond (r4 == 2) (
                      cond (r11 == 2) (
                        cond (!(r5 == r12)) (
                          soft_shape_sign k r1 r2 r3 (a2 == 2) (fun r18 =>
                            K0 r18)) (
                          cond (r4 == 2) (
                            K0 a4) (
                            cond (r11 == 2) (
                              K0 a3) (
                              cond (decide (r7 < r14)) (
                                soft_Add_c0 k a2 r8 r9 r10 r11 r12 r13 r14 r1 r2 r3 r4 r5 r6 r7 (fun r19 =>
                                  K0 r19)) (
                                soft_Add_c0 k a2 r1 r2 r3 r4 r5 r6 r7 r8 r9 r10 r11 r12 r13 r14 (fun r20 =>
                                  K0 r20)))))) (
                        cond (r4 == 2) (
                          K0 a4) (
                          cond (r11 == 2) (
                            K0 a3) (
                            cond (decide (r7 < r14)) (
                              soft_Add_c0 k a2 r8 r9 r10 r11 r12 r13 r14 r1 r2 r3 r4 r5 r6 r7 (fun r21 =>
                                K0 r21)) (
                              soft_Add_c0 k a2 r1 r2 r3 r4 r5 r6 r7 r8 r9 r10 r11 r12 r13 r14 (fun r22 =>
                                K0 r22)))))) (
                      cond (r4 == 2) (
                        K0 a4) (
                        cond (r11 == 2) (
                          K0 a3) (
                          cond (decide (r7 < r14)) (
                            soft_Add_c0 k a2 r8 r9 r10 r11 r12 r13 r14 r1 r2 r3 r4 r5 r6 r7 (fun r23 =>
                              K0 r23)) (
                            soft_Add_c0 k a2 r1 r2 r3 r4 r5 r6 r7 r8 r9 r10 r11 r12 r13 r14 (fun r24 =>
                              K0 r24))))))))) (
              cond (r4 == 1) (
                K0 a3) (
                cond (r11 == 1) (
                  K0 a4) (
                  cond (r4 == 2) (
                    cond (r11 == 2) (
                      cond (!(r5 == r12)) (
                        soft_shape_sign k r1 r2 r3 (a2 == 2) (fun r25 =>
                          K0 r25)) (
                        cond (r4 == 2) (
                          K0 a4) (
                          cond (r11 == 2) (
                            K0 a3) (
                            cond (decide (r7 < r14)) (
                              soft_Add_c0 k a2 r8 r9 r10 r11 r12 r13 r14 r1 r2 r3 r4 r5 r6 r7 (fun r26 =>
                                K0 r26)) (
                              soft_Add_c0 k a2 r1 r2 r3 r4 r5 r6 r7 r8 r9 r10 r11 r12 r13 r14 (fun r27 =>
                                K0 r27)))))) (
                      cond (r4 == 2) (
                        K0 a4) (
                        cond (r11 == 2) (
                          K0 a3) (
                          cond (decide (r7 < r14)) (
                            soft_Add_c0 k a2 r8 r9 r10 r11 r12 r13 r14 r1 r2 r3 r4 r5 r6 r7 (fun r28 =>
                              K0 r28)) (
                            soft_Add_c0 k a2 r1 r2 r3 r4 r5 r6 r7 r8 r9 r10 r11 r12 r13 r14 (fun r29 =>
                              K0 r29)))))) (
                    cond (r4 == 2) (
                      K0 a4) (
                      cond (r11 == 2) (
                        K0 a3) (
                        cond (decide (r7 < r14)) (
                          soft_Add_c0 k a2 r8 r9 r10 r11 r12 r13 r14 r1 r2 r3 r4 r5 r6 r7 (fun r30 =>
                            K0 r30)) (
                          soft_Add_c0 k a2 r1 r2 r3 r4 r5 r6 r7 r8 r9 r10 r11 r12 r13 r14 (fun r31 =>
                            K0 r31))))))))) (
            cond (r4 == 1) (
              K0 a3) (
              cond (r11 == 1) (
                K0 a4) (
                cond (r4 == 2) (
                  cond (r11 == 2) (
                    cond (!(r5 == r12)) (
                      soft_shape_sign k r1 r2 r3 (a2 == 2) (fun r32 =>
                        K0 r32)) (
                      cond (r4 == 2) (
                        K0 a4) (
                        cond (r11 == 2) (
                          K0 a3) (
                          cond (decide (r7 < r14)) (
                            soft_Add_c0 k a2 r8 r9 r10 r11 r12 r13 r14 r1 r2 r3 r4 r5 r6 r7 (fun r33 =>
                              K0 r33)) (
                            soft_Add_c0 k a2 r1 r2 r3 r4 r5 r6 r7 r8 r9 r10 r11 r12 r13 r14 (fun r34 =>
                              K0 r34)))))) (
                    cond (r4 == 2) (
                      K0 a4) (
                      cond (r11 == 2) (
                        K0 a3) (
                        cond (decide (r7 < r14)) (
                          soft_Add_c0 k a2 r8 r9 r10 r11 r12 r13 r14 r1 r2 r3 r4 r5 r6 r7 (fun r35 =>
                            K0 r35)) (
                          soft_Add_c0 k a2 r1 r2 r3 r4 r5 r6 r7 r8 r9 r10 r11 r12 r13 r14 (fun r36 =>
                            K0 r36)))))) (
                  cond (r4 == 2) (
                    K0 a4) (
                    cond (r11 == 2) (
                      K0 a3) (
                      cond (decide (r7 < r14)) (
                        soft_Add_c0 k a2 r8 r9 r10 r11 r12 r13 r14 r1 r2 r3 r4 r5 r6 r7 (fun r37 =>
                          K0 r37)) (
                        soft_Add_c0 k a2 r1 r2 r3 r4 r5 r6 r7 r8 r9 r10 r11 r12 r13 r14 (fun r38 =>
                          K0 r38))))))))))))
noncomputable def soft_Add {R : Type} (k : Nat) (a1 : Int) (a2 : Int) (a3 : Int) (a4 : Int) (K0 : Int → Option R) : Option R := soft_AddT soft_Add_c0 soft_apart soft_shape_nan soft_shape_sign k a1 a2 a3 a4 K0
theorem soft_Add_gen {R : Type} (soft_apart : soft_apartY R) (soft_shape_nan : soft_shape_nanY R) (soft_shape_sign : soft_shape_signY R) (soft_sum : soft_sumY R) (soft_Add_c0 : soft_Add_c0Y R) (k : Nat) (a1 : Int) (a2 : Int) (a3 : Int) (a4 : Int) (K : AV → Heap → Option R) :
    fnK (mkCx Ty exts [(43, true, S43G soft_apart k), (44, true, S44G soft_shape_nan k), (46, true, S46G soft_shape_sign k), (60, true, S60G soft_sum k)] fi18 [] [(17, C18_17G soft_Add_c0 k)]) 6 18 [.i .i64 a1, .i .i64 a2, .i .u64 a3, .i .u64 a4] ⟨0, []⟩ K = soft_AddT soft_Add_c0 soft_apart soft_shape_nan soft_shape_sign k a1 a2 a3 a4 (fun q1 => K (.i .u64 q1) ⟨0, []⟩) := by kernel_rfl
noncomputable def S18G {R : Type} (soft_Add : soft_AddY R) (k : Nat) : Sum R := fun args H K => match args, H with
  | [.i .i64 a1, .i .i64 a2, .i .u64 a3, .i .u64 a4], ⟨0, []⟩ => soft_Add k a1 a2 a3 a4 (fun q1 => K (.i .u64 q1) ⟨0, []⟩)
  | _, _ => none
noncomputable def S18 {R : Type} (k : Nat) : Sum R := S18G soft_Add k
theorem S18_ok0 {R : Type} (k : Nat) : SumOk Try.prog 18 false (S18 k : Sum R) := by
  intro args H K r h
  unfold S18 S18G at h
  split at h
  · exact fnK_sound (cx18_ok k) 6 18 _ _ K r ((soft_Add_gen soft_apart soft_shape_nan soft_shape_sign soft_sum soft_Add_c0 k _ _ _ _ K).trans h)
  · cases h
theorem S18_ok {R : Type} (k : Nat) : SumOk Try.prog 18 true (S18 k : Sum R) := by
  refine sumOk_keep (S18_ok0 k) ?_
  intro args H K r h
  unfold S18 S18G at h ⊢
  split at h
  · refine Eq.trans ?_ h
    show soft_Add k _ _ _ _ _ = soft_Add k _ _ _ _ _
    congr 1
    all_goals first | exact (funext fun q1 => if_pos (keeps_app _ _ _ [])) | skip
  · cases h
-- function 26: plumbline/soft.Class
noncomputable def fi26 : FnI := ⟨26, Try.f26, []⟩
theorem en26 : Enters Try.prog 26 := enters_of Try.func26 (c := ((Try.f26).body.getD .skip)) (by kernel_rfl) (by kernel_rfl)
noncomputable def cx26 {R : Type} (k : Nat) : Cx R := mkCx Ty exts [(43, true, S43 k)] fi26 [] []
theorem cx26_ok {R : Type} (k : Nat) : CxOk Try.prog (cx26 k : Cx R) := mkCx_ok (c := ((Try.f26).body.getD .skip)) ty_ok mixed exts_ok (allSum_cons (S43_ok k) en43 allSum_nil) Try.func26 en26 (by kernel_rfl) (by kernel_rfl) allLoop_nil allCut_nil
@[reducible] def soft_ClassY (R : Type) : Type := Nat → Int → Int → (Int → Option R) → Option R
noncomputable def soft_ClassT {R : Type} (soft_apart : soft_apartY R) (k : Nat) (a1 : Int) (a2 : Int) (K0 : Int → Option R) : Option R :=
  soft_apart k a1 a2 (fun r1 r2 r3 r4 r5 r6 r7 =>
    cond (a1 == 1) (
      cond ((shr .u64 a2 32) != 0) (
        K0 0) (
        cond (r4 == 0) (
          K0 5) (
          cond (r4 == 1) (
            K0 4) (
            cond (r4 == 2) (
              K0 1) (
              cond (decide (r1 < 0)) (
                none) (
                cond ((shr .u64 r6 r1) == 0) (
                  K0 2) (
                  K0 3))))))) (
      cond (r4 == 0) (
        K0 5) (
        cond (r4 == 1) (
          K0 4) (
          cond (r4 == 2) (
            K0 1) (
            cond (decide (r1 < 0)) (
              none) (
              cond ((shr .u64 r6 r1) == 0) (
                K0 2) (
                K0 3)))))))
noncomputable def soft_Class {R : Type} (k : Nat) (a1 : Int) (a2 : Int) (K0 : Int → Option R) : Option R := soft_ClassT soft_apart k a1 a2 K0
theorem soft_Class_gen {R : Type} (soft_apart : soft_apartY R) (k : Nat) (a1 : Int) (a2 : Int) (K : AV → Heap → Option R) :
    fnK (mkCx Ty exts [(43, true, S43G soft_apart k)] fi26 [] []) 6 26 [.i .i64 a1, .i .u64 a2] ⟨0, []⟩ K = soft_ClassT soft_apart k a1 a2 (fun q1 => K (.i .i64 q1) ⟨0, []⟩) := by kernel_rfl
noncomputable def S26G {R : Type} (soft_Class : soft_ClassY R) (k : Nat) : Sum R := fun args H K => match args, H with
  | [.i .i64 a1, .i .u64 a2], ⟨0, []⟩ => soft_Class k a1 a2 (fun q1 => K (.i .i64 q1) ⟨0, []⟩)
  | _, _ => none
noncomputable def S26 {R : Type} (k : Nat) : Sum R := S26G soft_Class k
theorem S26_ok0 {R : Type} (k : Nat) : SumOk Try.prog 26 false (S26 k : Sum R) := by
  intro args H K r h
  unfold S26 S26G at h
  split at h
  · exact fnK_sound (cx26_ok k) 6 26 _ _ K r ((soft_Class_gen soft_apart k _ _ K).trans h)
  · cases h
theorem S26_ok {R : Type} (k : Nat) : SumOk Try.prog 26 true (S26 k : Sum R) := by
  refine sumOk_keep (S26_ok0 k) ?_
  intro args H K r h
  unfold S26 S26G at h ⊢
  split at h
  · refine Eq.trans ?_ h
    show soft_Class k _ _ _ = soft_Class k _ _ _
    congr 1
    all_goals first | exact (funext fun q1 => if_pos (keeps_app _ _ _ [])) | skip
  · cases h
-- function 28: plumbline/soft.Neg
noncomputable def fi28 : FnI := ⟨28, Try.f28, []⟩
theorem en28 : Enters Try.prog 28 := enters_of Try.func28 (c := ((Try.f28).body.getD .skip)) (by kernel_rfl) (by kernel_rfl)
noncomputable def cx28 {R : Type} (k : Nat) : Cx R := mkCx Ty exts [(43, true, S43 k), (44, true, S44 k), (46, true, S46 k)] fi28 [] []
theorem cx28_ok {R : Type} (k : Nat) : CxOk Try.prog (cx28 k : Cx R) := mkCx_ok (c := ((Try.f28).body.getD .skip)) ty_ok mixed exts_ok (allSum_cons (S43_ok k) en43 (allSum_cons (S44_ok k) en44 (allSum_cons (S46_ok k) en46 allSum_nil))) Try.func28 en28 (by kernel_rfl) (by kernel_rfl) allLoop_nil allCut_nil
@[reducible] def soft_NegY (R : Type) : Type := Nat → Int → Int → (Int → Option R) → Option R
noncomputable def soft_NegT {R : Type} (soft_apart : soft_apartY R) (soft_shape_nan : soft_shape_nanY R) (soft_shape_sign : soft_shape_signY R) (k : Nat) (a1 : Int) (a2 : Int) (K0 : Int → Option R) : Option R :=
  soft_apart k a1 a2 (fun r1 r2 r3 r4 r5 r6 r7 =>
    cond (r4 == 0) (
      soft_shape_nan k r1 r2 r3 (fun r8 =>
        K0 r8)) (
      soft_shape_sign k r1 r2 r3 true (fun r9 =>
        K0 (bXor .u64 a2 r9))))
noncomputable def soft_Neg {R : Type} (k : Nat) (a1 : Int) (a2 : Int) (K0 : Int → Option R) : Option R := soft_NegT soft_apart soft_shape_nan soft_shape_sign k a1 a2 K0
theorem soft_Neg_gen {R : Type} (soft_apart : soft_apartY R) (soft_shape_nan : soft_shape_nanY R) (soft_shape_sign : soft_shape_signY R) (k : Nat) (a1 : Int) (a2 : Int) (K : AV → Heap → Option R) :
    fnK (mkCx Ty exts [(43, true, S43G soft_apart k), (44, true, S44G soft_shape_nan k), (46, true, S46G soft_shape_sign k)] fi28 [] []) 6 28 [.i .i64 a1, .i .u64 a2] ⟨0, []⟩ K = soft_NegT soft_apart soft_shape_nan soft_shape_sign k a1 a2 (fun q1 => K (.i .u64 q1) ⟨0, []⟩) := by kernel_rfl
noncomputable def S28G {R : Type} (soft_Neg : soft_NegY R) (k : Nat) : Sum R := fun args H K => match args, H with
  | [.i .i64 a1, .i .u64 a2], ⟨0, []⟩ => soft_Neg k a1 a2 (fun q1 => K (.i .u64 q1) ⟨0, []⟩)
  | _, _ => none
noncomputable def S28 {R : Type} (k : Nat) : Sum R := S28G soft_Neg k
theorem S28_ok0 {R : Type} (k : Nat) : SumOk Try.prog 28 false (S28 k : Sum R) := by
  intro args H K r h
  unfold S28 S28G at h
  split at h
  · exact fnK_sound (cx28_ok k) 6 28 _ _ K r ((soft_Neg_gen soft_apart soft_shape_nan soft_shape_sign k _ _ K).trans h)
  · cases h
theorem S28_ok {R : Type} (k : Nat) : SumOk Try.prog 28 true (S28 k : Sum R) := by
  refine sumOk_keep (S28_ok0 k) ?_
  intro args H K r h
  unfold S28 S28G at h ⊢
  split at h
  · refine Eq.trans ?_ h
    show soft_Neg k _ _ _ = soft_Neg k _ _ _
    congr 1
    all_goals first | exact (funext fun q1 => if_pos (keeps_app _ _ _ [])) | skip
  · cases h
-- function 30: plumbline/soft.Abs
noncomputable def fi30 : FnI := ⟨30, Try.f30, []⟩
theorem en30 : Enters Try.prog 30 := enters_of Try.func30 (c := ((Try.f30).body.getD .skip)) (by kernel_rfl) (by kernel_rfl)
noncomputable def cx30 {R : Type} (k : Nat) : Cx R := mkCx Ty exts [(43, true, S43 k), (44, true, S44 k), (46, true, S46 k)] fi30 [] []
theorem cx30_ok {R : Type} (k : Nat) : CxOk Try.prog (cx30 k : Cx R) := mkCx_ok (c := ((Try.f30).body.getD .skip)) ty_ok mixed exts_ok (allSum_cons (S43_ok k) en43 (allSum_cons (S44_ok k) en44 (allSum_cons (S46_ok k) en46 allSum_nil))) Try.func30 en30 (by kernel_rfl) (by kernel_rfl) allLoop_nil allCut_nil
@[reducible] def soft_AbsY (R : Type) : Type := Nat → Int → Int → (Int → Option R) → Option R
noncomputable def soft_AbsT {R : Type} (soft_apart : soft_apartY R) (soft_shape_nan : soft_shape_nanY R) (soft_shape_sign : soft_shape_signY R) (k : Nat) (a1 : Int) (a2 : Int) (K0 : Int → Option R) : Option R :=
  soft_apart k a1 a2 (fun r1 r2 r3 r4 r5 r6 r7 =>
    cond (r4 == 0) (
      soft_shape_nan k r1 r2 r3 (fun r8 =>
        K0 r8)) (
      soft_shape_sign k r1 r2 r3 true (fun r9 =>
        K0 (bAndNot .u64 a2 r9))))
noncomputable def soft_Abs {R : Type} (k : Nat) (a1 : Int) (a2 : Int) (K0 : Int → Option R) : Option R := soft_AbsT soft_apart soft_shape_nan soft_shape_sign k a1 a2 K0
theorem soft_Abs_gen {R : Type} (soft_apart : soft_apartY R) (soft_shape_nan : soft_shape_nanY R) (soft_shape_sign : soft_shape_signY R) (k : Nat) (a1 : Int) (a2 : Int) (K : AV → Heap → Option R) :
    fnK (mkCx Ty exts [(43, true, S43G soft_apart k), (44, true, S44G soft_shape_nan k), (46, true, S46G soft_shape_sign k)] fi30 [] []) 6 30 [.i .i64 a1, .i .u64 a2] ⟨0, []⟩ K = soft_AbsT soft_apart soft_shape_nan soft_shape_sign k a1 a2 (fun q1 => K (.i .u64 q1) ⟨0, []⟩) := by kernel_rfl
noncomputable def S30G {R : Type} (soft_Abs : soft_AbsY R) (k : Nat) : Sum R := fun args H K => match args, H with
  | [.i .i64 a1, .i .u64 a2], ⟨0, []⟩ => soft_Abs k a1 a2 (fun q1 => K (.i .u64 q1) ⟨0, []⟩)
  | _, _ => none
noncomputable def S30 {R : Type} (k : Nat) : Sum R := S30G soft_Abs k
theorem S30_ok0 {R : Type} (k : Nat) : SumOk Try.prog 30 false (S30 k : Sum R) := by
  intro args H K r h
  unfold S30 S30G at h
  split at h
  · exact fnK_sound (cx30_ok k) 6 30 _ _ K r ((soft_Abs_gen soft_apart soft_shape_nan soft_shape_sign k _ _ K).trans h)
  · cases h
theorem S30_ok {R : Type} (k : Nat) : SumOk Try.prog 30 true (S30 k : Sum R) := by
  refine sumOk_keep (S30_ok0 k) ?_
  intro args H K r h
  unfold S30 S30G at h ⊢
  split at h
  · refine Eq.trans ?_ h
    show soft_Abs k _ _ _ = soft_Abs k _ _ _
    congr 1
    all_goals first | exact (funext fun q1 => if_pos (keeps_app _ _ _ [])) | skip
  · cases h
-- function 32: plumbline/soft.Finite
noncomputable def fi32 : FnI := ⟨32, Try.f32, []⟩
theorem en32 : Enters Try.prog 32 := enters_of Try.func32 (c := ((Try.f32).body.getD .skip)) (by kernel_rfl) (by kernel_rfl)
noncomputable def cx32 {R : Type} (k : Nat) : Cx R := mkCx Ty exts [(43, true, S43 k)] fi32 [] []
theorem cx32_ok {R : Type} (k : Nat) : CxOk Try.prog (cx32 k : Cx R) := mkCx_ok (c := ((Try.f32).body.getD .skip)) ty_ok mixed exts_ok (allSum_cons (S43_ok k) en43 allSum_nil) Try.func32 en32 (by kernel_rfl) (by kernel_rfl) allLoop_nil allCut_nil
@[reducible] def soft_FiniteY (R : Type) : Type := Nat → Int → Int → (Bool → Option R) → Option R
noncomputable def soft_FiniteT {R : Type} (soft_apart : soft_apartY R) (k : Nat) (a1 : Int) (a2 : Int) (K0 : Bool → Option R) : Option R :=
  soft_apart k a1 a2 (fun r1 r2 r3 r4 r5 r6 r7 =>
    K0 (decide (r4 ≥ 2)))
noncomputable def soft_Finite {R : Type} (k : Nat) (a1 : Int) (a2 : Int) (K0 : Bool → Option R) : Option R := soft_FiniteT soft_apart k a1 a2 K0
theorem soft_Finite_gen {R : Type} (soft_apart : soft_apartY R) (k : Nat) (a1 : Int) (a2 : Int) (K : AV → Heap → Option R) :
    fnK (mkCx Ty exts [(43, true, S43G soft_apart k)] fi32 [] []) 6 32 [.i .i64 a1, .i .u64 a2] ⟨0, []⟩ K = soft_FiniteT soft_apart k a1 a2 (fun q1 => K (.b q1) ⟨0, []⟩) := by kernel_rfl
noncomputable def S32G {R : Type} (soft_Finite : soft_FiniteY R) (k : Nat) : Sum R := fun args H K => match args, H with
  | [.i .i64 a1, .i .u64 a2], ⟨0, []⟩ => soft_Finite k a1 a2 (fun q1 => K (.b q1) ⟨0, []⟩)
  | _, _ => none
noncomputable def S32 {R : Type} (k : Nat) : Sum R := S32G soft_Finite k
theorem S32_ok0 {R : Type} (k : Nat) : SumOk Try.prog 32 false (S32 k : Sum R) := by
  intro args H K r h
  unfold S32 S32G at h
  split at h
  · exact fnK_sound (cx32_ok k) 6 32 _ _ K r ((soft_Finite_gen soft_apart k _ _ K).trans h)
  · cases h
theorem S32_ok {R : Type} (k : Nat) : SumOk Try.prog 32 true (S32 k : Sum R) := by
  refine sumOk_keep (S32_ok0 k) ?_
  intro args H K r h
  unfold S32 S32G at h ⊢
  split at h
  · refine Eq.trans ?_ h
    show soft_Finite k _ _ _ = soft_Finite k _ _ _
    congr 1
    all_goals first | exact (funext fun q1 => if_pos (keeps_app _ _ _ [])) | skip
  · cases h
-- function 34: plumbline/soft.Most
noncomputable def fi34 : FnI := ⟨34, Try.f34, []⟩
theorem en34 : Enters Try.prog 34 := enters_of Try.func34 (c := ((Try.f34).body.getD .skip)) (by kernel_rfl) (by kernel_rfl)
noncomputable def cx34 {R : Type} (k : Nat) : Cx R := mkCx Ty exts [(65, true, S65 k), (71, true, S71 k)] fi34 [] []
theorem cx34_ok {R : Type} (k : Nat) : CxOk Try.prog (cx34 k : Cx R) := mkCx_ok (c := ((Try.f34).body.getD .skip)) ty_ok mixed exts_ok (allSum_cons (S65_ok k) en65 (allSum_cons (S71_ok k) en71 allSum_nil)) Try.func34 en34 (by kernel_rfl) (by kernel_rfl) allLoop_nil allCut_nil
@[reducible] def soft_MostY (R : Type) : Type := Nat → Int → (Int → Option R) → Option R
noncomputable def soft_MostT {R : Type} (soft_shapeOf : soft_shapeOfY R) (soft_shape_most : soft_shape_mostY R) (k : Nat) (a1 : Int) (K0 : Int → Option R) : Option R :=
  soft_shapeOf k a1 (fun r1 r2 r3 =>
    soft_shape_most k r1 r2 r3 false (fun r4 =>
      K0 r4))
noncomputable def soft_Most {R : Type} (k : Nat) (a1 : Int) (K0 : Int → Option R) : Option R := soft_MostT soft_shapeOf soft_shape_most k a1 K0
theorem soft_Most_gen {R : Type} (soft_shapeOf : soft_shapeOfY R) (soft_shape_most : soft_shape_mostY R) (k : Nat) (a1 : Int) (K : AV → Heap → Option R) :
    fnK (mkCx Ty exts [(65, true, S65G soft_shapeOf k), (71, true, S71G soft_shape_most k)] fi34 [] []) 6 34 [.i .i64 a1] ⟨0, []⟩ K = soft_MostT soft_shapeOf soft_shape_most k a1 (fun q1 => K (.i .u64 q1) ⟨0, []⟩) := by kernel_rfl
noncomputable def S34G {R : Type} (soft_Most : soft_MostY R) (k : Nat) : Sum R := fun args H K => match args, H with
  | [.i .i64 a1], ⟨0, []⟩ => soft_Most k a1 (fun q1 => K (.i .u64 q1) ⟨0, []⟩)
  | _, _ => none
noncomputable def S34 {R : Type} (k : Nat) : Sum R := S34G soft_Most k
theorem S34_ok0 {R : Type} (k : Nat) : SumOk Try.prog 34 false (S34 k : Sum R) := by
  intro args H K r h
  unfold S34 S34G at h
  split at h
  · exact fnK_sound (cx34_ok k) 6 34 _ _ K r ((soft_Most_gen soft_shapeOf soft_shape_most k _ K).trans h)
  · cases h
theorem S34_ok {R : Type} (k : Nat) : SumOk Try.prog 34 true (S34 k : Sum R) := by
  refine sumOk_keep (S34_ok0 k) ?_
  intro args H K r h
  unfold S34 S34G at h ⊢
  split at h
  · refine Eq.trans ?_ h
    show soft_Most k _ _ = soft_Most k _ _
    congr 1
    all_goals first | exact (funext fun q1 => if_pos (keeps_app _ _ _ [])) | skip
  · cases h
-- function 36: plumbline/soft.Nan
noncomputable def fi36 : FnI := ⟨36, Try.f36, []⟩
theorem en36 : Enters Try.prog 36 := enters_of Try.func36 (c := ((Try.f36).body.getD .skip)) (by kernel_rfl) (by kernel_rfl)
noncomputable def cx36 {R : Type} (k : Nat) : Cx R := mkCx Ty exts [(44, true, S44 k), (65, true, S65 k)] fi36 [] []
theorem cx36_ok {R : Type} (k : Nat) : CxOk Try.prog (cx36 k : Cx R) := mkCx_ok (c := ((Try.f36).body.getD .skip)) ty_ok mixed exts_ok (allSum_cons (S44_ok k) en44 (allSum_cons (S65_ok k) en65 allSum_nil)) Try.func36 en36 (by kernel_rfl) (by kernel_rfl) allLoop_nil allCut_nil
@[reducible] def soft_NanY (R : Type) : Type := Nat → Int → (Int → Option R) → Option R
noncomputable def soft_NanT {R : Type} (soft_shapeOf : soft_shapeOfY R) (soft_shape_nan : soft_shape_nanY R) (k : Nat) (a1 : Int) (K0 : Int → Option R) : Option R :=
  soft_shapeOf k a1 (fun r1 r2 r3 =>
    soft_shape_nan k r1 r2 r3 (fun r4 =>
      K0 r4))
noncomputable def soft_Nan {R : Type} (k : Nat) (a1 : Int) (K0 : Int → Option R) : Option R := soft_NanT soft_shapeOf soft_shape_nan k a1 K0
theorem soft_Nan_gen {R : Type} (soft_shape_nan : soft_shape_nanY R) (soft_shapeOf : soft_shapeOfY R) (k : Nat) (a1 : Int) (K : AV → Heap → Option R) :
    fnK (mkCx Ty exts [(44, true, S44G soft_shape_nan k), (65, true, S65G soft_shapeOf k)] fi36 [] []) 6 36 [.i .i64 a1] ⟨0, []⟩ K = soft_NanT soft_shapeOf soft_shape_nan k a1 (fun q1 => K (.i .u64 q1) ⟨0, []⟩) := by kernel_rfl
noncomputable def S36G {R : Type} (soft_Nan : soft_NanY R) (k : Nat) : Sum R := fun args H K => match args, H with
  | [.i .i64 a1], ⟨0, []⟩ => soft_Nan k a1 (fun q1 => K (.i .u64 q1) ⟨0, []⟩)
  | _, _ => none
noncomputable def S36 {R : Type} (k : Nat) : Sum R := S36G soft_Nan k
theorem S36_ok0 {R : Type} (k : Nat) : SumOk Try.prog 36 false (S36 k : Sum R) := by
  intro args H K r h
  unfold S36 S36G at h
  split at h
  · exact fnK_sound (cx36_ok k) 6 36 _ _ K r ((soft_Nan_gen soft_shape_nan soft_shapeOf k _ K).trans h)
  · cases h
theorem S36_ok {R : Type} (k : Nat) : SumOk Try.prog 36 true (S36 k : Sum R) := by
  refine sumOk_keep (S36_ok0 k) ?_
  intro args H K r h
  unfold S36 S36G at h ⊢
  split at h
  · refine Eq.trans ?_ h
    show soft_Nan k _ _ = soft_Nan k _ _
    congr 1
    all_goals first | exact (funext fun q1 => if_pos (keeps_app _ _ _ [])) | skip
  · cases h
-- function 73: (plumbline/soft.float).rank
noncomputable def fi73 : FnI := ⟨73, Try.f73, []⟩
theorem en73 : Enters Try.prog 73 := enters_of Try.func73 (c := ((Try.f73).body.getD .skip)) (by kernel_rfl) (by kernel_rfl)
noncomputable def cx73 {R : Type} (k : Nat) : Cx R := mkCx Ty exts [(46, true, S46 k)] fi73 [] []
theorem cx73_ok {R : Type} (k : Nat) : CxOk Try.prog (cx73 k : Cx R) := mkCx_ok (c := ((Try.f73).body.getD .skip)) ty_ok mixed exts_ok (allSum_cons (S46_ok k) en46 allSum_nil) Try.func73 en73 (by kernel_rfl) (by kernel_rfl) allLoop_nil allCut_nil
@[reducible] def soft_float_rankY (R : Type) : Type := Nat → Int → Int → Int → Int → Bool → Int → Int → Int → (Int → Option R) → Option R
noncomputable def soft_float_rankT {R : Type} (soft_shape_sign : soft_shape_signY R) (k : Nat) (a1 : Int) (a2 : Int) (a3 : Int) (a4 : Int) (a5 : Bool) (a6 : Int) (a7 : Int) (a8 : Int) (K0 : Int → Option R) : Option R :=
  soft_shape_sign k a1 a2 a3 true (fun r1 =>
    cond a5 (
      K0 (Wi64 (0 - (Wi64 (bAndNot .u64 a8 r1))))) (
      K0 (Wi64 (bAndNot .u64 a8 r1))))
noncomputable def soft_float_rank {R : Type} (k : Nat) (a1 : Int) (a2 : Int) (a3 : Int) (a4 : Int) (a5 : Bool) (a6 : Int) (a7 : Int) (a8 : Int) (K0 : Int → Option R) : Option R := soft_float_rankT soft_shape_sign k a1 a2 a3 a4 a5 a6 a7 a8 K0
theorem soft_float_rank_gen {R : Type} (soft_shape_sign : soft_shape_signY R) (k : Nat) (a1 : Int) (a2 : Int) (a3 : Int) (a4 : Int) (a5 : Bool) (a6 : Int) (a7 : Int) (a8 : Int) (K : AV → Heap → Option R) :
    fnK (mkCx Ty exts [(46, true, S46G soft_shape_sign k)] fi73 [] []) 6 73 [.agg [.i .i64 a1, .i .i64 a2, .i .i64 a3, .i .i64 a4, .b a5, .i .u64 a6, .i .i64 a7], .i .u64 a8] ⟨0, []⟩ K = soft_float_rankT soft_shape_sign k a1 a2 a3 a4 a5 a6 a7 a8 (fun q1 => K (.i .i64 q1) ⟨0, []⟩) := by kernel_rfl
noncomputable def S73G {R : Type} (soft_float_rank : soft_float_rankY R) (k : Nat) : Sum R := fun args H K => match args, H with
  | [.agg [.i .i64 a1, .i .i64 a2, .i .i64 a3, .i .i64 a4, .b a5, .i .u64 a6, .i .i64 a7], .i .u64 a8], ⟨0, []⟩ => soft_float_rank k a1 a2 a3 a4 a5 a6 a7 a8 (fun q1 => K (.i .i64 q1) ⟨0, []⟩)
  | _, _ => none
noncomputable def S73 {R : Type} (k : Nat) : Sum R := S73G soft_float_rank k
theorem S73_ok0 {R : Type} (k : Nat) : SumOk Try.prog 73 false (S73 k : Sum R) := by
  intro args H K r h
  unfold S73 S73G at h
  split at h
  · exact fnK_sound (cx73_ok k) 6 73 _ _ K r ((soft_float_rank_gen soft_shape_sign k _ _ _ _ _ _ _ _ K).trans h)
  · cases h
theorem S73_ok {R : Type} (k : Nat) : SumOk Try.prog 73 true (S73 k : Sum R) := by
  refine sumOk_keep (S73_ok0 k) ?_
  intro args H K r h
  unfold S73 S73G at h ⊢
  split at h
  · refine Eq.trans ?_ h
    show soft_float_rank k _ _ _ _ _ _ _ _ _ = soft_float_rank k _ _ _ _ _ _ _ _ _
    congr 1
    all_goals first | exact (funext fun q1 => if_pos (keeps_app _ _ _ [])) | skip
  · cases h
-- function 38: plumbline/soft.Compare
noncomputable def fi38 : FnI := ⟨38, Try.f38, []⟩
theorem en38 : Enters Try.prog 38 := enters_of Try.func38 (c := ((Try.f38).body.getD .skip)) (by kernel_rfl) (by kernel_rfl)
noncomputable def cx38 {R : Type} (k : Nat) : Cx R := mkCx Ty exts [(43, true, S43 k), (72, true, S72 k), (73, true, S73 k)] fi38 [] []
theorem cx38_ok {R : Type} (k : Nat) : CxOk Try.prog (cx38 k : Cx R) := mkCx_ok (c := ((Try.f38).body.getD .skip)) ty_ok mixed exts_ok (allSum_cons (S43_ok k) en43 (allSum_cons (S72_ok k) en72 (allSum_cons (S73_ok k) en73 allSum_nil))) Try.func38 en38 (by kernel_rfl) (by kernel_rfl) allLoop_nil allCut_nil
@[reducible] def soft_CompareY (R : Type) : Type := Nat → Int → Int → Int → (Int → Bool → Option R) → Option R
noncomputable def soft_CompareT {R : Type} (cmp_Compare_int64 : cmp_Compare_int64Y R) (soft_apart : soft_apartY R) (soft_float_rank : soft_float_rankY R) (k : Nat) (a1 : Int) (a2 : Int) (a3 : Int) (K0 : Int → Bool → Option R) : Option R :=
  soft_apart k a1 a2 (fun r1 r2 r3 r4 r5 r6 r7 =>
    soft_apart k a1 a3 (fun r8 r9 r10 r11 r12 r13 r14 =>
      cond (r4 == 0) (
        K0 0 false) (
        cond (r11 == 0) (
          K0 0 false) (
          soft_float_rank k r1 r2 r3 r4 r5 r6 r7 a2 (fun r15 =>
            soft_float_rank k r8 r9 r10 r11 r12 r13 r14 a3 (fun r16 =>
              cmp_Compare_int64 k r15 r16 (fun r17 =>
                K0 r17 true)))))))
noncomputable def soft_Compare {R : Type} (k : Nat) (a1 : Int) (a2 : Int) (a3 : Int) (K0 : Int → Bool → Option R) : Option R := soft_CompareT cmp_Compare_int64 soft_apart soft_float_rank k a1 a2 a3 K0
theorem soft_Compare_gen {R : Type} (soft_apart : soft_apartY R) (cmp_Compare_int64 : cmp_Compare_int64Y R) (soft_float_rank : soft_float_rankY R) (k : Nat) (a1 : Int) (a2 : Int) (a3 : Int) (K : AV → Heap → Option R) :
    fnK (mkCx Ty exts [(43, true, S43G soft_apart k), (72, true, S72G cmp_Compare_int64 k), (73, true, S73G soft_float_rank k)] fi38 [] []) 6 38 [.i .i64 a1, .i .u64 a2, .i .u64 a3] ⟨0, []⟩ K = soft_CompareT cmp_Compare_int64 soft_apart soft_float_rank k a1 a2 a3 (fun q1 q2 => K (.tup [.i .i64 q1, .b q2]) ⟨0, []⟩) := by kernel_rfl
noncomputable def S38G {R : Type} (soft_Compare : soft_CompareY R) (k : Nat) : Sum R := fun args H K => match args, H with
  | [.i .i64 a1, .i .u64 a2, .i .u64 a3], ⟨0, []⟩ => soft_Compare k a1 a2 a3 (fun q1 q2 => K (.tup [.i .i64 q1, .b q2]) ⟨0, []⟩)
  | _, _ => none
noncomputable def S38 {R : Type} (k : Nat) : Sum R := S38G soft_Compare k
theorem S38_ok0 {R : Type} (k : Nat) : SumOk Try.prog 38 false (S38 k : Sum R) := by
  intro args H K r h
  unfold S38 S38G at h
  split at h
  · exact fnK_sound (cx38_ok k) 6 38 _ _ K r ((soft_Compare_gen soft_apart cmp_Compare_int64 soft_float_rank k _ _ _ K).trans h)
  · cases h
theorem S38_ok {R : Type} (k : Nat) : SumOk Try.prog 38 true (S38 k : Sum R) := by
  refine sumOk_keep (S38_ok0 k) ?_
  intro args H K r h
  unfold S38 S38G at h ⊢
  split at h
  · refine Eq.trans ?_ h
    show soft_Compare k _ _ _ _ = soft_Compare k _ _ _ _
    congr 1
    all_goals first | exact (funext fun q1 => funext fun q2 => if_pos (keeps_app _ _ _ [])) | skip
  · cases h
-- function 20: plumbline/soft.Sub
noncomputable def fi20 : FnI := ⟨20, Try.f20, []⟩
theorem en20 : Enters Try.prog 20 := enters_of Try.func20 (c := ((Try.f20).body.getD .skip)) (by kernel_rfl) (by kernel_rfl)
noncomputable def cx20 {R : Type} (k : Nat) : Cx R := mkCx Ty exts [(18, true, S18 k), (28, true, S28 k)] fi20 [] []
theorem cx20_ok {R : Type} (k : Nat) : CxOk Try.prog (cx20 k : Cx R) := mkCx_ok (c := ((Try.f20).body.getD .skip)) ty_ok mixed exts_ok (allSum_cons (S18_ok k) en18 (allSum_cons (S28_ok k) en28 allSum_nil)) Try.func20 en20 (by kernel_rfl) (by kernel_rfl) allLoop_nil allCut_nil
@[reducible] def soft_SubY (R : Type) : Type := Nat → Int → Int → Int → Int → (Int → Option R) → Option R
noncomputable def soft_SubT {R : Type} (soft_Add : soft_AddY R) (soft_Neg : soft_NegY R) (k : Nat) (a1 : Int) (a2 : Int) (a3 : Int) (a4 : Int) (K0 : Int → Option R) : Option R :=
  soft_Neg k a1 a4 (fun r1 =>
    soft_Add k a1 a2 a3 r1 (fun r2 =>
      K0 r2))
noncomputable def soft_Sub {R : Type} (k : Nat) (a1 : Int) (a2 : Int) (a3 : Int) (a4 : Int) (K0 : Int → Option R) : Option R := soft_SubT soft_Add soft_Neg k a1 a2 a3 a4 K0
theorem soft_Sub_gen {R : Type} (soft_Add : soft_AddY R) (soft_Neg : soft_NegY R) (k : Nat) (a1 : Int) (a2 : Int) (a3 : Int) (a4 : Int) (K : AV → Heap → Option R) :
    fnK (mkCx Ty exts [(18, true, S18G soft_Add k), (28, true, S28G soft_Neg k)] fi20 [] []) 6 20 [.i .i64 a1, .i .i64 a2, .i .u64 a3, .i .u64 a4] ⟨0, []⟩ K = soft_SubT soft_Add soft_Neg k a1 a2 a3 a4 (fun q1 => K (.i .u64 q1) ⟨0, []⟩) := by kernel_rfl
noncomputable def S20G {R : Type} (soft_Sub : soft_SubY R) (k : Nat) : Sum R := fun args H K => match args, H with
  | [.i .i64 a1, .i .i64 a2, .i .u64 a3, .i .u64 a4], ⟨0, []⟩ => soft_Sub k a1 a2 a3 a4 (fun q1 => K (.i .u64 q1) ⟨0, []⟩)
  | _, _ => none
noncomputable def S20 {R : Type} (k : Nat) : Sum R := S20G soft_Sub k
theorem S20_ok0 {R : Type} (k : Nat) : SumOk Try.prog 20 false (S20 k : Sum R) := by
  intro args H K r h
  unfold S20 S20G at h
  split at h
  · exact fnK_sound (cx20_ok k) 6 20 _ _ K r ((soft_Sub_gen soft_Add soft_Neg k _ _ _ _ K).trans h)
  · cases h
theorem S20_ok {R : Type} (k : Nat) : SumOk Try.prog 20 true (S20 k : Sum R) := by
  refine sumOk_keep (S20_ok0 k) ?_
  intro args H K r h
  unfold S20 S20G at h ⊢
  split at h
  · refine Eq.trans ?_ h
    show soft_Sub k _ _ _ _ _ = soft_Sub k _ _ _ _ _
    congr 1
    all_goals first | exact (funext fun q1 => if_pos (keeps_app _ _ _ [])) | skip
  · cases h
-- function 24: plumbline/soft.Mul
noncomputable def fi24 : FnI := ⟨24, Try.f24, []⟩
theorem en24 : Enters Try.prog 24 := enters_of Try.func24 (c := ((Try.f24).body.getD .skip)) (by kernel_rfl) (by kernel_rfl)
noncomputable def cx24 {R : Type} (k : Nat) : Cx R := mkCx Ty exts [(43, true, S43 k), (44, true, S44 k), (45, true, S45 k), (50, true, S50 k), (67, true, S67 k)] fi24 [] []
theorem cx24_ok {R : Type} (k : Nat) : CxOk Try.prog (cx24 k : Cx R) := mkCx_ok (c := ((Try.f24).body.getD .skip)) ty_ok mixed exts_ok (allSum_cons (S43_ok k) en43 (allSum_cons (S44_ok k) en44 (allSum_cons (S45_ok k) en45 (allSum_cons (S50_ok k) en50 (allSum_cons (S67_ok k) en67 allSum_nil))))) Try.func24 en24 (by kernel_rfl) (by kernel_rfl) allLoop_nil allCut_nil
@[reducible] def soft_MulY (R : Type) : Type := Nat → Int → Int → Int → Int → (Int → Option R) → Option R
noncomputable def soft_MulT {R : Type} (soft_apart : soft_apartY R) (soft_shape_inf : soft_shape_infY R) (soft_shape_nan : soft_shape_nanY R) (soft_shape_round : soft_shape_roundY R) (wide_Mul : wide_MulY R) (k : Nat) (a1 : Int) (a2 : Int) (a3 : Int) (a4 : Int) (K0 : Int → Option R) : Option R :=
  soft_apart k a1 a3 (fun r1 r2 r3 r4 r5 r6 r7 =>
    soft_apart k a1 a4 (fun r8 r9 r10 r11 r12 r13 r14 =>
      cond ((if r11 < r4 then r11 else r4) == 0) (
        soft_shape_nan k r1 r2 r3 (fun r15 =>
          K0 r15)) (
        cond ((if r11 < r4 then r11 else r4) == 1) (
          cond ((if r11 > r4 then r11 else r4) == 2) (
            soft_shape_nan k r1 r2 r3 (fun r16 =>
              K0 r16)) (
            cond ((if r11 < r4 then r11 else r4) == 1) (
              soft_shape_inf k r1 r2 r3 (!(r5 == r12)) (fun r17 =>
                K0 r17)) (
              wide_Mul k r6 r13 (fun r18 r19 =>
                soft_shape_round k r1 r2 r3 a2 (!(r5 == r12)) r18 r19 (Wi64 (r7 + r14)) false (fun r20 =>
                  K0 r20))))) (
          cond ((if r11 < r4 then r11 else r4) == 1) (
            soft_shape_inf k r1 r2 r3 (!(r5 == r12)) (fun r21 =>
              K0 r21)) (
            wide_Mul k r6 r13 (fun r22 r23 =>
              soft_shape_round k r1 r2 r3 a2 (!(r5 == r12)) r22 r23 (Wi64 (r7 + r14)) false (fun r24 =>
                K0 r24)))))))
noncomputable def soft_Mul {R : Type} (k : Nat) (a1 : Int) (a2 : Int) (a3 : Int) (a4 : Int) (K0 : Int → Option R) : Option R := soft_MulT soft_apart soft_shape_inf soft_shape_nan soft_shape_round wide_Mul k a1 a2 a3 a4 K0
theorem soft_Mul_gen {R : Type} (soft_apart : soft_apartY R) (soft_shape_nan : soft_shape_nanY R) (soft_shape_inf : soft_shape_infY R) (soft_shape_round : soft_shape_roundY R) (wide_Mul : wide_MulY R) (k : Nat) (a1 : Int) (a2 : Int) (a3 : Int) (a4 : Int) (K : AV → Heap → Option R) :
    fnK (mkCx Ty exts [(43, true, S43G soft_apart k), (44, true, S44G soft_shape_nan k), (45, true, S45G soft_shape_inf k), (50, true, S50G soft_shape_round k), (67, true, S67G wide_Mul k)] fi24 [] []) 6 24 [.i .i64 a1, .i .i64 a2, .i .u64 a3, .i .u64 a4] ⟨0, []⟩ K = soft_MulT soft_apart soft_shape_inf soft_shape_nan soft_shape_round wide_Mul k a1 a2 a3 a4 (fun q1 => K (.i .u64 q1) ⟨0, []⟩) := by kernel_rfl
noncomputable def S24G {R : Type} (soft_Mul : soft_MulY R) (k : Nat) : Sum R := fun args H K => match args, H with
  | [.i .i64 a1, .i .i64 a2, .i .u64 a3, .i .u64 a4], ⟨0, []⟩ => soft_Mul k a1 a2 a3 a4 (fun q1 => K (.i .u64 q1) ⟨0, []⟩)
  | _, _ => none
noncomputable def S24 {R : Type} (k : Nat) : Sum R := S24G soft_Mul k
theorem S24_ok0 {R : Type} (k : Nat) : SumOk Try.prog 24 false (S24 k : Sum R) := by
  intro args H K r h
  unfold S24 S24G at h
  split at h
  · exact fnK_sound (cx24_ok k) 6 24 _ _ K r ((soft_Mul_gen soft_apart soft_shape_nan soft_shape_inf soft_shape_round wide_Mul k _ _ _ _ K).trans h)
  · cases h
theorem S24_ok {R : Type} (k : Nat) : SumOk Try.prog 24 true (S24 k : Sum R) := by
  refine sumOk_keep (S24_ok0 k) ?_
  intro args H K r h
  unfold S24 S24G at h ⊢
  split at h
  · refine Eq.trans ?_ h
    show soft_Mul k _ _ _ _ _ = soft_Mul k _ _ _ _ _
    congr 1
    all_goals first | exact (funext fun q1 => if_pos (keeps_app _ _ _ [])) | skip
  · cases h
-- function 41: plumbline/soft.Sqrt
noncomputable def fi41 : FnI := ⟨41, Try.f41, []⟩
theorem en41 : Enters Try.prog 41 := enters_of Try.func41 (c := ((Try.f41).body.getD .skip)) (by kernel_rfl) (by kernel_rfl)
noncomputable def cx41 {R : Type} (k : Nat) : Cx R := mkCx Ty exts [(43, true, S43 k), (44, true, S44 k), (47, true, S47 k), (49, true, S49 k), (50, true, S50 k), (75, true, S75 k)] fi41 [] []
theorem cx41_ok {R : Type} (k : Nat) : CxOk Try.prog (cx41 k : Cx R) := mkCx_ok (c := ((Try.f41).body.getD .skip)) ty_ok mixed exts_ok (allSum_cons (S43_ok k) en43 (allSum_cons (S44_ok k) en44 (allSum_cons (S47_ok k) en47 (allSum_cons (S49_ok k) en49 (allSum_cons (S50_ok k) en50 (allSum_cons (S75_ok k) en75 allSum_nil)))))) Try.func41 en41 (by kernel_rfl) (by kernel_rfl) allLoop_nil allCut_nil
@[reducible] def soft_SqrtY (R : Type) : Type := Nat → Int → Int → Int → (Int → Option R) → Option R
noncomputable def soft_SqrtT {R : Type} (soft_apart : soft_apartY R) (soft_shape_nan : soft_shape_nanY R) (soft_shape_round : soft_shape_roundY R) (wide_Len : wide_LenY R) (wide_Shl : wide_ShlY R) (wide_Sqrt : wide_SqrtY R) (k : Nat) (a1 : Int) (a2 : Int) (a3 : Int) (K0 : Int → Option R) : Option R :=
  soft_apart k a1 a3 (fun r1 r2 r3 r4 r5 r6 r7 =>
    cond (r4 == 2) (
      K0 a3) (
      cond (r4 == 1) (
        cond (!r5) (
          K0 a3) (
          cond (r4 == 0) (
            soft_shape_nan k r1 r2 r3 (fun r8 =>
              K0 r8)) (
            cond r5 (
              soft_shape_nan k r1 r2 r3 (fun r9 =>
                K0 r9)) (
              wide_Len k 0 r6 (fun r10 =>
                cond ((Int.tmod (Wi64 (r7 - (Wi64 (126 - r10)))) 2) != 0) (
                  wide_Shl k 0 r6 (Wi64 ((Wi64 (126 - r10)) + 1)) (fun r11 r12 =>
                    wide_Sqrt k r11 r12 (fun r13 r14 r15 =>
                      soft_shape_round k r1 r2 r3 a2 false 0 r13 (Wi64 (Int.tdiv (Wi64 (r7 - (Wi64 ((Wi64 (126 - r10)) + 1)))) 2)) (!((r14 == 0) && (r15 == 0))) (fun r16 =>
                        K0 r16)))) (
                  wide_Shl k 0 r6 (Wi64 (126 - r10)) (fun r17 r18 =>
                    wide_Sqrt k r17 r18 (fun r19 r20 r21 =>
                      soft_shape_round k r1 r2 r3 a2 false 0 r19 (Wi64 (Int.tdiv (Wi64 (r7 - (Wi64 (126 - r10)))) 2)) (!((r20 == 0) && (r21 == 0))) (fun r22 =>
                        K0 r22))))))))) (
        cond (r4 == 0) (
          soft_shape_nan k r1 r2 r3 (fun r23 =>
            K0 r23)) (
          cond r5 (
            soft_shape_nan k r1 r2 r3 (fun r24 =>
              K0 r24)) (
            wide_Len k 0 r6 (fun r25 =>
              cond ((Int.tmod (Wi64 (r7 - (Wi64 (126 - r25)))) 2) != 0) (
                wide_Shl k 0 r6 (Wi64 ((Wi64 (126 - r25)) + 1)) (fun r26 r27 =>
                  wide_Sqrt k r26 r27 (fun r28 r29 r30 =>
                    soft_shape_round k r1 r2 r3 a2 false 0 r28 (Wi64 (Int.tdiv (Wi64 (r7 - (Wi64 ((Wi64 (126 - r25)) + 1)))) 2)) (!((r29 == 0) && (r30 == 0))) (fun r31 =>
                      K0 r31)))) (
                wide_Shl k 0 r6 (Wi64 (126 - r25)) (fun r32 r33 =>
                  wide_Sqrt k r32 r33 (fun r34 r35 r36 =>
                    soft_shape_round k r1 r2 r3 a2 false 0 r34 (Wi64 (Int.tdiv (Wi64 (r7 - (Wi64 (126 - r25)))) 2)) (!((r35 == 0) && (r36 == 0))) (fun r37 =>
                      K0 r37))))))))))
noncomputable def soft_Sqrt {R : Type} (k : Nat) (a1 : Int) (a2 : Int) (a3 : Int) (K0 : Int → Option R) : Option R := soft_SqrtT soft_apart soft_shape_nan soft_shape_round wide_Len wide_Shl wide_Sqrt k a1 a2 a3 K0
theorem soft_Sqrt_gen {R : Type} (soft_apart : soft_apartY R) (soft_shape_nan : soft_shape_nanY R) (wide_Len : wide_LenY R) (wide_Shl : wide_ShlY R) (soft_shape_round : soft_shape_roundY R) (wide_Sqrt : wide_SqrtY R) (k : Nat) (a1 : Int) (a2 : Int) (a3 : Int) (K : AV → Heap → Option R) :
    fnK (mkCx Ty exts [(43, true, S43G soft_apart k), (44, true, S44G soft_shape_nan k), (47, true, S47G wide_Len k), (49, true, S49G wide_Shl k), (50, true, S50G soft_shape_round k), (75, true, S75G wide_Sqrt k)] fi41 [] []) 6 41 [.i .i64 a1, .i .i64 a2, .i .u64 a3] ⟨0, []⟩ K = soft_SqrtT soft_apart soft_shape_nan soft_shape_round wide_Len wide_Shl wide_Sqrt k a1 a2 a3 (fun q1 => K (.i .u64 q1) ⟨0, []⟩) := by kernel_rfl
noncomputable def S41G {R : Type} (soft_Sqrt : soft_SqrtY R) (k : Nat) : Sum R := fun args H K => match args, H with
  | [.i .i64 a1, .i .i64 a2, .i .u64 a3], ⟨0, []⟩ => soft_Sqrt k a1 a2 a3 (fun q1 => K (.i .u64 q1) ⟨0, []⟩)
  | _, _ => none
noncomputable def S41 {R : Type} (k : Nat) : Sum R := S41G soft_Sqrt k
theorem S41_ok0 {R : Type} (k : Nat) : SumOk Try.prog 41 false (S41 k : Sum R) := by
  intro args H K r h
  unfold S41 S41G at h
  split at h
  · exact fnK_sound (cx41_ok k) 6 41 _ _ K r ((soft_Sqrt_gen soft_apart soft_shape_nan wide_Len wide_Shl soft_shape_round wide_Sqrt k _ _ _ K).trans h)
  · cases h
theorem S41_ok {R : Type} (k : Nat) : SumOk Try.prog 41 true (S41 k : Sum R) := by
  refine sumOk_keep (S41_ok0 k) ?_
  intro args H K r h
  unfold S41 S41G at h ⊢
  split at h
  · refine Eq.trans ?_ h
    show soft_Sqrt k _ _ _ _ = soft_Sqrt k _ _ _ _
    congr 1
    all_goals first | exact (funext fun q1 => if_pos (keeps_app _ _ _ [])) | skip
  · cases h
-- function 22: plumbline/soft.Round
noncomputable def fi22 : FnI := ⟨22, Try.f22, []⟩
theorem en22 : Enters Try.prog 22 := enters_of Try.func22 (c := ((Try.f22).body.getD .skip)) (by kernel_rfl) (by kernel_rfl)
noncomputable def cx22 {R : Type} (k : Nat) : Cx R := mkCx Ty exts [(47, true, S47 k), (49, true, S49 k), (50, true, S50 k), (65, true, S65 k)] fi22 [] []
theorem cx22_ok {R : Type} (k : Nat) : CxOk Try.prog (cx22 k : Cx R) := mkCx_ok (c := ((Try.f22).body.getD .skip)) ty_ok mixed exts_ok (allSum_cons (S47_ok k) en47 (allSum_cons (S49_ok k) en49 (allSum_cons (S50_ok k) en50 (allSum_cons (S65_ok k) en65 allSum_nil)))) Try.func22 en22 (by kernel_rfl) (by kernel_rfl) allLoop_nil allCut_nil
@[reducible] def soft_RoundY (R : Type) : Type := Nat → Int → Int → Bool → Int → Int → Int → Bool → (Int → Option R) → Option R
noncomputable def soft_RoundT {R : Type} (soft_shapeOf : soft_shapeOfY R) (soft_shape_round : soft_shape_roundY R) (wide_Len : wide_LenY R) (wide_Shl : wide_ShlY R) (k : Nat) (a1 : Int) (a2 : Int) (a3 : Bool) (a4 : Int) (a5 : Int) (a6 : Int) (a7 : Bool) (K0 : Int → Option R) : Option R :=
  soft_shapeOf k a1 (fun r1 r2 r3 =>
    cond a7 (
      wide_Len k a4 a5 (fun r4 =>
        cond (decide (r4 ≤ 126)) (
          wide_Shl k a4 a5 2 (fun r5 r6 =>
            soft_shape_round k r1 r2 r3 a2 a3 r5 (bOr .u64 r6 1) (Wi64 ((if 4000 < (if (-4000) > a6 then (-4000) else a6) then 4000 else (if (-4000) > a6 then (-4000) else a6)) - 2)) false (fun r7 =>
              K0 r7))) (
          soft_shape_round k r1 r2 r3 a2 a3 a4 a5 (if 4000 < (if (-4000) > a6 then (-4000) else a6) then 4000 else (if (-4000) > a6 then (-4000) else a6)) a7 (fun r8 =>
            K0 r8)))) (
      soft_shape_round k r1 r2 r3 a2 a3 a4 a5 (if 4000 < (if (-4000) > a6 then (-4000) else a6) then 4000 else (if (-4000) > a6 then (-4000) else a6)) a7 (fun r9 =>
        K0 r9)))
noncomputable def soft_Round {R : Type} (k : Nat) (a1 : Int) (a2 : Int) (a3 : Bool) (a4 : Int) (a5 : Int) (a6 : Int) (a7 : Bool) (K0 : Int → Option R) : Option R := soft_RoundT soft_shapeOf soft_shape_round wide_Len wide_Shl k a1 a2 a3 a4 a5 a6 a7 K0
theorem soft_Round_gen {R : Type} (wide_Len : wide_LenY R) (wide_Shl : wide_ShlY R) (soft_shape_round : soft_shape_roundY R) (soft_shapeOf : soft_shapeOfY R) (k : Nat) (a1 : Int) (a2 : Int) (a3 : Bool) (a4 : Int) (a5 : Int) (a6 : Int) (a7 : Bool) (K : AV → Heap → Option R) :
    fnK (mkCx Ty exts [(47, true, S47G wide_Len k), (49, true, S49G wide_Shl k), (50, true, S50G soft_shape_round k), (65, true, S65G soft_shapeOf k)] fi22 [] []) 6 22 [.i .i64 a1, .i .i64 a2, .b a3, .agg [.i .u64 a4, .i .u64 a5], .i .i64 a6, .b a7] ⟨0, []⟩ K = soft_RoundT soft_shapeOf soft_shape_round wide_Len wide_Shl k a1 a2 a3 a4 a5 a6 a7 (fun q1 => K (.i .u64 q1) ⟨0, []⟩) := by kernel_rfl
noncomputable def S22G {R : Type} (soft_Round : soft_RoundY R) (k : Nat) : Sum R := fun args H K => match args, H with
  | [.i .i64 a1, .i .i64 a2, .b a3, .agg [.i .u64 a4, .i .u64 a5], .i .i64 a6, .b a7], ⟨0, []⟩ => soft_Round k a1 a2 a3 a4 a5 a6 a7 (fun q1 => K (.i .u64 q1) ⟨0, []⟩)
  | _, _ => none
noncomputable def S22 {R : Type} (k : Nat) : Sum R := S22G soft_Round k
theorem S22_ok0 {R : Type} (k : Nat) : SumOk Try.prog 22 false (S22 k : Sum R) := by
  intro args H K r h
  unfold S22 S22G at h
  split at h
  · exact fnK_sound (cx22_ok k) 6 22 _ _ K r ((soft_Round_gen wide_Len wide_Shl soft_shape_round soft_shapeOf k _ _ _ _ _ _ _ K).trans h)
  · cases h
theorem S22_ok {R : Type} (k : Nat) : SumOk Try.prog 22 true (S22 k : Sum R) := by
  refine sumOk_keep (S22_ok0 k) ?_
  intro args H K r h
  unfold S22 S22G at h ⊢
  split at h
  · refine Eq.trans ?_ h
    show soft_Round k _ _ _ _ _ _ _ _ = soft_Round k _ _ _ _ _ _ _ _
    congr 1
    all_goals first | exact (funext fun q1 => if_pos (keeps_app _ _ _ [])) | skip
  · cases h
end Go.Proofs.Ytbnmnkofekcodaa.N
