/- Printed by wip/gen/emit.py: functions of the program as plain Lean functions, tied to the model by the evaluator. Conditions: none. -/
import Derived.Test.YtejfnbjhcohkiaaNlib
import Derived.Test.YtejfnbjhcohkiaaNwide
namespace Go.Proofs.Ytejfnbjhcohkiaa.N
set_option linter.unusedVariables false
set_option maxRecDepth 100000
open Go Go.Ab
-- function 70: plumbline/soft.shapeOf
noncomputable def fi70 : FnI := ⟨70, Try.f70, []⟩
theorem en70 : Enters Try.prog 70 := enters_of Try.func70 (c := ((Try.f70).body.getD .skip)) (by kernel_rfl) (by kernel_rfl)
noncomputable def cx70 {R : Type} (k : Nat) : Cx R := mkCx Ty exts [] fi70 [] []
theorem cx70_ok {R : Type} (k : Nat) : CxOk Try.prog (cx70 k : Cx R) := mkCx_ok (c := ((Try.f70).body.getD .skip)) ty_ok mixed exts_ok allSum_nil Try.func70 en70 (by kernel_rfl) (by kernel_rfl) allLoop_nil allCut_nil
@[reducible] def soft_shapeOfY (R : Type) : Type := Nat → Int → (Int → Int → Int → Option R) → Option R
noncomputable def soft_shapeOfT {R : Type} (k : Nat) (a1 : Int) (K0 : Int → Int → Int → Option R) : Option R :=
  cond (a1 == 1) (
    K0 23 8 (-149)) (
    K0 52 11 (-1074))
noncomputable def soft_shapeOf {R : Type} (k : Nat) (a1 : Int) (K0 : Int → Int → Int → Option R) : Option R := soft_shapeOfT k a1 K0
theorem soft_shapeOf_gen {R : Type} (k : Nat) (a1 : Int) (K : AV → Heap → Option R) :
    fnK (mkCx Ty exts [] fi70 [] []) 6 70 [.i .i64 a1] ⟨0, []⟩ K = soft_shapeOfT k a1 (fun q1 q2 q3 => K (.agg [.i .i64 q1, .i .i64 q2, .i .i64 q3]) ⟨0, []⟩) := by kernel_rfl
noncomputable def S70G {R : Type} (soft_shapeOf : soft_shapeOfY R) (k : Nat) : Sum R := fun args H K => match args, H with
  | [.i .i64 a1], ⟨0, []⟩ => soft_shapeOf k a1 (fun q1 q2 q3 => K (.agg [.i .i64 q1, .i .i64 q2, .i .i64 q3]) ⟨0, []⟩)
  | _, _ => none
noncomputable def S70 {R : Type} (k : Nat) : Sum R := S70G soft_shapeOf k
theorem S70_ok0 {R : Type} (k : Nat) : SumOk Try.prog 70 false (S70 k : Sum R) := by
  intro args H K r h
  unfold S70 S70G at h
  split at h
  · exact fnK_sound (cx70_ok k) 6 70 _ _ K r ((soft_shapeOf_gen k _ K).trans h)
  · cases h
theorem S70_ok {R : Type} (k : Nat) : SumOk Try.prog 70 true (S70 k : Sum R) := by
  refine sumOk_keep (S70_ok0 k) ?_
  intro args H K r h
  unfold S70 S70G at h ⊢
  split at h
  · refine Eq.trans ?_ h
    show soft_shapeOf k _ _ = soft_shapeOf k _ _
    exact congrArg (soft_shapeOf k _) (funext fun q1 => funext fun q2 => funext fun q3 => if_pos (keeps_app _ _ _ []))
  · cases h
-- function 71: (plumbline/soft.shape).full
noncomputable def fi71 : FnI := ⟨71, Try.f71, []⟩
theorem en71 : Enters Try.prog 71 := enters_of Try.func71 (c := ((Try.f71).body.getD .skip)) (by kernel_rfl) (by kernel_rfl)
noncomputable def cx71 {R : Type} (k : Nat) : Cx R := mkCx Ty exts [] fi71 [] []
theorem cx71_ok {R : Type} (k : Nat) : CxOk Try.prog (cx71 k : Cx R) := mkCx_ok (c := ((Try.f71).body.getD .skip)) ty_ok mixed exts_ok allSum_nil Try.func71 en71 (by kernel_rfl) (by kernel_rfl) allLoop_nil allCut_nil
@[reducible] def soft_shape_fullY (R : Type) : Type := Nat → Int → Int → Int → (Int → Option R) → Option R
noncomputable def soft_shape_fullT {R : Type} (k : Nat) (a1 : Int) (a2 : Int) (a3 : Int) (K0 : Int → Option R) : Option R :=
  cond (decide (a2 < 0)) (
    none) (
    K0 (Wu64 ((shl .u64 1 a2) - 1)))
noncomputable def soft_shape_full {R : Type} (k : Nat) (a1 : Int) (a2 : Int) (a3 : Int) (K0 : Int → Option R) : Option R := soft_shape_fullT k a1 a2 a3 K0
theorem soft_shape_full_gen {R : Type} (k : Nat) (a1 : Int) (a2 : Int) (a3 : Int) (K : AV → Heap → Option R) :
    fnK (mkCx Ty exts [] fi71 [] []) 6 71 [.agg [.i .i64 a1, .i .i64 a2, .i .i64 a3]] ⟨0, []⟩ K = soft_shape_fullT k a1 a2 a3 (fun q1 => K (.i .u64 q1) ⟨0, []⟩) := by kernel_rfl
noncomputable def S71G {R : Type} (soft_shape_full : soft_shape_fullY R) (k : Nat) : Sum R := fun args H K => match args, H with
  | [.agg [.i .i64 a1, .i .i64 a2, .i .i64 a3]], ⟨0, []⟩ => soft_shape_full k a1 a2 a3 (fun q1 => K (.i .u64 q1) ⟨0, []⟩)
  | _, _ => none
noncomputable def S71 {R : Type} (k : Nat) : Sum R := S71G soft_shape_full k
theorem S71_ok0 {R : Type} (k : Nat) : SumOk Try.prog 71 false (S71 k : Sum R) := by
  intro args H K r h
  unfold S71 S71G at h
  split at h
  · exact fnK_sound (cx71_ok k) 6 71 _ _ K r ((soft_shape_full_gen k _ _ _ K).trans h)
  · cases h
theorem S71_ok {R : Type} (k : Nat) : SumOk Try.prog 71 true (S71 k : Sum R) := by
  refine sumOk_keep (S71_ok0 k) ?_
  intro args H K r h
  unfold S71 S71G at h ⊢
  split at h
  · refine Eq.trans ?_ h
    show soft_shape_full k _ _ _ _ = soft_shape_full k _ _ _ _
    exact congrArg (soft_shape_full k _ _ _) (funext fun q1 => if_pos (keeps_app _ _ _ []))
  · cases h
-- function 57: (plumbline/soft.shape).sign
noncomputable def fi57 : FnI := ⟨57, Try.f57, []⟩
theorem en57 : Enters Try.prog 57 := enters_of Try.func57 (c := ((Try.f57).body.getD .skip)) (by kernel_rfl) (by kernel_rfl)
noncomputable def cx57 {R : Type} (k : Nat) : Cx R := mkCx Ty exts [] fi57 [] []
theorem cx57_ok {R : Type} (k : Nat) : CxOk Try.prog (cx57 k : Cx R) := mkCx_ok (c := ((Try.f57).body.getD .skip)) ty_ok mixed exts_ok allSum_nil Try.func57 en57 (by kernel_rfl) (by kernel_rfl) allLoop_nil allCut_nil
@[reducible] def soft_shape_signY (R : Type) : Type := Nat → Int → Int → Int → Bool → (Int → Option R) → Option R
noncomputable def soft_shape_signT {R : Type} (k : Nat) (a1 : Int) (a2 : Int) (a3 : Int) (a4 : Bool) (K0 : Int → Option R) : Option R :=
  cond a4 (
    cond (decide ((Wi64 (a1 + a2)) < 0)) (
      none) (
      K0 (shl .u64 1 (Wi64 (a1 + a2))))) (
    K0 0)
noncomputable def soft_shape_sign {R : Type} (k : Nat) (a1 : Int) (a2 : Int) (a3 : Int) (a4 : Bool) (K0 : Int → Option R) : Option R := soft_shape_signT k a1 a2 a3 a4 K0
theorem soft_shape_sign_gen {R : Type} (k : Nat) (a1 : Int) (a2 : Int) (a3 : Int) (a4 : Bool) (K : AV → Heap → Option R) :
    fnK (mkCx Ty exts [] fi57 [] []) 6 57 [.agg [.i .i64 a1, .i .i64 a2, .i .i64 a3], .b a4] ⟨0, []⟩ K = soft_shape_signT k a1 a2 a3 a4 (fun q1 => K (.i .u64 q1) ⟨0, []⟩) := by kernel_rfl
noncomputable def S57G {R : Type} (soft_shape_sign : soft_shape_signY R) (k : Nat) : Sum R := fun args H K => match args, H with
  | [.agg [.i .i64 a1, .i .i64 a2, .i .i64 a3], .b a4], ⟨0, []⟩ => soft_shape_sign k a1 a2 a3 a4 (fun q1 => K (.i .u64 q1) ⟨0, []⟩)
  | _, _ => none
noncomputable def S57 {R : Type} (k : Nat) : Sum R := S57G soft_shape_sign k
theorem S57_ok0 {R : Type} (k : Nat) : SumOk Try.prog 57 false (S57 k : Sum R) := by
  intro args H K r h
  unfold S57 S57G at h
  split at h
  · exact fnK_sound (cx57_ok k) 6 57 _ _ K r ((soft_shape_sign_gen k _ _ _ _ K).trans h)
  · cases h
theorem S57_ok {R : Type} (k : Nat) : SumOk Try.prog 57 true (S57 k : Sum R) := by
  refine sumOk_keep (S57_ok0 k) ?_
  intro args H K r h
  unfold S57 S57G at h ⊢
  split at h
  · refine Eq.trans ?_ h
    show soft_shape_sign k _ _ _ _ _ = soft_shape_sign k _ _ _ _ _
    exact congrArg (soft_shape_sign k _ _ _ _) (funext fun q1 => if_pos (keeps_app _ _ _ []))
  · cases h
-- function 46: plumbline/soft.apart
noncomputable def fi46 : FnI := ⟨46, Try.f46, []⟩
theorem en46 : Enters Try.prog 46 := enters_of Try.func46 (c := ((Try.f46).body.getD .skip)) (by kernel_rfl) (by kernel_rfl)
noncomputable def cx46 {R : Type} (k : Nat) : Cx R := mkCx Ty exts [(57, true, S57 k), (70, true, S70 k), (71, true, S71 k)] fi46 [] []
theorem cx46_ok {R : Type} (k : Nat) : CxOk Try.prog (cx46 k : Cx R) := mkCx_ok (c := ((Try.f46).body.getD .skip)) ty_ok mixed exts_ok (allSum_cons (S57_ok k) en57 (allSum_cons (S70_ok k) en70 (allSum_cons (S71_ok k) en71 allSum_nil))) Try.func46 en46 (by kernel_rfl) (by kernel_rfl) allLoop_nil allCut_nil
@[reducible] def soft_apartY (R : Type) : Type := Nat → Int → Int → (Int → Int → Int → Int → Bool → Int → Int → Option R) → Option R
noncomputable def soft_apartT {R : Type} (soft_shapeOf : soft_shapeOfY R) (soft_shape_full : soft_shape_fullY R) (soft_shape_sign : soft_shape_signY R) (k : Nat) (a1 : Int) (a2 : Int) (K0 : Int → Int → Int → Int → Bool → Int → Int → Option R) : Option R :=
  soft_shapeOf k a1 (fun r1 r2 r3 =>
    cond (a1 == 1) (
      cond ((shr .u64 a2 32) != 0) (
        K0 r1 r2 r3 0 false 0 0) (
        cond (decide (r1 < 0)) (
          none) (
          soft_shape_full k r1 r2 r3 (fun r4 =>
            cond (decide (r1 < 0)) (
              none) (
              soft_shape_sign k r1 r2 r3 true (fun r5 =>
                soft_shape_full k r1 r2 r3 (fun r6 =>
                  cond ((bAnd .u64 (shr .u64 a2 r1) r4) == r6) (
                    cond ((bAnd .u64 a2 (Wu64 ((shl .u64 1 r1) - 1))) != 0) (
                      K0 r1 r2 r3 0 ((bAnd .u64 a2 r5) != 0) 0 0) (
                      soft_shape_full k r1 r2 r3 (fun r7 =>
                        cond ((bAnd .u64 (shr .u64 a2 r1) r4) == r7) (
                          K0 r1 r2 r3 1 ((bAnd .u64 a2 r5) != 0) 0 0) (
                          cond ((bAnd .u64 (shr .u64 a2 r1) r4) == 0) (
                            cond ((bAnd .u64 a2 (Wu64 ((shl .u64 1 r1) - 1))) == 0) (
                              K0 r1 r2 r3 2 ((bAnd .u64 a2 r5) != 0) 0 0) (
                              cond ((bAnd .u64 (shr .u64 a2 r1) r4) == 0) (
                                K0 r1 r2 r3 3 ((bAnd .u64 a2 r5) != 0) (bAnd .u64 a2 (Wu64 ((shl .u64 1 r1) - 1))) r3) (
                                cond (decide (r1 < 0)) (
                                  none) (
                                  K0 r1 r2 r3 3 ((bAnd .u64 a2 r5) != 0) (bOr .u64 (bAnd .u64 a2 (Wu64 ((shl .u64 1 r1) - 1))) (shl .u64 1 r1)) (Wi64 ((Wi64 ((Wi64 (bAnd .u64 (shr .u64 a2 r1) r4)) - 1)) + r3)))))) (
                            cond ((bAnd .u64 (shr .u64 a2 r1) r4) == 0) (
                              K0 r1 r2 r3 3 ((bAnd .u64 a2 r5) != 0) (bAnd .u64 a2 (Wu64 ((shl .u64 1 r1) - 1))) r3) (
                              cond (decide (r1 < 0)) (
                                none) (
                                K0 r1 r2 r3 3 ((bAnd .u64 a2 r5) != 0) (bOr .u64 (bAnd .u64 a2 (Wu64 ((shl .u64 1 r1) - 1))) (shl .u64 1 r1)) (Wi64 ((Wi64 ((Wi64 (bAnd .u64 (shr .u64 a2 r1) r4)) - 1)) + r3))))))))) (
                    soft_shape_full k r1 r2 r3 (fun r8 =>
                      cond ((bAnd .u64 (shr .u64 a2 r1) r4) == r8) (
                        K0 r1 r2 r3 1 ((bAnd .u64 a2 r5) != 0) 0 0) (
                        cond ((bAnd .u64 (shr .u64 a2 r1) r4) == 0) (
                          cond ((bAnd .u64 a2 (Wu64 ((shl .u64 1 r1) - 1))) == 0) (
                            K0 r1 r2 r3 2 ((bAnd .u64 a2 r5) != 0) 0 0) (
                            cond ((bAnd .u64 (shr .u64 a2 r1) r4) == 0) (
                              K0 r1 r2 r3 3 ((bAnd .u64 a2 r5) != 0) (bAnd .u64 a2 (Wu64 ((shl .u64 1 r1) - 1))) r3) (
                              cond (decide (r1 < 0)) (
                                none) (
                                K0 r1 r2 r3 3 ((bAnd .u64 a2 r5) != 0) (bOr .u64 (bAnd .u64 a2 (Wu64 ((shl .u64 1 r1) - 1))) (shl .u64 1 r1)) (Wi64 ((Wi64 ((Wi64 (bAnd .u64 (shr .u64 a2 r1) r4)) - 1)) + r3)))))) (
                          cond ((bAnd .u64 (shr .u64 a2 r1) r4) == 0) (
                            K0 r1 r2 r3 3 ((bAnd .u64 a2 r5) != 0) (bAnd .u64 a2 (Wu64 ((shl .u64 1 r1) - 1))) r3) (
                            cond (decide (r1 < 0)) (
                              none) (
                              K0 r1 r2 r3 3 ((bAnd .u64 a2 r5) != 0) (bOr .u64 (bAnd .u64 a2 (Wu64 ((shl .u64 1 r1) - 1))) (shl .u64 1 r1)) (Wi64 ((Wi64 ((Wi64 (bAnd .u64 (shr .u64 a2 r1) r4)) - 1)) + r3))))))))))))))) (
      cond (decide (r1 < 0)) (
        none) (
        soft_shape_full k r1 r2 r3 (fun r9 =>
          cond (decide (r1 < 0)) (
            none) (
            soft_shape_sign k r1 r2 r3 true (fun r10 =>
              soft_shape_full k r1 r2 r3 (fun r11 =>
                cond ((bAnd .u64 (shr .u64 a2 r1) r9) == r11) (
                  cond ((bAnd .u64 a2 (Wu64 ((shl .u64 1 r1) - 1))) != 0) (
                    K0 r1 r2 r3 0 ((bAnd .u64 a2 r10) != 0) 0 0) (
                    soft_shape_full k r1 r2 r3 (fun r12 =>
                      cond ((bAnd .u64 (shr .u64 a2 r1) r9) == r12) (
                        K0 r1 r2 r3 1 ((bAnd .u64 a2 r10) != 0) 0 0) (
                        cond ((bAnd .u64 (shr .u64 a2 r1) r9) == 0) (
                          cond ((bAnd .u64 a2 (Wu64 ((shl .u64 1 r1) - 1))) == 0) (
                            K0 r1 r2 r3 2 ((bAnd .u64 a2 r10) != 0) 0 0) (
                            cond ((bAnd .u64 (shr .u64 a2 r1) r9) == 0) (
                              K0 r1 r2 r3 3 ((bAnd .u64 a2 r10) != 0) (bAnd .u64 a2 (Wu64 ((shl .u64 1 r1) - 1))) r3) (
                              cond (decide (r1 < 0)) (
                                none) (
                                K0 r1 r2 r3 3 ((bAnd .u64 a2 r10) != 0) (bOr .u64 (bAnd .u64 a2 (Wu64 ((shl .u64 1 r1) - 1))) (shl .u64 1 r1)) (Wi64 ((Wi64 ((Wi64 (bAnd .u64 (shr .u64 a2 r1) r9)) - 1)) + r3)))))) (
                          cond ((bAnd .u64 (shr .u64 a2 r1) r9) == 0) (
                            K0 r1 r2 r3 3 ((bAnd .u64 a2 r10) != 0) (bAnd .u64 a2 (Wu64 ((shl .u64 1 r1) - 1))) r3) (
                            cond (decide (r1 < 0)) (
                              none) (
                              K0 r1 r2 r3 3 ((bAnd .u64 a2 r10) != 0) (bOr .u64 (bAnd .u64 a2 (Wu64 ((shl .u64 1 r1) - 1))) (shl .u64 1 r1)) (Wi64 ((Wi64 ((Wi64 (bAnd .u64 (shr .u64 a2 r1) r9)) - 1)) + r3))))))))) (
                  soft_shape_full k r1 r2 r3 (fun r13 =>
                    cond ((bAnd .u64 (shr .u64 a2 r1) r9) == r13) (
                      K0 r1 r2 r3 1 ((bAnd .u64 a2 r10) != 0) 0 0) (
                      cond ((bAnd .u64 (shr .u64 a2 r1) r9) == 0) (
                        cond ((bAnd .u64 a2 (Wu64 ((shl .u64 1 r1) - 1))) == 0) (
                          K0 r1 r2 r3 2 ((bAnd .u64 a2 r10) != 0) 0 0) (
                          cond ((bAnd .u64 (shr .u64 a2 r1) r9) == 0) (
                            K0 r1 r2 r3 3 ((bAnd .u64 a2 r10) != 0) (bAnd .u64 a2 (Wu64 ((shl .u64 1 r1) - 1))) r3) (
                            cond (decide (r1 < 0)) (
                              none) (
                              K0 r1 r2 r3 3 ((bAnd .u64 a2 r10) != 0) (bOr .u64 (bAnd .u64 a2 (Wu64 ((shl .u64 1 r1) - 1))) (shl .u64 1 r1)) (Wi64 ((Wi64 ((Wi64 (bAnd .u64 (shr .u64 a2 r1) r9)) - 1)) + r3)))))) (
                        cond ((bAnd .u64 (shr .u64 a2 r1) r9) == 0) (
                          K0 r1 r2 r3 3 ((bAnd .u64 a2 r10) != 0) (bAnd .u64 a2 (Wu64 ((shl .u64 1 r1) - 1))) r3) (
                          cond (decide (r1 < 0)) (
                            none) (
                            K0 r1 r2 r3 3 ((bAnd .u64 a2 r10) != 0) (bOr .u64 (bAnd .u64 a2 (Wu64 ((shl .u64 1 r1) - 1))) (shl .u64 1 r1)) (Wi64 ((Wi64 ((Wi64 (bAnd .u64 (shr .u64 a2 r1) r9)) - 1)) + r3)))))))))))))))
noncomputable def soft_apart {R : Type} (k : Nat) (a1 : Int) (a2 : Int) (K0 : Int → Int → Int → Int → Bool → Int → Int → Option R) : Option R := soft_apartT soft_shapeOf soft_shape_full soft_shape_sign k a1 a2 K0
theorem soft_apart_gen {R : Type} (soft_shape_sign : soft_shape_signY R) (soft_shapeOf : soft_shapeOfY R) (soft_shape_full : soft_shape_fullY R) (k : Nat) (a1 : Int) (a2 : Int) (K : AV → Heap → Option R) :
    fnK (mkCx Ty exts [(57, true, S57G soft_shape_sign k), (70, true, S70G soft_shapeOf k), (71, true, S71G soft_shape_full k)] fi46 [] []) 6 46 [.i .i64 a1, .i .u64 a2] ⟨0, []⟩ K = soft_apartT soft_shapeOf soft_shape_full soft_shape_sign k a1 a2 (fun q1 q2 q3 q4 q5 q6 q7 => K (.agg [.i .i64 q1, .i .i64 q2, .i .i64 q3, .i .i64 q4, .b q5, .i .u64 q6, .i .i64 q7]) ⟨0, []⟩) := by kernel_rfl
noncomputable def S46G {R : Type} (soft_apart : soft_apartY R) (k : Nat) : Sum R := fun args H K => match args, H with
  | [.i .i64 a1, .i .u64 a2], ⟨0, []⟩ => soft_apart k a1 a2 (fun q1 q2 q3 q4 q5 q6 q7 => K (.agg [.i .i64 q1, .i .i64 q2, .i .i64 q3, .i .i64 q4, .b q5, .i .u64 q6, .i .i64 q7]) ⟨0, []⟩)
  | _, _ => none
noncomputable def S46 {R : Type} (k : Nat) : Sum R := S46G soft_apart k
theorem S46_ok0 {R : Type} (k : Nat) : SumOk Try.prog 46 false (S46 k : Sum R) := by
  intro args H K r h
  unfold S46 S46G at h
  split at h
  · exact fnK_sound (cx46_ok k) 6 46 _ _ K r ((soft_apart_gen soft_shape_sign soft_shapeOf soft_shape_full k _ _ K).trans h)
  · cases h
theorem S46_ok {R : Type} (k : Nat) : SumOk Try.prog 46 true (S46 k : Sum R) := by
  refine sumOk_keep (S46_ok0 k) ?_
  intro args H K r h
  unfold S46 S46G at h ⊢
  split at h
  · refine Eq.trans ?_ h
    show soft_apart k _ _ _ = soft_apart k _ _ _
    exact congrArg (soft_apart k _ _) (funext fun q1 => funext fun q2 => funext fun q3 => funext fun q4 => funext fun q5 => funext fun q6 => funext fun q7 => if_pos (keeps_app _ _ _ []))
  · cases h
-- function 19: plumbline/soft.Class
noncomputable def fi19 : FnI := ⟨19, Try.f19, []⟩
theorem en19 : Enters Try.prog 19 := enters_of Try.func19 (c := ((Try.f19).body.getD .skip)) (by kernel_rfl) (by kernel_rfl)
noncomputable def cx19 {R : Type} (k : Nat) : Cx R := mkCx Ty exts [(46, true, S46 k)] fi19 [] []
theorem cx19_ok {R : Type} (k : Nat) : CxOk Try.prog (cx19 k : Cx R) := mkCx_ok (c := ((Try.f19).body.getD .skip)) ty_ok mixed exts_ok (allSum_cons (S46_ok k) en46 allSum_nil) Try.func19 en19 (by kernel_rfl) (by kernel_rfl) allLoop_nil allCut_nil
@[reducible] def soft_ClassY (R : Type) : Type := Nat → Int → Int → (Int → Option R) → Option R
noncomputable def soft_ClassT {R : Type} (soft_apart : soft_apartY R) (k : Nat) (a1 : Int) (a2 : Int) (K0 : Int → Option R) : Option R :=
  soft_apart k a1 a2 (fun r1 r2 r3 r4 r5 r6 r7 =>
    cond (a1 == 1) (
      cond ((shr .u64 a2 32) != 0) (
        K0 0) (
        cond (r4 == 0) (
          K0 5) (
          cond (r4 == 1) (
            K0 4) (
            cond (r4 == 2) (
              K0 1) (
              cond (decide (r1 < 0)) (
                none) (
                cond ((shr .u64 r6 r1) == 0) (
                  K0 2) (
                  K0 3))))))) (
      cond (r4 == 0) (
        K0 5) (
        cond (r4 == 1) (
          K0 4) (
          cond (r4 == 2) (
            K0 1) (
            cond (decide (r1 < 0)) (
              none) (
              cond ((shr .u64 r6 r1) == 0) (
                K0 2) (
                K0 3)))))))
noncomputable def soft_Class {R : Type} (k : Nat) (a1 : Int) (a2 : Int) (K0 : Int → Option R) : Option R := soft_ClassT soft_apart k a1 a2 K0
theorem soft_Class_gen {R : Type} (soft_apart : soft_apartY R) (k : Nat) (a1 : Int) (a2 : Int) (K : AV → Heap → Option R) :
    fnK (mkCx Ty exts [(46, true, S46G soft_apart k)] fi19 [] []) 6 19 [.i .i64 a1, .i .u64 a2] ⟨0, []⟩ K = soft_ClassT soft_apart k a1 a2 (fun q1 => K (.i .i64 q1) ⟨0, []⟩) := by kernel_rfl
noncomputable def S19G {R : Type} (soft_Class : soft_ClassY R) (k : Nat) : Sum R := fun args H K => match args, H with
  | [.i .i64 a1, .i .u64 a2], ⟨0, []⟩ => soft_Class k a1 a2 (fun q1 => K (.i .i64 q1) ⟨0, []⟩)
  | _, _ => none
noncomputable def S19 {R : Type} (k : Nat) : Sum R := S19G soft_Class k
theorem S19_ok0 {R : Type} (k : Nat) : SumOk Try.prog 19 false (S19 k : Sum R) := by
  intro args H K r h
  unfold S19 S19G at h
  split at h
  · exact fnK_sound (cx19_ok k) 6 19 _ _ K r ((soft_Class_gen soft_apart k _ _ K).trans h)
  · cases h
theorem S19_ok {R : Type} (k : Nat) : SumOk Try.prog 19 true (S19 k : Sum R) := by
  refine sumOk_keep (S19_ok0 k) ?_
  intro args H K r h
  unfold S19 S19G at h ⊢
  split at h
  · refine Eq.trans ?_ h
    show soft_Class k _ _ _ = soft_Class k _ _ _
    exact congrArg (soft_Class k _ _) (funext fun q1 => if_pos (keeps_app _ _ _ []))
  · cases h
-- function 24: plumbline/soft.Finite
noncomputable def fi24 : FnI := ⟨24, Try.f24, []⟩
theorem en24 : Enters Try.prog 24 := enters_of Try.func24 (c := ((Try.f24).body.getD .skip)) (by kernel_rfl) (by kernel_rfl)
noncomputable def cx24 {R : Type} (k : Nat) : Cx R := mkCx Ty exts [(46, true, S46 k)] fi24 [] []
theorem cx24_ok {R : Type} (k : Nat) : CxOk Try.prog (cx24 k : Cx R) := mkCx_ok (c := ((Try.f24).body.getD .skip)) ty_ok mixed exts_ok (allSum_cons (S46_ok k) en46 allSum_nil) Try.func24 en24 (by kernel_rfl) (by kernel_rfl) allLoop_nil allCut_nil
@[reducible] def soft_FiniteY (R : Type) : Type := Nat → Int → Int → (Bool → Option R) → Option R
noncomputable def soft_FiniteT {R : Type} (soft_apart : soft_apartY R) (k : Nat) (a1 : Int) (a2 : Int) (K0 : Bool → Option R) : Option R :=
  soft_apart k a1 a2 (fun r1 r2 r3 r4 r5 r6 r7 =>
    K0 (decide (r4 ≥ 2)))
noncomputable def soft_Finite {R : Type} (k : Nat) (a1 : Int) (a2 : Int) (K0 : Bool → Option R) : Option R := soft_FiniteT soft_apart k a1 a2 K0
theorem soft_Finite_gen {R : Type} (soft_apart : soft_apartY R) (k : Nat) (a1 : Int) (a2 : Int) (K : AV → Heap → Option R) :
    fnK (mkCx Ty exts [(46, true, S46G soft_apart k)] fi24 [] []) 6 24 [.i .i64 a1, .i .u64 a2] ⟨0, []⟩ K = soft_FiniteT soft_apart k a1 a2 (fun q1 => K (.b q1) ⟨0, []⟩) := by kernel_rfl
noncomputable def S24G {R : Type} (soft_Finite : soft_FiniteY R) (k : Nat) : Sum R := fun args H K => match args, H with
  | [.i .i64 a1, .i .u64 a2], ⟨0, []⟩ => soft_Finite k a1 a2 (fun q1 => K (.b q1) ⟨0, []⟩)
  | _, _ => none
noncomputable def S24 {R : Type} (k : Nat) : Sum R := S24G soft_Finite k
theorem S24_ok0 {R : Type} (k : Nat) : SumOk Try.prog 24 false (S24 k : Sum R) := by
  intro args H K r h
  unfold S24 S24G at h
  split at h
  · exact fnK_sound (cx24_ok k) 6 24 _ _ K r ((soft_Finite_gen soft_apart k _ _ K).trans h)
  · cases h
theorem S24_ok {R : Type} (k : Nat) : SumOk Try.prog 24 true (S24 k : Sum R) := by
  refine sumOk_keep (S24_ok0 k) ?_
  intro args H K r h
  unfold S24 S24G at h ⊢
  split at h
  · refine Eq.trans ?_ h
    show soft_Finite k _ _ _ = soft_Finite k _ _ _
    exact congrArg (soft_Finite k _ _) (funext fun q1 => if_pos (keeps_app _ _ _ []))
  · cases h
-- function 50: (plumbline/soft.shape).nan
noncomputable def fi50 : FnI := ⟨50, Try.f50, []⟩
theorem en50 : Enters Try.prog 50 := enters_of Try.func50 (c := ((Try.f50).body.getD .skip)) (by kernel_rfl) (by kernel_rfl)
noncomputable def cx50 {R : Type} (k : Nat) : Cx R := mkCx Ty exts [(71, true, S71 k)] fi50 [] []
theorem cx50_ok {R : Type} (k : Nat) : CxOk Try.prog (cx50 k : Cx R) := mkCx_ok (c := ((Try.f50).body.getD .skip)) ty_ok mixed exts_ok (allSum_cons (S71_ok k) en71 allSum_nil) Try.func50 en50 (by kernel_rfl) (by kernel_rfl) allLoop_nil allCut_nil
@[reducible] def soft_shape_nanY (R : Type) : Type := Nat → Int → Int → Int → (Int → Option R) → Option R
noncomputable def soft_shape_nanT {R : Type} (soft_shape_full : soft_shape_fullY R) (k : Nat) (a1 : Int) (a2 : Int) (a3 : Int) (K0 : Int → Option R) : Option R :=
  soft_shape_full k a1 a2 a3 (fun r1 =>
    cond (decide (a1 < 0)) (
      none) (
      cond (decide ((Wi64 (a1 - 1)) < 0)) (
        none) (
        K0 (bOr .u64 (shl .u64 r1 a1) (shl .u64 1 (Wi64 (a1 - 1)))))))
noncomputable def soft_shape_nan {R : Type} (k : Nat) (a1 : Int) (a2 : Int) (a3 : Int) (K0 : Int → Option R) : Option R := soft_shape_nanT soft_shape_full k a1 a2 a3 K0
theorem soft_shape_nan_gen {R : Type} (soft_shape_full : soft_shape_fullY R) (k : Nat) (a1 : Int) (a2 : Int) (a3 : Int) (K : AV → Heap → Option R) :
    fnK (mkCx Ty exts [(71, true, S71G soft_shape_full k)] fi50 [] []) 6 50 [.agg [.i .i64 a1, .i .i64 a2, .i .i64 a3]] ⟨0, []⟩ K = soft_shape_nanT soft_shape_full k a1 a2 a3 (fun q1 => K (.i .u64 q1) ⟨0, []⟩) := by kernel_rfl
noncomputable def S50G {R : Type} (soft_shape_nan : soft_shape_nanY R) (k : Nat) : Sum R := fun args H K => match args, H with
  | [.agg [.i .i64 a1, .i .i64 a2, .i .i64 a3]], ⟨0, []⟩ => soft_shape_nan k a1 a2 a3 (fun q1 => K (.i .u64 q1) ⟨0, []⟩)
  | _, _ => none
noncomputable def S50 {R : Type} (k : Nat) : Sum R := S50G soft_shape_nan k
theorem S50_ok0 {R : Type} (k : Nat) : SumOk Try.prog 50 false (S50 k : Sum R) := by
  intro args H K r h
  unfold S50 S50G at h
  split at h
  · exact fnK_sound (cx50_ok k) 6 50 _ _ K r ((soft_shape_nan_gen soft_shape_full k _ _ _ K).trans h)
  · cases h
theorem S50_ok {R : Type} (k : Nat) : SumOk Try.prog 50 true (S50 k : Sum R) := by
  refine sumOk_keep (S50_ok0 k) ?_
  intro args H K r h
  unfold S50 S50G at h ⊢
  split at h
  · refine Eq.trans ?_ h
    show soft_shape_nan k _ _ _ _ = soft_shape_nan k _ _ _ _
    exact congrArg (soft_shape_nan k _ _ _) (funext fun q1 => if_pos (keeps_app _ _ _ []))
  · cases h
-- function 63: plumbline/soft.Nan
noncomputable def fi63 : FnI := ⟨63, Try.f63, []⟩
theorem en63 : Enters Try.prog 63 := enters_of Try.func63 (c := ((Try.f63).body.getD .skip)) (by kernel_rfl) (by kernel_rfl)
noncomputable def cx63 {R : Type} (k : Nat) : Cx R := mkCx Ty exts [(50, true, S50 k), (70, true, S70 k)] fi63 [] []
theorem cx63_ok {R : Type} (k : Nat) : CxOk Try.prog (cx63 k : Cx R) := mkCx_ok (c := ((Try.f63).body.getD .skip)) ty_ok mixed exts_ok (allSum_cons (S50_ok k) en50 (allSum_cons (S70_ok k) en70 allSum_nil)) Try.func63 en63 (by kernel_rfl) (by kernel_rfl) allLoop_nil allCut_nil
@[reducible] def soft_NanY (R : Type) : Type := Nat → Int → (Int → Option R) → Option R
noncomputable def soft_NanT {R : Type} (soft_shapeOf : soft_shapeOfY R) (soft_shape_nan : soft_shape_nanY R) (k : Nat) (a1 : Int) (K0 : Int → Option R) : Option R :=
  soft_shapeOf k a1 (fun r1 r2 r3 =>
    soft_shape_nan k r1 r2 r3 (fun r4 =>
      K0 r4))
noncomputable def soft_Nan {R : Type} (k : Nat) (a1 : Int) (K0 : Int → Option R) : Option R := soft_NanT soft_shapeOf soft_shape_nan k a1 K0
theorem soft_Nan_gen {R : Type} (soft_shape_nan : soft_shape_nanY R) (soft_shapeOf : soft_shapeOfY R) (k : Nat) (a1 : Int) (K : AV → Heap → Option R) :
    fnK (mkCx Ty exts [(50, true, S50G soft_shape_nan k), (70, true, S70G soft_shapeOf k)] fi63 [] []) 6 63 [.i .i64 a1] ⟨0, []⟩ K = soft_NanT soft_shapeOf soft_shape_nan k a1 (fun q1 => K (.i .u64 q1) ⟨0, []⟩) := by kernel_rfl
noncomputable def S63G {R : Type} (soft_Nan : soft_NanY R) (k : Nat) : Sum R := fun args H K => match args, H with
  | [.i .i64 a1], ⟨0, []⟩ => soft_Nan k a1 (fun q1 => K (.i .u64 q1) ⟨0, []⟩)
  | _, _ => none
noncomputable def S63 {R : Type} (k : Nat) : Sum R := S63G soft_Nan k
theorem S63_ok0 {R : Type} (k : Nat) : SumOk Try.prog 63 false (S63 k : Sum R) := by
  intro args H K r h
  unfold S63 S63G at h
  split at h
  · exact fnK_sound (cx63_ok k) 6 63 _ _ K r ((soft_Nan_gen soft_shape_nan soft_shapeOf k _ K).trans h)
  · cases h
theorem S63_ok {R : Type} (k : Nat) : SumOk Try.prog 63 true (S63 k : Sum R) := by
  refine sumOk_keep (S63_ok0 k) ?_
  intro args H K r h
  unfold S63 S63G at h ⊢
  split at h
  · refine Eq.trans ?_ h
    show soft_Nan k _ _ = soft_Nan k _ _
    exact congrArg (soft_Nan k _) (funext fun q1 => if_pos (keeps_app _ _ _ []))
  · cases h
-- function 55: (plumbline/soft.shape).inf
noncomputable def fi55 : FnI := ⟨55, Try.f55, []⟩
theorem en55 : Enters Try.prog 55 := enters_of Try.func55 (c := ((Try.f55).body.getD .skip)) (by kernel_rfl) (by kernel_rfl)
noncomputable def cx55 {R : Type} (k : Nat) : Cx R := mkCx Ty exts [(57, true, S57 k), (71, true, S71 k)] fi55 [] []
theorem cx55_ok {R : Type} (k : Nat) : CxOk Try.prog (cx55 k : Cx R) := mkCx_ok (c := ((Try.f55).body.getD .skip)) ty_ok mixed exts_ok (allSum_cons (S57_ok k) en57 (allSum_cons (S71_ok k) en71 allSum_nil)) Try.func55 en55 (by kernel_rfl) (by kernel_rfl) allLoop_nil allCut_nil
@[reducible] def soft_shape_infY (R : Type) : Type := Nat → Int → Int → Int → Bool → (Int → Option R) → Option R
noncomputable def soft_shape_infT {R : Type} (soft_shape_full : soft_shape_fullY R) (soft_shape_sign : soft_shape_signY R) (k : Nat) (a1 : Int) (a2 : Int) (a3 : Int) (a4 : Bool) (K0 : Int → Option R) : Option R :=
  soft_shape_sign k a1 a2 a3 a4 (fun r1 =>
    soft_shape_full k a1 a2 a3 (fun r2 =>
      cond (decide (a1 < 0)) (
        none) (
        K0 (bOr .u64 r1 (shl .u64 r2 a1)))))
noncomputable def soft_shape_inf {R : Type} (k : Nat) (a1 : Int) (a2 : Int) (a3 : Int) (a4 : Bool) (K0 : Int → Option R) : Option R := soft_shape_infT soft_shape_full soft_shape_sign k a1 a2 a3 a4 K0
theorem soft_shape_inf_gen {R : Type} (soft_shape_sign : soft_shape_signY R) (soft_shape_full : soft_shape_fullY R) (k : Nat) (a1 : Int) (a2 : Int) (a3 : Int) (a4 : Bool) (K : AV → Heap → Option R) :
    fnK (mkCx Ty exts [(57, true, S57G soft_shape_sign k), (71, true, S71G soft_shape_full k)] fi55 [] []) 6 55 [.agg [.i .i64 a1, .i .i64 a2, .i .i64 a3], .b a4] ⟨0, []⟩ K = soft_shape_infT soft_shape_full soft_shape_sign k a1 a2 a3 a4 (fun q1 => K (.i .u64 q1) ⟨0, []⟩) := by kernel_rfl
noncomputable def S55G {R : Type} (soft_shape_inf : soft_shape_infY R) (k : Nat) : Sum R := fun args H K => match args, H with
  | [.agg [.i .i64 a1, .i .i64 a2, .i .i64 a3], .b a4], ⟨0, []⟩ => soft_shape_inf k a1 a2 a3 a4 (fun q1 => K (.i .u64 q1) ⟨0, []⟩)
  | _, _ => none
noncomputable def S55 {R : Type} (k : Nat) : Sum R := S55G soft_shape_inf k
theorem S55_ok0 {R : Type} (k : Nat) : SumOk Try.prog 55 false (S55 k : Sum R) := by
  intro args H K r h
  unfold S55 S55G at h
  split at h
  · exact fnK_sound (cx55_ok k) 6 55 _ _ K r ((soft_shape_inf_gen soft_shape_sign soft_shape_full k _ _ _ _ K).trans h)
  · cases h
theorem S55_ok {R : Type} (k : Nat) : SumOk Try.prog 55 true (S55 k : Sum R) := by
  refine sumOk_keep (S55_ok0 k) ?_
  intro args H K r h
  unfold S55 S55G at h ⊢
  split at h
  · refine Eq.trans ?_ h
    show soft_shape_inf k _ _ _ _ _ = soft_shape_inf k _ _ _ _ _
    exact congrArg (soft_shape_inf k _ _ _ _) (funext fun q1 => if_pos (keeps_app _ _ _ []))
  · cases h
-- function 80: (plumbline/soft.shape).most
noncomputable def fi80 : FnI := ⟨80, Try.f80, []⟩
theorem en80 : Enters Try.prog 80 := enters_of Try.func80 (c := ((Try.f80).body.getD .skip)) (by kernel_rfl) (by kernel_rfl)
noncomputable def cx80 {R : Type} (k : Nat) : Cx R := mkCx Ty exts [(55, true, S55 k)] fi80 [] []
theorem cx80_ok {R : Type} (k : Nat) : CxOk Try.prog (cx80 k : Cx R) := mkCx_ok (c := ((Try.f80).body.getD .skip)) ty_ok mixed exts_ok (allSum_cons (S55_ok k) en55 allSum_nil) Try.func80 en80 (by kernel_rfl) (by kernel_rfl) allLoop_nil allCut_nil
@[reducible] def soft_shape_mostY (R : Type) : Type := Nat → Int → Int → Int → Bool → (Int → Option R) → Option R
noncomputable def soft_shape_mostT {R : Type} (soft_shape_inf : soft_shape_infY R) (k : Nat) (a1 : Int) (a2 : Int) (a3 : Int) (a4 : Bool) (K0 : Int → Option R) : Option R :=
  soft_shape_inf k a1 a2 a3 a4 (fun r1 =>
    K0 (Wu64 (r1 - 1)))
noncomputable def soft_shape_most {R : Type} (k : Nat) (a1 : Int) (a2 : Int) (a3 : Int) (a4 : Bool) (K0 : Int → Option R) : Option R := soft_shape_mostT soft_shape_inf k a1 a2 a3 a4 K0
theorem soft_shape_most_gen {R : Type} (soft_shape_inf : soft_shape_infY R) (k : Nat) (a1 : Int) (a2 : Int) (a3 : Int) (a4 : Bool) (K : AV → Heap → Option R) :
    fnK (mkCx Ty exts [(55, true, S55G soft_shape_inf k)] fi80 [] []) 6 80 [.agg [.i .i64 a1, .i .i64 a2, .i .i64 a3], .b a4] ⟨0, []⟩ K = soft_shape_mostT soft_shape_inf k a1 a2 a3 a4 (fun q1 => K (.i .u64 q1) ⟨0, []⟩) := by kernel_rfl
noncomputable def S80G {R : Type} (soft_shape_most : soft_shape_mostY R) (k : Nat) : Sum R := fun args H K => match args, H with
  | [.agg [.i .i64 a1, .i .i64 a2, .i .i64 a3], .b a4], ⟨0, []⟩ => soft_shape_most k a1 a2 a3 a4 (fun q1 => K (.i .u64 q1) ⟨0, []⟩)
  | _, _ => none
noncomputable def S80 {R : Type} (k : Nat) : Sum R := S80G soft_shape_most k
theorem S80_ok0 {R : Type} (k : Nat) : SumOk Try.prog 80 false (S80 k : Sum R) := by
  intro args H K r h
  unfold S80 S80G at h
  split at h
  · exact fnK_sound (cx80_ok k) 6 80 _ _ K r ((soft_shape_most_gen soft_shape_inf k _ _ _ _ K).trans h)
  · cases h
theorem S80_ok {R : Type} (k : Nat) : SumOk Try.prog 80 true (S80 k : Sum R) := by
  refine sumOk_keep (S80_ok0 k) ?_
  intro args H K r h
  unfold S80 S80G at h ⊢
  split at h
  · refine Eq.trans ?_ h
    show soft_shape_most k _ _ _ _ _ = soft_shape_most k _ _ _ _ _
    exact congrArg (soft_shape_most k _ _ _ _) (funext fun q1 => if_pos (keeps_app _ _ _ []))
  · cases h
-- function 72: plumbline/soft.Most
noncomputable def fi72 : FnI := ⟨72, Try.f72, []⟩
theorem en72 : Enters Try.prog 72 := enters_of Try.func72 (c := ((Try.f72).body.getD .skip)) (by kernel_rfl) (by kernel_rfl)
noncomputable def cx72 {R : Type} (k : Nat) : Cx R := mkCx Ty exts [(70, true, S70 k), (80, true, S80 k)] fi72 [] []
theorem cx72_ok {R : Type} (k : Nat) : CxOk Try.prog (cx72 k : Cx R) := mkCx_ok (c := ((Try.f72).body.getD .skip)) ty_ok mixed exts_ok (allSum_cons (S70_ok k) en70 (allSum_cons (S80_ok k) en80 allSum_nil)) Try.func72 en72 (by kernel_rfl) (by kernel_rfl) allLoop_nil allCut_nil
@[reducible] def soft_MostY (R : Type) : Type := Nat → Int → (Int → Option R) → Option R
noncomputable def soft_MostT {R : Type} (soft_shapeOf : soft_shapeOfY R) (soft_shape_most : soft_shape_mostY R) (k : Nat) (a1 : Int) (K0 : Int → Option R) : Option R :=
  soft_shapeOf k a1 (fun r1 r2 r3 =>
    soft_shape_most k r1 r2 r3 false (fun r4 =>
      K0 r4))
noncomputable def soft_Most {R : Type} (k : Nat) (a1 : Int) (K0 : Int → Option R) : Option R := soft_MostT soft_shapeOf soft_shape_most k a1 K0
theorem soft_Most_gen {R : Type} (soft_shapeOf : soft_shapeOfY R) (soft_shape_most : soft_shape_mostY R) (k : Nat) (a1 : Int) (K : AV → Heap → Option R) :
    fnK (mkCx Ty exts [(70, true, S70G soft_shapeOf k), (80, true, S80G soft_shape_most k)] fi72 [] []) 6 72 [.i .i64 a1] ⟨0, []⟩ K = soft_MostT soft_shapeOf soft_shape_most k a1 (fun q1 => K (.i .u64 q1) ⟨0, []⟩) := by kernel_rfl
noncomputable def S72G {R : Type} (soft_Most : soft_MostY R) (k : Nat) : Sum R := fun args H K => match args, H with
  | [.i .i64 a1], ⟨0, []⟩ => soft_Most k a1 (fun q1 => K (.i .u64 q1) ⟨0, []⟩)
  | _, _ => none
noncomputable def S72 {R : Type} (k : Nat) : Sum R := S72G soft_Most k
theorem S72_ok0 {R : Type} (k : Nat) : SumOk Try.prog 72 false (S72 k : Sum R) := by
  intro args H K r h
  unfold S72 S72G at h
  split at h
  · exact fnK_sound (cx72_ok k) 6 72 _ _ K r ((soft_Most_gen soft_shapeOf soft_shape_most k _ K).trans h)
  · cases h
theorem S72_ok {R : Type} (k : Nat) : SumOk Try.prog 72 true (S72 k : Sum R) := by
  refine sumOk_keep (S72_ok0 k) ?_
  intro args H K r h
  unfold S72 S72G at h ⊢
  split at h
  · refine Eq.trans ?_ h
    show soft_Most k _ _ = soft_Most k _ _
    exact congrArg (soft_Most k _) (funext fun q1 => if_pos (keeps_app _ _ _ []))
  · cases h
-- function 59: plumbline/soft.Neg
noncomputable def fi59 : FnI := ⟨59, Try.f59, []⟩
theorem en59 : Enters Try.prog 59 := enters_of Try.func59 (c := ((Try.f59).body.getD .skip)) (by kernel_rfl) (by kernel_rfl)
noncomputable def cx59 {R : Type} (k : Nat) : Cx R := mkCx Ty exts [(46, true, S46 k), (50, true, S50 k), (57, true, S57 k)] fi59 [] []
theorem cx59_ok {R : Type} (k : Nat) : CxOk Try.prog (cx59 k : Cx R) := mkCx_ok (c := ((Try.f59).body.getD .skip)) ty_ok mixed exts_ok (allSum_cons (S46_ok k) en46 (allSum_cons (S50_ok k) en50 (allSum_cons (S57_ok k) en57 allSum_nil))) Try.func59 en59 (by kernel_rfl) (by kernel_rfl) allLoop_nil allCut_nil
@[reducible] def soft_NegY (R : Type) : Type := Nat → Int → Int → (Int → Option R) → Option R
noncomputable def soft_NegT {R : Type} (soft_apart : soft_apartY R) (soft_shape_nan : soft_shape_nanY R) (soft_shape_sign : soft_shape_signY R) (k : Nat) (a1 : Int) (a2 : Int) (K0 : Int → Option R) : Option R :=
  soft_apart k a1 a2 (fun r1 r2 r3 r4 r5 r6 r7 =>
    cond (r4 == 0) (
      soft_shape_nan k r1 r2 r3 (fun r8 =>
        K0 r8)) (
      soft_shape_sign k r1 r2 r3 true (fun r9 =>
        K0 (bXor .u64 a2 r9))))
noncomputable def soft_Neg {R : Type} (k : Nat) (a1 : Int) (a2 : Int) (K0 : Int → Option R) : Option R := soft_NegT soft_apart soft_shape_nan soft_shape_sign k a1 a2 K0
theorem soft_Neg_gen {R : Type} (soft_apart : soft_apartY R) (soft_shape_nan : soft_shape_nanY R) (soft_shape_sign : soft_shape_signY R) (k : Nat) (a1 : Int) (a2 : Int) (K : AV → Heap → Option R) :
    fnK (mkCx Ty exts [(46, true, S46G soft_apart k), (50, true, S50G soft_shape_nan k), (57, true, S57G soft_shape_sign k)] fi59 [] []) 6 59 [.i .i64 a1, .i .u64 a2] ⟨0, []⟩ K = soft_NegT soft_apart soft_shape_nan soft_shape_sign k a1 a2 (fun q1 => K (.i .u64 q1) ⟨0, []⟩) := by kernel_rfl
noncomputable def S59G {R : Type} (soft_Neg : soft_NegY R) (k : Nat) : Sum R := fun args H K => match args, H with
  | [.i .i64 a1, .i .u64 a2], ⟨0, []⟩ => soft_Neg k a1 a2 (fun q1 => K (.i .u64 q1) ⟨0, []⟩)
  | _, _ => none
noncomputable def S59 {R : Type} (k : Nat) : Sum R := S59G soft_Neg k
theorem S59_ok0 {R : Type} (k : Nat) : SumOk Try.prog 59 false (S59 k : Sum R) := by
  intro args H K r h
  unfold S59 S59G at h
  split at h
  · exact fnK_sound (cx59_ok k) 6 59 _ _ K r ((soft_Neg_gen soft_apart soft_shape_nan soft_shape_sign k _ _ K).trans h)
  · cases h
theorem S59_ok {R : Type} (k : Nat) : SumOk Try.prog 59 true (S59 k : Sum R) := by
  refine sumOk_keep (S59_ok0 k) ?_
  intro args H K r h
  unfold S59 S59G at h ⊢
  split at h
  · refine Eq.trans ?_ h
    show soft_Neg k _ _ _ = soft_Neg k _ _ _
    exact congrArg (soft_Neg k _ _) (funext fun q1 => if_pos (keeps_app _ _ _ []))
  · cases h
-- function 83: plumbline/soft.Abs
noncomputable def fi83 : FnI := ⟨83, Try.f83, []⟩
theorem en83 : Enters Try.prog 83 := enters_of Try.func83 (c := ((Try.f83).body.getD .skip)) (by kernel_rfl) (by kernel_rfl)
noncomputable def cx83 {R : Type} (k : Nat) : Cx R := mkCx Ty exts [(46, true, S46 k), (50, true, S50 k), (57, true, S57 k)] fi83 [] []
theorem cx83_ok {R : Type} (k : Nat) : CxOk Try.prog (cx83 k : Cx R) := mkCx_ok (c := ((Try.f83).body.getD .skip)) ty_ok mixed exts_ok (allSum_cons (S46_ok k) en46 (allSum_cons (S50_ok k) en50 (allSum_cons (S57_ok k) en57 allSum_nil))) Try.func83 en83 (by kernel_rfl) (by kernel_rfl) allLoop_nil allCut_nil
@[reducible] def soft_AbsY (R : Type) : Type := Nat → Int → Int → (Int → Option R) → Option R
noncomputable def soft_AbsT {R : Type} (soft_apart : soft_apartY R) (soft_shape_nan : soft_shape_nanY R) (soft_shape_sign : soft_shape_signY R) (k : Nat) (a1 : Int) (a2 : Int) (K0 : Int → Option R) : Option R :=
  soft_apart k a1 a2 (fun r1 r2 r3 r4 r5 r6 r7 =>
    cond (r4 == 0) (
      soft_shape_nan k r1 r2 r3 (fun r8 =>
        K0 r8)) (
      soft_shape_sign k r1 r2 r3 true (fun r9 =>
        K0 (bAndNot .u64 a2 r9))))
noncomputable def soft_Abs {R : Type} (k : Nat) (a1 : Int) (a2 : Int) (K0 : Int → Option R) : Option R := soft_AbsT soft_apart soft_shape_nan soft_shape_sign k a1 a2 K0
theorem soft_Abs_gen {R : Type} (soft_apart : soft_apartY R) (soft_shape_nan : soft_shape_nanY R) (soft_shape_sign : soft_shape_signY R) (k : Nat) (a1 : Int) (a2 : Int) (K : AV → Heap → Option R) :
    fnK (mkCx Ty exts [(46, true, S46G soft_apart k), (50, true, S50G soft_shape_nan k), (57, true, S57G soft_shape_sign k)] fi83 [] []) 6 83 [.i .i64 a1, .i .u64 a2] ⟨0, []⟩ K = soft_AbsT soft_apart soft_shape_nan soft_shape_sign k a1 a2 (fun q1 => K (.i .u64 q1) ⟨0, []⟩) := by kernel_rfl
noncomputable def S83G {R : Type} (soft_Abs : soft_AbsY R) (k : Nat) : Sum R := fun args H K => match args, H with
  | [.i .i64 a1, .i .u64 a2], ⟨0, []⟩ => soft_Abs k a1 a2 (fun q1 => K (.i .u64 q1) ⟨0, []⟩)
  | _, _ => none
noncomputable def S83 {R : Type} (k : Nat) : Sum R := S83G soft_Abs k
theorem S83_ok0 {R : Type} (k : Nat) : SumOk Try.prog 83 false (S83 k : Sum R) := by
  intro args H K r h
  unfold S83 S83G at h
  split at h
  · exact fnK_sound (cx83_ok k) 6 83 _ _ K r ((soft_Abs_gen soft_apart soft_shape_nan soft_shape_sign k _ _ K).trans h)
  · cases h
theorem S83_ok {R : Type} (k : Nat) : SumOk Try.prog 83 true (S83 k : Sum R) := by
  refine sumOk_keep (S83_ok0 k) ?_
  intro args H K r h
  unfold S83 S83G at h ⊢
  split at h
  · refine Eq.trans ?_ h
    show soft_Abs k _ _ _ = soft_Abs k _ _ _
    exact congrArg (soft_Abs k _ _) (funext fun q1 => if_pos (keeps_app _ _ _ []))
  · cases h
-- function 79: plumbline/soft.rounderOf
noncomputable def fi79 : FnI := ⟨79, Try.f79, []⟩
theorem en79 : Enters Try.prog 79 := enters_of Try.func79 (c := ((Try.f79).body.getD .skip)) (by kernel_rfl) (by kernel_rfl)
noncomputable def cx79 {R : Type} (k : Nat) : Cx R := mkCx Ty exts [] fi79 [] []
theorem cx79_ok {R : Type} (k : Nat) : CxOk Try.prog (cx79 k : Cx R) := mkCx_ok (c := ((Try.f79).body.getD .skip)) ty_ok mixed exts_ok allSum_nil Try.func79 en79 (by kernel_rfl) (by kernel_rfl) allLoop_nil allCut_nil
@[reducible] def soft_rounderOfY (R : Type) : Type := Nat → Int → Bool → (Option R) → (Option R) → (Option R) → Option R
noncomputable def soft_rounderOfT {R : Type} (k : Nat) (a1 : Int) (a2 : Bool) (K0 : Option R) (K1 : Option R) (K2 : Option R) : Option R :=
  cond (a1 == 1) (
    cond (!a2) (
      K0) (
      cond (a1 == 2) (
        cond a2 (
          K0) (
          cond (a1 == 1) (
            K1) (
            cond (a1 == 2) (
              K1) (
              cond (a1 == 3) (
                K1) (
                K2))))) (
        cond (a1 == 1) (
          K1) (
          cond (a1 == 2) (
            K1) (
            cond (a1 == 3) (
              K1) (
              K2)))))) (
    cond (a1 == 2) (
      cond a2 (
        K0) (
        cond (a1 == 1) (
          K1) (
          cond (a1 == 2) (
            K1) (
            cond (a1 == 3) (
              K1) (
              K2))))) (
      cond (a1 == 1) (
        K1) (
        cond (a1 == 2) (
          K1) (
          cond (a1 == 3) (
            K1) (
            K2)))))
noncomputable def soft_rounderOf {R : Type} (k : Nat) (a1 : Int) (a2 : Bool) (K0 : Option R) (K1 : Option R) (K2 : Option R) : Option R := soft_rounderOfT k a1 a2 K0 K1 K2
theorem soft_rounderOf_gen {R : Type} (k : Nat) (a1 : Int) (a2 : Bool) (K : AV → Heap → Option R) :
    fnK (mkCx Ty exts [] fi79 [] []) 6 79 [.i .i64 a1, .b a2] ⟨0, []⟩ K = soft_rounderOfT k a1 a2 (K (.agg [.fn 96 []]) ⟨0, []⟩) (K (.agg [.fn 97 []]) ⟨0, []⟩) (K (.agg [.fn 98 []]) ⟨0, []⟩) := by kernel_rfl
noncomputable def S79G {R : Type} (soft_rounderOf : soft_rounderOfY R) (k : Nat) : Sum R := fun args H K => match args, H with
  | [.i .i64 a1, .b a2], ⟨0, []⟩ => soft_rounderOf k a1 a2 (K (.agg [.fn 96 []]) ⟨0, []⟩) (K (.agg [.fn 97 []]) ⟨0, []⟩) (K (.agg [.fn 98 []]) ⟨0, []⟩)
  | _, _ => none
noncomputable def S79 {R : Type} (k : Nat) : Sum R := S79G soft_rounderOf k
theorem S79_ok0 {R : Type} (k : Nat) : SumOk Try.prog 79 false (S79 k : Sum R) := by
  intro args H K r h
  unfold S79 S79G at h
  split at h
  · exact fnK_sound (cx79_ok k) 6 79 _ _ K r ((soft_rounderOf_gen k _ _ K).trans h)
  · cases h
theorem S79_ok {R : Type} (k : Nat) : SumOk Try.prog 79 true (S79 k : Sum R) := by
  refine sumOk_keep (S79_ok0 k) ?_
  intro args H K r h
  unfold S79 S79G at h ⊢
  split at h
  · refine Eq.trans ?_ h
    show soft_rounderOf k _ _ _ _ _ = soft_rounderOf k _ _ _ _ _
    congr 1
    all_goals first | exact (if_pos (keeps_app _ _ _ [])) | skip
    all_goals first | exact (if_pos (keeps_app _ _ _ [])) | skip
    all_goals first | exact (if_pos (keeps_app _ _ _ [])) | skip
  · cases h
-- function 96: plumbline/soft.rounderOf$1
noncomputable def fi96 : FnI := ⟨96, Try.f96, []⟩
theorem en96 : Enters Try.prog 96 := enters_of Try.func96 (c := ((Try.f96).body.getD .skip)) (by kernel_rfl) (by kernel_rfl)
noncomputable def cx96 {R : Type} (k : Nat) : Cx R := mkCx Ty exts [] fi96 [] []
theorem cx96_ok {R : Type} (k : Nat) : CxOk Try.prog (cx96 k : Cx R) := mkCx_ok (c := ((Try.f96).body.getD .skip)) ty_ok mixed exts_ok allSum_nil Try.func96 en96 (by kernel_rfl) (by kernel_rfl) allLoop_nil allCut_nil
@[reducible] def soft_rounderOf_1Y (R : Type) : Type := Nat → Bool → Bool → Bool → (Bool → Option R) → Option R
noncomputable def soft_rounderOf_1T {R : Type} (k : Nat) (a1 : Bool) (a2 : Bool) (a3 : Bool) (K0 : Bool → Option R) : Option R :=
  cond a2 (
    K0 true) (
    K0 a3)
noncomputable def soft_rounderOf_1 {R : Type} (k : Nat) (a1 : Bool) (a2 : Bool) (a3 : Bool) (K0 : Bool → Option R) : Option R := soft_rounderOf_1T k a1 a2 a3 K0
theorem soft_rounderOf_1_gen {R : Type} (k : Nat) (a1 : Bool) (a2 : Bool) (a3 : Bool) (K : AV → Heap → Option R) :
    fnK (mkCx Ty exts [] fi96 [] []) 6 96 [.b a1, .b a2, .b a3] ⟨0, []⟩ K = soft_rounderOf_1T k a1 a2 a3 (fun q1 => K (.b q1) ⟨0, []⟩) := by kernel_rfl
noncomputable def S96G {R : Type} (soft_rounderOf_1 : soft_rounderOf_1Y R) (k : Nat) : Sum R := fun args H K => match args, H with
  | [.b a1, .b a2, .b a3], ⟨0, []⟩ => soft_rounderOf_1 k a1 a2 a3 (fun q1 => K (.b q1) ⟨0, []⟩)
  | _, _ => none
noncomputable def S96 {R : Type} (k : Nat) : Sum R := S96G soft_rounderOf_1 k
theorem S96_ok0 {R : Type} (k : Nat) : SumOk Try.prog 96 false (S96 k : Sum R) := by
  intro args H K r h
  unfold S96 S96G at h
  split at h
  · exact fnK_sound (cx96_ok k) 6 96 _ _ K r ((soft_rounderOf_1_gen k _ _ _ K).trans h)
  · cases h
theorem S96_ok {R : Type} (k : Nat) : SumOk Try.prog 96 true (S96 k : Sum R) := by
  refine sumOk_keep (S96_ok0 k) ?_
  intro args H K r h
  unfold S96 S96G at h ⊢
  split at h
  · refine Eq.trans ?_ h
    show soft_rounderOf_1 k _ _ _ _ = soft_rounderOf_1 k _ _ _ _
    exact congrArg (soft_rounderOf_1 k _ _ _) (funext fun q1 => if_pos (keeps_app _ _ _ []))
  · cases h
-- function 97: plumbline/soft.rounderOf$2
noncomputable def fi97 : FnI := ⟨97, Try.f97, []⟩
theorem en97 : Enters Try.prog 97 := enters_of Try.func97 (c := ((Try.f97).body.getD .skip)) (by kernel_rfl) (by kernel_rfl)
noncomputable def cx97 {R : Type} (k : Nat) : Cx R := mkCx Ty exts [] fi97 [] []
theorem cx97_ok {R : Type} (k : Nat) : CxOk Try.prog (cx97 k : Cx R) := mkCx_ok (c := ((Try.f97).body.getD .skip)) ty_ok mixed exts_ok allSum_nil Try.func97 en97 (by kernel_rfl) (by kernel_rfl) allLoop_nil allCut_nil
@[reducible] def soft_rounderOf_2Y (R : Type) : Type := Nat → Bool → Bool → Bool → (Bool → Option R) → Option R
noncomputable def soft_rounderOf_2T {R : Type} (k : Nat) (a1 : Bool) (a2 : Bool) (a3 : Bool) (K0 : Bool → Option R) : Option R :=
  K0 false
noncomputable def soft_rounderOf_2 {R : Type} (k : Nat) (a1 : Bool) (a2 : Bool) (a3 : Bool) (K0 : Bool → Option R) : Option R := soft_rounderOf_2T k a1 a2 a3 K0
theorem soft_rounderOf_2_gen {R : Type} (k : Nat) (a1 : Bool) (a2 : Bool) (a3 : Bool) (K : AV → Heap → Option R) :
    fnK (mkCx Ty exts [] fi97 [] []) 6 97 [.b a1, .b a2, .b a3] ⟨0, []⟩ K = soft_rounderOf_2T k a1 a2 a3 (fun q1 => K (.b q1) ⟨0, []⟩) := by kernel_rfl
noncomputable def S97G {R : Type} (soft_rounderOf_2 : soft_rounderOf_2Y R) (k : Nat) : Sum R := fun args H K => match args, H with
  | [.b a1, .b a2, .b a3], ⟨0, []⟩ => soft_rounderOf_2 k a1 a2 a3 (fun q1 => K (.b q1) ⟨0, []⟩)
  | _, _ => none
noncomputable def S97 {R : Type} (k : Nat) : Sum R := S97G soft_rounderOf_2 k
theorem S97_ok0 {R : Type} (k : Nat) : SumOk Try.prog 97 false (S97 k : Sum R) := by
  intro args H K r h
  unfold S97 S97G at h
  split at h
  · exact fnK_sound (cx97_ok k) 6 97 _ _ K r ((soft_rounderOf_2_gen k _ _ _ K).trans h)
  · cases h
theorem S97_ok {R : Type} (k : Nat) : SumOk Try.prog 97 true (S97 k : Sum R) := by
  refine sumOk_keep (S97_ok0 k) ?_
  intro args H K r h
  unfold S97 S97G at h ⊢
  split at h
  · refine Eq.trans ?_ h
    show soft_rounderOf_2 k _ _ _ _ = soft_rounderOf_2 k _ _ _ _
    exact congrArg (soft_rounderOf_2 k _ _ _) (funext fun q1 => if_pos (keeps_app _ _ _ []))
  · cases h
-- function 98: plumbline/soft.rounderOf$3
noncomputable def fi98 : FnI := ⟨98, Try.f98, []⟩
theorem en98 : Enters Try.prog 98 := enters_of Try.func98 (c := ((Try.f98).body.getD .skip)) (by kernel_rfl) (by kernel_rfl)
noncomputable def cx98 {R : Type} (k : Nat) : Cx R := mkCx Ty exts [] fi98 [] []
theorem cx98_ok {R : Type} (k : Nat) : CxOk Try.prog (cx98 k : Cx R) := mkCx_ok (c := ((Try.f98).body.getD .skip)) ty_ok mixed exts_ok allSum_nil Try.func98 en98 (by kernel_rfl) (by kernel_rfl) allLoop_nil allCut_nil
@[reducible] def soft_rounderOf_3Y (R : Type) : Type := Nat → Bool → Bool → Bool → (Bool → Option R) → Option R
noncomputable def soft_rounderOf_3T {R : Type} (k : Nat) (a1 : Bool) (a2 : Bool) (a3 : Bool) (K0 : Bool → Option R) : Option R :=
  cond a2 (
    cond a3 (
      K0 true) (
      K0 a1)) (
    K0 false)
noncomputable def soft_rounderOf_3 {R : Type} (k : Nat) (a1 : Bool) (a2 : Bool) (a3 : Bool) (K0 : Bool → Option R) : Option R := soft_rounderOf_3T k a1 a2 a3 K0
theorem soft_rounderOf_3_gen {R : Type} (k : Nat) (a1 : Bool) (a2 : Bool) (a3 : Bool) (K : AV → Heap → Option R) :
    fnK (mkCx Ty exts [] fi98 [] []) 6 98 [.b a1, .b a2, .b a3] ⟨0, []⟩ K = soft_rounderOf_3T k a1 a2 a3 (fun q1 => K (.b q1) ⟨0, []⟩) := by kernel_rfl
noncomputable def S98G {R : Type} (soft_rounderOf_3 : soft_rounderOf_3Y R) (k : Nat) : Sum R := fun args H K => match args, H with
  | [.b a1, .b a2, .b a3], ⟨0, []⟩ => soft_rounderOf_3 k a1 a2 a3 (fun q1 => K (.b q1) ⟨0, []⟩)
  | _, _ => none
noncomputable def S98 {R : Type} (k : Nat) : Sum R := S98G soft_rounderOf_3 k
theorem S98_ok0 {R : Type} (k : Nat) : SumOk Try.prog 98 false (S98 k : Sum R) := by
  intro args H K r h
  unfold S98 S98G at h
  split at h
  · exact fnK_sound (cx98_ok k) 6 98 _ _ K r ((soft_rounderOf_3_gen k _ _ _ K).trans h)
  · cases h
theorem S98_ok {R : Type} (k : Nat) : SumOk Try.prog 98 true (S98 k : Sum R) := by
  refine sumOk_keep (S98_ok0 k) ?_
  intro args H K r h
  unfold S98 S98G at h ⊢
  split at h
  · refine Eq.trans ?_ h
    show soft_rounderOf_3 k _ _ _ _ = soft_rounderOf_3 k _ _ _ _
    exact congrArg (soft_rounderOf_3 k _ _ _) (funext fun q1 => if_pos (keeps_app _ _ _ []))
  · cases h
-- function 54: (plumbline/soft.shape).round
noncomputable def fi54 : FnI := ⟨54, Try.f54, [(600003, [1, 2, 4, 5, 6, 9]), (600010, [2, 5, 6, 9, 13, 14, 15, 16, 18]), (600015, [2, 5, 6, 9, 13, 14, 15]), (600018, [2, 6, 13, 14, 19]), (2500003, [12]), (2500015, [12]), (2500018, [12]), (5500010, [2, 5, 6, 9, 13, 14, 15])]⟩
theorem en54 : Enters Try.prog 54 := enters_of Try.func54 (c := ((Try.f54).body.getD .skip)) (by kernel_rfl) (by kernel_rfl)
@[reducible] def soft_shape_round_c0Y (R : Type) : Type := Nat → Bool → Bool → Int → Bool → Int → Bool → Int → Int → Int → Int → Int → (Bool → Int → Int → Option R) → Option R
noncomputable def soft_shape_round_c0T {R : Type} (wide_Shr : wide_ShrY R) (k : Nat) (x1 : Bool) (x2 : Bool) (x3 : Int) (x4 : Bool) (x5 : Int) (x6 : Bool) (x7 : Int) (x8 : Int) (x9 : Int) (x10 : Int) (x11 : Int) (K0 : Bool → Int → Int → Option R) : Option R :=
  cond x2 (
    cond (decide (x5 > 129)) (
      wide_Shr k x10 x11 x5 (fun yyr1 yyr2 yyr3 =>
        K0 true yyr1 yyr2)) (
      wide_Shr k x10 x11 x5 (fun yyr4 yyr5 yyr6 =>
        K0 true yyr4 yyr5))) (
    cond (decide (x5 > 129)) (
      cond x6 (
        wide_Shr k x10 x11 x5 (fun yyr7 yyr8 yyr9 =>
          K0 true yyr7 yyr8)) (
        wide_Shr k x10 x11 x5 (fun yyr10 yyr11 yyr12 =>
          K0 (!((x10 == 0) && (x11 == 0))) yyr10 yyr11))) (
      wide_Shr k x10 x11 x5 (fun yyr13 yyr14 yyr15 =>
        K0 x6 yyr13 yyr14)))
noncomputable def soft_shape_round_c0 {R : Type} (k : Nat) (x1 : Bool) (x2 : Bool) (x3 : Int) (x4 : Bool) (x5 : Int) (x6 : Bool) (x7 : Int) (x8 : Int) (x9 : Int) (x10 : Int) (x11 : Int) (K0 : Bool → Int → Int → Option R) : Option R := soft_shape_round_c0T wide_Shr k x1 x2 x3 x4 x5 x6 x7 x8 x9 x10 x11 K0
@[reducible] def soft_shape_round_c3Y (R : Type) : Type := Nat → Bool → Bool → Int → Bool → Int → Bool → Int → Int → Int → Int → Int → (Bool → Int → Int → Option R) → Option R
noncomputable def soft_shape_round_c3T {R : Type} (wide_Shr : wide_ShrY R) (k : Nat) (x1 : Bool) (x2 : Bool) (x3 : Int) (x4 : Bool) (x5 : Int) (x6 : Bool) (x7 : Int) (x8 : Int) (x9 : Int) (x10 : Int) (x11 : Int) (K0 : Bool → Int → Int → Option R) : Option R :=
  cond x2 (
    cond (decide (x5 > 129)) (
      wide_Shr k x10 x11 x5 (fun yyr1 yyr2 yyr3 =>
        K0 true yyr1 yyr2)) (
      wide_Shr k x10 x11 x5 (fun yyr4 yyr5 yyr6 =>
        K0 true yyr4 yyr5))) (
    cond (decide (x5 > 129)) (
      cond x6 (
        wide_Shr k x10 x11 x5 (fun yyr7 yyr8 yyr9 =>
          K0 true yyr7 yyr8)) (
        wide_Shr k x10 x11 x5 (fun yyr10 yyr11 yyr12 =>
          K0 (!((x10 == 0) && (x11 == 0))) yyr10 yyr11))) (
      wide_Shr k x10 x11 x5 (fun yyr13 yyr14 yyr15 =>
        K0 x6 yyr13 yyr14)))
noncomputable def soft_shape_round_c3 {R : Type} (k : Nat) (x1 : Bool) (x2 : Bool) (x3 : Int) (x4 : Bool) (x5 : Int) (x6 : Bool) (x7 : Int) (x8 : Int) (x9 : Int) (x10 : Int) (x11 : Int) (K0 : Bool → Int → Int → Option R) : Option R := soft_shape_round_c3T wide_Shr k x1 x2 x3 x4 x5 x6 x7 x8 x9 x10 x11 K0
@[reducible] def soft_shape_round_c6Y (R : Type) : Type := Nat → Bool → Bool → Int → Bool → Int → Bool → Int → Int → Int → Int → Int → (Bool → Int → Int → Option R) → Option R
noncomputable def soft_shape_round_c6T {R : Type} (wide_Shr : wide_ShrY R) (k : Nat) (x1 : Bool) (x2 : Bool) (x3 : Int) (x4 : Bool) (x5 : Int) (x6 : Bool) (x7 : Int) (x8 : Int) (x9 : Int) (x10 : Int) (x11 : Int) (K0 : Bool → Int → Int → Option R) : Option R :=
  cond x2 (
    cond (decide (x5 > 129)) (
      wide_Shr k x10 x11 x5 (fun yyr1 yyr2 yyr3 =>
        K0 true yyr1 yyr2)) (
      wide_Shr k x10 x11 x5 (fun yyr4 yyr5 yyr6 =>
        K0 true yyr4 yyr5))) (
    cond (decide (x5 > 129)) (
      cond x6 (
        wide_Shr k x10 x11 x5 (fun yyr7 yyr8 yyr9 =>
          K0 true yyr7 yyr8)) (
        wide_Shr k x10 x11 x5 (fun yyr10 yyr11 yyr12 =>
          K0 (!((x10 == 0) && (x11 == 0))) yyr10 yyr11))) (
      wide_Shr k x10 x11 x5 (fun yyr13 yyr14 yyr15 =>
        K0 x6 yyr13 yyr14)))
noncomputable def soft_shape_round_c6 {R : Type} (k : Nat) (x1 : Bool) (x2 : Bool) (x3 : Int) (x4 : Bool) (x5 : Int) (x6 : Bool) (x7 : Int) (x8 : Int) (x9 : Int) (x10 : Int) (x11 : Int) (K0 : Bool → Int → Int → Option R) : Option R := soft_shape_round_c6T wide_Shr k x1 x2 x3 x4 x5 x6 x7 x8 x9 x10 x11 K0
noncomputable def cc54_10 {R : Type} (k : Nat) : Cx R := mkCx Ty exts [(51, true, S51 k), (53, true, S53 k), (55, true, S55 k), (57, true, S57 k), (61, true, S61 k), (71, true, S71 k), (79, true, S79 k), (80, true, S80 k), (96, true, S96 k), (97, true, S97 k), (98, true, S98 k)] fi54 [] []
theorem cc54_10_ok {R : Type} (k : Nat) : CxOk Try.prog (cc54_10 k : Cx R) := mkCx_ok (c := ((Try.f54).body.getD .skip)) ty_ok mixed exts_ok (allSum_cons (S51_ok k) en51 (allSum_cons (S53_ok k) en53 (allSum_cons (S55_ok k) en55 (allSum_cons (S57_ok k) en57 (allSum_cons (S61_ok k) en61 (allSum_cons (S71_ok k) en71 (allSum_cons (S79_ok k) en79 (allSum_cons (S80_ok k) en80 (allSum_cons (S96_ok k) en96 (allSum_cons (S97_ok k) en97 (allSum_cons (S98_ok k) en98 allSum_nil))))))))))) Try.func54 en54 (by kernel_rfl) (by kernel_rfl) allLoop_nil allCut_nil
noncomputable def C54_10G {R : Type} (soft_shape_round_c0 : soft_shape_round_c0Y R) (soft_shape_round_c3 : soft_shape_round_c3Y R) (soft_shape_round_c6 : soft_shape_round_c6Y R) (k : Nat) : LSum R := fun pin T H K => match pin, T, H with
  | 0, [(2, .b x1), (5, .b x2), (6, .ptr 0 0 0 0 0), (9, .ptr 1 0 0 0 0), (13, .ptr 2 0 0 0 0), (14, .i .i64 x3), (15, .b x4), (16, .i .i64 x5), (18, .b x6)], ⟨3, [(0, some ⟨0, false, .cells [.i .i64 x7, .i .i64 x8, .i .i64 x9]⟩), (1, some ⟨1, false, .cells [.i .u64 x10, .i .u64 x11]⟩), (2, some ⟨2, false, .cells [.fn 96 []]⟩)]⟩ => soft_shape_round_c0 k x1 x2 x3 x4 x5 x6 x7 x8 x9 x10 x11 (fun q2 q8 q9 => K .normal [(2, .b x1), (5, .b q2), (6, .ptr 0 0 0 0 0), (9, .ptr 1 0 0 0 0), (13, .ptr 2 0 0 0 0), (14, .i .i64 x3), (15, .b x4)] ⟨3, [(0, some ⟨0, false, .cells [.i .i64 x7, .i .i64 x8, .i .i64 x9]⟩), (1, some ⟨1, false, .cells [.i .u64 q8, .i .u64 q9]⟩), (2, some ⟨2, false, .cells [.fn 96 []]⟩)]⟩)
  | 0, [(2, .b x1), (5, .b x2), (6, .ptr 0 0 0 0 0), (9, .ptr 1 0 0 0 0), (13, .ptr 2 0 0 0 0), (14, .i .i64 x3), (15, .b x4), (16, .i .i64 x5), (18, .b x6)], ⟨3, [(0, some ⟨0, false, .cells [.i .i64 x7, .i .i64 x8, .i .i64 x9]⟩), (1, some ⟨1, false, .cells [.i .u64 x10, .i .u64 x11]⟩), (2, some ⟨2, false, .cells [.fn 97 []]⟩)]⟩ => soft_shape_round_c3 k x1 x2 x3 x4 x5 x6 x7 x8 x9 x10 x11 (fun q2 q8 q9 => K .normal [(2, .b x1), (5, .b q2), (6, .ptr 0 0 0 0 0), (9, .ptr 1 0 0 0 0), (13, .ptr 2 0 0 0 0), (14, .i .i64 x3), (15, .b x4)] ⟨3, [(0, some ⟨0, false, .cells [.i .i64 x7, .i .i64 x8, .i .i64 x9]⟩), (1, some ⟨1, false, .cells [.i .u64 q8, .i .u64 q9]⟩), (2, some ⟨2, false, .cells [.fn 97 []]⟩)]⟩)
  | 0, [(2, .b x1), (5, .b x2), (6, .ptr 0 0 0 0 0), (9, .ptr 1 0 0 0 0), (13, .ptr 2 0 0 0 0), (14, .i .i64 x3), (15, .b x4), (16, .i .i64 x5), (18, .b x6)], ⟨3, [(0, some ⟨0, false, .cells [.i .i64 x7, .i .i64 x8, .i .i64 x9]⟩), (1, some ⟨1, false, .cells [.i .u64 x10, .i .u64 x11]⟩), (2, some ⟨2, false, .cells [.fn 98 []]⟩)]⟩ => soft_shape_round_c6 k x1 x2 x3 x4 x5 x6 x7 x8 x9 x10 x11 (fun q2 q8 q9 => K .normal [(2, .b x1), (5, .b q2), (6, .ptr 0 0 0 0 0), (9, .ptr 1 0 0 0 0), (13, .ptr 2 0 0 0 0), (14, .i .i64 x3), (15, .b x4)] ⟨3, [(0, some ⟨0, false, .cells [.i .i64 x7, .i .i64 x8, .i .i64 x9]⟩), (1, some ⟨1, false, .cells [.i .u64 q8, .i .u64 q9]⟩), (2, some ⟨2, false, .cells [.fn 98 []]⟩)]⟩)
  | _, _, _ => none
noncomputable def C54_10 {R : Type} (k : Nat) : LSum R := C54_10G soft_shape_round_c0 soft_shape_round_c3 soft_shape_round_c6 k
theorem soft_shape_round_c0_gen {R : Type} (wide_Len : wide_LenY R) (wide_Shl : wide_ShlY R) (soft_shape_inf : soft_shape_infY R) (soft_shape_sign : soft_shape_signY R) (wide_Shr : wide_ShrY R) (soft_shape_full : soft_shape_fullY R) (soft_rounderOf : soft_rounderOfY R) (soft_shape_most : soft_shape_mostY R) (soft_rounderOf_1 : soft_rounderOf_1Y R) (soft_rounderOf_2 : soft_rounderOf_2Y R) (soft_rounderOf_3 : soft_rounderOf_3Y R) (k : Nat) (x1 : Bool) (x2 : Bool) (x3 : Int) (x4 : Bool) (x5 : Int) (x6 : Bool) (x7 : Int) (x8 : Int) (x9 : Int) (x10 : Int) (x11 : Int) (K : Kont R) :
    (fun C => codeK C (run C 4)) (mkCx Ty exts [(51, true, S51G wide_Len k), (53, true, S53G wide_Shl k), (55, true, S55G soft_shape_inf k), (57, true, S57G soft_shape_sign k), (61, true, S61G wide_Shr k), (71, true, S71G soft_shape_full k), (79, true, S79G soft_rounderOf k), (80, true, S80G soft_shape_most k), (96, true, S96G soft_rounderOf_1 k), (97, true, S97G soft_rounderOf_2 k), (98, true, S98G soft_rounderOf_3 k)] fi54 [] []) 0 fi54 (cutAt ((Try.f54).body.getD .skip) 10) [(2, .b x1), (5, .b x2), (6, .ptr 0 0 0 0 0), (9, .ptr 1 0 0 0 0), (13, .ptr 2 0 0 0 0), (14, .i .i64 x3), (15, .b x4), (16, .i .i64 x5), (18, .b x6)] ⟨3, [(0, some ⟨0, false, .cells [.i .i64 x7, .i .i64 x8, .i .i64 x9]⟩), (1, some ⟨1, false, .cells [.i .u64 x10, .i .u64 x11]⟩), (2, some ⟨2, false, .cells [.fn 96 []]⟩)]⟩ (exitNorm fi54.ann 500010 0 K) = soft_shape_round_c0T wide_Shr k x1 x2 x3 x4 x5 x6 x7 x8 x9 x10 x11 (fun q2 q8 q9 => K .normal [(2, .b x1), (5, .b q2), (6, .ptr 0 0 0 0 0), (9, .ptr 1 0 0 0 0), (13, .ptr 2 0 0 0 0), (14, .i .i64 x3), (15, .b x4)] ⟨3, [(0, some ⟨0, false, .cells [.i .i64 x7, .i .i64 x8, .i .i64 x9]⟩), (1, some ⟨1, false, .cells [.i .u64 q8, .i .u64 q9]⟩), (2, some ⟨2, false, .cells [.fn 96 []]⟩)]⟩) := by kernel_rfl
theorem soft_shape_round_c3_gen {R : Type} (wide_Len : wide_LenY R) (wide_Shl : wide_ShlY R) (soft_shape_inf : soft_shape_infY R) (soft_shape_sign : soft_shape_signY R) (wide_Shr : wide_ShrY R) (soft_shape_full : soft_shape_fullY R) (soft_rounderOf : soft_rounderOfY R) (soft_shape_most : soft_shape_mostY R) (soft_rounderOf_1 : soft_rounderOf_1Y R) (soft_rounderOf_2 : soft_rounderOf_2Y R) (soft_rounderOf_3 : soft_rounderOf_3Y R) (k : Nat) (x1 : Bool) (x2 : Bool) (x3 : Int) (x4 : Bool) (x5 : Int) (x6 : Bool) (x7 : Int) (x8 : Int) (x9 : Int) (x10 : Int) (x11 : Int) (K : Kont R) :
    (fun C => codeK C (run C 4)) (mkCx Ty exts [(51, true, S51G wide_Len k), (53, true, S53G wide_Shl k), (55, true, S55G soft_shape_inf k), (57, true, S57G soft_shape_sign k), (61, true, S61G wide_Shr k), (71, true, S71G soft_shape_full k), (79, true, S79G soft_rounderOf k), (80, true, S80G soft_shape_most k), (96, true, S96G soft_rounderOf_1 k), (97, true, S97G soft_rounderOf_2 k), (98, true, S98G soft_rounderOf_3 k)] fi54 [] []) 0 fi54 (cutAt ((Try.f54).body.getD .skip) 10) [(2, .b x1), (5, .b x2), (6, .ptr 0 0 0 0 0), (9, .ptr 1 0 0 0 0), (13, .ptr 2 0 0 0 0), (14, .i .i64 x3), (15, .b x4), (16, .i .i64 x5), (18, .b x6)] ⟨3, [(0, some ⟨0, false, .cells [.i .i64 x7, .i .i64 x8, .i .i64 x9]⟩), (1, some ⟨1, false, .cells [.i .u64 x10, .i .u64 x11]⟩), (2, some ⟨2, false, .cells [.fn 97 []]⟩)]⟩ (exitNorm fi54.ann 500010 0 K) = soft_shape_round_c3T wide_Shr k x1 x2 x3 x4 x5 x6 x7 x8 x9 x10 x11 (fun q2 q8 q9 => K .normal [(2, .b x1), (5, .b q2), (6, .ptr 0 0 0 0 0), (9, .ptr 1 0 0 0 0), (13, .ptr 2 0 0 0 0), (14, .i .i64 x3), (15, .b x4)] ⟨3, [(0, some ⟨0, false, .cells [.i .i64 x7, .i .i64 x8, .i .i64 x9]⟩), (1, some ⟨1, false, .cells [.i .u64 q8, .i .u64 q9]⟩), (2, some ⟨2, false, .cells [.fn 97 []]⟩)]⟩) := by kernel_rfl
theorem soft_shape_round_c6_gen {R : Type} (wide_Len : wide_LenY R) (wide_Shl : wide_ShlY R) (soft_shape_inf : soft_shape_infY R) (soft_shape_sign : soft_shape_signY R) (wide_Shr : wide_ShrY R) (soft_shape_full : soft_shape_fullY R) (soft_rounderOf : soft_rounderOfY R) (soft_shape_most : soft_shape_mostY R) (soft_rounderOf_1 : soft_rounderOf_1Y R) (soft_rounderOf_2 : soft_rounderOf_2Y R) (soft_rounderOf_3 : soft_rounderOf_3Y R) (k : Nat) (x1 : Bool) (x2 : Bool) (x3 : Int) (x4 : Bool) (x5 : Int) (x6 : Bool) (x7 : Int) (x8 : Int) (x9 : Int) (x10 : Int) (x11 : Int) (K : Kont R) :
    (fun C => codeK C (run C 4)) (mkCx Ty exts [(51, true, S51G wide_Len k), (53, true, S53G wide_Shl k), (55, true, S55G soft_shape_inf k), (57, true, S57G soft_shape_sign k), (61, true, S61G wide_Shr k), (71, true, S71G soft_shape_full k), (79, true, S79G soft_rounderOf k), (80, true, S80G soft_shape_most k), (96, true, S96G soft_rounderOf_1 k), (97, true, S97G soft_rounderOf_2 k), (98, true, S98G soft_rounderOf_3 k)] fi54 [] []) 0 fi54 (cutAt ((Try.f54).body.getD .skip) 10) [(2, .b x1), (5, .b x2), (6, .ptr 0 0 0 0 0), (9, .ptr 1 0 0 0 0), (13, .ptr 2 0 0 0 0), (14, .i .i64 x3), (15, .b x4), (16, .i .i64 x5), (18, .b x6)] ⟨3, [(0, some ⟨0, false, .cells [.i .i64 x7, .i .i64 x8, .i .i64 x9]⟩), (1, some ⟨1, false, .cells [.i .u64 x10, .i .u64 x11]⟩), (2, some ⟨2, false, .cells [.fn 98 []]⟩)]⟩ (exitNorm fi54.ann 500010 0 K) = soft_shape_round_c6T wide_Shr k x1 x2 x3 x4 x5 x6 x7 x8 x9 x10 x11 (fun q2 q8 q9 => K .normal [(2, .b x1), (5, .b q2), (6, .ptr 0 0 0 0 0), (9, .ptr 1 0 0 0 0), (13, .ptr 2 0 0 0 0), (14, .i .i64 x3), (15, .b x4)] ⟨3, [(0, some ⟨0, false, .cells [.i .i64 x7, .i .i64 x8, .i .i64 x9]⟩), (1, some ⟨1, false, .cells [.i .u64 q8, .i .u64 q9]⟩), (2, some ⟨2, false, .cells [.fn 98 []]⟩)]⟩) := by kernel_rfl
theorem C54_10_cok {R : Type} (k : Nat) : CodeOk Try.prog (cc54_10 k : Cx R) fi54 (cutAt ((Try.f54).body.getD .skip) 10) := cutAt_ok (((cc54_10_ok k).fns 54 fi54 (by kernel_rfl)).2.2.2 ((Try.f54).body.getD .skip) (by kernel_rfl))
theorem C54_10_ok {R : Type} (k : Nat) : CutOk Try.prog (Try.f54).ntmps (cutAt ((Try.f54).body.getD .skip) 10) (C54_10 k : LSum R) := by
  intro pin T H K r h
  unfold C54_10 C54_10G at h
  split at h
  · obtain ⟨ex, T1, H1, h, hb⟩ := codeK_sound (cc54_10_ok k) (run_sound (cc54_10_ok k) 4) _ fi54 _ _ _ _ _ (C54_10_cok k) ((soft_shape_round_c0_gen wide_Len wide_Shl soft_shape_inf soft_shape_sign wide_Shr soft_shape_full soft_rounderOf soft_shape_most soft_rounderOf_1 soft_rounderOf_2 soft_rounderOf_3 k _ _ _ _ _ _ _ _ _ _ _ K).trans h)
    exact cut_step hb h
  · obtain ⟨ex, T1, H1, h, hb⟩ := codeK_sound (cc54_10_ok k) (run_sound (cc54_10_ok k) 4) _ fi54 _ _ _ _ _ (C54_10_cok k) ((soft_shape_round_c3_gen wide_Len wide_Shl soft_shape_inf soft_shape_sign wide_Shr soft_shape_full soft_rounderOf soft_shape_most soft_rounderOf_1 soft_rounderOf_2 soft_rounderOf_3 k _ _ _ _ _ _ _ _ _ _ _ K).trans h)
    exact cut_step hb h
  · obtain ⟨ex, T1, H1, h, hb⟩ := codeK_sound (cc54_10_ok k) (run_sound (cc54_10_ok k) 4) _ fi54 _ _ _ _ _ (C54_10_cok k) ((soft_shape_round_c6_gen wide_Len wide_Shl soft_shape_inf soft_shape_sign wide_Shr soft_shape_full soft_rounderOf soft_shape_most soft_rounderOf_1 soft_rounderOf_2 soft_rounderOf_3 k _ _ _ _ _ _ _ _ _ _ _ K).trans h)
    exact cut_step hb h
  · cases h
@[reducible] def soft_shape_round_c1Y (R : Type) : Type := Nat → Bool → Int → Int → Int → Int → Int → (Int → Option R) → Option R
noncomputable def soft_shape_round_c1T {R : Type} (soft_rounderOf_1 : soft_rounderOf_1Y R) (soft_shape_full : soft_shape_fullY R) (soft_shape_inf : soft_shape_infY R) (soft_shape_most : soft_shape_mostY R) (soft_shape_sign : soft_shape_signY R) (k : Nat) (x1 : Bool) (x2 : Int) (x3 : Int) (x4 : Int) (x5 : Int) (x6 : Int) (K0 : Int → Option R) : Option R :=
  cond (decide ((Wi64 (x4 + 1)) < 0)) (
    none) (
    cond ((shr .u64 x3 (Wi64 (x4 + 1))) != 0) (
      cond (decide (x4 < 0)) (
        none) (
        cond ((shr .u64 (shr .u64 x3 1) x4) == 0) (
          soft_shape_sign k x4 x5 x6 x1 (fun yyyr1 =>
            K0 (bOr .u64 yyyr1 (shr .u64 x3 1)))) (
          soft_shape_full k x4 x5 x6 (fun yyyr2 =>
            cond (decide ((Wu64 (Wi64 ((Wi64 ((Wi64 (x2 + 1)) - x6)) + 1))) < yyyr2)) (
              soft_shape_sign k x4 x5 x6 x1 (fun yyyr3 =>
                cond (decide (x4 < 0)) (
                  none) (
                  cond (decide (x4 < 0)) (
                    none) (
                    K0 (bOr .u64 (bOr .u64 yyyr3 (shl .u64 (Wu64 (Wi64 ((Wi64 ((Wi64 (x2 + 1)) - x6)) + 1))) x4)) (bAnd .u64 (shr .u64 x3 1) (Wu64 ((shl .u64 1 x4) - 1)))))))) (
              soft_rounderOf_1 k true true true (fun yyyr4 =>
                cond yyyr4 (
                  soft_shape_inf k x4 x5 x6 x1 (fun yyyr5 =>
                    K0 yyyr5)) (
                  soft_shape_most k x4 x5 x6 x1 (fun yyyr6 =>
                    K0 yyyr6)))))))) (
      cond (decide (x4 < 0)) (
        none) (
        cond ((shr .u64 x3 x4) == 0) (
          soft_shape_sign k x4 x5 x6 x1 (fun yyyr7 =>
            K0 (bOr .u64 yyyr7 x3))) (
          soft_shape_full k x4 x5 x6 (fun yyyr8 =>
            cond (decide ((Wu64 (Wi64 ((Wi64 (x2 - x6)) + 1))) < yyyr8)) (
              soft_shape_sign k x4 x5 x6 x1 (fun yyyr9 =>
                cond (decide (x4 < 0)) (
                  none) (
                  cond (decide (x4 < 0)) (
                    none) (
                    K0 (bOr .u64 (bOr .u64 yyyr9 (shl .u64 (Wu64 (Wi64 ((Wi64 (x2 - x6)) + 1))) x4)) (bAnd .u64 x3 (Wu64 ((shl .u64 1 x4) - 1)))))))) (
              soft_rounderOf_1 k true true true (fun yyyr10 =>
                cond yyyr10 (
                  soft_shape_inf k x4 x5 x6 x1 (fun yyyr11 =>
                    K0 yyyr11)) (
                  soft_shape_most k x4 x5 x6 x1 (fun yyyr12 =>
                    K0 yyyr12)))))))))
noncomputable def soft_shape_round_c1 {R : Type} (k : Nat) (x1 : Bool) (x2 : Int) (x3 : Int) (x4 : Int) (x5 : Int) (x6 : Int) (K0 : Int → Option R) : Option R := soft_shape_round_c1T soft_rounderOf_1 soft_shape_full soft_shape_inf soft_shape_most soft_shape_sign k x1 x2 x3 x4 x5 x6 K0
@[reducible] def soft_shape_round_c4Y (R : Type) : Type := Nat → Bool → Int → Int → Int → Int → Int → (Int → Option R) → Option R
noncomputable def soft_shape_round_c4T {R : Type} (soft_rounderOf_2 : soft_rounderOf_2Y R) (soft_shape_full : soft_shape_fullY R) (soft_shape_inf : soft_shape_infY R) (soft_shape_most : soft_shape_mostY R) (soft_shape_sign : soft_shape_signY R) (k : Nat) (x1 : Bool) (x2 : Int) (x3 : Int) (x4 : Int) (x5 : Int) (x6 : Int) (K0 : Int → Option R) : Option R :=
  cond (decide ((Wi64 (x4 + 1)) < 0)) (
    none) (
    cond ((shr .u64 x3 (Wi64 (x4 + 1))) != 0) (
      cond (decide (x4 < 0)) (
        none) (
        cond ((shr .u64 (shr .u64 x3 1) x4) == 0) (
          soft_shape_sign k x4 x5 x6 x1 (fun yyyr1 =>
            K0 (bOr .u64 yyyr1 (shr .u64 x3 1)))) (
          soft_shape_full k x4 x5 x6 (fun yyyr2 =>
            cond (decide ((Wu64 (Wi64 ((Wi64 ((Wi64 (x2 + 1)) - x6)) + 1))) < yyyr2)) (
              soft_shape_sign k x4 x5 x6 x1 (fun yyyr3 =>
                cond (decide (x4 < 0)) (
                  none) (
                  cond (decide (x4 < 0)) (
                    none) (
                    K0 (bOr .u64 (bOr .u64 yyyr3 (shl .u64 (Wu64 (Wi64 ((Wi64 ((Wi64 (x2 + 1)) - x6)) + 1))) x4)) (bAnd .u64 (shr .u64 x3 1) (Wu64 ((shl .u64 1 x4) - 1)))))))) (
              soft_rounderOf_2 k true true true (fun yyyr4 =>
                cond yyyr4 (
                  soft_shape_inf k x4 x5 x6 x1 (fun yyyr5 =>
                    K0 yyyr5)) (
                  soft_shape_most k x4 x5 x6 x1 (fun yyyr6 =>
                    K0 yyyr6)))))))) (
      cond (decide (x4 < 0)) (
        none) (
        cond ((shr .u64 x3 x4) == 0) (
          soft_shape_sign k x4 x5 x6 x1 (fun yyyr7 =>
            K0 (bOr .u64 yyyr7 x3))) (
          soft_shape_full k x4 x5 x6 (fun yyyr8 =>
            cond (decide ((Wu64 (Wi64 ((Wi64 (x2 - x6)) + 1))) < yyyr8)) (
              soft_shape_sign k x4 x5 x6 x1 (fun yyyr9 =>
                cond (decide (x4 < 0)) (
                  none) (
                  cond (decide (x4 < 0)) (
                    none) (
                    K0 (bOr .u64 (bOr .u64 yyyr9 (shl .u64 (Wu64 (Wi64 ((Wi64 (x2 - x6)) + 1))) x4)) (bAnd .u64 x3 (Wu64 ((shl .u64 1 x4) - 1)))))))) (
              soft_rounderOf_2 k true true true (fun yyyr10 =>
                cond yyyr10 (
                  soft_shape_inf k x4 x5 x6 x1 (fun yyyr11 =>
                    K0 yyyr11)) (
                  soft_shape_most k x4 x5 x6 x1 (fun yyyr12 =>
                    K0 yyyr12)))))))))
noncomputable def soft_shape_round_c4 {R : Type} (k : Nat) (x1 : Bool) (x2 : Int) (x3 : Int) (x4 : Int) (x5 : Int) (x6 : Int) (K0 : Int → Option R) : Option R := soft_shape_round_c4T soft_rounderOf_2 soft_shape_full soft_shape_inf soft_shape_most soft_shape_sign k x1 x2 x3 x4 x5 x6 K0
@[reducible] def soft_shape_round_c7Y (R : Type) : Type := Nat → Bool → Int → Int → Int → Int → Int → (Int → Option R) → Option R
noncomputable def soft_shape_round_c7T {R : Type} (soft_rounderOf_3 : soft_rounderOf_3Y R) (soft_shape_full : soft_shape_fullY R) (soft_shape_inf : soft_shape_infY R) (soft_shape_most : soft_shape_mostY R) (soft_shape_sign : soft_shape_signY R) (k : Nat) (x1 : Bool) (x2 : Int) (x3 : Int) (x4 : Int) (x5 : Int) (x6 : Int) (K0 : Int → Option R) : Option R :=
  cond (decide ((Wi64 (x4 + 1)) < 0)) (
    none) (
    cond ((shr .u64 x3 (Wi64 (x4 + 1))) != 0) (
      cond (decide (x4 < 0)) (
        none) (
        cond ((shr .u64 (shr .u64 x3 1) x4) == 0) (
          soft_shape_sign k x4 x5 x6 x1 (fun yyyr1 =>
            K0 (bOr .u64 yyyr1 (shr .u64 x3 1)))) (
          soft_shape_full k x4 x5 x6 (fun yyyr2 =>
            cond (decide ((Wu64 (Wi64 ((Wi64 ((Wi64 (x2 + 1)) - x6)) + 1))) < yyyr2)) (
              soft_shape_sign k x4 x5 x6 x1 (fun yyyr3 =>
                cond (decide (x4 < 0)) (
                  none) (
                  cond (decide (x4 < 0)) (
                    none) (
                    K0 (bOr .u64 (bOr .u64 yyyr3 (shl .u64 (Wu64 (Wi64 ((Wi64 ((Wi64 (x2 + 1)) - x6)) + 1))) x4)) (bAnd .u64 (shr .u64 x3 1) (Wu64 ((shl .u64 1 x4) - 1)))))))) (
              soft_rounderOf_3 k true true true (fun yyyr4 =>
                cond yyyr4 (
                  soft_shape_inf k x4 x5 x6 x1 (fun yyyr5 =>
                    K0 yyyr5)) (
                  soft_shape_most k x4 x5 x6 x1 (fun yyyr6 =>
                    K0 yyyr6)))))))) (
      cond (decide (x4 < 0)) (
        none) (
        cond ((shr .u64 x3 x4) == 0) (
          soft_shape_sign k x4 x5 x6 x1 (fun yyyr7 =>
            K0 (bOr .u64 yyyr7 x3))) (
          soft_shape_full k x4 x5 x6 (fun yyyr8 =>
            cond (decide ((Wu64 (Wi64 ((Wi64 (x2 - x6)) + 1))) < yyyr8)) (
              soft_shape_sign k x4 x5 x6 x1 (fun yyyr9 =>
                cond (decide (x4 < 0)) (
                  none) (
                  cond (decide (x4 < 0)) (
                    none) (
                    K0 (bOr .u64 (bOr .u64 yyyr9 (shl .u64 (Wu64 (Wi64 ((Wi64 (x2 - x6)) + 1))) x4)) (bAnd .u64 x3 (Wu64 ((shl .u64 1 x4) - 1)))))))) (
              soft_rounderOf_3 k true true true (fun yyyr10 =>
                cond yyyr10 (
                  soft_shape_inf k x4 x5 x6 x1 (fun yyyr11 =>
                    K0 yyyr11)) (
                  soft_shape_most k x4 x5 x6 x1 (fun yyyr12 =>
                    K0 yyyr12)))))))))
noncomputable def soft_shape_round_c7 {R : Type} (k : Nat) (x1 : Bool) (x2 : Int) (x3 : Int) (x4 : Int) (x5 : Int) (x6 : Int) (K0 : Int → Option R) : Option R := soft_shape_round_c7T soft_rounderOf_3 soft_shape_full soft_shape_inf soft_shape_most soft_shape_sign k x1 x2 x3 x4 x5 x6 K0
noncomputable def cc54_18 {R : Type} (k : Nat) : Cx R := mkCx Ty exts [(51, true, S51 k), (53, true, S53 k), (55, true, S55 k), (57, true, S57 k), (61, true, S61 k), (71, true, S71 k), (79, true, S79 k), (80, true, S80 k), (96, true, S96 k), (97, true, S97 k), (98, true, S98 k)] fi54 [] [(10, C54_10 k)]
theorem cc54_18_ok {R : Type} (k : Nat) : CxOk Try.prog (cc54_18 k : Cx R) := mkCx_ok (c := ((Try.f54).body.getD .skip)) ty_ok mixed exts_ok (allSum_cons (S51_ok k) en51 (allSum_cons (S53_ok k) en53 (allSum_cons (S55_ok k) en55 (allSum_cons (S57_ok k) en57 (allSum_cons (S61_ok k) en61 (allSum_cons (S71_ok k) en71 (allSum_cons (S79_ok k) en79 (allSum_cons (S80_ok k) en80 (allSum_cons (S96_ok k) en96 (allSum_cons (S97_ok k) en97 (allSum_cons (S98_ok k) en98 allSum_nil))))))))))) Try.func54 en54 (by kernel_rfl) (by kernel_rfl) allLoop_nil (allCut_cons (C54_10_ok k) (by kernel_rfl) allCut_nil)
noncomputable def C54_18G {R : Type} (soft_shape_round_c1 : soft_shape_round_c1Y R) (soft_shape_round_c4 : soft_shape_round_c4Y R) (soft_shape_round_c7 : soft_shape_round_c7Y R) (k : Nat) : LSum R := fun pin T H K => match pin, T, H with
  | 0, [(2, .b x1), (6, .ptr 0 0 0 0 0), (13, .ptr 1 0 0 0 0), (14, .i .i64 x2), (19, .i .u64 x3)], ⟨2, [(0, some ⟨0, false, .cells [.i .i64 x4, .i .i64 x5, .i .i64 x6]⟩), (1, some ⟨1, false, .cells [.fn 96 []]⟩)]⟩ => soft_shape_round_c1 k x1 x2 x3 x4 x5 x6 (fun q1 => K .ret [(12, .i .u64 q1)] ⟨0, []⟩)
  | 0, [(2, .b x1), (6, .ptr 0 0 0 0 0), (13, .ptr 1 0 0 0 0), (14, .i .i64 x2), (19, .i .u64 x3)], ⟨2, [(0, some ⟨0, false, .cells [.i .i64 x4, .i .i64 x5, .i .i64 x6]⟩), (1, some ⟨1, false, .cells [.fn 97 []]⟩)]⟩ => soft_shape_round_c4 k x1 x2 x3 x4 x5 x6 (fun q1 => K .ret [(12, .i .u64 q1)] ⟨0, []⟩)
  | 0, [(2, .b x1), (6, .ptr 0 0 0 0 0), (13, .ptr 1 0 0 0 0), (14, .i .i64 x2), (19, .i .u64 x3)], ⟨2, [(0, some ⟨0, false, .cells [.i .i64 x4, .i .i64 x5, .i .i64 x6]⟩), (1, some ⟨1, false, .cells [.fn 98 []]⟩)]⟩ => soft_shape_round_c7 k x1 x2 x3 x4 x5 x6 (fun q1 => K .ret [(12, .i .u64 q1)] ⟨0, []⟩)
  | _, _, _ => none
noncomputable def C54_18 {R : Type} (k : Nat) : LSum R := C54_18G soft_shape_round_c1 soft_shape_round_c4 soft_shape_round_c7 k
theorem soft_shape_round_c1_gen {R : Type} (wide_Len : wide_LenY R) (wide_Shl : wide_ShlY R) (soft_shape_inf : soft_shape_infY R) (soft_shape_sign : soft_shape_signY R) (wide_Shr : wide_ShrY R) (soft_shape_full : soft_shape_fullY R) (soft_rounderOf : soft_rounderOfY R) (soft_shape_most : soft_shape_mostY R) (soft_rounderOf_1 : soft_rounderOf_1Y R) (soft_rounderOf_2 : soft_rounderOf_2Y R) (soft_rounderOf_3 : soft_rounderOf_3Y R) (soft_shape_round_c0 : soft_shape_round_c0Y R) (soft_shape_round_c3 : soft_shape_round_c3Y R) (soft_shape_round_c6 : soft_shape_round_c6Y R) (k : Nat) (x1 : Bool) (x2 : Int) (x3 : Int) (x4 : Int) (x5 : Int) (x6 : Int) (K : Kont R) :
    (fun C => codeK C (run C 4)) (mkCx Ty exts [(51, true, S51G wide_Len k), (53, true, S53G wide_Shl k), (55, true, S55G soft_shape_inf k), (57, true, S57G soft_shape_sign k), (61, true, S61G wide_Shr k), (71, true, S71G soft_shape_full k), (79, true, S79G soft_rounderOf k), (80, true, S80G soft_shape_most k), (96, true, S96G soft_rounderOf_1 k), (97, true, S97G soft_rounderOf_2 k), (98, true, S98G soft_rounderOf_3 k)] fi54 [] [(10, C54_10G soft_shape_round_c0 soft_shape_round_c3 soft_shape_round_c6 k)]) 0 fi54 (cutAt ((Try.f54).body.getD .skip) 18) [(2, .b x1), (6, .ptr 0 0 0 0 0), (13, .ptr 1 0 0 0 0), (14, .i .i64 x2), (19, .i .u64 x3)] ⟨2, [(0, some ⟨0, false, .cells [.i .i64 x4, .i .i64 x5, .i .i64 x6]⟩), (1, some ⟨1, false, .cells [.fn 96 []]⟩)]⟩ (exitNorm fi54.ann 500018 0 K) = soft_shape_round_c1T soft_rounderOf_1 soft_shape_full soft_shape_inf soft_shape_most soft_shape_sign k x1 x2 x3 x4 x5 x6 (fun q1 => K .ret [(12, .i .u64 q1)] ⟨0, []⟩) := by kernel_rfl
theorem soft_shape_round_c4_gen {R : Type} (wide_Len : wide_LenY R) (wide_Shl : wide_ShlY R) (soft_shape_inf : soft_shape_infY R) (soft_shape_sign : soft_shape_signY R) (wide_Shr : wide_ShrY R) (soft_shape_full : soft_shape_fullY R) (soft_rounderOf : soft_rounderOfY R) (soft_shape_most : soft_shape_mostY R) (soft_rounderOf_1 : soft_rounderOf_1Y R) (soft_rounderOf_2 : soft_rounderOf_2Y R) (soft_rounderOf_3 : soft_rounderOf_3Y R) (soft_shape_round_c0 : soft_shape_round_c0Y R) (soft_shape_round_c3 : soft_shape_round_c3Y R) (soft_shape_round_c6 : soft_shape_round_c6Y R) (k : Nat) (x1 : Bool) (x2 : Int) (x3 : Int) (x4 : Int) (x5 : Int) (x6 : Int) (K : Kont R) :
    (fun C => codeK C (run C 4)) (mkCx Ty exts [(51, true, S51G wide_Len k), (53, true, S53G wide_Shl k), (55, true, S55G soft_shape_inf k), (57, true, S57G soft_shape_sign k), (61, true, S61G wide_Shr k), (71, true, S71G soft_shape_full k), (79, true, S79G soft_rounderOf k), (80, true, S80G soft_shape_most k), (96, true, S96G soft_rounderOf_1 k), (97, true, S97G soft_rounderOf_2 k), (98, true, S98G soft_rounderOf_3 k)] fi54 [] [(10, C54_10G soft_shape_round_c0 soft_shape_round_c3 soft_shape_round_c6 k)]) 0 fi54 (cutAt ((Try.f54).body.getD .skip) 18) [(2, .b x1), (6, .ptr 0 0 0 0 0), (13, .ptr 1 0 0 0 0), (14, .i .i64 x2), (19, .i .u64 x3)] ⟨2, [(0, some ⟨0, false, .cells [.i .i64 x4, .i .i64 x5, .i .i64 x6]⟩), (1, some ⟨1, false, .cells [.fn 97 []]⟩)]⟩ (exitNorm fi54.ann 500018 0 K) = soft_shape_round_c4T soft_rounderOf_2 soft_shape_full soft_shape_inf soft_shape_most soft_shape_sign k x1 x2 x3 x4 x5 x6 (fun q1 => K .ret [(12, .i .u64 q1)] ⟨0, []⟩) := by kernel_rfl
theorem soft_shape_round_c7_gen {R : Type} (wide_Len : wide_LenY R) (wide_Shl : wide_ShlY R) (soft_shape_inf : soft_shape_infY R) (soft_shape_sign : soft_shape_signY R) (wide_Shr : wide_ShrY R) (soft_shape_full : soft_shape_fullY R) (soft_rounderOf : soft_rounderOfY R) (soft_shape_most : soft_shape_mostY R) (soft_rounderOf_1 : soft_rounderOf_1Y R) (soft_rounderOf_2 : soft_rounderOf_2Y R) (soft_rounderOf_3 : soft_rounderOf_3Y R) (soft_shape_round_c0 : soft_shape_round_c0Y R) (soft_shape_round_c3 : soft_shape_round_c3Y R) (soft_shape_round_c6 : soft_shape_round_c6Y R) (k : Nat) (x1 : Bool) (x2 : Int) (x3 : Int) (x4 : Int) (x5 : Int) (x6 : Int) (K : Kont R) :
    (fun C => codeK C (run C 4)) (mkCx Ty exts [(51, true, S51G wide_Len k), (53, true, S53G wide_Shl k), (55, true, S55G soft_shape_inf k), (57, true, S57G soft_shape_sign k), (61, true, S61G wide_Shr k), (71, true, S71G soft_shape_full k), (79, true, S79G soft_rounderOf k), (80, true, S80G soft_shape_most k), (96, true, S96G soft_rounderOf_1 k), (97, true, S97G soft_rounderOf_2 k), (98, true, S98G soft_rounderOf_3 k)] fi54 [] [(10, C54_10G soft_shape_round_c0 soft_shape_round_c3 soft_shape_round_c6 k)]) 0 fi54 (cutAt ((Try.f54).body.getD .skip) 18) [(2, .b x1), (6, .ptr 0 0 0 0 0), (13, .ptr 1 0 0 0 0), (14, .i .i64 x2), (19, .i .u64 x3)] ⟨2, [(0, some ⟨0, false, .cells [.i .i64 x4, .i .i64 x5, .i .i64 x6]⟩), (1, some ⟨1, false, .cells [.fn 98 []]⟩)]⟩ (exitNorm fi54.ann 500018 0 K) = soft_shape_round_c7T soft_rounderOf_3 soft_shape_full soft_shape_inf soft_shape_most soft_shape_sign k x1 x2 x3 x4 x5 x6 (fun q1 => K .ret [(12, .i .u64 q1)] ⟨0, []⟩) := by kernel_rfl
theorem C54_18_cok {R : Type} (k : Nat) : CodeOk Try.prog (cc54_18 k : Cx R) fi54 (cutAt ((Try.f54).body.getD .skip) 18) := cutAt_ok (((cc54_18_ok k).fns 54 fi54 (by kernel_rfl)).2.2.2 ((Try.f54).body.getD .skip) (by kernel_rfl))
theorem C54_18_ok {R : Type} (k : Nat) : CutOk Try.prog (Try.f54).ntmps (cutAt ((Try.f54).body.getD .skip) 18) (C54_18 k : LSum R) := by
  intro pin T H K r h
  unfold C54_18 C54_18G at h
  split at h
  · obtain ⟨ex, T1, H1, h, hb⟩ := codeK_sound (cc54_18_ok k) (run_sound (cc54_18_ok k) 4) _ fi54 _ _ _ _ _ (C54_18_cok k) ((soft_shape_round_c1_gen wide_Len wide_Shl soft_shape_inf soft_shape_sign wide_Shr soft_shape_full soft_rounderOf soft_shape_most soft_rounderOf_1 soft_rounderOf_2 soft_rounderOf_3 soft_shape_round_c0 soft_shape_round_c3 soft_shape_round_c6 k _ _ _ _ _ _ K).trans h)
    exact cut_step hb h
  · obtain ⟨ex, T1, H1, h, hb⟩ := codeK_sound (cc54_18_ok k) (run_sound (cc54_18_ok k) 4) _ fi54 _ _ _ _ _ (C54_18_cok k) ((soft_shape_round_c4_gen wide_Len wide_Shl soft_shape_inf soft_shape_sign wide_Shr soft_shape_full soft_rounderOf soft_shape_most soft_rounderOf_1 soft_rounderOf_2 soft_rounderOf_3 soft_shape_round_c0 soft_shape_round_c3 soft_shape_round_c6 k _ _ _ _ _ _ K).trans h)
    exact cut_step hb h
  · obtain ⟨ex, T1, H1, h, hb⟩ := codeK_sound (cc54_18_ok k) (run_sound (cc54_18_ok k) 4) _ fi54 _ _ _ _ _ (C54_18_cok k) ((soft_shape_round_c7_gen wide_Len wide_Shl soft_shape_inf soft_shape_sign wide_Shr soft_shape_full soft_rounderOf soft_shape_most soft_rounderOf_1 soft_rounderOf_2 soft_rounderOf_3 soft_shape_round_c0 soft_shape_round_c3 soft_shape_round_c6 k _ _ _ _ _ _ K).trans h)
    exact cut_step hb h
  · cases h
@[reducible] def soft_shape_round_c2Y (R : Type) : Type := Nat → Bool → Bool → Int → Bool → Int → Int → Int → Int → Int → (Int → Option R) → Option R
noncomputable def soft_shape_round_c2T {R : Type} (soft_rounderOf_1 : soft_rounderOf_1Y R) (soft_shape_round_c1 : soft_shape_round_c1Y R) (k : Nat) (x1 : Bool) (x2 : Bool) (x3 : Int) (x4 : Bool) (x5 : Int) (x6 : Int) (x7 : Int) (x8 : Int) (x9 : Int) (K0 : Int → Option R) : Option R :=
  soft_rounderOf_1 k ((bAnd .u64 x9 1) == 1) x4 x2 (fun yyr1 =>
    cond yyr1 (
      soft_shape_round_c1 k x1 x3 (Wu64 (x9 + 1)) x5 x6 x7 (fun yyr2 =>
        K0 yyr2)) (
      soft_shape_round_c1 k x1 x3 x9 x5 x6 x7 (fun yyr3 =>
        K0 yyr3)))
noncomputable def soft_shape_round_c2 {R : Type} (k : Nat) (x1 : Bool) (x2 : Bool) (x3 : Int) (x4 : Bool) (x5 : Int) (x6 : Int) (x7 : Int) (x8 : Int) (x9 : Int) (K0 : Int → Option R) : Option R := soft_shape_round_c2T soft_rounderOf_1 soft_shape_round_c1 k x1 x2 x3 x4 x5 x6 x7 x8 x9 K0
@[reducible] def soft_shape_round_c5Y (R : Type) : Type := Nat → Bool → Bool → Int → Bool → Int → Int → Int → Int → Int → (Int → Option R) → Option R
noncomputable def soft_shape_round_c5T {R : Type} (soft_rounderOf_2 : soft_rounderOf_2Y R) (soft_shape_round_c4 : soft_shape_round_c4Y R) (k : Nat) (x1 : Bool) (x2 : Bool) (x3 : Int) (x4 : Bool) (x5 : Int) (x6 : Int) (x7 : Int) (x8 : Int) (x9 : Int) (K0 : Int → Option R) : Option R :=
  soft_rounderOf_2 k ((bAnd .u64 x9 1) == 1) x4 x2 (fun yyr1 =>
    cond yyr1 (
      soft_shape_round_c4 k x1 x3 (Wu64 (x9 + 1)) x5 x6 x7 (fun yyr2 =>
        K0 yyr2)) (
      soft_shape_round_c4 k x1 x3 x9 x5 x6 x7 (fun yyr3 =>
        K0 yyr3)))
noncomputable def soft_shape_round_c5 {R : Type} (k : Nat) (x1 : Bool) (x2 : Bool) (x3 : Int) (x4 : Bool) (x5 : Int) (x6 : Int) (x7 : Int) (x8 : Int) (x9 : Int) (K0 : Int → Option R) : Option R := soft_shape_round_c5T soft_rounderOf_2 soft_shape_round_c4 k x1 x2 x3 x4 x5 x6 x7 x8 x9 K0
@[reducible] def soft_shape_round_c8Y (R : Type) : Type := Nat → Bool → Bool → Int → Bool → Int → Int → Int → Int → Int → (Int → Option R) → Option R
noncomputable def soft_shape_round_c8T {R : Type} (soft_rounderOf_3 : soft_rounderOf_3Y R) (soft_shape_round_c7 : soft_shape_round_c7Y R) (k : Nat) (x1 : Bool) (x2 : Bool) (x3 : Int) (x4 : Bool) (x5 : Int) (x6 : Int) (x7 : Int) (x8 : Int) (x9 : Int) (K0 : Int → Option R) : Option R :=
  soft_rounderOf_3 k ((bAnd .u64 x9 1) == 1) x4 x2 (fun yyr1 =>
    cond yyr1 (
      soft_shape_round_c7 k x1 x3 (Wu64 (x9 + 1)) x5 x6 x7 (fun yyr2 =>
        K0 yyr2)) (
      soft_shape_round_c7 k x1 x3 x9 x5 x6 x7 (fun yyr3 =>
        K0 yyr3)))
noncomputable def soft_shape_round_c8 {R : Type} (k : Nat) (x1 : Bool) (x2 : Bool) (x3 : Int) (x4 : Bool) (x5 : Int) (x6 : Int) (x7 : Int) (x8 : Int) (x9 : Int) (K0 : Int → Option R) : Option R := soft_shape_round_c8T soft_rounderOf_3 soft_shape_round_c7 k x1 x2 x3 x4 x5 x6 x7 x8 x9 K0
noncomputable def cc54_15 {R : Type} (k : Nat) : Cx R := mkCx Ty exts [(51, true, S51 k), (53, true, S53 k), (55, true, S55 k), (57, true, S57 k), (61, true, S61 k), (71, true, S71 k), (79, true, S79 k), (80, true, S80 k), (96, true, S96 k), (97, true, S97 k), (98, true, S98 k)] fi54 [] [(10, C54_10 k), (18, C54_18 k)]
theorem cc54_15_ok {R : Type} (k : Nat) : CxOk Try.prog (cc54_15 k : Cx R) := mkCx_ok (c := ((Try.f54).body.getD .skip)) ty_ok mixed exts_ok (allSum_cons (S51_ok k) en51 (allSum_cons (S53_ok k) en53 (allSum_cons (S55_ok k) en55 (allSum_cons (S57_ok k) en57 (allSum_cons (S61_ok k) en61 (allSum_cons (S71_ok k) en71 (allSum_cons (S79_ok k) en79 (allSum_cons (S80_ok k) en80 (allSum_cons (S96_ok k) en96 (allSum_cons (S97_ok k) en97 (allSum_cons (S98_ok k) en98 allSum_nil))))))))))) Try.func54 en54 (by kernel_rfl) (by kernel_rfl) allLoop_nil (allCut_cons (C54_10_ok k) (by kernel_rfl) (allCut_cons (C54_18_ok k) (by kernel_rfl) allCut_nil))
noncomputable def C54_15G {R : Type} (soft_shape_round_c2 : soft_shape_round_c2Y R) (soft_shape_round_c5 : soft_shape_round_c5Y R) (soft_shape_round_c8 : soft_shape_round_c8Y R) (k : Nat) : LSum R := fun pin T H K => match pin, T, H with
  | 0, [(2, .b x1), (5, .b x2), (6, .ptr 0 0 0 0 0), (9, .ptr 1 0 0 0 0), (13, .ptr 2 0 0 0 0), (14, .i .i64 x3), (15, .b x4)], ⟨3, [(0, some ⟨0, false, .cells [.i .i64 x5, .i .i64 x6, .i .i64 x7]⟩), (1, some ⟨1, false, .cells [.i .u64 x8, .i .u64 x9]⟩), (2, some ⟨2, false, .cells [.fn 96 []]⟩)]⟩ => soft_shape_round_c2 k x1 x2 x3 x4 x5 x6 x7 x8 x9 (fun q1 => K .ret [(12, .i .u64 q1)] ⟨0, []⟩)
  | 0, [(2, .b x1), (5, .b x2), (6, .ptr 0 0 0 0 0), (9, .ptr 1 0 0 0 0), (13, .ptr 2 0 0 0 0), (14, .i .i64 x3), (15, .b x4)], ⟨3, [(0, some ⟨0, false, .cells [.i .i64 x5, .i .i64 x6, .i .i64 x7]⟩), (1, some ⟨1, false, .cells [.i .u64 x8, .i .u64 x9]⟩), (2, some ⟨2, false, .cells [.fn 97 []]⟩)]⟩ => soft_shape_round_c5 k x1 x2 x3 x4 x5 x6 x7 x8 x9 (fun q1 => K .ret [(12, .i .u64 q1)] ⟨0, []⟩)
  | 0, [(2, .b x1), (5, .b x2), (6, .ptr 0 0 0 0 0), (9, .ptr 1 0 0 0 0), (13, .ptr 2 0 0 0 0), (14, .i .i64 x3), (15, .b x4)], ⟨3, [(0, some ⟨0, false, .cells [.i .i64 x5, .i .i64 x6, .i .i64 x7]⟩), (1, some ⟨1, false, .cells [.i .u64 x8, .i .u64 x9]⟩), (2, some ⟨2, false, .cells [.fn 98 []]⟩)]⟩ => soft_shape_round_c8 k x1 x2 x3 x4 x5 x6 x7 x8 x9 (fun q1 => K .ret [(12, .i .u64 q1)] ⟨0, []⟩)
  | _, _, _ => none
noncomputable def C54_15 {R : Type} (k : Nat) : LSum R := C54_15G soft_shape_round_c2 soft_shape_round_c5 soft_shape_round_c8 k
theorem soft_shape_round_c2_gen {R : Type} (wide_Len : wide_LenY R) (wide_Shl : wide_ShlY R) (soft_shape_inf : soft_shape_infY R) (soft_shape_sign : soft_shape_signY R) (wide_Shr : wide_ShrY R) (soft_shape_full : soft_shape_fullY R) (soft_rounderOf : soft_rounderOfY R) (soft_shape_most : soft_shape_mostY R) (soft_rounderOf_1 : soft_rounderOf_1Y R) (soft_rounderOf_2 : soft_rounderOf_2Y R) (soft_rounderOf_3 : soft_rounderOf_3Y R) (soft_shape_round_c0 : soft_shape_round_c0Y R) (soft_shape_round_c3 : soft_shape_round_c3Y R) (soft_shape_round_c6 : soft_shape_round_c6Y R) (soft_shape_round_c1 : soft_shape_round_c1Y R) (soft_shape_round_c4 : soft_shape_round_c4Y R) (soft_shape_round_c7 : soft_shape_round_c7Y R) (k : Nat) (x1 : Bool) (x2 : Bool) (x3 : Int) (x4 : Bool) (x5 : Int) (x6 : Int) (x7 : Int) (x8 : Int) (x9 : Int) (K : Kont R) :
    (fun C => codeK C (run C 4)) (mkCx Ty exts [(51, true, S51G wide_Len k), (53, true, S53G wide_Shl k), (55, true, S55G soft_shape_inf k), (57, true, S57G soft_shape_sign k), (61, true, S61G wide_Shr k), (71, true, S71G soft_shape_full k), (79, true, S79G soft_rounderOf k), (80, true, S80G soft_shape_most k), (96, true, S96G soft_rounderOf_1 k), (97, true, S97G soft_rounderOf_2 k), (98, true, S98G soft_rounderOf_3 k)] fi54 [] [(10, C54_10G soft_shape_round_c0 soft_shape_round_c3 soft_shape_round_c6 k), (18, C54_18G soft_shape_round_c1 soft_shape_round_c4 soft_shape_round_c7 k)]) 0 fi54 (cutAt ((Try.f54).body.getD .skip) 15) [(2, .b x1), (5, .b x2), (6, .ptr 0 0 0 0 0), (9, .ptr 1 0 0 0 0), (13, .ptr 2 0 0 0 0), (14, .i .i64 x3), (15, .b x4)] ⟨3, [(0, some ⟨0, false, .cells [.i .i64 x5, .i .i64 x6, .i .i64 x7]⟩), (1, some ⟨1, false, .cells [.i .u64 x8, .i .u64 x9]⟩), (2, some ⟨2, false, .cells [.fn 96 []]⟩)]⟩ (exitNorm fi54.ann 500015 0 K) = soft_shape_round_c2T soft_rounderOf_1 soft_shape_round_c1 k x1 x2 x3 x4 x5 x6 x7 x8 x9 (fun q1 => K .ret [(12, .i .u64 q1)] ⟨0, []⟩) := by kernel_rfl
theorem soft_shape_round_c5_gen {R : Type} (wide_Len : wide_LenY R) (wide_Shl : wide_ShlY R) (soft_shape_inf : soft_shape_infY R) (soft_shape_sign : soft_shape_signY R) (wide_Shr : wide_ShrY R) (soft_shape_full : soft_shape_fullY R) (soft_rounderOf : soft_rounderOfY R) (soft_shape_most : soft_shape_mostY R) (soft_rounderOf_1 : soft_rounderOf_1Y R) (soft_rounderOf_2 : soft_rounderOf_2Y R) (soft_rounderOf_3 : soft_rounderOf_3Y R) (soft_shape_round_c0 : soft_shape_round_c0Y R) (soft_shape_round_c3 : soft_shape_round_c3Y R) (soft_shape_round_c6 : soft_shape_round_c6Y R) (soft_shape_round_c1 : soft_shape_round_c1Y R) (soft_shape_round_c4 : soft_shape_round_c4Y R) (soft_shape_round_c7 : soft_shape_round_c7Y R) (k : Nat) (x1 : Bool) (x2 : Bool) (x3 : Int) (x4 : Bool) (x5 : Int) (x6 : Int) (x7 : Int) (x8 : Int) (x9 : Int) (K : Kont R) :
    (fun C => codeK C (run C 4)) (mkCx Ty exts [(51, true, S51G wide_Len k), (53, true, S53G wide_Shl k), (55, true, S55G soft_shape_inf k), (57, true, S57G soft_shape_sign k), (61, true, S61G wide_Shr k), (71, true, S71G soft_shape_full k), (79, true, S79G soft_rounderOf k), (80, true, S80G soft_shape_most k), (96, true, S96G soft_rounderOf_1 k), (97, true, S97G soft_rounderOf_2 k), (98, true, S98G soft_rounderOf_3 k)] fi54 [] [(10, C54_10G soft_shape_round_c0 soft_shape_round_c3 soft_shape_round_c6 k), (18, C54_18G soft_shape_round_c1 soft_shape_round_c4 soft_shape_round_c7 k)]) 0 fi54 (cutAt ((Try.f54).body.getD .skip) 15) [(2, .b x1), (5, .b x2), (6, .ptr 0 0 0 0 0), (9, .ptr 1 0 0 0 0), (13, .ptr 2 0 0 0 0), (14, .i .i64 x3), (15, .b x4)] ⟨3, [(0, some ⟨0, false, .cells [.i .i64 x5, .i .i64 x6, .i .i64 x7]⟩), (1, some ⟨1, false, .cells [.i .u64 x8, .i .u64 x9]⟩), (2, some ⟨2, false, .cells [.fn 97 []]⟩)]⟩ (exitNorm fi54.ann 500015 0 K) = soft_shape_round_c5T soft_rounderOf_2 soft_shape_round_c4 k x1 x2 x3 x4 x5 x6 x7 x8 x9 (fun q1 => K .ret [(12, .i .u64 q1)] ⟨0, []⟩) := by kernel_rfl
theorem soft_shape_round_c8_gen {R : Type} (wide_Len : wide_LenY R) (wide_Shl : wide_ShlY R) (soft_shape_inf : soft_shape_infY R) (soft_shape_sign : soft_shape_signY R) (wide_Shr : wide_ShrY R) (soft_shape_full : soft_shape_fullY R) (soft_rounderOf : soft_rounderOfY R) (soft_shape_most : soft_shape_mostY R) (soft_rounderOf_1 : soft_rounderOf_1Y R) (soft_rounderOf_2 : soft_rounderOf_2Y R) (soft_rounderOf_3 : soft_rounderOf_3Y R) (soft_shape_round_c0 : soft_shape_round_c0Y R) (soft_shape_round_c3 : soft_shape_round_c3Y R) (soft_shape_round_c6 : soft_shape_round_c6Y R) (soft_shape_round_c1 : soft_shape_round_c1Y R) (soft_shape_round_c4 : soft_shape_round_c4Y R) (soft_shape_round_c7 : soft_shape_round_c7Y R) (k : Nat) (x1 : Bool) (x2 : Bool) (x3 : Int) (x4 : Bool) (x5 : Int) (x6 : Int) (x7 : Int) (x8 : Int) (x9 : Int) (K : Kont R) :
    (fun C => codeK C (run C 4)) (mkCx Ty exts [(51, true, S51G wide_Len k), (53, true, S53G wide_Shl k), (55, true, S55G soft_shape_inf k), (57, true, S57G soft_shape_sign k), (61, true, S61G wide_Shr k), (71, true, S71G soft_shape_full k), (79, true, S79G soft_rounderOf k), (80, true, S80G soft_shape_most k), (96, true, S96G soft_rounderOf_1 k), (97, true, S97G soft_rounderOf_2 k), (98, true, S98G soft_rounderOf_3 k)] fi54 [] [(10, C54_10G soft_shape_round_c0 soft_shape_round_c3 soft_shape_round_c6 k), (18, C54_18G soft_shape_round_c1 soft_shape_round_c4 soft_shape_round_c7 k)]) 0 fi54 (cutAt ((Try.f54).body.getD .skip) 15) [(2, .b x1), (5, .b x2), (6, .ptr 0 0 0 0 0), (9, .ptr 1 0 0 0 0), (13, .ptr 2 0 0 0 0), (14, .i .i64 x3), (15, .b x4)] ⟨3, [(0, some ⟨0, false, .cells [.i .i64 x5, .i .i64 x6, .i .i64 x7]⟩), (1, some ⟨1, false, .cells [.i .u64 x8, .i .u64 x9]⟩), (2, some ⟨2, false, .cells [.fn 98 []]⟩)]⟩ (exitNorm fi54.ann 500015 0 K) = soft_shape_round_c8T soft_rounderOf_3 soft_shape_round_c7 k x1 x2 x3 x4 x5 x6 x7 x8 x9 (fun q1 => K .ret [(12, .i .u64 q1)] ⟨0, []⟩) := by kernel_rfl
theorem C54_15_cok {R : Type} (k : Nat) : CodeOk Try.prog (cc54_15 k : Cx R) fi54 (cutAt ((Try.f54).body.getD .skip) 15) := cutAt_ok (((cc54_15_ok k).fns 54 fi54 (by kernel_rfl)).2.2.2 ((Try.f54).body.getD .skip) (by kernel_rfl))
theorem C54_15_ok {R : Type} (k : Nat) : CutOk Try.prog (Try.f54).ntmps (cutAt ((Try.f54).body.getD .skip) 15) (C54_15 k : LSum R) := by
  intro pin T H K r h
  unfold C54_15 C54_15G at h
  split at h
  · obtain ⟨ex, T1, H1, h, hb⟩ := codeK_sound (cc54_15_ok k) (run_sound (cc54_15_ok k) 4) _ fi54 _ _ _ _ _ (C54_15_cok k) ((soft_shape_round_c2_gen wide_Len wide_Shl soft_shape_inf soft_shape_sign wide_Shr soft_shape_full soft_rounderOf soft_shape_most soft_rounderOf_1 soft_rounderOf_2 soft_rounderOf_3 soft_shape_round_c0 soft_shape_round_c3 soft_shape_round_c6 soft_shape_round_c1 soft_shape_round_c4 soft_shape_round_c7 k _ _ _ _ _ _ _ _ _ K).trans h)
    exact cut_step hb h
  · obtain ⟨ex, T1, H1, h, hb⟩ := codeK_sound (cc54_15_ok k) (run_sound (cc54_15_ok k) 4) _ fi54 _ _ _ _ _ (C54_15_cok k) ((soft_shape_round_c5_gen wide_Len wide_Shl soft_shape_inf soft_shape_sign wide_Shr soft_shape_full soft_rounderOf soft_shape_most soft_rounderOf_1 soft_rounderOf_2 soft_rounderOf_3 soft_shape_round_c0 soft_shape_round_c3 soft_shape_round_c6 soft_shape_round_c1 soft_shape_round_c4 soft_shape_round_c7 k _ _ _ _ _ _ _ _ _ K).trans h)
    exact cut_step hb h
  · obtain ⟨ex, T1, H1, h, hb⟩ := codeK_sound (cc54_15_ok k) (run_sound (cc54_15_ok k) 4) _ fi54 _ _ _ _ _ (C54_15_cok k) ((soft_shape_round_c8_gen wide_Len wide_Shl soft_shape_inf soft_shape_sign wide_Shr soft_shape_full soft_rounderOf soft_shape_most soft_rounderOf_1 soft_rounderOf_2 soft_rounderOf_3 soft_shape_round_c0 soft_shape_round_c3 soft_shape_round_c6 soft_shape_round_c1 soft_shape_round_c4 soft_shape_round_c7 k _ _ _ _ _ _ _ _ _ K).trans h)
    exact cut_step hb h
  · cases h
@[reducible] def soft_shape_round_c9Y (R : Type) : Type := Nat → Int → Bool → Int → Bool → Int → Int → Int → Int → Int → (Int → Option R) → Option R
noncomputable def soft_shape_round_c9T {R : Type} (soft_rounderOf : soft_rounderOfY R) (soft_shape_round_c0 : soft_shape_round_c0Y R) (soft_shape_round_c2 : soft_shape_round_c2Y R) (soft_shape_round_c3 : soft_shape_round_c3Y R) (soft_shape_round_c5 : soft_shape_round_c5Y R) (soft_shape_round_c6 : soft_shape_round_c6Y R) (soft_shape_round_c8 : soft_shape_round_c8Y R) (wide_Len : wide_LenY R) (wide_Shl : wide_ShlY R) (wide_Shr : wide_ShrY R) (k : Nat) (x1 : Int) (x2 : Bool) (x3 : Int) (x4 : Bool) (x5 : Int) (x6 : Int) (x7 : Int) (x8 : Int) (x9 : Int) (K0 : Int → Option R) : Option R :=
  soft_rounderOf k x1 x2 (
    wide_Len k x8 x9 (fun yr1 =>
      cond (decide ((Wi64 ((if x7 > (Wi64 ((Wi64 ((Wi64 (x3 + yr1)) - 1)) - x5)) then x7 else (Wi64 ((Wi64 ((Wi64 (x3 + yr1)) - 1)) - x5))) - x3)) > 0)) (
        wide_Shr k x8 x9 (Wi64 ((Wi64 ((if x7 > (Wi64 ((Wi64 ((Wi64 (x3 + yr1)) - 1)) - x5)) then x7 else (Wi64 ((Wi64 ((Wi64 (x3 + yr1)) - 1)) - x5))) - x3)) - 1)) (fun yr2 yr3 yr4 =>
          cond ((bAnd .u64 yr3 1) == 1) (
            soft_shape_round_c0 k x2 x4 (if x7 > (Wi64 ((Wi64 ((Wi64 (x3 + yr1)) - 1)) - x5)) then x7 else (Wi64 ((Wi64 ((Wi64 (x3 + yr1)) - 1)) - x5))) (decide ((Wi64 ((if x7 > (Wi64 ((Wi64 ((Wi64 (x3 + yr1)) - 1)) - x5)) then x7 else (Wi64 ((Wi64 ((Wi64 (x3 + yr1)) - 1)) - x5))) - x3)) ≤ 129)) (Wi64 ((if x7 > (Wi64 ((Wi64 ((Wi64 (x3 + yr1)) - 1)) - x5)) then x7 else (Wi64 ((Wi64 ((Wi64 (x3 + yr1)) - 1)) - x5))) - x3)) yr4 x5 x6 x7 x8 x9 (fun yr5 yr6 yr7 =>
              soft_shape_round_c2 k x2 yr5 (if x7 > (Wi64 ((Wi64 ((Wi64 (x3 + yr1)) - 1)) - x5)) then x7 else (Wi64 ((Wi64 ((Wi64 (x3 + yr1)) - 1)) - x5))) (decide ((Wi64 ((if x7 > (Wi64 ((Wi64 ((Wi64 (x3 + yr1)) - 1)) - x5)) then x7 else (Wi64 ((Wi64 ((Wi64 (x3 + yr1)) - 1)) - x5))) - x3)) ≤ 129)) x5 x6 x7 yr6 yr7 (fun yr8 =>
                K0 yr8))) (
            soft_shape_round_c0 k x2 x4 (if x7 > (Wi64 ((Wi64 ((Wi64 (x3 + yr1)) - 1)) - x5)) then x7 else (Wi64 ((Wi64 ((Wi64 (x3 + yr1)) - 1)) - x5))) false (Wi64 ((if x7 > (Wi64 ((Wi64 ((Wi64 (x3 + yr1)) - 1)) - x5)) then x7 else (Wi64 ((Wi64 ((Wi64 (x3 + yr1)) - 1)) - x5))) - x3)) yr4 x5 x6 x7 x8 x9 (fun yr9 yr10 yr11 =>
              soft_shape_round_c2 k x2 yr9 (if x7 > (Wi64 ((Wi64 ((Wi64 (x3 + yr1)) - 1)) - x5)) then x7 else (Wi64 ((Wi64 ((Wi64 (x3 + yr1)) - 1)) - x5))) false x5 x6 x7 yr10 yr11 (fun yr12 =>
                K0 yr12))))) (
        wide_Shl k x8 x9 (Wi64 (0 - (Wi64 ((if x7 > (Wi64 ((Wi64 ((Wi64 (x3 + yr1)) - 1)) - x5)) then x7 else (Wi64 ((Wi64 ((Wi64 (x3 + yr1)) - 1)) - x5))) - x3)))) (fun yr13 yr14 =>
          soft_shape_round_c2 k x2 x4 (if x7 > (Wi64 ((Wi64 ((Wi64 (x3 + yr1)) - 1)) - x5)) then x7 else (Wi64 ((Wi64 ((Wi64 (x3 + yr1)) - 1)) - x5))) false x5 x6 x7 yr13 yr14 (fun yr15 =>
            K0 yr15))))) (
    wide_Len k x8 x9 (fun yr16 =>
      cond (decide ((Wi64 ((if x7 > (Wi64 ((Wi64 ((Wi64 (x3 + yr16)) - 1)) - x5)) then x7 else (Wi64 ((Wi64 ((Wi64 (x3 + yr16)) - 1)) - x5))) - x3)) > 0)) (
        wide_Shr k x8 x9 (Wi64 ((Wi64 ((if x7 > (Wi64 ((Wi64 ((Wi64 (x3 + yr16)) - 1)) - x5)) then x7 else (Wi64 ((Wi64 ((Wi64 (x3 + yr16)) - 1)) - x5))) - x3)) - 1)) (fun yr17 yr18 yr19 =>
          cond ((bAnd .u64 yr18 1) == 1) (
            soft_shape_round_c3 k x2 x4 (if x7 > (Wi64 ((Wi64 ((Wi64 (x3 + yr16)) - 1)) - x5)) then x7 else (Wi64 ((Wi64 ((Wi64 (x3 + yr16)) - 1)) - x5))) (decide ((Wi64 ((if x7 > (Wi64 ((Wi64 ((Wi64 (x3 + yr16)) - 1)) - x5)) then x7 else (Wi64 ((Wi64 ((Wi64 (x3 + yr16)) - 1)) - x5))) - x3)) ≤ 129)) (Wi64 ((if x7 > (Wi64 ((Wi64 ((Wi64 (x3 + yr16)) - 1)) - x5)) then x7 else (Wi64 ((Wi64 ((Wi64 (x3 + yr16)) - 1)) - x5))) - x3)) yr19 x5 x6 x7 x8 x9 (fun yr20 yr21 yr22 =>
              soft_shape_round_c5 k x2 yr20 (if x7 > (Wi64 ((Wi64 ((Wi64 (x3 + yr16)) - 1)) - x5)) then x7 else (Wi64 ((Wi64 ((Wi64 (x3 + yr16)) - 1)) - x5))) (decide ((Wi64 ((if x7 > (Wi64 ((Wi64 ((Wi64 (x3 + yr16)) - 1)) - x5)) then x7 else (Wi64 ((Wi64 ((Wi64 (x3 + yr16)) - 1)) - x5))) - x3)) ≤ 129)) x5 x6 x7 yr21 yr22 (fun yr23 =>
                K0 yr23))) (
            soft_shape_round_c3 k x2 x4 (if x7 > (Wi64 ((Wi64 ((Wi64 (x3 + yr16)) - 1)) - x5)) then x7 else (Wi64 ((Wi64 ((Wi64 (x3 + yr16)) - 1)) - x5))) false (Wi64 ((if x7 > (Wi64 ((Wi64 ((Wi64 (x3 + yr16)) - 1)) - x5)) then x7 else (Wi64 ((Wi64 ((Wi64 (x3 + yr16)) - 1)) - x5))) - x3)) yr19 x5 x6 x7 x8 x9 (fun yr24 yr25 yr26 =>
              soft_shape_round_c5 k x2 yr24 (if x7 > (Wi64 ((Wi64 ((Wi64 (x3 + yr16)) - 1)) - x5)) then x7 else (Wi64 ((Wi64 ((Wi64 (x3 + yr16)) - 1)) - x5))) false x5 x6 x7 yr25 yr26 (fun yr27 =>
                K0 yr27))))) (
        wide_Shl k x8 x9 (Wi64 (0 - (Wi64 ((if x7 > (Wi64 ((Wi64 ((Wi64 (x3 + yr16)) - 1)) - x5)) then x7 else (Wi64 ((Wi64 ((Wi64 (x3 + yr16)) - 1)) - x5))) - x3)))) (fun yr28 yr29 =>
          soft_shape_round_c5 k x2 x4 (if x7 > (Wi64 ((Wi64 ((Wi64 (x3 + yr16)) - 1)) - x5)) then x7 else (Wi64 ((Wi64 ((Wi64 (x3 + yr16)) - 1)) - x5))) false x5 x6 x7 yr28 yr29 (fun yr30 =>
            K0 yr30))))) (
    wide_Len k x8 x9 (fun yr31 =>
      cond (decide ((Wi64 ((if x7 > (Wi64 ((Wi64 ((Wi64 (x3 + yr31)) - 1)) - x5)) then x7 else (Wi64 ((Wi64 ((Wi64 (x3 + yr31)) - 1)) - x5))) - x3)) > 0)) (
        wide_Shr k x8 x9 (Wi64 ((Wi64 ((if x7 > (Wi64 ((Wi64 ((Wi64 (x3 + yr31)) - 1)) - x5)) then x7 else (Wi64 ((Wi64 ((Wi64 (x3 + yr31)) - 1)) - x5))) - x3)) - 1)) (fun yr32 yr33 yr34 =>
          cond ((bAnd .u64 yr33 1) == 1) (
            soft_shape_round_c6 k x2 x4 (if x7 > (Wi64 ((Wi64 ((Wi64 (x3 + yr31)) - 1)) - x5)) then x7 else (Wi64 ((Wi64 ((Wi64 (x3 + yr31)) - 1)) - x5))) (decide ((Wi64 ((if x7 > (Wi64 ((Wi64 ((Wi64 (x3 + yr31)) - 1)) - x5)) then x7 else (Wi64 ((Wi64 ((Wi64 (x3 + yr31)) - 1)) - x5))) - x3)) ≤ 129)) (Wi64 ((if x7 > (Wi64 ((Wi64 ((Wi64 (x3 + yr31)) - 1)) - x5)) then x7 else (Wi64 ((Wi64 ((Wi64 (x3 + yr31)) - 1)) - x5))) - x3)) yr34 x5 x6 x7 x8 x9 (fun yr35 yr36 yr37 =>
              soft_shape_round_c8 k x2 yr35 (if x7 > (Wi64 ((Wi64 ((Wi64 (x3 + yr31)) - 1)) - x5)) then x7 else (Wi64 ((Wi64 ((Wi64 (x3 + yr31)) - 1)) - x5))) (decide ((Wi64 ((if x7 > (Wi64 ((Wi64 ((Wi64 (x3 + yr31)) - 1)) - x5)) then x7 else (Wi64 ((Wi64 ((Wi64 (x3 + yr31)) - 1)) - x5))) - x3)) ≤ 129)) x5 x6 x7 yr36 yr37 (fun yr38 =>
                K0 yr38))) (
            soft_shape_round_c6 k x2 x4 (if x7 > (Wi64 ((Wi64 ((Wi64 (x3 + yr31)) - 1)) - x5)) then x7 else (Wi64 ((Wi64 ((Wi64 (x3 + yr31)) - 1)) - x5))) false (Wi64 ((if x7 > (Wi64 ((Wi64 ((Wi64 (x3 + yr31)) - 1)) - x5)) then x7 else (Wi64 ((Wi64 ((Wi64 (x3 + yr31)) - 1)) - x5))) - x3)) yr34 x5 x6 x7 x8 x9 (fun yr39 yr40 yr41 =>
              soft_shape_round_c8 k x2 yr39 (if x7 > (Wi64 ((Wi64 ((Wi64 (x3 + yr31)) - 1)) - x5)) then x7 else (Wi64 ((Wi64 ((Wi64 (x3 + yr31)) - 1)) - x5))) false x5 x6 x7 yr40 yr41 (fun yr42 =>
                K0 yr42))))) (
        wide_Shl k x8 x9 (Wi64 (0 - (Wi64 ((if x7 > (Wi64 ((Wi64 ((Wi64 (x3 + yr31)) - 1)) - x5)) then x7 else (Wi64 ((Wi64 ((Wi64 (x3 + yr31)) - 1)) - x5))) - x3)))) (fun yr43 yr44 =>
          soft_shape_round_c8 k x2 x4 (if x7 > (Wi64 ((Wi64 ((Wi64 (x3 + yr31)) - 1)) - x5)) then x7 else (Wi64 ((Wi64 ((Wi64 (x3 + yr31)) - 1)) - x5))) false x5 x6 x7 yr43 yr44 (fun yr45 =>
            K0 yr45)))))
noncomputable def soft_shape_round_c9 {R : Type} (k : Nat) (x1 : Int) (x2 : Bool) (x3 : Int) (x4 : Bool) (x5 : Int) (x6 : Int) (x7 : Int) (x8 : Int) (x9 : Int) (K0 : Int → Option R) : Option R := soft_shape_round_c9T soft_rounderOf soft_shape_round_c0 soft_shape_round_c2 soft_shape_round_c3 soft_shape_round_c5 soft_shape_round_c6 soft_shape_round_c8 wide_Len wide_Shl wide_Shr k x1 x2 x3 x4 x5 x6 x7 x8 x9 K0
noncomputable def cc54_3 {R : Type} (k : Nat) : Cx R := mkCx Ty exts [(51, true, S51 k), (53, true, S53 k), (55, true, S55 k), (57, true, S57 k), (61, true, S61 k), (71, true, S71 k), (79, true, S79 k), (80, true, S80 k), (96, true, S96 k), (97, true, S97 k), (98, true, S98 k)] fi54 [] [(10, C54_10 k), (18, C54_18 k), (15, C54_15 k)]
theorem cc54_3_ok {R : Type} (k : Nat) : CxOk Try.prog (cc54_3 k : Cx R) := mkCx_ok (c := ((Try.f54).body.getD .skip)) ty_ok mixed exts_ok (allSum_cons (S51_ok k) en51 (allSum_cons (S53_ok k) en53 (allSum_cons (S55_ok k) en55 (allSum_cons (S57_ok k) en57 (allSum_cons (S61_ok k) en61 (allSum_cons (S71_ok k) en71 (allSum_cons (S79_ok k) en79 (allSum_cons (S80_ok k) en80 (allSum_cons (S96_ok k) en96 (allSum_cons (S97_ok k) en97 (allSum_cons (S98_ok k) en98 allSum_nil))))))))))) Try.func54 en54 (by kernel_rfl) (by kernel_rfl) allLoop_nil (allCut_cons (C54_10_ok k) (by kernel_rfl) (allCut_cons (C54_18_ok k) (by kernel_rfl) (allCut_cons (C54_15_ok k) (by kernel_rfl) allCut_nil)))
noncomputable def C54_3G {R : Type} (soft_shape_round_c9 : soft_shape_round_c9Y R) (k : Nat) : LSum R := fun pin T H K => match pin, T, H with
  | 0, [(1, .i .i64 x1), (2, .b x2), (4, .i .i64 x3), (5, .b x4), (6, .ptr 0 0 0 0 0), (9, .ptr 1 0 0 0 0)], ⟨2, [(0, some ⟨0, false, .cells [.i .i64 x5, .i .i64 x6, .i .i64 x7]⟩), (1, some ⟨1, false, .cells [.i .u64 x8, .i .u64 x9]⟩)]⟩ => soft_shape_round_c9 k x1 x2 x3 x4 x5 x6 x7 x8 x9 (fun q1 => K .ret [(12, .i .u64 q1)] ⟨0, []⟩)
  | _, _, _ => none
noncomputable def C54_3 {R : Type} (k : Nat) : LSum R := C54_3G soft_shape_round_c9 k
theorem soft_shape_round_c9_gen {R : Type} (wide_Len : wide_LenY R) (wide_Shl : wide_ShlY R) (soft_shape_inf : soft_shape_infY R) (soft_shape_sign : soft_shape_signY R) (wide_Shr : wide_ShrY R) (soft_shape_full : soft_shape_fullY R) (soft_rounderOf : soft_rounderOfY R) (soft_shape_most : soft_shape_mostY R) (soft_rounderOf_1 : soft_rounderOf_1Y R) (soft_rounderOf_2 : soft_rounderOf_2Y R) (soft_rounderOf_3 : soft_rounderOf_3Y R) (soft_shape_round_c0 : soft_shape_round_c0Y R) (soft_shape_round_c3 : soft_shape_round_c3Y R) (soft_shape_round_c6 : soft_shape_round_c6Y R) (soft_shape_round_c1 : soft_shape_round_c1Y R) (soft_shape_round_c4 : soft_shape_round_c4Y R) (soft_shape_round_c7 : soft_shape_round_c7Y R) (soft_shape_round_c2 : soft_shape_round_c2Y R) (soft_shape_round_c5 : soft_shape_round_c5Y R) (soft_shape_round_c8 : soft_shape_round_c8Y R) (k : Nat) (x1 : Int) (x2 : Bool) (x3 : Int) (x4 : Bool) (x5 : Int) (x6 : Int) (x7 : Int) (x8 : Int) (x9 : Int) (K : Kont R) :
    (fun C => codeK C (run C 4)) (mkCx Ty exts [(51, true, S51G wide_Len k), (53, true, S53G wide_Shl k), (55, true, S55G soft_shape_inf k), (57, true, S57G soft_shape_sign k), (61, true, S61G wide_Shr k), (71, true, S71G soft_shape_full k), (79, true, S79G soft_rounderOf k), (80, true, S80G soft_shape_most k), (96, true, S96G soft_rounderOf_1 k), (97, true, S97G soft_rounderOf_2 k), (98, true, S98G soft_rounderOf_3 k)] fi54 [] [(10, C54_10G soft_shape_round_c0 soft_shape_round_c3 soft_shape_round_c6 k), (18, C54_18G soft_shape_round_c1 soft_shape_round_c4 soft_shape_round_c7 k), (15, C54_15G soft_shape_round_c2 soft_shape_round_c5 soft_shape_round_c8 k)]) 0 fi54 (cutAt ((Try.f54).body.getD .skip) 3) [(1, .i .i64 x1), (2, .b x2), (4, .i .i64 x3), (5, .b x4), (6, .ptr 0 0 0 0 0), (9, .ptr 1 0 0 0 0)] ⟨2, [(0, some ⟨0, false, .cells [.i .i64 x5, .i .i64 x6, .i .i64 x7]⟩), (1, some ⟨1, false, .cells [.i .u64 x8, .i .u64 x9]⟩)]⟩ (exitNorm fi54.ann 500003 0 K) = soft_shape_round_c9T soft_rounderOf soft_shape_round_c0 soft_shape_round_c2 soft_shape_round_c3 soft_shape_round_c5 soft_shape_round_c6 soft_shape_round_c8 wide_Len wide_Shl wide_Shr k x1 x2 x3 x4 x5 x6 x7 x8 x9 (fun q1 => K .ret [(12, .i .u64 q1)] ⟨0, []⟩) := by kernel_rfl
theorem C54_3_cok {R : Type} (k : Nat) : CodeOk Try.prog (cc54_3 k : Cx R) fi54 (cutAt ((Try.f54).body.getD .skip) 3) := cutAt_ok (((cc54_3_ok k).fns 54 fi54 (by kernel_rfl)).2.2.2 ((Try.f54).body.getD .skip) (by kernel_rfl))
theorem C54_3_ok {R : Type} (k : Nat) : CutOk Try.prog (Try.f54).ntmps (cutAt ((Try.f54).body.getD .skip) 3) (C54_3 k : LSum R) := by
  intro pin T H K r h
  unfold C54_3 C54_3G at h
  split at h
  · obtain ⟨ex, T1, H1, h, hb⟩ := codeK_sound (cc54_3_ok k) (run_sound (cc54_3_ok k) 4) _ fi54 _ _ _ _ _ (C54_3_cok k) ((soft_shape_round_c9_gen wide_Len wide_Shl soft_shape_inf soft_shape_sign wide_Shr soft_shape_full soft_rounderOf soft_shape_most soft_rounderOf_1 soft_rounderOf_2 soft_rounderOf_3 soft_shape_round_c0 soft_shape_round_c3 soft_shape_round_c6 soft_shape_round_c1 soft_shape_round_c4 soft_shape_round_c7 soft_shape_round_c2 soft_shape_round_c5 soft_shape_round_c8 k _ _ _ _ _ _ _ _ _ K).trans h)
    exact cut_step hb h
  · cases h
noncomputable def cx54 {R : Type} (k : Nat) : Cx R := mkCx Ty exts [(51, true, S51 k), (53, true, S53 k), (55, true, S55 k), (57, true, S57 k), (61, true, S61 k), (71, true, S71 k), (79, true, S79 k), (80, true, S80 k), (96, true, S96 k), (97, true, S97 k), (98, true, S98 k)] fi54 [] [(10, C54_10 k), (18, C54_18 k), (15, C54_15 k), (3, C54_3 k)]
theorem cx54_ok {R : Type} (k : Nat) : CxOk Try.prog (cx54 k : Cx R) := mkCx_ok (c := ((Try.f54).body.getD .skip)) ty_ok mixed exts_ok (allSum_cons (S51_ok k) en51 (allSum_cons (S53_ok k) en53 (allSum_cons (S55_ok k) en55 (allSum_cons (S57_ok k) en57 (allSum_cons (S61_ok k) en61 (allSum_cons (S71_ok k) en71 (allSum_cons (S79_ok k) en79 (allSum_cons (S80_ok k) en80 (allSum_cons (S96_ok k) en96 (allSum_cons (S97_ok k) en97 (allSum_cons (S98_ok k) en98 allSum_nil))))))))))) Try.func54 en54 (by kernel_rfl) (by kernel_rfl) allLoop_nil (allCut_cons (C54_10_ok k) (by kernel_rfl) (allCut_cons (C54_18_ok k) (by kernel_rfl) (allCut_cons (C54_15_ok k) (by kernel_rfl) (allCut_cons (C54_3_ok k) (by kernel_rfl) allCut_nil))))
@[reducible] def soft_shape_roundY (R : Type) : Type := Nat → Int → Int → Int → Int → Bool → Int → Int → Int → Bool → (Int → Option R) → Option R
noncomputable def soft_shape_roundT {R : Type} (soft_shape_round_c9 : soft_shape_round_c9Y R) (soft_shape_sign : soft_shape_signY R) (k : Nat) (a1 : Int) (a2 : Int) (a3 : Int) (a4 : Int) (a5 : Bool) (a6 : Int) (a7 : Int) (a8 : Int) (a9 : Bool) (K0 : Int → Option R) : Option R :=
  cond ((a6 == 0) && (a7 == 0)) (
    cond (!a9) (
      soft_shape_sign k a1 a2 a3 a5 (fun r1 =>
        K0 r1)) (
      soft_shape_round_c9 k a4 a5 a8 a9 a1 a2 a3 a6 a7 (fun r2 =>
        K0 r2))) (
    soft_shape_round_c9 k a4 a5 a8 a9 a1 a2 a3 a6 a7 (fun r3 =>
      K0 r3))
noncomputable def soft_shape_round {R : Type} (k : Nat) (a1 : Int) (a2 : Int) (a3 : Int) (a4 : Int) (a5 : Bool) (a6 : Int) (a7 : Int) (a8 : Int) (a9 : Bool) (K0 : Int → Option R) : Option R := soft_shape_roundT soft_shape_round_c9 soft_shape_sign k a1 a2 a3 a4 a5 a6 a7 a8 a9 K0
theorem soft_shape_round_gen {R : Type} (wide_Len : wide_LenY R) (wide_Shl : wide_ShlY R) (soft_shape_inf : soft_shape_infY R) (soft_shape_sign : soft_shape_signY R) (wide_Shr : wide_ShrY R) (soft_shape_full : soft_shape_fullY R) (soft_rounderOf : soft_rounderOfY R) (soft_shape_most : soft_shape_mostY R) (soft_rounderOf_1 : soft_rounderOf_1Y R) (soft_rounderOf_2 : soft_rounderOf_2Y R) (soft_rounderOf_3 : soft_rounderOf_3Y R) (soft_shape_round_c0 : soft_shape_round_c0Y R) (soft_shape_round_c3 : soft_shape_round_c3Y R) (soft_shape_round_c6 : soft_shape_round_c6Y R) (soft_shape_round_c1 : soft_shape_round_c1Y R) (soft_shape_round_c4 : soft_shape_round_c4Y R) (soft_shape_round_c7 : soft_shape_round_c7Y R) (soft_shape_round_c2 : soft_shape_round_c2Y R) (soft_shape_round_c5 : soft_shape_round_c5Y R) (soft_shape_round_c8 : soft_shape_round_c8Y R) (soft_shape_round_c9 : soft_shape_round_c9Y R) (k : Nat) (a1 : Int) (a2 : Int) (a3 : Int) (a4 : Int) (a5 : Bool) (a6 : Int) (a7 : Int) (a8 : Int) (a9 : Bool) (K : AV → Heap → Option R) :
    fnK (mkCx Ty exts [(51, true, S51G wide_Len k), (53, true, S53G wide_Shl k), (55, true, S55G soft_shape_inf k), (57, true, S57G soft_shape_sign k), (61, true, S61G wide_Shr k), (71, true, S71G soft_shape_full k), (79, true, S79G soft_rounderOf k), (80, true, S80G soft_shape_most k), (96, true, S96G soft_rounderOf_1 k), (97, true, S97G soft_rounderOf_2 k), (98, true, S98G soft_rounderOf_3 k)] fi54 [] [(10, C54_10G soft_shape_round_c0 soft_shape_round_c3 soft_shape_round_c6 k), (18, C54_18G soft_shape_round_c1 soft_shape_round_c4 soft_shape_round_c7 k), (15, C54_15G soft_shape_round_c2 soft_shape_round_c5 soft_shape_round_c8 k), (3, C54_3G soft_shape_round_c9 k)]) 6 54 [.agg [.i .i64 a1, .i .i64 a2, .i .i64 a3], .i .i64 a4, .b a5, .agg [.i .u64 a6, .i .u64 a7], .i .i64 a8, .b a9] ⟨0, []⟩ K = soft_shape_roundT soft_shape_round_c9 soft_shape_sign k a1 a2 a3 a4 a5 a6 a7 a8 a9 (fun q1 => K (.i .u64 q1) ⟨0, []⟩) := by kernel_rfl
noncomputable def S54G {R : Type} (soft_shape_round : soft_shape_roundY R) (k : Nat) : Sum R := fun args H K => match args, H with
  | [.agg [.i .i64 a1, .i .i64 a2, .i .i64 a3], .i .i64 a4, .b a5, .agg [.i .u64 a6, .i .u64 a7], .i .i64 a8, .b a9], ⟨0, []⟩ => soft_shape_round k a1 a2 a3 a4 a5 a6 a7 a8 a9 (fun q1 => K (.i .u64 q1) ⟨0, []⟩)
  | _, _ => none
noncomputable def S54 {R : Type} (k : Nat) : Sum R := S54G soft_shape_round k
theorem S54_ok0 {R : Type} (k : Nat) : SumOk Try.prog 54 false (S54 k : Sum R) := by
  intro args H K r h
  unfold S54 S54G at h
  split at h
  · exact fnK_sound (cx54_ok k) 6 54 _ _ K r ((soft_shape_round_gen wide_Len wide_Shl soft_shape_inf soft_shape_sign wide_Shr soft_shape_full soft_rounderOf soft_shape_most soft_rounderOf_1 soft_rounderOf_2 soft_rounderOf_3 soft_shape_round_c0 soft_shape_round_c3 soft_shape_round_c6 soft_shape_round_c1 soft_shape_round_c4 soft_shape_round_c7 soft_shape_round_c2 soft_shape_round_c5 soft_shape_round_c8 soft_shape_round_c9 k _ _ _ _ _ _ _ _ _ K).trans h)
  · cases h
theorem S54_ok {R : Type} (k : Nat) : SumOk Try.prog 54 true (S54 k : Sum R) := by
  refine sumOk_keep (S54_ok0 k) ?_
  intro args H K r h
  unfold S54 S54G at h ⊢
  split at h
  · refine Eq.trans ?_ h
    show soft_shape_round k _ _ _ _ _ _ _ _ _ _ = soft_shape_round k _ _ _ _ _ _ _ _ _ _
    exact congrArg (soft_shape_round k _ _ _ _ _ _ _ _ _) (funext fun q1 => if_pos (keeps_app _ _ _ []))
  · cases h
-- function 56: plumbline/soft.Round
noncomputable def fi56 : FnI := ⟨56, Try.f56, []⟩
theorem en56 : Enters Try.prog 56 := enters_of Try.func56 (c := ((Try.f56).body.getD .skip)) (by kernel_rfl) (by kernel_rfl)
noncomputable def cx56 {R : Type} (k : Nat) : Cx R := mkCx Ty exts [(51, true, S51 k), (53, true, S53 k), (54, true, S54 k), (70, true, S70 k)] fi56 [] []
theorem cx56_ok {R : Type} (k : Nat) : CxOk Try.prog (cx56 k : Cx R) := mkCx_ok (c := ((Try.f56).body.getD .skip)) ty_ok mixed exts_ok (allSum_cons (S51_ok k) en51 (allSum_cons (S53_ok k) en53 (allSum_cons (S54_ok k) en54 (allSum_cons (S70_ok k) en70 allSum_nil)))) Try.func56 en56 (by kernel_rfl) (by kernel_rfl) allLoop_nil allCut_nil
@[reducible] def soft_RoundY (R : Type) : Type := Nat → Int → Int → Bool → Int → Int → Int → Bool → (Int → Option R) → Option R
noncomputable def soft_RoundT {R : Type} (soft_shapeOf : soft_shapeOfY R) (soft_shape_round : soft_shape_roundY R) (wide_Len : wide_LenY R) (wide_Shl : wide_ShlY R) (k : Nat) (a1 : Int) (a2 : Int) (a3 : Bool) (a4 : Int) (a5 : Int) (a6 : Int) (a7 : Bool) (K0 : Int → Option R) : Option R :=
  soft_shapeOf k a1 (fun r1 r2 r3 =>
    cond a7 (
      wide_Len k a4 a5 (fun r4 =>
        cond (decide (r4 ≤ 126)) (
          wide_Shl k a4 a5 2 (fun r5 r6 =>
            soft_shape_round k r1 r2 r3 a2 a3 r5 (bOr .u64 r6 1) (Wi64 ((if 4000 < (if (-4000) > a6 then (-4000) else a6) then 4000 else (if (-4000) > a6 then (-4000) else a6)) - 2)) false (fun r7 =>
              K0 r7))) (
          soft_shape_round k r1 r2 r3 a2 a3 a4 a5 (if 4000 < (if (-4000) > a6 then (-4000) else a6) then 4000 else (if (-4000) > a6 then (-4000) else a6)) a7 (fun r8 =>
            K0 r8)))) (
      soft_shape_round k r1 r2 r3 a2 a3 a4 a5 (if 4000 < (if (-4000) > a6 then (-4000) else a6) then 4000 else (if (-4000) > a6 then (-4000) else a6)) a7 (fun r9 =>
        K0 r9)))
noncomputable def soft_Round {R : Type} (k : Nat) (a1 : Int) (a2 : Int) (a3 : Bool) (a4 : Int) (a5 : Int) (a6 : Int) (a7 : Bool) (K0 : Int → Option R) : Option R := soft_RoundT soft_shapeOf soft_shape_round wide_Len wide_Shl k a1 a2 a3 a4 a5 a6 a7 K0
theorem soft_Round_gen {R : Type} (wide_Len : wide_LenY R) (wide_Shl : wide_ShlY R) (soft_shape_round : soft_shape_roundY R) (soft_shapeOf : soft_shapeOfY R) (k : Nat) (a1 : Int) (a2 : Int) (a3 : Bool) (a4 : Int) (a5 : Int) (a6 : Int) (a7 : Bool) (K : AV → Heap → Option R) :
    fnK (mkCx Ty exts [(51, true, S51G wide_Len k), (53, true, S53G wide_Shl k), (54, true, S54G soft_shape_round k), (70, true, S70G soft_shapeOf k)] fi56 [] []) 6 56 [.i .i64 a1, .i .i64 a2, .b a3, .agg [.i .u64 a4, .i .u64 a5], .i .i64 a6, .b a7] ⟨0, []⟩ K = soft_RoundT soft_shapeOf soft_shape_round wide_Len wide_Shl k a1 a2 a3 a4 a5 a6 a7 (fun q1 => K (.i .u64 q1) ⟨0, []⟩) := by kernel_rfl
noncomputable def S56G {R : Type} (soft_Round : soft_RoundY R) (k : Nat) : Sum R := fun args H K => match args, H with
  | [.i .i64 a1, .i .i64 a2, .b a3, .agg [.i .u64 a4, .i .u64 a5], .i .i64 a6, .b a7], ⟨0, []⟩ => soft_Round k a1 a2 a3 a4 a5 a6 a7 (fun q1 => K (.i .u64 q1) ⟨0, []⟩)
  | _, _ => none
noncomputable def S56 {R : Type} (k : Nat) : Sum R := S56G soft_Round k
theorem S56_ok0 {R : Type} (k : Nat) : SumOk Try.prog 56 false (S56 k : Sum R) := by
  intro args H K r h
  unfold S56 S56G at h
  split at h
  · exact fnK_sound (cx56_ok k) 6 56 _ _ K r ((soft_Round_gen wide_Len wide_Shl soft_shape_round soft_shapeOf k _ _ _ _ _ _ _ K).trans h)
  · cases h
theorem S56_ok {R : Type} (k : Nat) : SumOk Try.prog 56 true (S56 k : Sum R) := by
  refine sumOk_keep (S56_ok0 k) ?_
  intro args H K r h
  unfold S56 S56G at h ⊢
  split at h
  · refine Eq.trans ?_ h
    show soft_Round k _ _ _ _ _ _ _ _ = soft_Round k _ _ _ _ _ _ _ _
    exact congrArg (soft_Round k _ _ _ _ _ _ _) (funext fun q1 => if_pos (keeps_app _ _ _ []))
  · cases h
-- function 74: (plumbline/soft.float).rank
noncomputable def fi74 : FnI := ⟨74, Try.f74, []⟩
theorem en74 : Enters Try.prog 74 := enters_of Try.func74 (c := ((Try.f74).body.getD .skip)) (by kernel_rfl) (by kernel_rfl)
noncomputable def cx74 {R : Type} (k : Nat) : Cx R := mkCx Ty exts [(57, true, S57 k)] fi74 [] []
theorem cx74_ok {R : Type} (k : Nat) : CxOk Try.prog (cx74 k : Cx R) := mkCx_ok (c := ((Try.f74).body.getD .skip)) ty_ok mixed exts_ok (allSum_cons (S57_ok k) en57 allSum_nil) Try.func74 en74 (by kernel_rfl) (by kernel_rfl) allLoop_nil allCut_nil
@[reducible] def soft_float_rankY (R : Type) : Type := Nat → Int → Int → Int → Int → Bool → Int → Int → Int → (Int → Option R) → Option R
noncomputable def soft_float_rankT {R : Type} (soft_shape_sign : soft_shape_signY R) (k : Nat) (a1 : Int) (a2 : Int) (a3 : Int) (a4 : Int) (a5 : Bool) (a6 : Int) (a7 : Int) (a8 : Int) (K0 : Int → Option R) : Option R :=
  soft_shape_sign k a1 a2 a3 true (fun r1 =>
    cond a5 (
      K0 (Wi64 (0 - (Wi64 (bAndNot .u64 a8 r1))))) (
      K0 (Wi64 (bAndNot .u64 a8 r1))))
noncomputable def soft_float_rank {R : Type} (k : Nat) (a1 : Int) (a2 : Int) (a3 : Int) (a4 : Int) (a5 : Bool) (a6 : Int) (a7 : Int) (a8 : Int) (K0 : Int → Option R) : Option R := soft_float_rankT soft_shape_sign k a1 a2 a3 a4 a5 a6 a7 a8 K0
theorem soft_float_rank_gen {R : Type} (soft_shape_sign : soft_shape_signY R) (k : Nat) (a1 : Int) (a2 : Int) (a3 : Int) (a4 : Int) (a5 : Bool) (a6 : Int) (a7 : Int) (a8 : Int) (K : AV → Heap → Option R) :
    fnK (mkCx Ty exts [(57, true, S57G soft_shape_sign k)] fi74 [] []) 6 74 [.agg [.i .i64 a1, .i .i64 a2, .i .i64 a3, .i .i64 a4, .b a5, .i .u64 a6, .i .i64 a7], .i .u64 a8] ⟨0, []⟩ K = soft_float_rankT soft_shape_sign k a1 a2 a3 a4 a5 a6 a7 a8 (fun q1 => K (.i .i64 q1) ⟨0, []⟩) := by kernel_rfl
noncomputable def S74G {R : Type} (soft_float_rank : soft_float_rankY R) (k : Nat) : Sum R := fun args H K => match args, H with
  | [.agg [.i .i64 a1, .i .i64 a2, .i .i64 a3, .i .i64 a4, .b a5, .i .u64 a6, .i .i64 a7], .i .u64 a8], ⟨0, []⟩ => soft_float_rank k a1 a2 a3 a4 a5 a6 a7 a8 (fun q1 => K (.i .i64 q1) ⟨0, []⟩)
  | _, _ => none
noncomputable def S74 {R : Type} (k : Nat) : Sum R := S74G soft_float_rank k
theorem S74_ok0 {R : Type} (k : Nat) : SumOk Try.prog 74 false (S74 k : Sum R) := by
  intro args H K r h
  unfold S74 S74G at h
  split at h
  · exact fnK_sound (cx74_ok k) 6 74 _ _ K r ((soft_float_rank_gen soft_shape_sign k _ _ _ _ _ _ _ _ K).trans h)
  · cases h
theorem S74_ok {R : Type} (k : Nat) : SumOk Try.prog 74 true (S74 k : Sum R) := by
  refine sumOk_keep (S74_ok0 k) ?_
  intro args H K r h
  unfold S74 S74G at h ⊢
  split at h
  · refine Eq.trans ?_ h
    show soft_float_rank k _ _ _ _ _ _ _ _ _ = soft_float_rank k _ _ _ _ _ _ _ _ _
    exact congrArg (soft_float_rank k _ _ _ _ _ _ _ _) (funext fun q1 => if_pos (keeps_app _ _ _ []))
  · cases h
-- function 48: plumbline/soft.Compare
noncomputable def fi48 : FnI := ⟨48, Try.f48, []⟩
theorem en48 : Enters Try.prog 48 := enters_of Try.func48 (c := ((Try.f48).body.getD .skip)) (by kernel_rfl) (by kernel_rfl)
noncomputable def cx48 {R : Type} (k : Nat) : Cx R := mkCx Ty exts [(46, true, S46 k), (73, true, S73 k), (74, true, S74 k)] fi48 [] []
theorem cx48_ok {R : Type} (k : Nat) : CxOk Try.prog (cx48 k : Cx R) := mkCx_ok (c := ((Try.f48).body.getD .skip)) ty_ok mixed exts_ok (allSum_cons (S46_ok k) en46 (allSum_cons (S73_ok k) en73 (allSum_cons (S74_ok k) en74 allSum_nil))) Try.func48 en48 (by kernel_rfl) (by kernel_rfl) allLoop_nil allCut_nil
@[reducible] def soft_CompareY (R : Type) : Type := Nat → Int → Int → Int → (Int → Bool → Option R) → Option R
noncomputable def soft_CompareT {R : Type} (cmp_Compare_int64 : cmp_Compare_int64Y R) (soft_apart : soft_apartY R) (soft_float_rank : soft_float_rankY R) (k : Nat) (a1 : Int) (a2 : Int) (a3 : Int) (K0 : Int → Bool → Option R) : Option R :=
  soft_apart k a1 a2 (fun r1 r2 r3 r4 r5 r6 r7 =>
    soft_apart k a1 a3 (fun r8 r9 r10 r11 r12 r13 r14 =>
      cond (r4 == 0) (
        K0 0 false) (
        cond (r11 == 0) (
          K0 0 false) (
          soft_float_rank k r1 r2 r3 r4 r5 r6 r7 a2 (fun r15 =>
            soft_float_rank k r8 r9 r10 r11 r12 r13 r14 a3 (fun r16 =>
              cmp_Compare_int64 k r15 r16 (fun r17 =>
                K0 r17 true)))))))
noncomputable def soft_Compare {R : Type} (k : Nat) (a1 : Int) (a2 : Int) (a3 : Int) (K0 : Int → Bool → Option R) : Option R := soft_CompareT cmp_Compare_int64 soft_apart soft_float_rank k a1 a2 a3 K0
theorem soft_Compare_gen {R : Type} (soft_apart : soft_apartY R) (cmp_Compare_int64 : cmp_Compare_int64Y R) (soft_float_rank : soft_float_rankY R) (k : Nat) (a1 : Int) (a2 : Int) (a3 : Int) (K : AV → Heap → Option R) :
    fnK (mkCx Ty exts [(46, true, S46G soft_apart k), (73, true, S73G cmp_Compare_int64 k), (74, true, S74G soft_float_rank k)] fi48 [] []) 6 48 [.i .i64 a1, .i .u64 a2, .i .u64 a3] ⟨0, []⟩ K = soft_CompareT cmp_Compare_int64 soft_apart soft_float_rank k a1 a2 a3 (fun q1 q2 => K (.tup [.i .i64 q1, .b q2]) ⟨0, []⟩) := by kernel_rfl
noncomputable def S48G {R : Type} (soft_Compare : soft_CompareY R) (k : Nat) : Sum R := fun args H K => match args, H with
  | [.i .i64 a1, .i .u64 a2, .i .u64 a3], ⟨0, []⟩ => soft_Compare k a1 a2 a3 (fun q1 q2 => K (.tup [.i .i64 q1, .b q2]) ⟨0, []⟩)
  | _, _ => none
noncomputable def S48 {R : Type} (k : Nat) : Sum R := S48G soft_Compare k
theorem S48_ok0 {R : Type} (k : Nat) : SumOk Try.prog 48 false (S48 k : Sum R) := by
  intro args H K r h
  unfold S48 S48G at h
  split at h
  · exact fnK_sound (cx48_ok k) 6 48 _ _ K r ((soft_Compare_gen soft_apart cmp_Compare_int64 soft_float_rank k _ _ _ K).trans h)
  · cases h
theorem S48_ok {R : Type} (k : Nat) : SumOk Try.prog 48 true (S48 k : Sum R) := by
  refine sumOk_keep (S48_ok0 k) ?_
  intro args H K r h
  unfold S48 S48G at h ⊢
  split at h
  · refine Eq.trans ?_ h
    show soft_Compare k _ _ _ _ = soft_Compare k _ _ _ _
    exact congrArg (soft_Compare k _ _ _) (funext fun q1 => funext fun q2 => if_pos (keeps_app _ _ _ []))
  · cases h
-- function 58: plumbline/soft.sum
noncomputable def fi58 : FnI := ⟨58, Try.f58, []⟩
theorem en58 : Enters Try.prog 58 := enters_of Try.func58 (c := ((Try.f58).body.getD .skip)) (by kernel_rfl) (by kernel_rfl)
noncomputable def cx58 {R : Type} (k : Nat) : Cx R := mkCx Ty exts [(53, true, S53 k), (54, true, S54 k), (61, true, S61 k), (78, true, S78 k), (81, true, S81 k)] fi58 [] []
theorem cx58_ok {R : Type} (k : Nat) : CxOk Try.prog (cx58 k : Cx R) := mkCx_ok (c := ((Try.f58).body.getD .skip)) ty_ok mixed exts_ok (allSum_cons (S53_ok k) en53 (allSum_cons (S54_ok k) en54 (allSum_cons (S61_ok k) en61 (allSum_cons (S78_ok k) en78 (allSum_cons (S81_ok k) en81 allSum_nil))))) Try.func58 en58 (by kernel_rfl) (by kernel_rfl) allLoop_nil allCut_nil
@[reducible] def soft_sumY (R : Type) : Type := Nat → Int → Int → Int → Int → Int → Bool → Int → Int → Int → Int → Int → Int → Bool → Int → Int → (Int → Option R) → Option R
noncomputable def soft_sumT {R : Type} (soft_shape_round : soft_shape_roundY R) (wide_Add : wide_AddY R) (wide_Shl : wide_ShlY R) (wide_Shr : wide_ShrY R) (wide_Sub : wide_SubY R) (k : Nat) (a1 : Int) (a2 : Int) (a3 : Int) (a4 : Int) (a5 : Int) (a6 : Bool) (a7 : Int) (a8 : Int) (a9 : Int) (a10 : Int) (a11 : Int) (a12 : Int) (a13 : Bool) (a14 : Int) (a15 : Int) (K0 : Int → Option R) : Option R :=
  wide_Shl k 0 a7 60 (fun r1 r2 =>
    wide_Shl k 0 a14 60 (fun r3 r4 =>
      wide_Shr k r3 r4 (if 128 < (Wi64 (a8 - a15)) then 128 else (Wi64 (a8 - a15))) (fun r5 r6 r7 =>
        cond (a6 == a13) (
          wide_Add k r1 r2 r5 r6 (fun r8 r9 r10 =>
            soft_shape_round k a2 a3 a4 a1 a6 r8 r9 (Wi64 (a8 - 60)) r7 (fun r11 =>
              K0 r11))) (
          cond r7 (
            wide_Add k r5 r6 0 1 (fun r12 r13 r14 =>
              wide_Sub k r1 r2 r12 r13 (fun r15 r16 r17 =>
                cond r17 (
                  wide_Sub k r12 r13 r1 r2 (fun r18 r19 r20 =>
                    cond ((r18 == 0) && (r19 == 0)) (
                      cond (!r7) (
                        soft_shape_round k a2 a3 a4 a1 (a1 == 2) r18 r19 (Wi64 (a8 - 60)) r7 (fun r21 =>
                          K0 r21)) (
                        soft_shape_round k a2 a3 a4 a1 a13 r18 r19 (Wi64 (a8 - 60)) r7 (fun r22 =>
                          K0 r22))) (
                      soft_shape_round k a2 a3 a4 a1 a13 r18 r19 (Wi64 (a8 - 60)) r7 (fun r23 =>
                        K0 r23)))) (
                  cond ((r15 == 0) && (r16 == 0)) (
                    cond (!r7) (
                      soft_shape_round k a2 a3 a4 a1 (a1 == 2) r15 r16 (Wi64 (a8 - 60)) r7 (fun r24 =>
                        K0 r24)) (
                      soft_shape_round k a2 a3 a4 a1 a6 r15 r16 (Wi64 (a8 - 60)) r7 (fun r25 =>
                        K0 r25))) (
                    soft_shape_round k a2 a3 a4 a1 a6 r15 r16 (Wi64 (a8 - 60)) r7 (fun r26 =>
                      K0 r26)))))) (
            wide_Sub k r1 r2 r5 r6 (fun r27 r28 r29 =>
              cond r29 (
                wide_Sub k r5 r6 r1 r2 (fun r30 r31 r32 =>
                  cond ((r30 == 0) && (r31 == 0)) (
                    cond (!r7) (
                      soft_shape_round k a2 a3 a4 a1 (a1 == 2) r30 r31 (Wi64 (a8 - 60)) r7 (fun r33 =>
                        K0 r33)) (
                      soft_shape_round k a2 a3 a4 a1 a13 r30 r31 (Wi64 (a8 - 60)) r7 (fun r34 =>
                        K0 r34))) (
                    soft_shape_round k a2 a3 a4 a1 a13 r30 r31 (Wi64 (a8 - 60)) r7 (fun r35 =>
                      K0 r35)))) (
                cond ((r27 == 0) && (r28 == 0)) (
                  cond (!r7) (
                    soft_shape_round k a2 a3 a4 a1 (a1 == 2) r27 r28 (Wi64 (a8 - 60)) r7 (fun r36 =>
                      K0 r36)) (
                    soft_shape_round k a2 a3 a4 a1 a6 r27 r28 (Wi64 (a8 - 60)) r7 (fun r37 =>
                      K0 r37))) (
                  soft_shape_round k a2 a3 a4 a1 a6 r27 r28 (Wi64 (a8 - 60)) r7 (fun r38 =>
                    K0 r38)))))))))
noncomputable def soft_sum {R : Type} (k : Nat) (a1 : Int) (a2 : Int) (a3 : Int) (a4 : Int) (a5 : Int) (a6 : Bool) (a7 : Int) (a8 : Int) (a9 : Int) (a10 : Int) (a11 : Int) (a12 : Int) (a13 : Bool) (a14 : Int) (a15 : Int) (K0 : Int → Option R) : Option R := soft_sumT soft_shape_round wide_Add wide_Shl wide_Shr wide_Sub k a1 a2 a3 a4 a5 a6 a7 a8 a9 a10 a11 a12 a13 a14 a15 K0
theorem soft_sum_gen {R : Type} (wide_Shl : wide_ShlY R) (soft_shape_round : soft_shape_roundY R) (wide_Shr : wide_ShrY R) (wide_Sub : wide_SubY R) (wide_Add : wide_AddY R) (k : Nat) (a1 : Int) (a2 : Int) (a3 : Int) (a4 : Int) (a5 : Int) (a6 : Bool) (a7 : Int) (a8 : Int) (a9 : Int) (a10 : Int) (a11 : Int) (a12 : Int) (a13 : Bool) (a14 : Int) (a15 : Int) (K : AV → Heap → Option R) :
    fnK (mkCx Ty exts [(53, true, S53G wide_Shl k), (54, true, S54G soft_shape_round k), (61, true, S61G wide_Shr k), (78, true, S78G wide_Sub k), (81, true, S81G wide_Add k)] fi58 [] []) 6 58 [.i .i64 a1, .agg [.i .i64 a2, .i .i64 a3, .i .i64 a4, .i .i64 a5, .b a6, .i .u64 a7, .i .i64 a8], .agg [.i .i64 a9, .i .i64 a10, .i .i64 a11, .i .i64 a12, .b a13, .i .u64 a14, .i .i64 a15]] ⟨0, []⟩ K = soft_sumT soft_shape_round wide_Add wide_Shl wide_Shr wide_Sub k a1 a2 a3 a4 a5 a6 a7 a8 a9 a10 a11 a12 a13 a14 a15 (fun q1 => K (.i .u64 q1) ⟨0, []⟩) := by kernel_rfl
noncomputable def S58G {R : Type} (soft_sum : soft_sumY R) (k : Nat) : Sum R := fun args H K => match args, H with
  | [.i .i64 a1, .agg [.i .i64 a2, .i .i64 a3, .i .i64 a4, .i .i64 a5, .b a6, .i .u64 a7, .i .i64 a8], .agg [.i .i64 a9, .i .i64 a10, .i .i64 a11, .i .i64 a12, .b a13, .i .u64 a14, .i .i64 a15]], ⟨0, []⟩ => soft_sum k a1 a2 a3 a4 a5 a6 a7 a8 a9 a10 a11 a12 a13 a14 a15 (fun q1 => K (.i .u64 q1) ⟨0, []⟩)
  | _, _ => none
noncomputable def S58 {R : Type} (k : Nat) : Sum R := S58G soft_sum k
theorem S58_ok0 {R : Type} (k : Nat) : SumOk Try.prog 58 false (S58 k : Sum R) := by
  intro args H K r h
  unfold S58 S58G at h
  split at h
  · exact fnK_sound (cx58_ok k) 6 58 _ _ K r ((soft_sum_gen wide_Shl soft_shape_round wide_Shr wide_Sub wide_Add k _ _ _ _ _ _ _ _ _ _ _ _ _ _ _ K).trans h)
  · cases h
theorem S58_ok {R : Type} (k : Nat) : SumOk Try.prog 58 true (S58 k : Sum R) := by
  refine sumOk_keep (S58_ok0 k) ?_
  intro args H K r h
  unfold S58 S58G at h ⊢
  split at h
  · refine Eq.trans ?_ h
    show soft_sum k _ _ _ _ _ _ _ _ _ _ _ _ _ _ _ _ = soft_sum k _ _ _ _ _ _ _ _ _ _ _ _ _ _ _ _
    exact congrArg (soft_sum k _ _ _ _ _ _ _ _ _ _ _ _ _ _ _) (funext fun q1 => if_pos (keeps_app _ _ _ []))
  · cases h
-- function 29: plumbline/soft.Add
noncomputable def fi29 : FnI := ⟨29, Try.f29, [(600017, [1, 9, 10]), (2500017, [8])]⟩
theorem en29 : Enters Try.prog 29 := enters_of Try.func29 (c := ((Try.f29).body.getD .skip)) (by kernel_rfl) (by kernel_rfl)
@[reducible] def soft_Add_c0Y (R : Type) : Type := Nat → Int → Int → Int → Int → Int → Bool → Int → Int → Int → Int → Int → Int → Bool → Int → Int → (Int → Option R) → Option R
noncomputable def soft_Add_c0T {R : Type} (soft_sum : soft_sumY R) (k : Nat) (x1 : Int) (x2 : Int) (x3 : Int) (x4 : Int) (x5 : Int) (x6 : Bool) (x7 : Int) (x8 : Int) (x9 : Int) (x10 : Int) (x11 : Int) (x12 : Int) (x13 : Bool) (x14 : Int) (x15 : Int) (K0 : Int → Option R) : Option R :=
  soft_sum k x1 x2 x3 x4 x5 x6 x7 x8 x9 x10 x11 x12 x13 x14 x15 (fun yr1 =>
    K0 yr1)
noncomputable def soft_Add_c0 {R : Type} (k : Nat) (x1 : Int) (x2 : Int) (x3 : Int) (x4 : Int) (x5 : Int) (x6 : Bool) (x7 : Int) (x8 : Int) (x9 : Int) (x10 : Int) (x11 : Int) (x12 : Int) (x13 : Bool) (x14 : Int) (x15 : Int) (K0 : Int → Option R) : Option R := soft_Add_c0T soft_sum k x1 x2 x3 x4 x5 x6 x7 x8 x9 x10 x11 x12 x13 x14 x15 K0
noncomputable def cc29_17 {R : Type} (k : Nat) : Cx R := mkCx Ty exts [(46, true, S46 k), (50, true, S50 k), (57, true, S57 k), (58, true, S58 k)] fi29 [] []
theorem cc29_17_ok {R : Type} (k : Nat) : CxOk Try.prog (cc29_17 k : Cx R) := mkCx_ok (c := ((Try.f29).body.getD .skip)) ty_ok mixed exts_ok (allSum_cons (S46_ok k) en46 (allSum_cons (S50_ok k) en50 (allSum_cons (S57_ok k) en57 (allSum_cons (S58_ok k) en58 allSum_nil)))) Try.func29 en29 (by kernel_rfl) (by kernel_rfl) allLoop_nil allCut_nil
noncomputable def C29_17G {R : Type} (soft_Add_c0 : soft_Add_c0Y R) (k : Nat) : LSum R := fun pin T H K => match pin, T, H with
  | 0, [(1, .i .i64 x1), (9, .ptr 0 0 0 0 0), (10, .ptr 1 0 0 0 0)], ⟨2, [(0, some ⟨0, false, .cells [.i .i64 x2, .i .i64 x3, .i .i64 x4, .i .i64 x5, .b x6, .i .u64 x7, .i .i64 x8]⟩), (1, some ⟨1, false, .cells [.i .i64 x9, .i .i64 x10, .i .i64 x11, .i .i64 x12, .b x13, .i .u64 x14, .i .i64 x15]⟩)]⟩ => soft_Add_c0 k x1 x2 x3 x4 x5 x6 x7 x8 x9 x10 x11 x12 x13 x14 x15 (fun q1 => K .ret [(8, .i .u64 q1)] ⟨0, []⟩)
  | _, _, _ => none
noncomputable def C29_17 {R : Type} (k : Nat) : LSum R := C29_17G soft_Add_c0 k
theorem soft_Add_c0_gen {R : Type} (soft_apart : soft_apartY R) (soft_shape_nan : soft_shape_nanY R) (soft_shape_sign : soft_shape_signY R) (soft_sum : soft_sumY R) (k : Nat) (x1 : Int) (x2 : Int) (x3 : Int) (x4 : Int) (x5 : Int) (x6 : Bool) (x7 : Int) (x8 : Int) (x9 : Int) (x10 : Int) (x11 : Int) (x12 : Int) (x13 : Bool) (x14 : Int) (x15 : Int) (K : Kont R) :
    (fun C => codeK C (run C 4)) (mkCx Ty exts [(46, true, S46G soft_apart k), (50, true, S50G soft_shape_nan k), (57, true, S57G soft_shape_sign k), (58, true, S58G soft_sum k)] fi29 [] []) 0 fi29 (cutAt ((Try.f29).body.getD .skip) 17) [(1, .i .i64 x1), (9, .ptr 0 0 0 0 0), (10, .ptr 1 0 0 0 0)] ⟨2, [(0, some ⟨0, false, .cells [.i .i64 x2, .i .i64 x3, .i .i64 x4, .i .i64 x5, .b x6, .i .u64 x7, .i .i64 x8]⟩), (1, some ⟨1, false, .cells [.i .i64 x9, .i .i64 x10, .i .i64 x11, .i .i64 x12, .b x13, .i .u64 x14, .i .i64 x15]⟩)]⟩ (exitNorm fi29.ann 500017 0 K) = soft_Add_c0T soft_sum k x1 x2 x3 x4 x5 x6 x7 x8 x9 x10 x11 x12 x13 x14 x15 (fun q1 => K .ret [(8, .i .u64 q1)] ⟨0, []⟩) := by kernel_rfl
theorem C29_17_cok {R : Type} (k : Nat) : CodeOk Try.prog (cc29_17 k : Cx R) fi29 (cutAt ((Try.f29).body.getD .skip) 17) := cutAt_ok (((cc29_17_ok k).fns 29 fi29 (by kernel_rfl)).2.2.2 ((Try.f29).body.getD .skip) (by kernel_rfl))
theorem C29_17_ok {R : Type} (k : Nat) : CutOk Try.prog (Try.f29).ntmps (cutAt ((Try.f29).body.getD .skip) 17) (C29_17 k : LSum R) := by
  intro pin T H K r h
  unfold C29_17 C29_17G at h
  split at h
  · obtain ⟨ex, T1, H1, h, hb⟩ := codeK_sound (cc29_17_ok k) (run_sound (cc29_17_ok k) 4) _ fi29 _ _ _ _ _ (C29_17_cok k) ((soft_Add_c0_gen soft_apart soft_shape_nan soft_shape_sign soft_sum k _ _ _ _ _ _ _ _ _ _ _ _ _ _ _ K).trans h)
    exact cut_step hb h
  · cases h
noncomputable def cx29 {R : Type} (k : Nat) : Cx R := mkCx Ty exts [(46, true, S46 k), (50, true, S50 k), (57, true, S57 k), (58, true, S58 k)] fi29 [] [(17, C29_17 k)]
theorem cx29_ok {R : Type} (k : Nat) : CxOk Try.prog (cx29 k : Cx R) := mkCx_ok (c := ((Try.f29).body.getD .skip)) ty_ok mixed exts_ok (allSum_cons (S46_ok k) en46 (allSum_cons (S50_ok k) en50 (allSum_cons (S57_ok k) en57 (allSum_cons (S58_ok k) en58 allSum_nil)))) Try.func29 en29 (by kernel_rfl) (by kernel_rfl) allLoop_nil (allCut_cons (C29_17_ok k) (by kernel_rfl) allCut_nil)
@[reducible] def soft_AddY (R : Type) : Type := Nat → Int → Int → Int → Int → (Int → Option R) → Option R
noncomputable def soft_AddT {R : Type} (soft_Add_c0 : soft_Add_c0Y R) (soft_apart : soft_apartY R) (soft_shape_nan : soft_shape_nanY R) (soft_shape_sign : soft_shape_signY R) (k : Nat) (a1 : Int) (a2 : Int) (a3 : Int) (a4 : Int) (K0 : Int → Option R) : Option R :=
  soft_apart k a1 a3 (fun r1 r2 r3 r4 r5 r6 r7 =>
    soft_apart k a1 a4 (fun r8 r9 r10 r11 r12 r13 r14 =>
      cond (r4 == 0) (
        soft_shape_nan k r1 r2 r3 (fun r15 =>
          K0 r15)) (
        cond (r11 == 0) (
          soft_shape_nan k r1 r2 r3 (fun r16 =>
            K0 r16)) (
          cond (r4 == 1) (
            cond (r11 == 1) (
              cond (!(r5 == r12)) (
                soft_shape_nan k r1 r2 r3 (fun r17 =>
                  K0 r17)) (
                cond (r4 == 1) (
                  K0 a3) (
                  cond (r11 == 1) (
                    K0 a4) (
                    cond (r4 == 2) (
                      cond (r11 == 2) (
                        cond (!(r5 == r12)) (
                          soft_shape_sign k r1 r2 r3 (a2 == 2) (fun r18 =>
                            K0 r18)) (
                          cond (r4 == 2) (
                            K0 a4) (
                            cond (r11 == 2) (
                              K0 a3) (
                              cond (decide (r7 < r14)) (
                                soft_Add_c0 k a2 r8 r9 r10 r11 r12 r13 r14 r1 r2 r3 r4 r5 r6 r7 (fun r19 =>
                                  K0 r19)) (
                                soft_Add_c0 k a2 r1 r2 r3 r4 r5 r6 r7 r8 r9 r10 r11 r12 r13 r14 (fun r20 =>
                                  K0 r20)))))) (
                        cond (r4 == 2) (
                          K0 a4) (
                          cond (r11 == 2) (
                            K0 a3) (
                            cond (decide (r7 < r14)) (
                              soft_Add_c0 k a2 r8 r9 r10 r11 r12 r13 r14 r1 r2 r3 r4 r5 r6 r7 (fun r21 =>
                                K0 r21)) (
                              soft_Add_c0 k a2 r1 r2 r3 r4 r5 r6 r7 r8 r9 r10 r11 r12 r13 r14 (fun r22 =>
                                K0 r22)))))) (
                      cond (r4 == 2) (
                        K0 a4) (
                        cond (r11 == 2) (
                          K0 a3) (
                          cond (decide (r7 < r14)) (
                            soft_Add_c0 k a2 r8 r9 r10 r11 r12 r13 r14 r1 r2 r3 r4 r5 r6 r7 (fun r23 =>
                              K0 r23)) (
                            soft_Add_c0 k a2 r1 r2 r3 r4 r5 r6 r7 r8 r9 r10 r11 r12 r13 r14 (fun r24 =>
                              K0 r24))))))))) (
              cond (r4 == 1) (
                K0 a3) (
                cond (r11 == 1) (
                  K0 a4) (
                  cond (r4 == 2) (
                    cond (r11 == 2) (
                      cond (!(r5 == r12)) (
                        soft_shape_sign k r1 r2 r3 (a2 == 2) (fun r25 =>
                          K0 r25)) (
                        cond (r4 == 2) (
                          K0 a4) (
                          cond (r11 == 2) (
                            K0 a3) (
                            cond (decide (r7 < r14)) (
                              soft_Add_c0 k a2 r8 r9 r10 r11 r12 r13 r14 r1 r2 r3 r4 r5 r6 r7 (fun r26 =>
                                K0 r26)) (
                              soft_Add_c0 k a2 r1 r2 r3 r4 r5 r6 r7 r8 r9 r10 r11 r12 r13 r14 (fun r27 =>
                                K0 r27)))))) (
                      cond (r4 == 2) (
                        K0 a4) (
                        cond (r11 == 2) (
                          K0 a3) (
                          cond (decide (r7 < r14)) (
                            soft_Add_c0 k a2 r8 r9 r10 r11 r12 r13 r14 r1 r2 r3 r4 r5 r6 r7 (fun r28 =>
                              K0 r28)) (
                            soft_Add_c0 k a2 r1 r2 r3 r4 r5 r6 r7 r8 r9 r10 r11 r12 r13 r14 (fun r29 =>
                              K0 r29)))))) (
                    cond (r4 == 2) (
                      K0 a4) (
                      cond (r11 == 2) (
                        K0 a3) (
                        cond (decide (r7 < r14)) (
                          soft_Add_c0 k a2 r8 r9 r10 r11 r12 r13 r14 r1 r2 r3 r4 r5 r6 r7 (fun r30 =>
                            K0 r30)) (
                          soft_Add_c0 k a2 r1 r2 r3 r4 r5 r6 r7 r8 r9 r10 r11 r12 r13 r14 (fun r31 =>
                            K0 r31))))))))) (
            cond (r4 == 1) (
              K0 a3) (
              cond (r11 == 1) (
                K0 a4) (
                cond (r4 == 2) (
                  cond (r11 == 2) (
                    cond (!(r5 == r12)) (
                      soft_shape_sign k r1 r2 r3 (a2 == 2) (fun r32 =>
                        K0 r32)) (
                      cond (r4 == 2) (
                        K0 a4) (
                        cond (r11 == 2) (
                          K0 a3) (
                          cond (decide (r7 < r14)) (
                            soft_Add_c0 k a2 r8 r9 r10 r11 r12 r13 r14 r1 r2 r3 r4 r5 r6 r7 (fun r33 =>
                              K0 r33)) (
                            soft_Add_c0 k a2 r1 r2 r3 r4 r5 r6 r7 r8 r9 r10 r11 r12 r13 r14 (fun r34 =>
                              K0 r34)))))) (
                    cond (r4 == 2) (
                      K0 a4) (
                      cond (r11 == 2) (
                        K0 a3) (
                        cond (decide (r7 < r14)) (
                          soft_Add_c0 k a2 r8 r9 r10 r11 r12 r13 r14 r1 r2 r3 r4 r5 r6 r7 (fun r35 =>
                            K0 r35)) (
                          soft_Add_c0 k a2 r1 r2 r3 r4 r5 r6 r7 r8 r9 r10 r11 r12 r13 r14 (fun r36 =>
                            K0 r36)))))) (
                  cond (r4 == 2) (
                    K0 a4) (
                    cond (r11 == 2) (
                      K0 a3) (
                      cond (decide (r7 < r14)) (
                        soft_Add_c0 k a2 r8 r9 r10 r11 r12 r13 r14 r1 r2 r3 r4 r5 r6 r7 (fun r37 =>
                          K0 r37)) (
                        soft_Add_c0 k a2 r1 r2 r3 r4 r5 r6 r7 r8 r9 r10 r11 r12 r13 r14 (fun r38 =>
                          K0 r38))))))))))))
noncomputable def soft_Add {R : Type} (k : Nat) (a1 : Int) (a2 : Int) (a3 : Int) (a4 : Int) (K0 : Int → Option R) : Option R := soft_AddT soft_Add_c0 soft_apart soft_shape_nan soft_shape_sign k a1 a2 a3 a4 K0
theorem soft_Add_gen {R : Type} (soft_apart : soft_apartY R) (soft_shape_nan : soft_shape_nanY R) (soft_shape_sign : soft_shape_signY R) (soft_sum : soft_sumY R) (soft_Add_c0 : soft_Add_c0Y R) (k : Nat) (a1 : Int) (a2 : Int) (a3 : Int) (a4 : Int) (K : AV → Heap → Option R) :
    fnK (mkCx Ty exts [(46, true, S46G soft_apart k), (50, true, S50G soft_shape_nan k), (57, true, S57G soft_shape_sign k), (58, true, S58G soft_sum k)] fi29 [] [(17, C29_17G soft_Add_c0 k)]) 6 29 [.i .i64 a1, .i .i64 a2, .i .u64 a3, .i .u64 a4] ⟨0, []⟩ K = soft_AddT soft_Add_c0 soft_apart soft_shape_nan soft_shape_sign k a1 a2 a3 a4 (fun q1 => K (.i .u64 q1) ⟨0, []⟩) := by kernel_rfl
noncomputable def S29G {R : Type} (soft_Add : soft_AddY R) (k : Nat) : Sum R := fun args H K => match args, H with
  | [.i .i64 a1, .i .i64 a2, .i .u64 a3, .i .u64 a4], ⟨0, []⟩ => soft_Add k a1 a2 a3 a4 (fun q1 => K (.i .u64 q1) ⟨0, []⟩)
  | _, _ => none
noncomputable def S29 {R : Type} (k : Nat) : Sum R := S29G soft_Add k
theorem S29_ok0 {R : Type} (k : Nat) : SumOk Try.prog 29 false (S29 k : Sum R) := by
  intro args H K r h
  unfold S29 S29G at h
  split at h
  · exact fnK_sound (cx29_ok k) 6 29 _ _ K r ((soft_Add_gen soft_apart soft_shape_nan soft_shape_sign soft_sum soft_Add_c0 k _ _ _ _ K).trans h)
  · cases h
theorem S29_ok {R : Type} (k : Nat) : SumOk Try.prog 29 true (S29 k : Sum R) := by
  refine sumOk_keep (S29_ok0 k) ?_
  intro args H K r h
  unfold S29 S29G at h ⊢
  split at h
  · refine Eq.trans ?_ h
    show soft_Add k _ _ _ _ _ = soft_Add k _ _ _ _ _
    exact congrArg (soft_Add k _ _ _ _) (funext fun q1 => if_pos (keeps_app _ _ _ []))
  · cases h
-- function 26: plumbline/soft.Sqrt
noncomputable def fi26 : FnI := ⟨26, Try.f26, []⟩
theorem en26 : Enters Try.prog 26 := enters_of Try.func26 (c := ((Try.f26).body.getD .skip)) (by kernel_rfl) (by kernel_rfl)
noncomputable def cx26 {R : Type} (k : Nat) : Cx R := mkCx Ty exts [(46, true, S46 k), (50, true, S50 k), (51, true, S51 k), (52, true, S52 k), (53, true, S53 k), (54, true, S54 k)] fi26 [] []
theorem cx26_ok {R : Type} (k : Nat) : CxOk Try.prog (cx26 k : Cx R) := mkCx_ok (c := ((Try.f26).body.getD .skip)) ty_ok mixed exts_ok (allSum_cons (S46_ok k) en46 (allSum_cons (S50_ok k) en50 (allSum_cons (S51_ok k) en51 (allSum_cons (S52_ok k) en52 (allSum_cons (S53_ok k) en53 (allSum_cons (S54_ok k) en54 allSum_nil)))))) Try.func26 en26 (by kernel_rfl) (by kernel_rfl) allLoop_nil allCut_nil
@[reducible] def soft_SqrtY (R : Type) : Type := Nat → Int → Int → Int → (Int → Option R) → Option R
noncomputable def soft_SqrtT {R : Type} (soft_apart : soft_apartY R) (soft_shape_nan : soft_shape_nanY R) (soft_shape_round : soft_shape_roundY R) (wide_Len : wide_LenY R) (wide_Shl : wide_ShlY R) (wide_Sqrt : wide_SqrtY R) (k : Nat) (a1 : Int) (a2 : Int) (a3 : Int) (K0 : Int → Option R) : Option R :=
  soft_apart k a1 a3 (fun r1 r2 r3 r4 r5 r6 r7 =>
    cond (r4 == 2) (
      K0 a3) (
      cond (r4 == 1) (
        cond (!r5) (
          K0 a3) (
          cond (r4 == 0) (
            soft_shape_nan k r1 r2 r3 (fun r8 =>
              K0 r8)) (
            cond r5 (
              soft_shape_nan k r1 r2 r3 (fun r9 =>
                K0 r9)) (
              wide_Len k 0 r6 (fun r10 =>
                cond ((Int.tmod (Wi64 (r7 - (Wi64 (126 - r10)))) 2) != 0) (
                  wide_Shl k 0 r6 (Wi64 ((Wi64 (126 - r10)) + 1)) (fun r11 r12 =>
                    wide_Sqrt k r11 r12 (fun r13 r14 r15 =>
                      soft_shape_round k r1 r2 r3 a2 false 0 r13 (Wi64 (Int.tdiv (Wi64 (r7 - (Wi64 ((Wi64 (126 - r10)) + 1)))) 2)) (!((r14 == 0) && (r15 == 0))) (fun r16 =>
                        K0 r16)))) (
                  wide_Shl k 0 r6 (Wi64 (126 - r10)) (fun r17 r18 =>
                    wide_Sqrt k r17 r18 (fun r19 r20 r21 =>
                      soft_shape_round k r1 r2 r3 a2 false 0 r19 (Wi64 (Int.tdiv (Wi64 (r7 - (Wi64 (126 - r10)))) 2)) (!((r20 == 0) && (r21 == 0))) (fun r22 =>
                        K0 r22))))))))) (
        cond (r4 == 0) (
          soft_shape_nan k r1 r2 r3 (fun r23 =>
            K0 r23)) (
          cond r5 (
            soft_shape_nan k r1 r2 r3 (fun r24 =>
              K0 r24)) (
            wide_Len k 0 r6 (fun r25 =>
              cond ((Int.tmod (Wi64 (r7 - (Wi64 (126 - r25)))) 2) != 0) (
                wide_Shl k 0 r6 (Wi64 ((Wi64 (126 - r25)) + 1)) (fun r26 r27 =>
                  wide_Sqrt k r26 r27 (fun r28 r29 r30 =>
                    soft_shape_round k r1 r2 r3 a2 false 0 r28 (Wi64 (Int.tdiv (Wi64 (r7 - (Wi64 ((Wi64 (126 - r25)) + 1)))) 2)) (!((r29 == 0) && (r30 == 0))) (fun r31 =>
                      K0 r31)))) (
                wide_Shl k 0 r6 (Wi64 (126 - r25)) (fun r32 r33 =>
                  wide_Sqrt k r32 r33 (fun r34 r35 r36 =>
                    soft_shape_round k r1 r2 r3 a2 false 0 r34 (Wi64 (Int.tdiv (Wi64 (r7 - (Wi64 (126 - r25)))) 2)) (!((r35 == 0) && (r36 == 0))) (fun r37 =>
                      K0 r37))))))))))
noncomputable def soft_Sqrt {R : Type} (k : Nat) (a1 : Int) (a2 : Int) (a3 : Int) (K0 : Int → Option R) : Option R := soft_SqrtT soft_apart soft_shape_nan soft_shape_round wide_Len wide_Shl wide_Sqrt k a1 a2 a3 K0
theorem soft_Sqrt_gen {R : Type} (soft_apart : soft_apartY R) (soft_shape_nan : soft_shape_nanY R) (wide_Len : wide_LenY R) (wide_Sqrt : wide_SqrtY R) (wide_Shl : wide_ShlY R) (soft_shape_round : soft_shape_roundY R) (k : Nat) (a1 : Int) (a2 : Int) (a3 : Int) (K : AV → Heap → Option R) :
    fnK (mkCx Ty exts [(46, true, S46G soft_apart k), (50, true, S50G soft_shape_nan k), (51, true, S51G wide_Len k), (52, true, S52G wide_Sqrt k), (53, true, S53G wide_Shl k), (54, true, S54G soft_shape_round k)] fi26 [] []) 6 26 [.i .i64 a1, .i .i64 a2, .i .u64 a3] ⟨0, []⟩ K = soft_SqrtT soft_apart soft_shape_nan soft_shape_round wide_Len wide_Shl wide_Sqrt k a1 a2 a3 (fun q1 => K (.i .u64 q1) ⟨0, []⟩) := by kernel_rfl
noncomputable def S26G {R : Type} (soft_Sqrt : soft_SqrtY R) (k : Nat) : Sum R := fun args H K => match args, H with
  | [.i .i64 a1, .i .i64 a2, .i .u64 a3], ⟨0, []⟩ => soft_Sqrt k a1 a2 a3 (fun q1 => K (.i .u64 q1) ⟨0, []⟩)
  | _, _ => none
noncomputable def S26 {R : Type} (k : Nat) : Sum R := S26G soft_Sqrt k
theorem S26_ok0 {R : Type} (k : Nat) : SumOk Try.prog 26 false (S26 k : Sum R) := by
  intro args H K r h
  unfold S26 S26G at h
  split at h
  · exact fnK_sound (cx26_ok k) 6 26 _ _ K r ((soft_Sqrt_gen soft_apart soft_shape_nan wide_Len wide_Sqrt wide_Shl soft_shape_round k _ _ _ K).trans h)
  · cases h
theorem S26_ok {R : Type} (k : Nat) : SumOk Try.prog 26 true (S26 k : Sum R) := by
  refine sumOk_keep (S26_ok0 k) ?_
  intro args H K r h
  unfold S26 S26G at h ⊢
  split at h
  · refine Eq.trans ?_ h
    show soft_Sqrt k _ _ _ _ = soft_Sqrt k _ _ _ _
    exact congrArg (soft_Sqrt k _ _ _) (funext fun q1 => if_pos (keeps_app _ _ _ []))
  · cases h
-- function 27: plumbline/soft.Mul
noncomputable def fi27 : FnI := ⟨27, Try.f27, []⟩
theorem en27 : Enters Try.prog 27 := enters_of Try.func27 (c := ((Try.f27).body.getD .skip)) (by kernel_rfl) (by kernel_rfl)
noncomputable def cx27 {R : Type} (k : Nat) : Cx R := mkCx Ty exts [(46, true, S46 k), (49, true, S49 k), (50, true, S50 k), (54, true, S54 k), (55, true, S55 k)] fi27 [] []
theorem cx27_ok {R : Type} (k : Nat) : CxOk Try.prog (cx27 k : Cx R) := mkCx_ok (c := ((Try.f27).body.getD .skip)) ty_ok mixed exts_ok (allSum_cons (S46_ok k) en46 (allSum_cons (S49_ok k) en49 (allSum_cons (S50_ok k) en50 (allSum_cons (S54_ok k) en54 (allSum_cons (S55_ok k) en55 allSum_nil))))) Try.func27 en27 (by kernel_rfl) (by kernel_rfl) allLoop_nil allCut_nil
@[reducible] def soft_MulY (R : Type) : Type := Nat → Int → Int → Int → Int → (Int → Option R) → Option R
noncomputable def soft_MulT {R : Type} (soft_apart : soft_apartY R) (soft_shape_inf : soft_shape_infY R) (soft_shape_nan : soft_shape_nanY R) (soft_shape_round : soft_shape_roundY R) (wide_Mul : wide_MulY R) (k : Nat) (a1 : Int) (a2 : Int) (a3 : Int) (a4 : Int) (K0 : Int → Option R) : Option R :=
  soft_apart k a1 a3 (fun r1 r2 r3 r4 r5 r6 r7 =>
    soft_apart k a1 a4 (fun r8 r9 r10 r11 r12 r13 r14 =>
      cond ((if r11 < r4 then r11 else r4) == 0) (
        soft_shape_nan k r1 r2 r3 (fun r15 =>
          K0 r15)) (
        cond ((if r11 < r4 then r11 else r4) == 1) (
          cond ((if r11 > r4 then r11 else r4) == 2) (
            soft_shape_nan k r1 r2 r3 (fun r16 =>
              K0 r16)) (
            cond ((if r11 < r4 then r11 else r4) == 1) (
              soft_shape_inf k r1 r2 r3 (!(r5 == r12)) (fun r17 =>
                K0 r17)) (
              wide_Mul k r6 r13 (fun r18 r19 =>
                soft_shape_round k r1 r2 r3 a2 (!(r5 == r12)) r18 r19 (Wi64 (r7 + r14)) false (fun r20 =>
                  K0 r20))))) (
          cond ((if r11 < r4 then r11 else r4) == 1) (
            soft_shape_inf k r1 r2 r3 (!(r5 == r12)) (fun r21 =>
              K0 r21)) (
            wide_Mul k r6 r13 (fun r22 r23 =>
              soft_shape_round k r1 r2 r3 a2 (!(r5 == r12)) r22 r23 (Wi64 (r7 + r14)) false (fun r24 =>
                K0 r24)))))))
noncomputable def soft_Mul {R : Type} (k : Nat) (a1 : Int) (a2 : Int) (a3 : Int) (a4 : Int) (K0 : Int → Option R) : Option R := soft_MulT soft_apart soft_shape_inf soft_shape_nan soft_shape_round wide_Mul k a1 a2 a3 a4 K0
theorem soft_Mul_gen {R : Type} (soft_apart : soft_apartY R) (wide_Mul : wide_MulY R) (soft_shape_nan : soft_shape_nanY R) (soft_shape_round : soft_shape_roundY R) (soft_shape_inf : soft_shape_infY R) (k : Nat) (a1 : Int) (a2 : Int) (a3 : Int) (a4 : Int) (K : AV → Heap → Option R) :
    fnK (mkCx Ty exts [(46, true, S46G soft_apart k), (49, true, S49G wide_Mul k), (50, true, S50G soft_shape_nan k), (54, true, S54G soft_shape_round k), (55, true, S55G soft_shape_inf k)] fi27 [] []) 6 27 [.i .i64 a1, .i .i64 a2, .i .u64 a3, .i .u64 a4] ⟨0, []⟩ K = soft_MulT soft_apart soft_shape_inf soft_shape_nan soft_shape_round wide_Mul k a1 a2 a3 a4 (fun q1 => K (.i .u64 q1) ⟨0, []⟩) := by kernel_rfl
noncomputable def S27G {R : Type} (soft_Mul : soft_MulY R) (k : Nat) : Sum R := fun args H K => match args, H with
  | [.i .i64 a1, .i .i64 a2, .i .u64 a3, .i .u64 a4], ⟨0, []⟩ => soft_Mul k a1 a2 a3 a4 (fun q1 => K (.i .u64 q1) ⟨0, []⟩)
  | _, _ => none
noncomputable def S27 {R : Type} (k : Nat) : Sum R := S27G soft_Mul k
theorem S27_ok0 {R : Type} (k : Nat) : SumOk Try.prog 27 false (S27 k : Sum R) := by
  intro args H K r h
  unfold S27 S27G at h
  split at h
  · exact fnK_sound (cx27_ok k) 6 27 _ _ K r ((soft_Mul_gen soft_apart wide_Mul soft_shape_nan soft_shape_round soft_shape_inf k _ _ _ _ K).trans h)
  · cases h
theorem S27_ok {R : Type} (k : Nat) : SumOk Try.prog 27 true (S27 k : Sum R) := by
  refine sumOk_keep (S27_ok0 k) ?_
  intro args H K r h
  unfold S27 S27G at h ⊢
  split at h
  · refine Eq.trans ?_ h
    show soft_Mul k _ _ _ _ _ = soft_Mul k _ _ _ _ _
    exact congrArg (soft_Mul k _ _ _ _) (funext fun q1 => if_pos (keeps_app _ _ _ []))
  · cases h
-- function 33: plumbline/soft.Div
noncomputable def fi33 : FnI := ⟨33, Try.f33, []⟩
theorem en33 : Enters Try.prog 33 := enters_of Try.func33 (c := ((Try.f33).body.getD .skip)) (by kernel_rfl) (by kernel_rfl)
noncomputable def cx33 {R : Type} (k : Nat) : Cx R := mkCx Ty exts [(46, true, S46 k), (50, true, S50 k), (51, true, S51 k), (53, true, S53 k), (54, true, S54 k), (55, true, S55 k), (57, true, S57 k), (64, true, S64 k)] fi33 [] []
theorem cx33_ok {R : Type} (k : Nat) : CxOk Try.prog (cx33 k : Cx R) := mkCx_ok (c := ((Try.f33).body.getD .skip)) ty_ok mixed exts_ok (allSum_cons (S46_ok k) en46 (allSum_cons (S50_ok k) en50 (allSum_cons (S51_ok k) en51 (allSum_cons (S53_ok k) en53 (allSum_cons (S54_ok k) en54 (allSum_cons (S55_ok k) en55 (allSum_cons (S57_ok k) en57 (allSum_cons (S64_ok k) en64 allSum_nil)))))))) Try.func33 en33 (by kernel_rfl) (by kernel_rfl) allLoop_nil allCut_nil
@[reducible] def soft_DivY (R : Type) : Type := Nat → Int → Int → Int → Int → (Int → Option R) → Option R
noncomputable def soft_DivT {R : Type} (soft_apart : soft_apartY R) (soft_shape_inf : soft_shape_infY R) (soft_shape_nan : soft_shape_nanY R) (soft_shape_round : soft_shape_roundY R) (soft_shape_sign : soft_shape_signY R) (wide_Div : wide_DivY R) (wide_Len : wide_LenY R) (wide_Shl : wide_ShlY R) (k : Nat) (a1 : Int) (a2 : Int) (a3 : Int) (a4 : Int) (K0 : Int → Option R) : Option R :=
  soft_apart k a1 a3 (fun r1 r2 r3 r4 r5 r6 r7 =>
    soft_apart k a1 a4 (fun r8 r9 r10 r11 r12 r13 r14 =>
      cond ((if r11 < r4 then r11 else r4) == 0) (
        soft_shape_nan k r1 r2 r3 (fun r15 =>
          K0 r15)) (
        cond (r4 == r11) (
          cond (decide (r4 < 3)) (
            soft_shape_nan k r1 r2 r3 (fun r16 =>
              K0 r16)) (
            cond (r4 == 1) (
              soft_shape_inf k r1 r2 r3 (!(r5 == r12)) (fun r17 =>
                K0 r17)) (
              cond (r11 == 2) (
                soft_shape_inf k r1 r2 r3 (!(r5 == r12)) (fun r18 =>
                  K0 r18)) (
                cond (r11 == 1) (
                  soft_shape_sign k r1 r2 r3 (!(r5 == r12)) (fun r19 =>
                    K0 r19)) (
                  cond (r4 == 2) (
                    soft_shape_sign k r1 r2 r3 (!(r5 == r12)) (fun r20 =>
                      K0 r20)) (
                    wide_Len k 0 r6 (fun r21 =>
                      wide_Shl k 0 r6 (Wi64 (127 - r21)) (fun r22 r23 =>
                        wide_Div k r22 r23 r13 (fun r24 r25 r26 =>
                          soft_shape_round k r1 r2 r3 a2 (!(r5 == r12)) r24 r25 (Wi64 ((Wi64 (r7 - r14)) - (Wi64 (127 - r21)))) (r26 != 0) (fun r27 =>
                            K0 r27)))))))))) (
          cond (r4 == 1) (
            soft_shape_inf k r1 r2 r3 (!(r5 == r12)) (fun r28 =>
              K0 r28)) (
            cond (r11 == 2) (
              soft_shape_inf k r1 r2 r3 (!(r5 == r12)) (fun r29 =>
                K0 r29)) (
              cond (r11 == 1) (
                soft_shape_sign k r1 r2 r3 (!(r5 == r12)) (fun r30 =>
                  K0 r30)) (
                cond (r4 == 2) (
                  soft_shape_sign k r1 r2 r3 (!(r5 == r12)) (fun r31 =>
                    K0 r31)) (
                  wide_Len k 0 r6 (fun r32 =>
                    wide_Shl k 0 r6 (Wi64 (127 - r32)) (fun r33 r34 =>
                      wide_Div k r33 r34 r13 (fun r35 r36 r37 =>
                        soft_shape_round k r1 r2 r3 a2 (!(r5 == r12)) r35 r36 (Wi64 ((Wi64 (r7 - r14)) - (Wi64 (127 - r32)))) (r37 != 0) (fun r38 =>
                          K0 r38))))))))))))
noncomputable def soft_Div {R : Type} (k : Nat) (a1 : Int) (a2 : Int) (a3 : Int) (a4 : Int) (K0 : Int → Option R) : Option R := soft_DivT soft_apart soft_shape_inf soft_shape_nan soft_shape_round soft_shape_sign wide_Div wide_Len wide_Shl k a1 a2 a3 a4 K0
theorem soft_Div_gen {R : Type} (soft_apart : soft_apartY R) (soft_shape_nan : soft_shape_nanY R) (wide_Len : wide_LenY R) (wide_Shl : wide_ShlY R) (soft_shape_round : soft_shape_roundY R) (soft_shape_inf : soft_shape_infY R) (soft_shape_sign : soft_shape_signY R) (wide_Div : wide_DivY R) (k : Nat) (a1 : Int) (a2 : Int) (a3 : Int) (a4 : Int) (K : AV → Heap → Option R) :
    fnK (mkCx Ty exts [(46, true, S46G soft_apart k), (50, true, S50G soft_shape_nan k), (51, true, S51G wide_Len k), (53, true, S53G wide_Shl k), (54, true, S54G soft_shape_round k), (55, true, S55G soft_shape_inf k), (57, true, S57G soft_shape_sign k), (64, true, S64G wide_Div k)] fi33 [] []) 6 33 [.i .i64 a1, .i .i64 a2, .i .u64 a3, .i .u64 a4] ⟨0, []⟩ K = soft_DivT soft_apart soft_shape_inf soft_shape_nan soft_shape_round soft_shape_sign wide_Div wide_Len wide_Shl k a1 a2 a3 a4 (fun q1 => K (.i .u64 q1) ⟨0, []⟩) := by kernel_rfl
noncomputable def S33G {R : Type} (soft_Div : soft_DivY R) (k : Nat) : Sum R := fun args H K => match args, H with
  | [.i .i64 a1, .i .i64 a2, .i .u64 a3, .i .u64 a4], ⟨0, []⟩ => soft_Div k a1 a2 a3 a4 (fun q1 => K (.i .u64 q1) ⟨0, []⟩)
  | _, _ => none
noncomputable def S33 {R : Type} (k : Nat) : Sum R := S33G soft_Div k
theorem S33_ok0 {R : Type} (k : Nat) : SumOk Try.prog 33 false (S33 k : Sum R) := by
  intro args H K r h
  unfold S33 S33G at h
  split at h
  · exact fnK_sound (cx33_ok k) 6 33 _ _ K r ((soft_Div_gen soft_apart soft_shape_nan wide_Len wide_Shl soft_shape_round soft_shape_inf soft_shape_sign wide_Div k _ _ _ _ K).trans h)
  · cases h
theorem S33_ok {R : Type} (k : Nat) : SumOk Try.prog 33 true (S33 k : Sum R) := by
  refine sumOk_keep (S33_ok0 k) ?_
  intro args H K r h
  unfold S33 S33G at h ⊢
  split at h
  · refine Eq.trans ?_ h
    show soft_Div k _ _ _ _ _ = soft_Div k _ _ _ _ _
    exact congrArg (soft_Div k _ _ _ _) (funext fun q1 => if_pos (keeps_app _ _ _ []))
  · cases h
-- function 30: plumbline/soft.Sub
noncomputable def fi30 : FnI := ⟨30, Try.f30, []⟩
theorem en30 : Enters Try.prog 30 := enters_of Try.func30 (c := ((Try.f30).body.getD .skip)) (by kernel_rfl) (by kernel_rfl)
noncomputable def cx30 {R : Type} (k : Nat) : Cx R := mkCx Ty exts [(29, true, S29 k), (59, true, S59 k)] fi30 [] []
theorem cx30_ok {R : Type} (k : Nat) : CxOk Try.prog (cx30 k : Cx R) := mkCx_ok (c := ((Try.f30).body.getD .skip)) ty_ok mixed exts_ok (allSum_cons (S29_ok k) en29 (allSum_cons (S59_ok k) en59 allSum_nil)) Try.func30 en30 (by kernel_rfl) (by kernel_rfl) allLoop_nil allCut_nil
@[reducible] def soft_SubY (R : Type) : Type := Nat → Int → Int → Int → Int → (Int → Option R) → Option R
noncomputable def soft_SubT {R : Type} (soft_Add : soft_AddY R) (soft_Neg : soft_NegY R) (k : Nat) (a1 : Int) (a2 : Int) (a3 : Int) (a4 : Int) (K0 : Int → Option R) : Option R :=
  soft_Neg k a1 a4 (fun r1 =>
    soft_Add k a1 a2 a3 r1 (fun r2 =>
      K0 r2))
noncomputable def soft_Sub {R : Type} (k : Nat) (a1 : Int) (a2 : Int) (a3 : Int) (a4 : Int) (K0 : Int → Option R) : Option R := soft_SubT soft_Add soft_Neg k a1 a2 a3 a4 K0
theorem soft_Sub_gen {R : Type} (soft_Add : soft_AddY R) (soft_Neg : soft_NegY R) (k : Nat) (a1 : Int) (a2 : Int) (a3 : Int) (a4 : Int) (K : AV → Heap → Option R) :
    fnK (mkCx Ty exts [(29, true, S29G soft_Add k), (59, true, S59G soft_Neg k)] fi30 [] []) 6 30 [.i .i64 a1, .i .i64 a2, .i .u64 a3, .i .u64 a4] ⟨0, []⟩ K = soft_SubT soft_Add soft_Neg k a1 a2 a3 a4 (fun q1 => K (.i .u64 q1) ⟨0, []⟩) := by kernel_rfl
noncomputable def S30G {R : Type} (soft_Sub : soft_SubY R) (k : Nat) : Sum R := fun args H K => match args, H with
  | [.i .i64 a1, .i .i64 a2, .i .u64 a3, .i .u64 a4], ⟨0, []⟩ => soft_Sub k a1 a2 a3 a4 (fun q1 => K (.i .u64 q1) ⟨0, []⟩)
  | _, _ => none
noncomputable def S30 {R : Type} (k : Nat) : Sum R := S30G soft_Sub k
theorem S30_ok0 {R : Type} (k : Nat) : SumOk Try.prog 30 false (S30 k : Sum R) := by
  intro args H K r h
  unfold S30 S30G at h
  split at h
  · exact fnK_sound (cx30_ok k) 6 30 _ _ K r ((soft_Sub_gen soft_Add soft_Neg k _ _ _ _ K).trans h)
  · cases h
theorem S30_ok {R : Type} (k : Nat) : SumOk Try.prog 30 true (S30 k : Sum R) := by
  refine sumOk_keep (S30_ok0 k) ?_
  intro args H K r h
  unfold S30 S30G at h ⊢
  split at h
  · refine Eq.trans ?_ h
    show soft_Sub k _ _ _ _ _ = soft_Sub k _ _ _ _ _
    exact congrArg (soft_Sub k _ _ _ _) (funext fun q1 => if_pos (keeps_app _ _ _ []))
  · cases h
end Go.Proofs.Ytejfnbjhcohkiaa.N
