/- Printed by wip/gen/emit.py: functions of the program as plain Lean functions, tied to the model by the evaluator. Conditions: none. -/
import Derived.Test.YtbnmnkofekcodaaNlaw
import Derived.Test.YtbnmnkofekcodaaNsoft
namespace Go.Proofs.Ytbnmnkofekcodaa.N
set_option linter.unusedVariables false
set_option maxRecDepth 100000
open Go Go.Ab
-- function 13: plumbline/plumblinelaw02.SoftModes
noncomputable def fi13 : FnI := ⟨13, Try.f13, [(600006, [1, 7, 8, 9, 10, 11, 13]), (600008, [1, 7, 9]), (2500006, [6]), (2500008, [6])]⟩
theorem en13 : Enters Try.prog 13 := enters_of Try.func13 (c := ((Try.f13).body.getD .skip)) (by kernel_rfl) (by kernel_rfl)
@[reducible] def plumblinelaw02_SoftModes_c0Y (R : Type) : Type := Nat → Int → Int → Int → (Bool → Option R) → Option R
noncomputable def plumblinelaw02_SoftModes_c0T {R : Type} (plumblinelaw02_live : plumblinelaw02_liveY R) (soft_Add : soft_AddY R) (soft_Compare : soft_CompareY R) (soft_Finite : soft_FiniteY R) (k : Nat) (x1 : Int) (x2 : Int) (x3 : Int) (K0 : Bool → Option R) : Option R :=
  soft_Compare k x1 x2 x3 (fun yyr1 yyr2 =>
    cond (yyr1 == 0) (
      plumblinelaw02_live k (fun yyr3 =>
        K0 yyr3)) (
      soft_Add k x1 1 x3 1 (fun yyr4 =>
        soft_Compare k x1 yyr4 x2 (fun yyr5 yyr6 =>
          plumblinelaw02_live k (fun yyr7 =>
            cond yyr7 (
              cond (decide (yyr5 ≥ 0)) (
                K0 true) (
                soft_Finite k x1 x3 (fun yyr8 =>
                  K0 (!yyr8)))) (
              K0 false))))))
noncomputable def plumblinelaw02_SoftModes_c0 {R : Type} (k : Nat) (x1 : Int) (x2 : Int) (x3 : Int) (K0 : Bool → Option R) : Option R := plumblinelaw02_SoftModes_c0T plumblinelaw02_live soft_Add soft_Compare soft_Finite k x1 x2 x3 K0
noncomputable def cc13_8 {R : Type} (k : Nat) : Cx R := mkCx Ty exts [(14, true, S14 k), (18, true, S18 k), (32, true, S32 k), (38, true, S38 k), (40, true, S40 k)] fi13 [] []
theorem cc13_8_ok {R : Type} (k : Nat) : CxOk Try.prog (cc13_8 k : Cx R) := mkCx_ok (c := ((Try.f13).body.getD .skip)) ty_ok mixed exts_ok (allSum_cons (S14_ok k) en14 (allSum_cons (S18_ok k) en18 (allSum_cons (S32_ok k) en32 (allSum_cons (S38_ok k) en38 (allSum_cons (S40_ok k) en40 allSum_nil))))) Try.func13 en13 (by kernel_rfl) (by kernel_rfl) allLoop_nil allCut_nil
noncomputable def C13_8G {R : Type} (plumblinelaw02_SoftModes_c0 : plumblinelaw02_SoftModes_c0Y R) (k : Nat) : LSum R := fun pin T H K => match pin, T, H with
  | 0, [(1, .i .i64 x1), (7, .i .u64 x2), (9, .i .u64 x3)], ⟨0, []⟩ => plumblinelaw02_SoftModes_c0 k x1 x2 x3 (fun q1 => K .ret [(6, .b q1)] ⟨0, []⟩)
  | _, _, _ => none
noncomputable def C13_8 {R : Type} (k : Nat) : LSum R := C13_8G plumblinelaw02_SoftModes_c0 k
theorem plumblinelaw02_SoftModes_c0_gen {R : Type} (plumblinelaw02_live : plumblinelaw02_liveY R) (soft_Add : soft_AddY R) (soft_Finite : soft_FiniteY R) (soft_Compare : soft_CompareY R) (plumblinelaw02_by : plumblinelaw02_byY R) (k : Nat) (x1 : Int) (x2 : Int) (x3 : Int) (K : Kont R) :
    (fun C => codeK C (run C 4)) (mkCx Ty exts [(14, true, S14G plumblinelaw02_live k), (18, true, S18G soft_Add k), (32, true, S32G soft_Finite k), (38, true, S38G soft_Compare k), (40, true, S40G plumblinelaw02_by k)] fi13 [] []) 0 fi13 (cutAt ((Try.f13).body.getD .skip) 8) [(1, .i .i64 x1), (7, .i .u64 x2), (9, .i .u64 x3)] ⟨0, []⟩ (exitNorm fi13.ann 500008 0 K) = plumblinelaw02_SoftModes_c0T plumblinelaw02_live soft_Add soft_Compare soft_Finite k x1 x2 x3 (fun q1 => K .ret [(6, .b q1)] ⟨0, []⟩) := by kernel_rfl
theorem C13_8_cok {R : Type} (k : Nat) : CodeOk Try.prog (cc13_8 k : Cx R) fi13 (cutAt ((Try.f13).body.getD .skip) 8) := cutAt_ok (((cc13_8_ok k).fns 13 fi13 (by kernel_rfl)).2.2.2 ((Try.f13).body.getD .skip) (by kernel_rfl))
theorem C13_8_ok {R : Type} (k : Nat) : CutOk Try.prog (Try.f13).ntmps (cutAt ((Try.f13).body.getD .skip) 8) (C13_8 k : LSum R) := by
  intro pin T H K r h
  unfold C13_8 C13_8G at h
  split at h
  · obtain ⟨ex, T1, H1, h, hb⟩ := codeK_sound (cc13_8_ok k) (run_sound (cc13_8_ok k) 4) _ fi13 _ _ _ _ _ (C13_8_cok k) ((plumblinelaw02_SoftModes_c0_gen plumblinelaw02_live soft_Add soft_Finite soft_Compare plumblinelaw02_by k _ _ _ K).trans h)
    exact cut_step hb h
  · cases h
@[reducible] def plumblinelaw02_SoftModes_c1Y (R : Type) : Type := Nat → Int → Int → Int → Int → Int → Int → Int → (Bool → Option R) → Option R
noncomputable def plumblinelaw02_SoftModes_c1T {R : Type} (plumblinelaw02_SoftModes_c0 : plumblinelaw02_SoftModes_c0Y R) (k : Nat) (x1 : Int) (x2 : Int) (x3 : Int) (x4 : Int) (x5 : Int) (x6 : Int) (x7 : Int) (K0 : Bool → Option R) : Option R :=
  cond (decide (x6 < 0)) (
    K0 false) (
    cond (decide (x7 < 0)) (
      K0 false) (
      cond (x3 != x2) (
        cond (x3 != x4) (
          K0 false) (
          cond (x5 != x2) (
            cond (x5 != x4) (
              K0 false) (
              plumblinelaw02_SoftModes_c0 k x1 x2 x4 (fun yr1 =>
                K0 yr1))) (
            plumblinelaw02_SoftModes_c0 k x1 x2 x4 (fun yr2 =>
              K0 yr2)))) (
        cond (x5 != x2) (
          cond (x5 != x4) (
            K0 false) (
            plumblinelaw02_SoftModes_c0 k x1 x2 x4 (fun yr3 =>
              K0 yr3))) (
          plumblinelaw02_SoftModes_c0 k x1 x2 x4 (fun yr4 =>
            K0 yr4)))))
noncomputable def plumblinelaw02_SoftModes_c1 {R : Type} (k : Nat) (x1 : Int) (x2 : Int) (x3 : Int) (x4 : Int) (x5 : Int) (x6 : Int) (x7 : Int) (K0 : Bool → Option R) : Option R := plumblinelaw02_SoftModes_c1T plumblinelaw02_SoftModes_c0 k x1 x2 x3 x4 x5 x6 x7 K0
noncomputable def cc13_6 {R : Type} (k : Nat) : Cx R := mkCx Ty exts [(14, true, S14 k), (18, true, S18 k), (32, true, S32 k), (38, true, S38 k), (40, true, S40 k)] fi13 [] [(8, C13_8 k)]
theorem cc13_6_ok {R : Type} (k : Nat) : CxOk Try.prog (cc13_6 k : Cx R) := mkCx_ok (c := ((Try.f13).body.getD .skip)) ty_ok mixed exts_ok (allSum_cons (S14_ok k) en14 (allSum_cons (S18_ok k) en18 (allSum_cons (S32_ok k) en32 (allSum_cons (S38_ok k) en38 (allSum_cons (S40_ok k) en40 allSum_nil))))) Try.func13 en13 (by kernel_rfl) (by kernel_rfl) allLoop_nil (allCut_cons (C13_8_ok k) (by kernel_rfl) allCut_nil)
noncomputable def C13_6G {R : Type} (plumblinelaw02_SoftModes_c1 : plumblinelaw02_SoftModes_c1Y R) (k : Nat) : LSum R := fun pin T H K => match pin, T, H with
  | 0, [(1, .i .i64 x1), (7, .i .u64 x2), (8, .i .u64 x3), (9, .i .u64 x4), (10, .i .u64 x5), (11, .i .i64 x6), (13, .i .i64 x7)], ⟨0, []⟩ => plumblinelaw02_SoftModes_c1 k x1 x2 x3 x4 x5 x6 x7 (fun q1 => K .ret [(6, .b q1)] ⟨0, []⟩)
  | _, _, _ => none
noncomputable def C13_6 {R : Type} (k : Nat) : LSum R := C13_6G plumblinelaw02_SoftModes_c1 k
theorem plumblinelaw02_SoftModes_c1_gen {R : Type} (plumblinelaw02_live : plumblinelaw02_liveY R) (soft_Add : soft_AddY R) (soft_Finite : soft_FiniteY R) (soft_Compare : soft_CompareY R) (plumblinelaw02_by : plumblinelaw02_byY R) (plumblinelaw02_SoftModes_c0 : plumblinelaw02_SoftModes_c0Y R) (k : Nat) (x1 : Int) (x2 : Int) (x3 : Int) (x4 : Int) (x5 : Int) (x6 : Int) (x7 : Int) (K : Kont R) :
    (fun C => codeK C (run C 4)) (mkCx Ty exts [(14, true, S14G plumblinelaw02_live k), (18, true, S18G soft_Add k), (32, true, S32G soft_Finite k), (38, true, S38G soft_Compare k), (40, true, S40G plumblinelaw02_by k)] fi13 [] [(8, C13_8G plumblinelaw02_SoftModes_c0 k)]) 0 fi13 (cutAt ((Try.f13).body.getD .skip) 6) [(1, .i .i64 x1), (7, .i .u64 x2), (8, .i .u64 x3), (9, .i .u64 x4), (10, .i .u64 x5), (11, .i .i64 x6), (13, .i .i64 x7)] ⟨0, []⟩ (exitNorm fi13.ann 500006 0 K) = plumblinelaw02_SoftModes_c1T plumblinelaw02_SoftModes_c0 k x1 x2 x3 x4 x5 x6 x7 (fun q1 => K .ret [(6, .b q1)] ⟨0, []⟩) := by kernel_rfl
theorem C13_6_cok {R : Type} (k : Nat) : CodeOk Try.prog (cc13_6 k : Cx R) fi13 (cutAt ((Try.f13).body.getD .skip) 6) := cutAt_ok (((cc13_6_ok k).fns 13 fi13 (by kernel_rfl)).2.2.2 ((Try.f13).body.getD .skip) (by kernel_rfl))
theorem C13_6_ok {R : Type} (k : Nat) : CutOk Try.prog (Try.f13).ntmps (cutAt ((Try.f13).body.getD .skip) 6) (C13_6 k : LSum R) := by
  intro pin T H K r h
  unfold C13_6 C13_6G at h
  split at h
  · obtain ⟨ex, T1, H1, h, hb⟩ := codeK_sound (cc13_6_ok k) (run_sound (cc13_6_ok k) 4) _ fi13 _ _ _ _ _ (C13_6_cok k) ((plumblinelaw02_SoftModes_c1_gen plumblinelaw02_live soft_Add soft_Finite soft_Compare plumblinelaw02_by plumblinelaw02_SoftModes_c0 k _ _ _ _ _ _ _ K).trans h)
    exact cut_step hb h
  · cases h
noncomputable def cx13 {R : Type} (k : Nat) : Cx R := mkCx Ty exts [(14, true, S14 k), (18, true, S18 k), (32, true, S32 k), (38, true, S38 k), (40, true, S40 k)] fi13 [] [(8, C13_8 k), (6, C13_6 k)]
theorem cx13_ok {R : Type} (k : Nat) : CxOk Try.prog (cx13 k : Cx R) := mkCx_ok (c := ((Try.f13).body.getD .skip)) ty_ok mixed exts_ok (allSum_cons (S14_ok k) en14 (allSum_cons (S18_ok k) en18 (allSum_cons (S32_ok k) en32 (allSum_cons (S38_ok k) en38 (allSum_cons (S40_ok k) en40 allSum_nil))))) Try.func13 en13 (by kernel_rfl) (by kernel_rfl) allLoop_nil (allCut_cons (C13_8_ok k) (by kernel_rfl) (allCut_cons (C13_6_ok k) (by kernel_rfl) allCut_nil))
@[reducible] def plumblinelaw02_SoftModesY (R : Type) : Type := Nat → Int → Int → Int → Int → (Bool → Option R) → Option R
noncomputable def plumblinelaw02_SoftModesT {R : Type} (plumblinelaw02_SoftModes_c1 : plumblinelaw02_SoftModes_c1Y R) (plumblinelaw02_by : plumblinelaw02_byY R) (plumblinelaw02_live : plumblinelaw02_liveY R) (soft_Compare : soft_CompareY R) (k : Nat) (a1 : Int) (a2 : Int) (a3 : Int) (a4 : Int) (K0 : Bool → Option R) : Option R :=
  plumblinelaw02_by k a1 a2 1 a3 a4 (fun r1 =>
    plumblinelaw02_by k a1 a2 0 a3 a4 (fun r2 =>
      plumblinelaw02_by k a1 a2 2 a3 a4 (fun r3 =>
        plumblinelaw02_by k a1 a2 3 a3 a4 (fun r4 =>
          soft_Compare k a2 r1 r2 (fun r5 r6 =>
            soft_Compare k a2 r2 r3 (fun r7 r8 =>
              cond (!r6) (
                plumblinelaw02_live k (fun r9 =>
                  cond r9 (
                    cond (r1 == r2) (
                      cond (r2 == r3) (
                        K0 (r3 == r4)) (
                        K0 false)) (
                      K0 false)) (
                    K0 false))) (
                cond (!r8) (
                  plumblinelaw02_live k (fun r10 =>
                    cond r10 (
                      cond (r1 == r2) (
                        cond (r2 == r3) (
                          K0 (r3 == r4)) (
                          K0 false)) (
                        K0 false)) (
                      K0 false))) (
                  plumblinelaw02_SoftModes_c1 k a2 r1 r2 r3 r4 r5 r7 (fun r11 =>
                    K0 r11)))))))))
noncomputable def plumblinelaw02_SoftModes {R : Type} (k : Nat) (a1 : Int) (a2 : Int) (a3 : Int) (a4 : Int) (K0 : Bool → Option R) : Option R := plumblinelaw02_SoftModesT plumblinelaw02_SoftModes_c1 plumblinelaw02_by plumblinelaw02_live soft_Compare k a1 a2 a3 a4 K0
theorem plumblinelaw02_SoftModes_gen {R : Type} (plumblinelaw02_live : plumblinelaw02_liveY R) (soft_Add : soft_AddY R) (soft_Finite : soft_FiniteY R) (soft_Compare : soft_CompareY R) (plumblinelaw02_by : plumblinelaw02_byY R) (plumblinelaw02_SoftModes_c0 : plumblinelaw02_SoftModes_c0Y R) (plumblinelaw02_SoftModes_c1 : plumblinelaw02_SoftModes_c1Y R) (k : Nat) (a1 : Int) (a2 : Int) (a3 : Int) (a4 : Int) (K : AV → Heap → Option R) :
    fnK (mkCx Ty exts [(14, true, S14G plumblinelaw02_live k), (18, true, S18G soft_Add k), (32, true, S32G soft_Finite k), (38, true, S38G soft_Compare k), (40, true, S40G plumblinelaw02_by k)] fi13 [] [(8, C13_8G plumblinelaw02_SoftModes_c0 k), (6, C13_6G plumblinelaw02_SoftModes_c1 k)]) 6 13 [.i .i64 a1, .i .i64 a2, .agg [.i .u64 a3, .i .u64 a4]] ⟨0, []⟩ K = plumblinelaw02_SoftModesT plumblinelaw02_SoftModes_c1 plumblinelaw02_by plumblinelaw02_live soft_Compare k a1 a2 a3 a4 (fun q1 => K (.b q1) ⟨0, []⟩) := by kernel_rfl
noncomputable def S13G {R : Type} (plumblinelaw02_SoftModes : plumblinelaw02_SoftModesY R) (k : Nat) : Sum R := fun args H K => match args, H with
  | [.i .i64 a1, .i .i64 a2, .agg [.i .u64 a3, .i .u64 a4]], ⟨0, []⟩ => plumblinelaw02_SoftModes k a1 a2 a3 a4 (fun q1 => K (.b q1) ⟨0, []⟩)
  | _, _ => none
noncomputable def S13 {R : Type} (k : Nat) : Sum R := S13G plumblinelaw02_SoftModes k
theorem S13_ok0 {R : Type} (k : Nat) : SumOk Try.prog 13 false (S13 k : Sum R) := by
  intro args H K r h
  unfold S13 S13G at h
  split at h
  · exact fnK_sound (cx13_ok k) 6 13 _ _ K r ((plumblinelaw02_SoftModes_gen plumblinelaw02_live soft_Add soft_Finite soft_Compare plumblinelaw02_by plumblinelaw02_SoftModes_c0 plumblinelaw02_SoftModes_c1 k _ _ _ _ K).trans h)
  · cases h
theorem S13_ok {R : Type} (k : Nat) : SumOk Try.prog 13 true (S13 k : Sum R) := by
  refine sumOk_keep (S13_ok0 k) ?_
  intro args H K r h
  unfold S13 S13G at h ⊢
  split at h
  · refine Eq.trans ?_ h
    show plumblinelaw02_SoftModes k _ _ _ _ _ = plumblinelaw02_SoftModes k _ _ _ _ _
    congr 1
    all_goals first | exact (funext fun q1 => if_pos (keeps_app _ _ _ [])) | skip
  · cases h
end Go.Proofs.Ytbnmnkofekcodaa.N
