/- Printed by wip/gen/emit.py: functions of the program as plain Lean functions, tied to the model by the evaluator. Conditions: none. -/
import Derived.Test.YtbnmnkofekcodaaNlaw
import Derived.Test.YtbnmnkofekcodaaNr02
import Derived.Test.YtbnmnkofekcodaaNsoft
namespace Go.Proofs.Ytbnmnkofekcodaa.N
set_option linter.unusedVariables false
set_option maxRecDepth 100000
open Go Go.Ab
-- function 11: plumbline/plumblinelaw02.SoftSelf
noncomputable def fi11 : FnI := ⟨11, Try.f11, [(600004, [1, 2, 5]), (600007, [1, 2, 5, 6]), (600010, [1, 2, 5, 6, 7]), (2500004, [4]), (2500007, [4]), (2500010, [4])]⟩
theorem en11 : Enters Try.prog 11 := enters_of Try.func11 (c := ((Try.f11).body.getD .skip)) (by kernel_rfl) (by kernel_rfl)
@[reducible] def plumblinelaw02_SoftSelf_c0Y (R : Type) : Type := Nat → Int → Int → Int → Int → Int → Int → (Bool → Option R) → Option R
noncomputable def plumblinelaw02_SoftSelf_c0T {R : Type} (plumblinelaw02_live : plumblinelaw02_liveY R) (soft_Add : soft_AddY R) (soft_Div : soft_DivY R) (soft_Mul : soft_MulY R) (soft_Sub : soft_SubY R) (k : Nat) (x1 : Int) (x2 : Int) (x3 : Int) (x4 : Int) (x5 : Int) (x6 : Int) (K0 : Bool → Option R) : Option R :=
  plumblinelaw02_live k (fun yyyr1 =>
    cond yyyr1 (
      soft_Sub k x2 x6 x1 x1 (fun yyyr2 =>
        cond (yyyr2 == x4) (
          soft_Div k x2 x6 x1 x1 (fun yyyr3 =>
            cond (yyyr3 == x3) (
              soft_Mul k x2 x6 x1 x3 (fun yyyr4 =>
                cond (yyyr4 == x1) (
                  soft_Add k x2 x6 x1 0 (fun yyyr5 =>
                    K0 (yyyr5 == x1))) (
                  K0 false))) (
              K0 false))) (
          K0 false))) (
      K0 false))
noncomputable def plumblinelaw02_SoftSelf_c0 {R : Type} (k : Nat) (x1 : Int) (x2 : Int) (x3 : Int) (x4 : Int) (x5 : Int) (x6 : Int) (K0 : Bool → Option R) : Option R := plumblinelaw02_SoftSelf_c0T plumblinelaw02_live soft_Add soft_Div soft_Mul soft_Sub k x1 x2 x3 x4 x5 x6 K0
noncomputable def cc11_10 {R : Type} (k : Nat) : Cx R := mkCx Ty exts [(14, true, S14 k), (15, true, S15 k), (17, true, S17 k), (18, true, S18 k), (20, true, S20 k), (24, true, S24 k), (27, true, S27 k), (28, true, S28 k), (33, true, S33 k)] fi11 [] []
theorem cc11_10_ok {R : Type} (k : Nat) : CxOk Try.prog (cc11_10 k : Cx R) := mkCx_ok (c := ((Try.f11).body.getD .skip)) ty_ok mixed exts_ok (allSum_cons (S14_ok k) en14 (allSum_cons (S15_ok k) en15 (allSum_cons (S17_ok k) en17 (allSum_cons (S18_ok k) en18 (allSum_cons (S20_ok k) en20 (allSum_cons (S24_ok k) en24 (allSum_cons (S27_ok k) en27 (allSum_cons (S28_ok k) en28 (allSum_cons (S33_ok k) en33 allSum_nil))))))))) Try.func11 en11 (by kernel_rfl) (by kernel_rfl) allLoop_nil allCut_nil
noncomputable def C11_10G {R : Type} (plumblinelaw02_SoftSelf_c0 : plumblinelaw02_SoftSelf_c0Y R) (k : Nat) : LSum R := fun pin T H K => match pin, T, H with
  | 0, [(1, .i .u64 x1), (2, .ptr 0 0 0 0 0), (5, .i .i64 x2), (6, .i .u64 x3), (7, .i .u64 x4)], ⟨1, [(0, some ⟨0, false, .cells [.i .i64 x5, .i .i64 x6]⟩)]⟩ => plumblinelaw02_SoftSelf_c0 k x1 x2 x3 x4 x5 x6 (fun q1 => K .ret [(4, .b q1)] ⟨0, []⟩)
  | _, _, _ => none
noncomputable def C11_10 {R : Type} (k : Nat) : LSum R := C11_10G plumblinelaw02_SoftSelf_c0 k
theorem plumblinelaw02_SoftSelf_c0_gen {R : Type} (plumblinelaw02_live : plumblinelaw02_liveY R) (soft_Div : soft_DivY R) (plumblinelaw02_format : plumblinelaw02_formatY R) (soft_Add : soft_AddY R) (soft_Sub : soft_SubY R) (soft_Mul : soft_MulY R) (plumblineref02_Class : plumblineref02_ClassY R) (soft_Neg : soft_NegY R) (plumblineref02_Finite : plumblineref02_FiniteY R) (k : Nat) (x1 : Int) (x2 : Int) (x3 : Int) (x4 : Int) (x5 : Int) (x6 : Int) (K : Kont R) :
    (fun C => codeK C (run C 4)) (mkCx Ty exts [(14, true, S14G plumblinelaw02_live k), (15, true, S15G soft_Div k), (17, true, S17G plumblinelaw02_format k), (18, true, S18G soft_Add k), (20, true, S20G soft_Sub k), (24, true, S24G soft_Mul k), (27, true, S27G plumblineref02_Class k), (28, true, S28G soft_Neg k), (33, true, S33G plumblineref02_Finite k)] fi11 [] []) 0 fi11 (cutAt ((Try.f11).body.getD .skip) 10) [(1, .i .u64 x1), (2, .ptr 0 0 0 0 0), (5, .i .i64 x2), (6, .i .u64 x3), (7, .i .u64 x4)] ⟨1, [(0, some ⟨0, false, .cells [.i .i64 x5, .i .i64 x6]⟩)]⟩ (exitNorm fi11.ann 500010 0 K) = plumblinelaw02_SoftSelf_c0T plumblinelaw02_live soft_Add soft_Div soft_Mul soft_Sub k x1 x2 x3 x4 x5 x6 (fun q1 => K .ret [(4, .b q1)] ⟨0, []⟩) := by kernel_rfl
theorem C11_10_cok {R : Type} (k : Nat) : CodeOk Try.prog (cc11_10 k : Cx R) fi11 (cutAt ((Try.f11).body.getD .skip) 10) := cutAt_ok (((cc11_10_ok k).fns 11 fi11 (by kernel_rfl)).2.2.2 ((Try.f11).body.getD .skip) (by kernel_rfl))
theorem C11_10_ok {R : Type} (k : Nat) : CutOk Try.prog (Try.f11).ntmps (cutAt ((Try.f11).body.getD .skip) 10) (C11_10 k : LSum R) := by
  intro pin T H K r h
  unfold C11_10 C11_10G at h
  split at h
  · obtain ⟨ex, T1, H1, h, hb⟩ := codeK_sound (cc11_10_ok k) (run_sound (cc11_10_ok k) 4) _ fi11 _ _ _ _ _ (C11_10_cok k) ((plumblinelaw02_SoftSelf_c0_gen plumblinelaw02_live soft_Div plumblinelaw02_format soft_Add soft_Sub soft_Mul plumblineref02_Class soft_Neg plumblineref02_Finite k _ _ _ _ _ _ K).trans h)
    exact cut_step hb h
  · cases h
@[reducible] def plumblinelaw02_SoftSelf_c1Y (R : Type) : Type := Nat → Int → Int → Int → Int → Int → (Bool → Option R) → Option R
noncomputable def plumblinelaw02_SoftSelf_c1T {R : Type} (plumblinelaw02_SoftSelf_c0 : plumblinelaw02_SoftSelf_c0Y R) (soft_Neg : soft_NegY R) (k : Nat) (x1 : Int) (x2 : Int) (x3 : Int) (x4 : Int) (x5 : Int) (K0 : Bool → Option R) : Option R :=
  cond (x5 == 2) (
    soft_Neg k x2 0 (fun yyr1 =>
      plumblinelaw02_SoftSelf_c0 k x1 x2 x3 yyr1 x4 x5 (fun yyr2 =>
        K0 yyr2))) (
    plumblinelaw02_SoftSelf_c0 k x1 x2 x3 0 x4 x5 (fun yyr3 =>
      K0 yyr3))
noncomputable def plumblinelaw02_SoftSelf_c1 {R : Type} (k : Nat) (x1 : Int) (x2 : Int) (x3 : Int) (x4 : Int) (x5 : Int) (K0 : Bool → Option R) : Option R := plumblinelaw02_SoftSelf_c1T plumblinelaw02_SoftSelf_c0 soft_Neg k x1 x2 x3 x4 x5 K0
noncomputable def cc11_7 {R : Type} (k : Nat) : Cx R := mkCx Ty exts [(14, true, S14 k), (15, true, S15 k), (17, true, S17 k), (18, true, S18 k), (20, true, S20 k), (24, true, S24 k), (27, true, S27 k), (28, true, S28 k), (33, true, S33 k)] fi11 [] [(10, C11_10 k)]
theorem cc11_7_ok {R : Type} (k : Nat) : CxOk Try.prog (cc11_7 k : Cx R) := mkCx_ok (c := ((Try.f11).body.getD .skip)) ty_ok mixed exts_ok (allSum_cons (S14_ok k) en14 (allSum_cons (S15_ok k) en15 (allSum_cons (S17_ok k) en17 (allSum_cons (S18_ok k) en18 (allSum_cons (S20_ok k) en20 (allSum_cons (S24_ok k) en24 (allSum_cons (S27_ok k) en27 (allSum_cons (S28_ok k) en28 (allSum_cons (S33_ok k) en33 allSum_nil))))))))) Try.func11 en11 (by kernel_rfl) (by kernel_rfl) allLoop_nil (allCut_cons (C11_10_ok k) (by kernel_rfl) allCut_nil)
noncomputable def C11_7G {R : Type} (plumblinelaw02_SoftSelf_c1 : plumblinelaw02_SoftSelf_c1Y R) (k : Nat) : LSum R := fun pin T H K => match pin, T, H with
  | 0, [(1, .i .u64 x1), (2, .ptr 0 0 0 0 0), (5, .i .i64 x2), (6, .i .u64 x3)], ⟨1, [(0, some ⟨0, false, .cells [.i .i64 x4, .i .i64 x5]⟩)]⟩ => plumblinelaw02_SoftSelf_c1 k x1 x2 x3 x4 x5 (fun q1 => K .ret [(4, .b q1)] ⟨0, []⟩)
  | _, _, _ => none
noncomputable def C11_7 {R : Type} (k : Nat) : LSum R := C11_7G plumblinelaw02_SoftSelf_c1 k
theorem plumblinelaw02_SoftSelf_c1_gen {R : Type} (plumblinelaw02_live : plumblinelaw02_liveY R) (soft_Div : soft_DivY R) (plumblinelaw02_format : plumblinelaw02_formatY R) (soft_Add : soft_AddY R) (soft_Sub : soft_SubY R) (soft_Mul : soft_MulY R) (plumblineref02_Class : plumblineref02_ClassY R) (soft_Neg : soft_NegY R) (plumblineref02_Finite : plumblineref02_FiniteY R) (plumblinelaw02_SoftSelf_c0 : plumblinelaw02_SoftSelf_c0Y R) (k : Nat) (x1 : Int) (x2 : Int) (x3 : Int) (x4 : Int) (x5 : Int) (K : Kont R) :
    (fun C => codeK C (run C 4)) (mkCx Ty exts [(14, true, S14G plumblinelaw02_live k), (15, true, S15G soft_Div k), (17, true, S17G plumblinelaw02_format k), (18, true, S18G soft_Add k), (20, true, S20G soft_Sub k), (24, true, S24G soft_Mul k), (27, true, S27G plumblineref02_Class k), (28, true, S28G soft_Neg k), (33, true, S33G plumblineref02_Finite k)] fi11 [] [(10, C11_10G plumblinelaw02_SoftSelf_c0 k)]) 0 fi11 (cutAt ((Try.f11).body.getD .skip) 7) [(1, .i .u64 x1), (2, .ptr 0 0 0 0 0), (5, .i .i64 x2), (6, .i .u64 x3)] ⟨1, [(0, some ⟨0, false, .cells [.i .i64 x4, .i .i64 x5]⟩)]⟩ (exitNorm fi11.ann 500007 0 K) = plumblinelaw02_SoftSelf_c1T plumblinelaw02_SoftSelf_c0 soft_Neg k x1 x2 x3 x4 x5 (fun q1 => K .ret [(4, .b q1)] ⟨0, []⟩) := by kernel_rfl
theorem C11_7_cok {R : Type} (k : Nat) : CodeOk Try.prog (cc11_7 k : Cx R) fi11 (cutAt ((Try.f11).body.getD .skip) 7) := cutAt_ok (((cc11_7_ok k).fns 11 fi11 (by kernel_rfl)).2.2.2 ((Try.f11).body.getD .skip) (by kernel_rfl))
theorem C11_7_ok {R : Type} (k : Nat) : CutOk Try.prog (Try.f11).ntmps (cutAt ((Try.f11).body.getD .skip) 7) (C11_7 k : LSum R) := by
  intro pin T H K r h
  unfold C11_7 C11_7G at h
  split at h
  · obtain ⟨ex, T1, H1, h, hb⟩ := codeK_sound (cc11_7_ok k) (run_sound (cc11_7_ok k) 4) _ fi11 _ _ _ _ _ (C11_7_cok k) ((plumblinelaw02_SoftSelf_c1_gen plumblinelaw02_live soft_Div plumblinelaw02_format soft_Add soft_Sub soft_Mul plumblineref02_Class soft_Neg plumblineref02_Finite plumblinelaw02_SoftSelf_c0 k _ _ _ _ _ K).trans h)
    exact cut_step hb h
  · cases h
@[reducible] def plumblinelaw02_SoftSelf_c2Y (R : Type) : Type := Nat → Int → Int → Int → Int → (Bool → Option R) → Option R
noncomputable def plumblinelaw02_SoftSelf_c2T {R : Type} (plumblinelaw02_SoftSelf_c1 : plumblinelaw02_SoftSelf_c1Y R) (k : Nat) (x1 : Int) (x2 : Int) (x3 : Int) (x4 : Int) (K0 : Bool → Option R) : Option R :=
  cond (x2 == 1) (
    plumblinelaw02_SoftSelf_c1 k x1 x2 1065353216 x3 x4 (fun yr1 =>
      K0 yr1)) (
    plumblinelaw02_SoftSelf_c1 k x1 x2 4607182418800017408 x3 x4 (fun yr2 =>
      K0 yr2))
noncomputable def plumblinelaw02_SoftSelf_c2 {R : Type} (k : Nat) (x1 : Int) (x2 : Int) (x3 : Int) (x4 : Int) (K0 : Bool → Option R) : Option R := plumblinelaw02_SoftSelf_c2T plumblinelaw02_SoftSelf_c1 k x1 x2 x3 x4 K0
noncomputable def cc11_4 {R : Type} (k : Nat) : Cx R := mkCx Ty exts [(14, true, S14 k), (15, true, S15 k), (17, true, S17 k), (18, true, S18 k), (20, true, S20 k), (24, true, S24 k), (27, true, S27 k), (28, true, S28 k), (33, true, S33 k)] fi11 [] [(10, C11_10 k), (7, C11_7 k)]
theorem cc11_4_ok {R : Type} (k : Nat) : CxOk Try.prog (cc11_4 k : Cx R) := mkCx_ok (c := ((Try.f11).body.getD .skip)) ty_ok mixed exts_ok (allSum_cons (S14_ok k) en14 (allSum_cons (S15_ok k) en15 (allSum_cons (S17_ok k) en17 (allSum_cons (S18_ok k) en18 (allSum_cons (S20_ok k) en20 (allSum_cons (S24_ok k) en24 (allSum_cons (S27_ok k) en27 (allSum_cons (S28_ok k) en28 (allSum_cons (S33_ok k) en33 allSum_nil))))))))) Try.func11 en11 (by kernel_rfl) (by kernel_rfl) allLoop_nil (allCut_cons (C11_10_ok k) (by kernel_rfl) (allCut_cons (C11_7_ok k) (by kernel_rfl) allCut_nil))
noncomputable def C11_4G {R : Type} (plumblinelaw02_SoftSelf_c2 : plumblinelaw02_SoftSelf_c2Y R) (k : Nat) : LSum R := fun pin T H K => match pin, T, H with
  | 0, [(1, .i .u64 x1), (2, .ptr 0 0 0 0 0), (5, .i .i64 x2)], ⟨1, [(0, some ⟨0, false, .cells [.i .i64 x3, .i .i64 x4]⟩)]⟩ => plumblinelaw02_SoftSelf_c2 k x1 x2 x3 x4 (fun q1 => K .ret [(4, .b q1)] ⟨0, []⟩)
  | _, _, _ => none
noncomputable def C11_4 {R : Type} (k : Nat) : LSum R := C11_4G plumblinelaw02_SoftSelf_c2 k
theorem plumblinelaw02_SoftSelf_c2_gen {R : Type} (plumblinelaw02_live : plumblinelaw02_liveY R) (soft_Div : soft_DivY R) (plumblinelaw02_format : plumblinelaw02_formatY R) (soft_Add : soft_AddY R) (soft_Sub : soft_SubY R) (soft_Mul : soft_MulY R) (plumblineref02_Class : plumblineref02_ClassY R) (soft_Neg : soft_NegY R) (plumblineref02_Finite : plumblineref02_FiniteY R) (plumblinelaw02_SoftSelf_c0 : plumblinelaw02_SoftSelf_c0Y R) (plumblinelaw02_SoftSelf_c1 : plumblinelaw02_SoftSelf_c1Y R) (k : Nat) (x1 : Int) (x2 : Int) (x3 : Int) (x4 : Int) (K : Kont R) :
    (fun C => codeK C (run C 4)) (mkCx Ty exts [(14, true, S14G plumblinelaw02_live k), (15, true, S15G soft_Div k), (17, true, S17G plumblinelaw02_format k), (18, true, S18G soft_Add k), (20, true, S20G soft_Sub k), (24, true, S24G soft_Mul k), (27, true, S27G plumblineref02_Class k), (28, true, S28G soft_Neg k), (33, true, S33G plumblineref02_Finite k)] fi11 [] [(10, C11_10G plumblinelaw02_SoftSelf_c0 k), (7, C11_7G plumblinelaw02_SoftSelf_c1 k)]) 0 fi11 (cutAt ((Try.f11).body.getD .skip) 4) [(1, .i .u64 x1), (2, .ptr 0 0 0 0 0), (5, .i .i64 x2)] ⟨1, [(0, some ⟨0, false, .cells [.i .i64 x3, .i .i64 x4]⟩)]⟩ (exitNorm fi11.ann 500004 0 K) = plumblinelaw02_SoftSelf_c2T plumblinelaw02_SoftSelf_c1 k x1 x2 x3 x4 (fun q1 => K .ret [(4, .b q1)] ⟨0, []⟩) := by kernel_rfl
theorem C11_4_cok {R : Type} (k : Nat) : CodeOk Try.prog (cc11_4 k : Cx R) fi11 (cutAt ((Try.f11).body.getD .skip) 4) := cutAt_ok (((cc11_4_ok k).fns 11 fi11 (by kernel_rfl)).2.2.2 ((Try.f11).body.getD .skip) (by kernel_rfl))
theorem C11_4_ok {R : Type} (k : Nat) : CutOk Try.prog (Try.f11).ntmps (cutAt ((Try.f11).body.getD .skip) 4) (C11_4 k : LSum R) := by
  intro pin T H K r h
  unfold C11_4 C11_4G at h
  split at h
  · obtain ⟨ex, T1, H1, h, hb⟩ := codeK_sound (cc11_4_ok k) (run_sound (cc11_4_ok k) 4) _ fi11 _ _ _ _ _ (C11_4_cok k) ((plumblinelaw02_SoftSelf_c2_gen plumblinelaw02_live soft_Div plumblinelaw02_format soft_Add soft_Sub soft_Mul plumblineref02_Class soft_Neg plumblineref02_Finite plumblinelaw02_SoftSelf_c0 plumblinelaw02_SoftSelf_c1 k _ _ _ _ K).trans h)
    exact cut_step hb h
  · cases h
noncomputable def cx11 {R : Type} (k : Nat) : Cx R := mkCx Ty exts [(14, true, S14 k), (15, true, S15 k), (17, true, S17 k), (18, true, S18 k), (20, true, S20 k), (24, true, S24 k), (27, true, S27 k), (28, true, S28 k), (33, true, S33 k)] fi11 [] [(10, C11_10 k), (7, C11_7 k), (4, C11_4 k)]
theorem cx11_ok {R : Type} (k : Nat) : CxOk Try.prog (cx11 k : Cx R) := mkCx_ok (c := ((Try.f11).body.getD .skip)) ty_ok mixed exts_ok (allSum_cons (S14_ok k) en14 (allSum_cons (S15_ok k) en15 (allSum_cons (S17_ok k) en17 (allSum_cons (S18_ok k) en18 (allSum_cons (S20_ok k) en20 (allSum_cons (S24_ok k) en24 (allSum_cons (S27_ok k) en27 (allSum_cons (S28_ok k) en28 (allSum_cons (S33_ok k) en33 allSum_nil))))))))) Try.func11 en11 (by kernel_rfl) (by kernel_rfl) allLoop_nil (allCut_cons (C11_10_ok k) (by kernel_rfl) (allCut_cons (C11_7_ok k) (by kernel_rfl) (allCut_cons (C11_4_ok k) (by kernel_rfl) allCut_nil)))
@[reducible] def plumblinelaw02_SoftSelfY (R : Type) : Type := Nat → Int → Int → Int → (Bool → Option R) → Option R
noncomputable def plumblinelaw02_SoftSelfT {R : Type} (plumblinelaw02_SoftSelf_c2 : plumblinelaw02_SoftSelf_c2Y R) (plumblinelaw02_format : plumblinelaw02_formatY R) (plumblinelaw02_live : plumblinelaw02_liveY R) (plumblineref02_Class : plumblineref02_ClassY R) (plumblineref02_Finite : plumblineref02_FiniteY R) (k : Nat) (a1 : Int) (a2 : Int) (a3 : Int) (K0 : Bool → Option R) : Option R :=
  plumblinelaw02_format k a1 (fun r1 =>
    plumblineref02_Finite k r1 a3 (fun r2 =>
      cond (!r2) (
        plumblinelaw02_live k (fun r3 =>
          K0 r3)) (
        plumblineref02_Class k r1 a3 (fun r4 =>
          cond (r4 == 1) (
            plumblinelaw02_live k (fun r5 =>
              K0 r5)) (
            plumblinelaw02_SoftSelf_c2 k a3 r1 a1 a2 (fun r6 =>
              K0 r6))))))
noncomputable def plumblinelaw02_SoftSelf {R : Type} (k : Nat) (a1 : Int) (a2 : Int) (a3 : Int) (K0 : Bool → Option R) : Option R := plumblinelaw02_SoftSelfT plumblinelaw02_SoftSelf_c2 plumblinelaw02_format plumblinelaw02_live plumblineref02_Class plumblineref02_Finite k a1 a2 a3 K0
theorem plumblinelaw02_SoftSelf_gen {R : Type} (plumblinelaw02_live : plumblinelaw02_liveY R) (soft_Div : soft_DivY R) (plumblinelaw02_format : plumblinelaw02_formatY R) (soft_Add : soft_AddY R) (soft_Sub : soft_SubY R) (soft_Mul : soft_MulY R) (plumblineref02_Class : plumblineref02_ClassY R) (soft_Neg : soft_NegY R) (plumblineref02_Finite : plumblineref02_FiniteY R) (plumblinelaw02_SoftSelf_c0 : plumblinelaw02_SoftSelf_c0Y R) (plumblinelaw02_SoftSelf_c1 : plumblinelaw02_SoftSelf_c1Y R) (plumblinelaw02_SoftSelf_c2 : plumblinelaw02_SoftSelf_c2Y R) (k : Nat) (a1 : Int) (a2 : Int) (a3 : Int) (K : AV → Heap → Option R) :
    fnK (mkCx Ty exts [(14, true, S14G plumblinelaw02_live k), (15, true, S15G soft_Div k), (17, true, S17G plumblinelaw02_format k), (18, true, S18G soft_Add k), (20, true, S20G soft_Sub k), (24, true, S24G soft_Mul k), (27, true, S27G plumblineref02_Class k), (28, true, S28G soft_Neg k), (33, true, S33G plumblineref02_Finite k)] fi11 [] [(10, C11_10G plumblinelaw02_SoftSelf_c0 k), (7, C11_7G plumblinelaw02_SoftSelf_c1 k), (4, C11_4G plumblinelaw02_SoftSelf_c2 k)]) 6 11 [.agg [.i .i64 a1, .i .i64 a2], .i .u64 a3] ⟨0, []⟩ K = plumblinelaw02_SoftSelfT plumblinelaw02_SoftSelf_c2 plumblinelaw02_format plumblinelaw02_live plumblineref02_Class plumblineref02_Finite k a1 a2 a3 (fun q1 => K (.b q1) ⟨0, []⟩) := by kernel_rfl
noncomputable def S11G {R : Type} (plumblinelaw02_SoftSelf : plumblinelaw02_SoftSelfY R) (k : Nat) : Sum R := fun args H K => match args, H with
  | [.agg [.i .i64 a1, .i .i64 a2], .i .u64 a3], ⟨0, []⟩ => plumblinelaw02_SoftSelf k a1 a2 a3 (fun q1 => K (.b q1) ⟨0, []⟩)
  | _, _ => none
noncomputable def S11 {R : Type} (k : Nat) : Sum R := S11G plumblinelaw02_SoftSelf k
theorem S11_ok0 {R : Type} (k : Nat) : SumOk Try.prog 11 false (S11 k : Sum R) := by
  intro args H K r h
  unfold S11 S11G at h
  split at h
  · exact fnK_sound (cx11_ok k) 6 11 _ _ K r ((plumblinelaw02_SoftSelf_gen plumblinelaw02_live soft_Div plumblinelaw02_format soft_Add soft_Sub soft_Mul plumblineref02_Class soft_Neg plumblineref02_Finite plumblinelaw02_SoftSelf_c0 plumblinelaw02_SoftSelf_c1 plumblinelaw02_SoftSelf_c2 k _ _ _ K).trans h)
  · cases h
theorem S11_ok {R : Type} (k : Nat) : SumOk Try.prog 11 true (S11 k : Sum R) := by
  refine sumOk_keep (S11_ok0 k) ?_
  intro args H K r h
  unfold S11 S11G at h ⊢
  split at h
  · refine Eq.trans ?_ h
    show plumblinelaw02_SoftSelf k _ _ _ _ = plumblinelaw02_SoftSelf k _ _ _ _
    congr 1
    all_goals first | exact (funext fun q1 => if_pos (keeps_app _ _ _ [])) | skip
  · cases h
end Go.Proofs.Ytbnmnkofekcodaa.N
