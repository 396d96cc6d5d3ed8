/- Printed by wip/gen/emit.py: functions of the program as plain Lean functions, tied to the model by the evaluator. Conditions: none. -/
import Derived.Test.YtbnmnkofekcodaaNr01
import Derived.Test.YtbnmnkofekcodaaNr02
namespace Go.Proofs.Ytbnmnkofekcodaa.N
set_option linter.unusedVariables false
set_option maxRecDepth 100000
open Go Go.Ab
-- function 19: plumbline/plumblineref02.Add
noncomputable def fi19 : FnI := ⟨19, Try.f19, [(600008, [0, 1, 2, 3, 9, 10]), (600013, [0, 1, 9, 10, 11, 12, 13, 14, 15]), (2500008, [8]), (2500013, [8])]⟩
theorem en19 : Enters Try.prog 19 := enters_of Try.func19 (c := ((Try.f19).body.getD .skip)) (by kernel_rfl) (by kernel_rfl)
@[reducible] def plumblineref02_Add_c0Y (R : Type) : Type := Nat → Int → Int → Bool → Bool → Int → Int → Int → Int → Int → (Int → Option R) → Option R
noncomputable def plumblineref02_Add_c0T {R : Type} (plumblineref02_Rounded : plumblineref02_RoundedY R) (plumblineref02_Rounded_n3 : plumblineref02_Rounded_n3Y R) (plumblineref02_bits : plumblineref02_bitsY R) (plumblineref02_cmp : plumblineref02_cmpY R) (plumblineref02_minus : plumblineref02_minusY R) (plumblineref02_plus : plumblineref02_plusY R) (plumblineref02_sign : plumblineref02_signY R) (plumblineref02_up : plumblineref02_upY R) (plumblineref02_up_n0 : plumblineref02_up_n0Y R) (k : Nat) (x1 : Int) (x2 : Int) (x3 : Bool) (x4 : Bool) (x5 : Int) (x6 : Int) (x7 : Int) (x8 : Int) (x9 : Int) (K0 : Int → Option R) : Option R :=
  plumblineref02_bits k x5 (fun yyr1 =>
    plumblineref02_up k (Wi64 (x6 - x9)) yyr1 (fun yyr2 =>
      plumblineref02_bits k x7 (fun yyr3 =>
        plumblineref02_up k (Wi64 (x8 - x9)) yyr3 (fun yyr4 =>
          cond (x3 == x4) (
            plumblineref02_plus k yyr2 yyr4 (fun yyr5 =>
              plumblineref02_Rounded k x1 x2 x3 x9 yyr5 (fun yyr6 =>
                K0 yyr6)) (
              plumblineref02_Rounded_n3 k x1 x2 x3 x9 (fun yyr7 =>
                K0 yyr7))) (
            plumblineref02_cmp k yyr2 yyr4 (fun yyr8 =>
              cond (yyr8 == 0) (
                plumblineref02_sign k x1 (x2 == 2) (fun yyr9 =>
                  K0 yyr9)) (
                cond (decide (yyr8 > 0)) (
                  plumblineref02_minus k yyr2 yyr4 (fun yyr10 =>
                    plumblineref02_Rounded k x1 x2 x3 x9 yyr10 (fun yyr11 =>
                      K0 yyr11))) (
                  plumblineref02_minus k yyr4 yyr2 (fun yyr12 =>
                    plumblineref02_Rounded k x1 x2 x4 x9 yyr12 (fun yyr13 =>
                      K0 yyr13)))))))) (
        plumblineref02_up_n0 k (Wi64 (x8 - x9)) (fun yyr14 =>
          cond (x3 == x4) (
            plumblineref02_plus k yyr2 yyr14 (fun yyr15 =>
              plumblineref02_Rounded k x1 x2 x3 x9 yyr15 (fun yyr16 =>
                K0 yyr16)) (
              plumblineref02_Rounded_n3 k x1 x2 x3 x9 (fun yyr17 =>
                K0 yyr17))) (
            plumblineref02_cmp k yyr2 yyr14 (fun yyr18 =>
              cond (yyr18 == 0) (
                plumblineref02_sign k x1 (x2 == 2) (fun yyr19 =>
                  K0 yyr19)) (
                cond (decide (yyr18 > 0)) (
                  plumblineref02_minus k yyr2 yyr14 (fun yyr20 =>
                    plumblineref02_Rounded k x1 x2 x3 x9 yyr20 (fun yyr21 =>
                      K0 yyr21))) (
                  plumblineref02_minus k yyr14 yyr2 (fun yyr22 =>
                    plumblineref02_Rounded k x1 x2 x4 x9 yyr22 (fun yyr23 =>
                      K0 yyr23)))))))))) (
    plumblineref02_up_n0 k (Wi64 (x6 - x9)) (fun yyr24 =>
      plumblineref02_bits k x7 (fun yyr25 =>
        plumblineref02_up k (Wi64 (x8 - x9)) yyr25 (fun yyr26 =>
          cond (x3 == x4) (
            plumblineref02_plus k yyr24 yyr26 (fun yyr27 =>
              plumblineref02_Rounded k x1 x2 x3 x9 yyr27 (fun yyr28 =>
                K0 yyr28)) (
              plumblineref02_Rounded_n3 k x1 x2 x3 x9 (fun yyr29 =>
                K0 yyr29))) (
            plumblineref02_cmp k yyr24 yyr26 (fun yyr30 =>
              cond (yyr30 == 0) (
                plumblineref02_sign k x1 (x2 == 2) (fun yyr31 =>
                  K0 yyr31)) (
                cond (decide (yyr30 > 0)) (
                  plumblineref02_minus k yyr24 yyr26 (fun yyr32 =>
                    plumblineref02_Rounded k x1 x2 x3 x9 yyr32 (fun yyr33 =>
                      K0 yyr33))) (
                  plumblineref02_minus k yyr26 yyr24 (fun yyr34 =>
                    plumblineref02_Rounded k x1 x2 x4 x9 yyr34 (fun yyr35 =>
                      K0 yyr35)))))))) (
        plumblineref02_up_n0 k (Wi64 (x8 - x9)) (fun yyr36 =>
          cond (x3 == x4) (
            plumblineref02_plus k yyr24 yyr36 (fun yyr37 =>
              plumblineref02_Rounded k x1 x2 x3 x9 yyr37 (fun yyr38 =>
                K0 yyr38)) (
              plumblineref02_Rounded_n3 k x1 x2 x3 x9 (fun yyr39 =>
                K0 yyr39))) (
            plumblineref02_cmp k yyr24 yyr36 (fun yyr40 =>
              cond (yyr40 == 0) (
                plumblineref02_sign k x1 (x2 == 2) (fun yyr41 =>
                  K0 yyr41)) (
                cond (decide (yyr40 > 0)) (
                  plumblineref02_minus k yyr24 yyr36 (fun yyr42 =>
                    plumblineref02_Rounded k x1 x2 x3 x9 yyr42 (fun yyr43 =>
                      K0 yyr43))) (
                  plumblineref02_minus k yyr36 yyr24 (fun yyr44 =>
                    plumblineref02_Rounded k x1 x2 x4 x9 yyr44 (fun yyr45 =>
                      K0 yyr45))))))))))
noncomputable def plumblineref02_Add_c0 {R : Type} (k : Nat) (x1 : Int) (x2 : Int) (x3 : Bool) (x4 : Bool) (x5 : Int) (x6 : Int) (x7 : Int) (x8 : Int) (x9 : Int) (K0 : Int → Option R) : Option R := plumblineref02_Add_c0T plumblineref02_Rounded plumblineref02_Rounded_n3 plumblineref02_bits plumblineref02_cmp plumblineref02_minus plumblineref02_plus plumblineref02_sign plumblineref02_up plumblineref02_up_n0 k x1 x2 x3 x4 x5 x6 x7 x8 x9 K0
noncomputable def cc19_13 {R : Type} (k : Nat) : Cx R := mkCx Ty exts [(37, true, S37 k), (51, true, S51 k), (52, true, S52 k), (53, true, S53 k), (55, true, S55 k), (56, true, S56 k), (58, true, S58 k), (59, true, S59 k), (61, true, S61 k), (62, true, S62 k), (63, true, S63 k), (64, true, S64 k)] fi19 [] []
theorem cc19_13_ok {R : Type} (k : Nat) : CxOk Try.prog (cc19_13 k : Cx R) := mkCx_ok (c := ((Try.f19).body.getD .skip)) ty_ok mixed exts_ok (allSum_cons (S37_ok k) en37 (allSum_cons (S51_ok k) en51 (allSum_cons (S52_ok k) en52 (allSum_cons (S53_ok k) en53 (allSum_cons (S55_ok k) en55 (allSum_cons (S56_ok k) en56 (allSum_cons (S58_ok k) en58 (allSum_cons (S59_ok k) en59 (allSum_cons (S61_ok k) en61 (allSum_cons (S62_ok k) en62 (allSum_cons (S63_ok k) en63 (allSum_cons (S64_ok k) en64 allSum_nil)))))))))))) Try.func19 en19 (by kernel_rfl) (by kernel_rfl) allLoop_nil allCut_nil
noncomputable def C19_13G {R : Type} (plumblineref02_Add_c0 : plumblineref02_Add_c0Y R) (k : Nat) : LSum R := fun pin T H K => match pin, T, H with
  | 0, [(0, .i .i64 x1), (1, .i .i64 x2), (9, .b x3), (10, .b x4), (11, .i .u64 x5), (12, .i .i64 x6), (13, .i .u64 x7), (14, .i .i64 x8), (15, .i .i64 x9)], ⟨0, []⟩ => plumblineref02_Add_c0 k x1 x2 x3 x4 x5 x6 x7 x8 x9 (fun q1 => K .ret [(8, .i .u64 q1)] ⟨0, []⟩)
  | _, _, _ => none
noncomputable def C19_13 {R : Type} (k : Nat) : LSum R := C19_13G plumblineref02_Add_c0 k
theorem plumblineref02_Add_c0_gen {R : Type} (plumblineref02_Nan : plumblineref02_NanY R) (plumblineref02_Below : plumblineref02_BelowY R) (plumblineref02_isNan : plumblineref02_isNanY R) (plumblineref02_isInf : plumblineref02_isInfY R) (plumblineref02_sign : plumblineref02_signY R) (plumblineref02_value : plumblineref02_valueY R) (plumblineref02_bits : plumblineref02_bitsY R) (plumblineref02_Rounded : plumblineref02_RoundedY R) (plumblineref02_Rounded_n3 : plumblineref02_Rounded_n3Y R) (plumblineref02_up : plumblineref02_upY R) (plumblineref02_up_n0 : plumblineref02_up_n0Y R) (plumblineref02_plus : plumblineref02_plusY R) (plumblineref02_cmp : plumblineref02_cmpY R) (plumblineref02_minus : plumblineref02_minusY R) (k : Nat) (x1 : Int) (x2 : Int) (x3 : Bool) (x4 : Bool) (x5 : Int) (x6 : Int) (x7 : Int) (x8 : Int) (x9 : Int) (K : Kont R) :
    (fun C => codeK C (run C 4)) (mkCx Ty exts [(37, true, S37G plumblineref02_Nan k), (51, true, S51G plumblineref02_Below k), (52, true, S52G plumblineref02_isNan k), (53, true, S53G plumblineref02_isInf k), (55, true, S55G plumblineref02_sign k), (56, true, S56G plumblineref02_value k), (58, true, S58G plumblineref02_bits k), (59, true, S59G plumblineref02_Rounded plumblineref02_Rounded_n3 k), (61, true, S61G plumblineref02_up plumblineref02_up_n0 k), (62, true, S62G plumblineref02_plus k), (63, true, S63G plumblineref02_cmp k), (64, true, S64G plumblineref02_minus k)] fi19 [] []) 0 fi19 (cutAt ((Try.f19).body.getD .skip) 13) [(0, .i .i64 x1), (1, .i .i64 x2), (9, .b x3), (10, .b x4), (11, .i .u64 x5), (12, .i .i64 x6), (13, .i .u64 x7), (14, .i .i64 x8), (15, .i .i64 x9)] ⟨0, []⟩ (exitNorm fi19.ann 500013 0 K) = plumblineref02_Add_c0T plumblineref02_Rounded plumblineref02_Rounded_n3 plumblineref02_bits plumblineref02_cmp plumblineref02_minus plumblineref02_plus plumblineref02_sign plumblineref02_up plumblineref02_up_n0 k x1 x2 x3 x4 x5 x6 x7 x8 x9 (fun q1 => K .ret [(8, .i .u64 q1)] ⟨0, []⟩) := by kernel_rfl
theorem C19_13_cok {R : Type} (k : Nat) : CodeOk Try.prog (cc19_13 k : Cx R) fi19 (cutAt ((Try.f19).body.getD .skip) 13) := cutAt_ok (((cc19_13_ok k).fns 19 fi19 (by kernel_rfl)).2.2.2 ((Try.f19).body.getD .skip) (by kernel_rfl))
theorem C19_13_ok {R : Type} (k : Nat) : CutOk Try.prog (Try.f19).ntmps (cutAt ((Try.f19).body.getD .skip) 13) (C19_13 k : LSum R) := by
  intro pin T H K r h
  unfold C19_13 C19_13G at h
  split at h
  · obtain ⟨ex, T1, H1, h, hb⟩ := codeK_sound (cc19_13_ok k) (run_sound (cc19_13_ok k) 4) _ fi19 _ _ _ _ _ (C19_13_cok k) ((plumblineref02_Add_c0_gen plumblineref02_Nan plumblineref02_Below plumblineref02_isNan plumblineref02_isInf plumblineref02_sign plumblineref02_value plumblineref02_bits plumblineref02_Rounded plumblineref02_Rounded_n3 plumblineref02_up plumblineref02_up_n0 plumblineref02_plus plumblineref02_cmp plumblineref02_minus k _ _ _ _ _ _ _ _ _ K).trans h)
    exact cut_step hb h
  · cases h
@[reducible] def plumblineref02_Add_c1Y (R : Type) : Type := Nat → Int → Int → Int → Int → Bool → Bool → (Int → Option R) → Option R
noncomputable def plumblineref02_Add_c1T {R : Type} (plumblineref02_Add_c0 : plumblineref02_Add_c0Y R) (plumblineref02_value : plumblineref02_valueY R) (k : Nat) (x1 : Int) (x2 : Int) (x3 : Int) (x4 : Int) (x5 : Bool) (x6 : Bool) (K0 : Int → Option R) : Option R :=
  plumblineref02_value k x1 x3 (fun yr1 yr2 =>
    plumblineref02_value k x1 x4 (fun yr3 yr4 =>
      cond (decide (yr4 < yr2)) (
        plumblineref02_Add_c0 k x1 x2 x5 x6 yr1 yr2 yr3 yr4 yr4 (fun yr5 =>
          K0 yr5)) (
        plumblineref02_Add_c0 k x1 x2 x5 x6 yr1 yr2 yr3 yr4 yr2 (fun yr6 =>
          K0 yr6))))
noncomputable def plumblineref02_Add_c1 {R : Type} (k : Nat) (x1 : Int) (x2 : Int) (x3 : Int) (x4 : Int) (x5 : Bool) (x6 : Bool) (K0 : Int → Option R) : Option R := plumblineref02_Add_c1T plumblineref02_Add_c0 plumblineref02_value k x1 x2 x3 x4 x5 x6 K0
noncomputable def cc19_8 {R : Type} (k : Nat) : Cx R := mkCx Ty exts [(37, true, S37 k), (51, true, S51 k), (52, true, S52 k), (53, true, S53 k), (55, true, S55 k), (56, true, S56 k), (58, true, S58 k), (59, true, S59 k), (61, true, S61 k), (62, true, S62 k), (63, true, S63 k), (64, true, S64 k)] fi19 [] [(13, C19_13 k)]
theorem cc19_8_ok {R : Type} (k : Nat) : CxOk Try.prog (cc19_8 k : Cx R) := mkCx_ok (c := ((Try.f19).body.getD .skip)) ty_ok mixed exts_ok (allSum_cons (S37_ok k) en37 (allSum_cons (S51_ok k) en51 (allSum_cons (S52_ok k) en52 (allSum_cons (S53_ok k) en53 (allSum_cons (S55_ok k) en55 (allSum_cons (S56_ok k) en56 (allSum_cons (S58_ok k) en58 (allSum_cons (S59_ok k) en59 (allSum_cons (S61_ok k) en61 (allSum_cons (S62_ok k) en62 (allSum_cons (S63_ok k) en63 (allSum_cons (S64_ok k) en64 allSum_nil)))))))))))) Try.func19 en19 (by kernel_rfl) (by kernel_rfl) allLoop_nil (allCut_cons (C19_13_ok k) (by kernel_rfl) allCut_nil)
noncomputable def C19_8G {R : Type} (plumblineref02_Add_c1 : plumblineref02_Add_c1Y R) (k : Nat) : LSum R := fun pin T H K => match pin, T, H with
  | 0, [(0, .i .i64 x1), (1, .i .i64 x2), (2, .i .u64 x3), (3, .i .u64 x4), (9, .b x5), (10, .b x6)], ⟨0, []⟩ => plumblineref02_Add_c1 k x1 x2 x3 x4 x5 x6 (fun q1 => K .ret [(8, .i .u64 q1)] ⟨0, []⟩)
  | _, _, _ => none
noncomputable def C19_8 {R : Type} (k : Nat) : LSum R := C19_8G plumblineref02_Add_c1 k
theorem plumblineref02_Add_c1_gen {R : Type} (plumblineref02_Nan : plumblineref02_NanY R) (plumblineref02_Below : plumblineref02_BelowY R) (plumblineref02_isNan : plumblineref02_isNanY R) (plumblineref02_isInf : plumblineref02_isInfY R) (plumblineref02_sign : plumblineref02_signY R) (plumblineref02_value : plumblineref02_valueY R) (plumblineref02_bits : plumblineref02_bitsY R) (plumblineref02_Rounded : plumblineref02_RoundedY R) (plumblineref02_Rounded_n3 : plumblineref02_Rounded_n3Y R) (plumblineref02_up : plumblineref02_upY R) (plumblineref02_up_n0 : plumblineref02_up_n0Y R) (plumblineref02_plus : plumblineref02_plusY R) (plumblineref02_cmp : plumblineref02_cmpY R) (plumblineref02_minus : plumblineref02_minusY R) (plumblineref02_Add_c0 : plumblineref02_Add_c0Y R) (k : Nat) (x1 : Int) (x2 : Int) (x3 : Int) (x4 : Int) (x5 : Bool) (x6 : Bool) (K : Kont R) :
    (fun C => codeK C (run C 4)) (mkCx Ty exts [(37, true, S37G plumblineref02_Nan k), (51, true, S51G plumblineref02_Below k), (52, true, S52G plumblineref02_isNan k), (53, true, S53G plumblineref02_isInf k), (55, true, S55G plumblineref02_sign k), (56, true, S56G plumblineref02_value k), (58, true, S58G plumblineref02_bits k), (59, true, S59G plumblineref02_Rounded plumblineref02_Rounded_n3 k), (61, true, S61G plumblineref02_up plumblineref02_up_n0 k), (62, true, S62G plumblineref02_plus k), (63, true, S63G plumblineref02_cmp k), (64, true, S64G plumblineref02_minus k)] fi19 [] [(13, C19_13G plumblineref02_Add_c0 k)]) 0 fi19 (cutAt ((Try.f19).body.getD .skip) 8) [(0, .i .i64 x1), (1, .i .i64 x2), (2, .i .u64 x3), (3, .i .u64 x4), (9, .b x5), (10, .b x6)] ⟨0, []⟩ (exitNorm fi19.ann 500008 0 K) = plumblineref02_Add_c1T plumblineref02_Add_c0 plumblineref02_value k x1 x2 x3 x4 x5 x6 (fun q1 => K .ret [(8, .i .u64 q1)] ⟨0, []⟩) := by kernel_rfl
theorem C19_8_cok {R : Type} (k : Nat) : CodeOk Try.prog (cc19_8 k : Cx R) fi19 (cutAt ((Try.f19).body.getD .skip) 8) := cutAt_ok (((cc19_8_ok k).fns 19 fi19 (by kernel_rfl)).2.2.2 ((Try.f19).body.getD .skip) (by kernel_rfl))
theorem C19_8_ok {R : Type} (k : Nat) : CutOk Try.prog (Try.f19).ntmps (cutAt ((Try.f19).body.getD .skip) 8) (C19_8 k : LSum R) := by
  intro pin T H K r h
  unfold C19_8 C19_8G at h
  split at h
  · obtain ⟨ex, T1, H1, h, hb⟩ := codeK_sound (cc19_8_ok k) (run_sound (cc19_8_ok k) 4) _ fi19 _ _ _ _ _ (C19_8_cok k) ((plumblineref02_Add_c1_gen plumblineref02_Nan plumblineref02_Below plumblineref02_isNan plumblineref02_isInf plumblineref02_sign plumblineref02_value plumblineref02_bits plumblineref02_Rounded plumblineref02_Rounded_n3 plumblineref02_up plumblineref02_up_n0 plumblineref02_plus plumblineref02_cmp plumblineref02_minus plumblineref02_Add_c0 k _ _ _ _ _ _ K).trans h)
    exact cut_step hb h
  · cases h
noncomputable def cx19 {R : Type} (k : Nat) : Cx R := mkCx Ty exts [(37, true, S37 k), (51, true, S51 k), (52, true, S52 k), (53, true, S53 k), (55, true, S55 k), (56, true, S56 k), (58, true, S58 k), (59, true, S59 k), (61, true, S61 k), (62, true, S62 k), (63, true, S63 k), (64, true, S64 k)] fi19 [] [(13, C19_13 k), (8, C19_8 k)]
theorem cx19_ok {R : Type} (k : Nat) : CxOk Try.prog (cx19 k : Cx R) := mkCx_ok (c := ((Try.f19).body.getD .skip)) ty_ok mixed exts_ok (allSum_cons (S37_ok k) en37 (allSum_cons (S51_ok k) en51 (allSum_cons (S52_ok k) en52 (allSum_cons (S53_ok k) en53 (allSum_cons (S55_ok k) en55 (allSum_cons (S56_ok k) en56 (allSum_cons (S58_ok k) en58 (allSum_cons (S59_ok k) en59 (allSum_cons (S61_ok k) en61 (allSum_cons (S62_ok k) en62 (allSum_cons (S63_ok k) en63 (allSum_cons (S64_ok k) en64 allSum_nil)))))))))))) Try.func19 en19 (by kernel_rfl) (by kernel_rfl) allLoop_nil (allCut_cons (C19_13_ok k) (by kernel_rfl) (allCut_cons (C19_8_ok k) (by kernel_rfl) allCut_nil))
@[reducible] def plumblineref02_AddY (R : Type) : Type := Nat → Int → Int → Int → Int → (Int → Option R) → Option R
noncomputable def plumblineref02_AddT {R : Type} (plumblineref02_Add_c1 : plumblineref02_Add_c1Y R) (plumblineref02_Below : plumblineref02_BelowY R) (plumblineref02_Nan : plumblineref02_NanY R) (plumblineref02_isInf : plumblineref02_isInfY R) (plumblineref02_isNan : plumblineref02_isNanY R) (k : Nat) (a1 : Int) (a2 : Int) (a3 : Int) (a4 : Int) (K0 : Int → Option R) : Option R :=
  plumblineref02_Below k a1 a3 (fun r1 =>
    plumblineref02_Below k a1 a4 (fun r2 =>
      plumblineref02_isNan k a1 a3 (fun r3 =>
        cond r3 (
          plumblineref02_Nan k a1 (fun r4 =>
            K0 r4)) (
          plumblineref02_isNan k a1 a4 (fun r5 =>
            cond r5 (
              plumblineref02_Nan k a1 (fun r6 =>
                K0 r6)) (
              plumblineref02_isInf k a1 a3 (fun r7 =>
                cond r7 (
                  plumblineref02_isInf k a1 a4 (fun r8 =>
                    cond r8 (
                      cond (!(r1 == r2)) (
                        plumblineref02_Nan k a1 (fun r9 =>
                          K0 r9)) (
                        plumblineref02_isInf k a1 a3 (fun r10 =>
                          cond r10 (
                            K0 a3) (
                            plumblineref02_isInf k a1 a4 (fun r11 =>
                              cond r11 (
                                K0 a4) (
                                plumblineref02_Add_c1 k a1 a2 a3 a4 r1 r2 (fun r12 =>
                                  K0 r12))))))) (
                      plumblineref02_isInf k a1 a3 (fun r13 =>
                        cond r13 (
                          K0 a3) (
                          plumblineref02_isInf k a1 a4 (fun r14 =>
                            cond r14 (
                              K0 a4) (
                              plumblineref02_Add_c1 k a1 a2 a3 a4 r1 r2 (fun r15 =>
                                K0 r15)))))))) (
                  plumblineref02_isInf k a1 a3 (fun r16 =>
                    cond r16 (
                      K0 a3) (
                      plumblineref02_isInf k a1 a4 (fun r17 =>
                        cond r17 (
                          K0 a4) (
                          plumblineref02_Add_c1 k a1 a2 a3 a4 r1 r2 (fun r18 =>
                            K0 r18)))))))))))))
noncomputable def plumblineref02_Add {R : Type} (k : Nat) (a1 : Int) (a2 : Int) (a3 : Int) (a4 : Int) (K0 : Int → Option R) : Option R := plumblineref02_AddT plumblineref02_Add_c1 plumblineref02_Below plumblineref02_Nan plumblineref02_isInf plumblineref02_isNan k a1 a2 a3 a4 K0
theorem plumblineref02_Add_gen {R : Type} (plumblineref02_Nan : plumblineref02_NanY R) (plumblineref02_Below : plumblineref02_BelowY R) (plumblineref02_isNan : plumblineref02_isNanY R) (plumblineref02_isInf : plumblineref02_isInfY R) (plumblineref02_sign : plumblineref02_signY R) (plumblineref02_value : plumblineref02_valueY R) (plumblineref02_bits : plumblineref02_bitsY R) (plumblineref02_Rounded : plumblineref02_RoundedY R) (plumblineref02_Rounded_n3 : plumblineref02_Rounded_n3Y R) (plumblineref02_up : plumblineref02_upY R) (plumblineref02_up_n0 : plumblineref02_up_n0Y R) (plumblineref02_plus : plumblineref02_plusY R) (plumblineref02_cmp : plumblineref02_cmpY R) (plumblineref02_minus : plumblineref02_minusY R) (plumblineref02_Add_c0 : plumblineref02_Add_c0Y R) (plumblineref02_Add_c1 : plumblineref02_Add_c1Y R) (k : Nat) (a1 : Int) (a2 : Int) (a3 : Int) (a4 : Int) (K : AV → Heap → Option R) :
    fnK (mkCx Ty exts [(37, true, S37G plumblineref02_Nan k), (51, true, S51G plumblineref02_Below k), (52, true, S52G plumblineref02_isNan k), (53, true, S53G plumblineref02_isInf k), (55, true, S55G plumblineref02_sign k), (56, true, S56G plumblineref02_value k), (58, true, S58G plumblineref02_bits k), (59, true, S59G plumblineref02_Rounded plumblineref02_Rounded_n3 k), (61, true, S61G plumblineref02_up plumblineref02_up_n0 k), (62, true, S62G plumblineref02_plus k), (63, true, S63G plumblineref02_cmp k), (64, true, S64G plumblineref02_minus k)] fi19 [] [(13, C19_13G plumblineref02_Add_c0 k), (8, C19_8G plumblineref02_Add_c1 k)]) 6 19 [.i .i64 a1, .i .i64 a2, .i .u64 a3, .i .u64 a4] ⟨0, []⟩ K = plumblineref02_AddT plumblineref02_Add_c1 plumblineref02_Below plumblineref02_Nan plumblineref02_isInf plumblineref02_isNan k a1 a2 a3 a4 (fun q1 => K (.i .u64 q1) ⟨0, []⟩) := by kernel_rfl
noncomputable def S19G {R : Type} (plumblineref02_Add : plumblineref02_AddY R) (k : Nat) : Sum R := fun args H K => match args, H with
  | [.i .i64 a1, .i .i64 a2, .i .u64 a3, .i .u64 a4], ⟨0, []⟩ => plumblineref02_Add k a1 a2 a3 a4 (fun q1 => K (.i .u64 q1) ⟨0, []⟩)
  | _, _ => none
noncomputable def S19 {R : Type} (k : Nat) : Sum R := S19G plumblineref02_Add k
theorem S19_ok0 {R : Type} (k : Nat) : SumOk Try.prog 19 false (S19 k : Sum R) := by
  intro args H K r h
  unfold S19 S19G at h
  split at h
  · exact fnK_sound (cx19_ok k) 6 19 _ _ K r ((plumblineref02_Add_gen plumblineref02_Nan plumblineref02_Below plumblineref02_isNan plumblineref02_isInf plumblineref02_sign plumblineref02_value plumblineref02_bits plumblineref02_Rounded plumblineref02_Rounded_n3 plumblineref02_up plumblineref02_up_n0 plumblineref02_plus plumblineref02_cmp plumblineref02_minus plumblineref02_Add_c0 plumblineref02_Add_c1 k _ _ _ _ K).trans h)
  · cases h
theorem S19_ok {R : Type} (k : Nat) : SumOk Try.prog 19 true (S19 k : Sum R) := by
  refine sumOk_keep (S19_ok0 k) ?_
  intro args H K r h
  unfold S19 S19G at h ⊢
  split at h
  · refine Eq.trans ?_ h
    show plumblineref02_Add k _ _ _ _ _ = plumblineref02_Add k _ _ _ _ _
    congr 1
    all_goals first | exact (funext fun q1 => if_pos (keeps_app _ _ _ [])) | skip
  · cases h
-- function 21: plumbline/plumblineref02.Sub
noncomputable def fi21 : FnI := ⟨21, Try.f21, []⟩
theorem en21 : Enters Try.prog 21 := enters_of Try.func21 (c := ((Try.f21).body.getD .skip)) (by kernel_rfl) (by kernel_rfl)
noncomputable def cx21 {R : Type} (k : Nat) : Cx R := mkCx Ty exts [(19, true, S19 k), (29, true, S29 k)] fi21 [] []
theorem cx21_ok {R : Type} (k : Nat) : CxOk Try.prog (cx21 k : Cx R) := mkCx_ok (c := ((Try.f21).body.getD .skip)) ty_ok mixed exts_ok (allSum_cons (S19_ok k) en19 (allSum_cons (S29_ok k) en29 allSum_nil)) Try.func21 en21 (by kernel_rfl) (by kernel_rfl) allLoop_nil allCut_nil
@[reducible] def plumblineref02_SubY (R : Type) : Type := Nat → Int → Int → Int → Int → (Int → Option R) → Option R
noncomputable def plumblineref02_SubT {R : Type} (plumblineref02_Add : plumblineref02_AddY R) (plumblineref02_Neg : plumblineref02_NegY R) (k : Nat) (a1 : Int) (a2 : Int) (a3 : Int) (a4 : Int) (K0 : Int → Option R) : Option R :=
  plumblineref02_Neg k a1 a4 (fun r1 =>
    plumblineref02_Add k a1 a2 a3 r1 (fun r2 =>
      K0 r2))
noncomputable def plumblineref02_Sub {R : Type} (k : Nat) (a1 : Int) (a2 : Int) (a3 : Int) (a4 : Int) (K0 : Int → Option R) : Option R := plumblineref02_SubT plumblineref02_Add plumblineref02_Neg k a1 a2 a3 a4 K0
theorem plumblineref02_Sub_gen {R : Type} (plumblineref02_Add : plumblineref02_AddY R) (plumblineref02_Neg : plumblineref02_NegY R) (k : Nat) (a1 : Int) (a2 : Int) (a3 : Int) (a4 : Int) (K : AV → Heap → Option R) :
    fnK (mkCx Ty exts [(19, true, S19G plumblineref02_Add k), (29, true, S29G plumblineref02_Neg k)] fi21 [] []) 6 21 [.i .i64 a1, .i .i64 a2, .i .u64 a3, .i .u64 a4] ⟨0, []⟩ K = plumblineref02_SubT plumblineref02_Add plumblineref02_Neg k a1 a2 a3 a4 (fun q1 => K (.i .u64 q1) ⟨0, []⟩) := by kernel_rfl
noncomputable def S21G {R : Type} (plumblineref02_Sub : plumblineref02_SubY R) (k : Nat) : Sum R := fun args H K => match args, H with
  | [.i .i64 a1, .i .i64 a2, .i .u64 a3, .i .u64 a4], ⟨0, []⟩ => plumblineref02_Sub k a1 a2 a3 a4 (fun q1 => K (.i .u64 q1) ⟨0, []⟩)
  | _, _ => none
noncomputable def S21 {R : Type} (k : Nat) : Sum R := S21G plumblineref02_Sub k
theorem S21_ok0 {R : Type} (k : Nat) : SumOk Try.prog 21 false (S21 k : Sum R) := by
  intro args H K r h
  unfold S21 S21G at h
  split at h
  · exact fnK_sound (cx21_ok k) 6 21 _ _ K r ((plumblineref02_Sub_gen plumblineref02_Add plumblineref02_Neg k _ _ _ _ K).trans h)
  · cases h
theorem S21_ok {R : Type} (k : Nat) : SumOk Try.prog 21 true (S21 k : Sum R) := by
  refine sumOk_keep (S21_ok0 k) ?_
  intro args H K r h
  unfold S21 S21G at h ⊢
  split at h
  · refine Eq.trans ?_ h
    show plumblineref02_Sub k _ _ _ _ _ = plumblineref02_Sub k _ _ _ _ _
    congr 1
    all_goals first | exact (funext fun q1 => if_pos (keeps_app _ _ _ [])) | skip
  · cases h
-- function 25: plumbline/plumblineref02.Mul
noncomputable def fi25 : FnI := ⟨25, Try.f25, []⟩
theorem en25 : Enters Try.prog 25 := enters_of Try.func25 (c := ((Try.f25).body.getD .skip)) (by kernel_rfl) (by kernel_rfl)
noncomputable def cx25 {R : Type} (k : Nat) : Cx R := mkCx Ty exts [(27, true, S27 k), (37, true, S37 k), (51, true, S51 k), (52, true, S52 k), (53, true, S53 k), (54, true, S54 k), (56, true, S56 k), (59, true, S59 k), (66, true, S66 k), (68, true, S68 k)] fi25 [] []
theorem cx25_ok {R : Type} (k : Nat) : CxOk Try.prog (cx25 k : Cx R) := mkCx_ok (c := ((Try.f25).body.getD .skip)) ty_ok mixed exts_ok (allSum_cons (S27_ok k) en27 (allSum_cons (S37_ok k) en37 (allSum_cons (S51_ok k) en51 (allSum_cons (S52_ok k) en52 (allSum_cons (S53_ok k) en53 (allSum_cons (S54_ok k) en54 (allSum_cons (S56_ok k) en56 (allSum_cons (S59_ok k) en59 (allSum_cons (S66_ok k) en66 (allSum_cons (S68_ok k) en68 allSum_nil)))))))))) Try.func25 en25 (by kernel_rfl) (by kernel_rfl) allLoop_nil allCut_nil
@[reducible] def plumblineref02_MulY (R : Type) : Type := Nat → Int → Int → Int → Int → (Int → Option R) → Option R
noncomputable def plumblineref02_MulT {R : Type} (plumblineref01_Bits : plumblineref01_BitsY R) (plumblineref01_Mul : plumblineref01_MulY R) (plumblineref02_Below : plumblineref02_BelowY R) (plumblineref02_Class : plumblineref02_ClassY R) (plumblineref02_Inf : plumblineref02_InfY R) (plumblineref02_Nan : plumblineref02_NanY R) (plumblineref02_Rounded : plumblineref02_RoundedY R) (plumblineref02_isInf : plumblineref02_isInfY R) (plumblineref02_isNan : plumblineref02_isNanY R) (plumblineref02_value : plumblineref02_valueY R) (k : Nat) (a1 : Int) (a2 : Int) (a3 : Int) (a4 : Int) (K0 : Int → Option R) : Option R :=
  plumblineref02_Below k a1 a3 (fun r1 =>
    plumblineref02_Below k a1 a4 (fun r2 =>
      plumblineref02_Class k a1 a3 (fun r3 =>
        cond (r3 == 1) (
          plumblineref02_isNan k a1 a3 (fun r4 =>
            cond r4 (
              plumblineref02_Nan k a1 (fun r5 =>
                K0 r5)) (
              plumblineref02_isNan k a1 a4 (fun r6 =>
                cond r6 (
                  plumblineref02_Nan k a1 (fun r7 =>
                    K0 r7)) (
                  plumblineref02_isInf k a1 a3 (fun r8 =>
                    cond r8 (
                      plumblineref02_Nan k a1 (fun r9 =>
                        K0 r9)) (
                      plumblineref02_isInf k a1 a4 (fun r10 =>
                        cond r10 (
                          plumblineref02_Nan k a1 (fun r11 =>
                            K0 r11)) (
                          plumblineref02_value k a1 a3 (fun r12 r13 =>
                            plumblineref02_value k a1 a4 (fun r14 r15 =>
                              plumblineref01_Mul k r12 r14 (fun r16 r17 =>
                                plumblineref01_Bits k r16 r17 (fun r18 =>
                                  plumblineref02_Rounded k a1 a2 (!(r1 == r2)) (Wi64 (r13 + r15)) r18 (fun r19 =>
                                    K0 r19)))))))))))))) (
          plumblineref02_Class k a1 a4 (fun r20 =>
            plumblineref02_isNan k a1 a3 (fun r21 =>
              cond r21 (
                plumblineref02_Nan k a1 (fun r22 =>
                  K0 r22)) (
                plumblineref02_isNan k a1 a4 (fun r23 =>
                  cond r23 (
                    plumblineref02_Nan k a1 (fun r24 =>
                      K0 r24)) (
                    plumblineref02_isInf k a1 a3 (fun r25 =>
                      cond r25 (
                        cond (r20 == 1) (
                          plumblineref02_Nan k a1 (fun r26 =>
                            K0 r26)) (
                          plumblineref02_Inf k a1 (!(r1 == r2)) (fun r27 =>
                            K0 r27))) (
                        plumblineref02_isInf k a1 a4 (fun r28 =>
                          cond r28 (
                            cond (r20 == 1) (
                              plumblineref02_Nan k a1 (fun r29 =>
                                K0 r29)) (
                              plumblineref02_Inf k a1 (!(r1 == r2)) (fun r30 =>
                                K0 r30))) (
                            plumblineref02_value k a1 a3 (fun r31 r32 =>
                              plumblineref02_value k a1 a4 (fun r33 r34 =>
                                plumblineref01_Mul k r31 r33 (fun r35 r36 =>
                                  plumblineref01_Bits k r35 r36 (fun r37 =>
                                    plumblineref02_Rounded k a1 a2 (!(r1 == r2)) (Wi64 (r32 + r34)) r37 (fun r38 =>
                                      K0 r38))))))))))))))))))
noncomputable def plumblineref02_Mul {R : Type} (k : Nat) (a1 : Int) (a2 : Int) (a3 : Int) (a4 : Int) (K0 : Int → Option R) : Option R := plumblineref02_MulT plumblineref01_Bits plumblineref01_Mul plumblineref02_Below plumblineref02_Class plumblineref02_Inf plumblineref02_Nan plumblineref02_Rounded plumblineref02_isInf plumblineref02_isNan plumblineref02_value k a1 a2 a3 a4 K0
theorem plumblineref02_Mul_gen {R : Type} (plumblineref02_Class : plumblineref02_ClassY R) (plumblineref02_Nan : plumblineref02_NanY R) (plumblineref02_Below : plumblineref02_BelowY R) (plumblineref02_isNan : plumblineref02_isNanY R) (plumblineref02_isInf : plumblineref02_isInfY R) (plumblineref02_Inf : plumblineref02_InfY R) (plumblineref02_value : plumblineref02_valueY R) (plumblineref02_Rounded : plumblineref02_RoundedY R) (plumblineref02_Rounded_n3 : plumblineref02_Rounded_n3Y R) (plumblineref01_Bits : plumblineref01_BitsY R) (plumblineref01_Mul : plumblineref01_MulY R) (k : Nat) (a1 : Int) (a2 : Int) (a3 : Int) (a4 : Int) (K : AV → Heap → Option R) :
    fnK (mkCx Ty exts [(27, true, S27G plumblineref02_Class k), (37, true, S37G plumblineref02_Nan k), (51, true, S51G plumblineref02_Below k), (52, true, S52G plumblineref02_isNan k), (53, true, S53G plumblineref02_isInf k), (54, true, S54G plumblineref02_Inf k), (56, true, S56G plumblineref02_value k), (59, true, S59G plumblineref02_Rounded plumblineref02_Rounded_n3 k), (66, true, S66G plumblineref01_Bits k), (68, true, S68G plumblineref01_Mul k)] fi25 [] []) 6 25 [.i .i64 a1, .i .i64 a2, .i .u64 a3, .i .u64 a4] ⟨0, []⟩ K = plumblineref02_MulT plumblineref01_Bits plumblineref01_Mul plumblineref02_Below plumblineref02_Class plumblineref02_Inf plumblineref02_Nan plumblineref02_Rounded plumblineref02_isInf plumblineref02_isNan plumblineref02_value k a1 a2 a3 a4 (fun q1 => K (.i .u64 q1) ⟨0, []⟩) := by kernel_rfl
noncomputable def S25G {R : Type} (plumblineref02_Mul : plumblineref02_MulY R) (k : Nat) : Sum R := fun args H K => match args, H with
  | [.i .i64 a1, .i .i64 a2, .i .u64 a3, .i .u64 a4], ⟨0, []⟩ => plumblineref02_Mul k a1 a2 a3 a4 (fun q1 => K (.i .u64 q1) ⟨0, []⟩)
  | _, _ => none
noncomputable def S25 {R : Type} (k : Nat) : Sum R := S25G plumblineref02_Mul k
theorem S25_ok0 {R : Type} (k : Nat) : SumOk Try.prog 25 false (S25 k : Sum R) := by
  intro args H K r h
  unfold S25 S25G at h
  split at h
  · exact fnK_sound (cx25_ok k) 6 25 _ _ K r ((plumblineref02_Mul_gen plumblineref02_Class plumblineref02_Nan plumblineref02_Below plumblineref02_isNan plumblineref02_isInf plumblineref02_Inf plumblineref02_value plumblineref02_Rounded plumblineref02_Rounded_n3 plumblineref01_Bits plumblineref01_Mul k _ _ _ _ K).trans h)
  · cases h
theorem S25_ok {R : Type} (k : Nat) : SumOk Try.prog 25 true (S25 k : Sum R) := by
  refine sumOk_keep (S25_ok0 k) ?_
  intro args H K r h
  unfold S25 S25G at h ⊢
  split at h
  · refine Eq.trans ?_ h
    show plumblineref02_Mul k _ _ _ _ _ = plumblineref02_Mul k _ _ _ _ _
    congr 1
    all_goals first | exact (funext fun q1 => if_pos (keeps_app _ _ _ [])) | skip
  · cases h
end Go.Proofs.Ytbnmnkofekcodaa.N
