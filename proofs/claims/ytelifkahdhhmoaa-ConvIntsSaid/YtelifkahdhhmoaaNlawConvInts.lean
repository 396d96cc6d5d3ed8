/- Printed by wip/gen/emit.py: functions of the program as plain Lean functions, tied to the model by the evaluator. Conditions: none. -/
import Derived.Test.YtelifkahdhhmoaaNconv
import Derived.Test.YtelifkahdhhmoaaNlaw
import Derived.Test.YtelifkahdhhmoaaNr03
namespace Go.Proofs.Ytelifkahdhhmoaa.N
set_option linter.unusedVariables false
set_option maxRecDepth 100000
open Go Go.Ab
-- function 9: plumbline/plumblinelaw03.ConvInts
noncomputable def fi9 : FnI := ⟨9, Try.f9, [(100005, [0, 1, 7, 8, 9, 10, 11, 12]), (2000005, [6]), (3005000, [8, 9, 10, 11])]⟩
theorem en9 : Enters Try.prog 9 := enters_of Try.func9 (c := ((Try.f9).body.getD .skip)) (by kernel_rfl) (by kernel_rfl)
@[reducible] def plumblinelaw03_ConvInts_l0Y (R : Type) : Type := Nat → Nat → Int → Int → Int → Int → Bool → Int → Bool → Int → (Bool → Option R) → (Option R) → Option R
noncomputable def plumblinelaw03_ConvInts_l0B {R : Type} (conv_FromInt : conv_FromIntY R) (plumblineref03_FromInt : plumblineref03_FromIntY R) (k : Nat) (rec : Int → Int → Int → Int → Bool → Int → Bool → Int → Option R) (x1 : Int) (x2 : Int) (x3 : Int) (x4 : Int) (x5 : Bool) (x6 : Int) (x7 : Bool) (x8 : Int) (K0 : Bool → Option R) (K1 : Option R) : Option R :=
  cond (decide (x8 ≤ 3)) (
    conv_FromInt k x1 x8 x2 (fun yr1 =>
      plumblineref03_FromInt k x3 x8 x2 (fun yr2 =>
        cond (yr1 != yr2) (
          K0 false) (
          rec x1 x2 x3 x4 x5 x6 x7 (Wi64 (x8 + 1)))))) (
    K1)
noncomputable def plumblinelaw03_ConvInts_l0 {R : Type} (k : Nat) : Nat → Int → Int → Int → Int → Bool → Int → Bool → Int → (Bool → Option R) → (Option R) → Option R
  | 0, _, _, _, _, _, _, _, _, _, _ => none
  | n + 1, x1, x2, x3, x4, x5, x6, x7, x8, K0, K1 => plumblinelaw03_ConvInts_l0B conv_FromInt plumblineref03_FromInt k (fun x1 x2 x3 x4 x5 x6 x7 x8 => plumblinelaw03_ConvInts_l0 k n x1 x2 x3 x4 x5 x6 x7 x8 K0 K1) x1 x2 x3 x4 x5 x6 x7 x8 K0 K1
noncomputable def cx9_5 {R : Type} (k : Nat) : Cx R := mkCx Ty exts [(12, true, S12 k), (14, true, S14 k), (20, true, S20 k), (34, true, S34 k), (35, true, S35 k), (36, true, S36 k)] fi9 [] []
theorem cx9_5_ok {R : Type} (k : Nat) : CxOk Try.prog (cx9_5 k : Cx R) := mkCx_ok (c := ((Try.f9).body.getD .skip)) ty_ok mixed exts_ok (allSum_cons (S12_ok k) en12 (allSum_cons (S14_ok k) en14 (allSum_cons (S20_ok k) en20 (allSum_cons (S34_ok k) en34 (allSum_cons (S35_ok k) en35 (allSum_cons (S36_ok k) en36 allSum_nil)))))) Try.func9 en9 (by kernel_rfl) (by kernel_rfl) allLoop_nil allCut_nil
noncomputable def L9_5G {R : Type} (plumblinelaw03_ConvInts_l0 : plumblinelaw03_ConvInts_l0Y R) (k n : Nat) : LSum R := fun pin T H K => match pin, T, H with
  | 0, [(0, .i .i64 x1), (1, .i .i64 x2), (7, .i .i64 x3), (8, .i .i64 x4), (9, .b x5), (10, .i .i64 x6), (11, .b x7), (12, .i .i64 x8)], ⟨0, []⟩ => plumblinelaw03_ConvInts_l0 k n x1 x2 x3 x4 x5 x6 x7 x8 (fun q1 => K .ret [(6, .b q1)] ⟨0, []⟩) (K (.exit 0) [(8, .i .i64 x4), (9, .b x5), (10, .i .i64 x6), (11, .b x7)] ⟨0, []⟩)
  | _, _, _ => none
noncomputable def L9_5 {R : Type} (k n : Nat) : LSum R := L9_5G plumblinelaw03_ConvInts_l0 k n
theorem plumblinelaw03_ConvInts_l0_gen {R : Type} (plumblinelaw03_format : plumblinelaw03_formatY R) (plumblinelaw03_live : plumblinelaw03_liveY R) (conv_FromInt : conv_FromIntY R) (conv_ToInt : conv_ToIntY R) (plumblineref03_ToInt : plumblineref03_ToIntY R) (plumblineref03_FromInt : plumblineref03_FromIntY R) (plumblinelaw03_ConvInts_l0 : plumblinelaw03_ConvInts_l0Y R) (k n : Nat) (x1 : Int) (x2 : Int) (x3 : Int) (x4 : Int) (x5 : Bool) (x6 : Int) (x7 : Bool) (x8 : Int) (K : Kont R) :
    (fun C => codeK C (run C 4)) (mkCx Ty exts [(12, true, S12G plumblinelaw03_format k), (14, true, S14G plumblinelaw03_live k), (20, true, S20G conv_FromInt k), (34, true, S34G conv_ToInt k), (35, true, S35G plumblineref03_ToInt k), (36, true, S36G plumblineref03_FromInt k)] fi9 [] []) 0 fi9 (loopAt ((Try.f9).body.getD .skip) 5) [(0, .i .i64 x1), (1, .i .i64 x2), (7, .i .i64 x3), (8, .i .i64 x4), (9, .b x5), (10, .i .i64 x6), (11, .b x7), (12, .i .i64 x8)] ⟨0, []⟩ (fun ex T H => match (generalizing := false) ex with
      | .normal => normAt (some [0, 1, 7, 8, 9, 10, 11, 12]) 0 T H (fun T H => L9_5G plumblinelaw03_ConvInts_l0 k n 0 T H K)
      | ex => exitNorm fi9.ann 5 0 K ex T H) =
    plumblinelaw03_ConvInts_l0B conv_FromInt plumblineref03_FromInt k (fun x1 x2 x3 x4 x5 x6 x7 x8 => plumblinelaw03_ConvInts_l0 k n x1 x2 x3 x4 x5 x6 x7 x8 (fun q1 => K .ret [(6, .b q1)] ⟨0, []⟩) (K (.exit 0) [(8, .i .i64 x4), (9, .b x5), (10, .i .i64 x6), (11, .b x7)] ⟨0, []⟩)) x1 x2 x3 x4 x5 x6 x7 x8 (fun q1 => K .ret [(6, .b q1)] ⟨0, []⟩) (K (.exit 0) [(8, .i .i64 x4), (9, .b x5), (10, .i .i64 x6), (11, .b x7)] ⟨0, []⟩) := by kernel_rfl
theorem L9_5_cok {R : Type} (k : Nat) : CodeOk Try.prog (cx9_5 k : Cx R) fi9 (loopAt ((Try.f9).body.getD .skip) 5) := loopAt_ok (((cx9_5_ok k).fns 9 fi9 (by kernel_rfl)).2.2.2 ((Try.f9).body.getD .skip) (by kernel_rfl))
theorem L9_5_ok {R : Type} (k : Nat) : ∀ n, LoopOk Try.prog (Try.f9).ntmps (loopAt ((Try.f9).body.getD .skip) 5) (L9_5 k n : LSum R)
  | 0 => by
    intro pin T H K r h
    unfold L9_5 L9_5G at h
    split at h
    all_goals exact nomatch (show (none : Option R) = some r from h)
  | n + 1 => by
    intro pin T H K r h
    unfold L9_5 L9_5G at h
    split at h
    · obtain ⟨ex, T1, H1, h, hb⟩ := codeK_sound (cx9_5_ok k) (run_sound (cx9_5_ok k) 4) _ fi9 _ _ _ _ _ (L9_5_cok k) ((plumblinelaw03_ConvInts_l0_gen plumblinelaw03_format plumblinelaw03_live conv_FromInt conv_ToInt plumblineref03_ToInt plumblineref03_FromInt plumblinelaw03_ConvInts_l0 k n _ _ _ _ _ _ _ _ K).trans h)
      exact loop_step (fun T H hh => L9_5_ok k n _ T H K r hh) hb h
    · cases h
noncomputable def cx9 {R : Type} (k : Nat) : Cx R := mkCx Ty exts [(12, true, S12 k), (14, true, S14 k), (20, true, S20 k), (34, true, S34 k), (35, true, S35 k), (36, true, S36 k)] fi9 [(5, L9_5 k k)] []
theorem cx9_ok {R : Type} (k : Nat) : CxOk Try.prog (cx9 k : Cx R) := mkCx_ok (c := ((Try.f9).body.getD .skip)) ty_ok mixed exts_ok (allSum_cons (S12_ok k) en12 (allSum_cons (S14_ok k) en14 (allSum_cons (S20_ok k) en20 (allSum_cons (S34_ok k) en34 (allSum_cons (S35_ok k) en35 (allSum_cons (S36_ok k) en36 allSum_nil)))))) Try.func9 en9 (by kernel_rfl) (by kernel_rfl) (allLoop_loop (by kernel_rfl) (L9_5_ok k k) allLoop_nil) allCut_nil
@[reducible] def plumblinelaw03_ConvIntsY (R : Type) : Type := Nat → Int → Int → Int → (Bool → Option R) → Option R
noncomputable def plumblinelaw03_ConvIntsT {R : Type} (conv_ToInt : conv_ToIntY R) (plumblinelaw03_ConvInts_l0 : plumblinelaw03_ConvInts_l0Y R) (plumblinelaw03_format : plumblinelaw03_formatY R) (plumblinelaw03_live : plumblinelaw03_liveY R) (plumblineref03_ToInt : plumblineref03_ToIntY R) (k : Nat) (a1 : Int) (a2 : Int) (a3 : Int) (K0 : Bool → Option R) : Option R :=
  plumblinelaw03_format k a1 (fun r1 =>
    conv_ToInt k a1 a3 (fun r2 r3 =>
      plumblineref03_ToInt k r1 a3 (fun r4 r5 =>
        plumblinelaw03_ConvInts_l0 k k a1 a2 r1 r2 r3 r4 r5 0 (fun r6 =>
          K0 r6) (
          plumblinelaw03_live k (fun r7 =>
            cond r7 (
              cond (r2 == r4) (
                K0 (r3 == r5)) (
                K0 false)) (
              K0 false))))))
noncomputable def plumblinelaw03_ConvInts {R : Type} (k : Nat) (a1 : Int) (a2 : Int) (a3 : Int) (K0 : Bool → Option R) : Option R := plumblinelaw03_ConvIntsT conv_ToInt plumblinelaw03_ConvInts_l0 plumblinelaw03_format plumblinelaw03_live plumblineref03_ToInt k a1 a2 a3 K0
theorem plumblinelaw03_ConvInts_gen {R : Type} (plumblinelaw03_format : plumblinelaw03_formatY R) (plumblinelaw03_live : plumblinelaw03_liveY R) (conv_FromInt : conv_FromIntY R) (conv_ToInt : conv_ToIntY R) (plumblineref03_ToInt : plumblineref03_ToIntY R) (plumblineref03_FromInt : plumblineref03_FromIntY R) (plumblinelaw03_ConvInts_l0 : plumblinelaw03_ConvInts_l0Y R) (k : Nat) (a1 : Int) (a2 : Int) (a3 : Int) (K : AV → Heap → Option R) :
    fnK (mkCx Ty exts [(12, true, S12G plumblinelaw03_format k), (14, true, S14G plumblinelaw03_live k), (20, true, S20G conv_FromInt k), (34, true, S34G conv_ToInt k), (35, true, S35G plumblineref03_ToInt k), (36, true, S36G plumblineref03_FromInt k)] fi9 [(5, L9_5G plumblinelaw03_ConvInts_l0 k k)] []) 6 9 [.i .i64 a1, .i .i64 a2, .i .u64 a3] ⟨0, []⟩ K = plumblinelaw03_ConvIntsT conv_ToInt plumblinelaw03_ConvInts_l0 plumblinelaw03_format plumblinelaw03_live plumblineref03_ToInt k a1 a2 a3 (fun q1 => K (.b q1) ⟨0, []⟩) := by kernel_rfl
noncomputable def S9G {R : Type} (plumblinelaw03_ConvInts : plumblinelaw03_ConvIntsY R) (k : Nat) : Sum R := fun args H K => match args, H with
  | [.i .i64 a1, .i .i64 a2, .i .u64 a3], ⟨0, []⟩ => plumblinelaw03_ConvInts k a1 a2 a3 (fun q1 => K (.b q1) ⟨0, []⟩)
  | _, _ => none
noncomputable def S9 {R : Type} (k : Nat) : Sum R := S9G plumblinelaw03_ConvInts k
theorem S9_ok0 {R : Type} (k : Nat) : SumOk Try.prog 9 false (S9 k : Sum R) := by
  intro args H K r h
  unfold S9 S9G at h
  split at h
  · exact fnK_sound (cx9_ok k) 6 9 _ _ K r ((plumblinelaw03_ConvInts_gen plumblinelaw03_format plumblinelaw03_live conv_FromInt conv_ToInt plumblineref03_ToInt plumblineref03_FromInt plumblinelaw03_ConvInts_l0 k _ _ _ K).trans h)
  · cases h
theorem S9_ok {R : Type} (k : Nat) : SumOk Try.prog 9 true (S9 k : Sum R) := by
  refine sumOk_keep (S9_ok0 k) ?_
  intro args H K r h
  unfold S9 S9G at h ⊢
  split at h
  · refine Eq.trans ?_ h
    show plumblinelaw03_ConvInts k _ _ _ _ = plumblinelaw03_ConvInts k _ _ _ _
    congr 1
    all_goals first | exact (funext fun q1 => if_pos (keeps_app _ _ _ [])) | skip
  · cases h
end Go.Proofs.Ytelifkahdhhmoaa.N
