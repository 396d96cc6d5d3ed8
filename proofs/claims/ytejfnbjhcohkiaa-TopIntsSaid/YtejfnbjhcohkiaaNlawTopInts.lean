/- Printed by wip/gen/emit.py: functions of the program as plain Lean functions, tied to the model by the evaluator. Conditions: none. -/
import Derived.Test.YtejfnbjhcohkiaaNconv
import Derived.Test.YtejfnbjhcohkiaaNsoft
namespace Go.Proofs.Ytejfnbjhcohkiaa.N
set_option linter.unusedVariables false
set_option maxRecDepth 100000
open Go Go.Ab
-- function 7: plumbline/plumblinetop.TopInts
noncomputable def fi7 : FnI := ⟨7, Try.f7, [(100005, [7, 8, 9]), (2000005, [4]), (3005000, [])]⟩
theorem en7 : Enters Try.prog 7 := enters_of Try.func7 (c := ((Try.f7).body.getD .skip)) (by kernel_rfl) (by kernel_rfl)
@[reducible] def plumblinetop_TopInts_l0Y (R : Type) : Type := Nat → Nat → Int → (List Int) → (List Int) → (Bool → Option R) → (Option R) → Option R
noncomputable def plumblinetop_TopInts_l0B {R : Type} (conv_FromInt : conv_FromIntY R) (conv_Plain : conv_PlainY R) (conv_ToInt : conv_ToIntY R) (k : Nat) (rec : Int → (List Int) → (List Int) → Option R) (x1 : Int) (x2 : List Int) (x3 : List Int) (K0 : Bool → Option R) (K1 : Option R) : Option R :=
  cond (decide (x1 < 3)) (
    cond (decide (0 ≤ x1)) (
      cond (decide (x1 < (((List.length x2) : Nat) : Int))) (
        Option.bind (x2[(Int.toNat x1)]?) fun ye1 =>
        conv_ToInt k 0 ye1 (fun yr2 yr3 =>
          cond (decide (0 ≤ x1)) (
            cond (decide (x1 < (((List.length x3) : Nat) : Int))) (
              Option.bind (x3[(Int.toNat x1)]?) fun ye4 =>
              cond (decide (ye4 ≥ (-2147483648))) (
                cond (decide (0 ≤ x1)) (
                  cond (decide (x1 < (((List.length x3) : Nat) : Int))) (
                    Option.bind (x3[(Int.toNat x1)]?) fun ye5 =>
                    cond (!(yr3 == (decide (ye5 ≤ 2147483647)))) (
                      K0 false) (
                      cond (decide (ye5 ≤ 2147483647)) (
                        cond (decide (0 ≤ x1)) (
                          cond (decide (x1 < (((List.length x3) : Nat) : Int))) (
                            Option.bind (x3[(Int.toNat x1)]?) fun ye6 =>
                            cond (yr2 != ye6) (
                              K0 false) (
                              cond (decide (0 ≤ x1)) (
                                cond (decide (x1 < (((List.length x2) : Nat) : Int))) (
                                  Option.bind (x2[(Int.toNat x1)]?) fun ye7 =>
                                  conv_Plain k 0 ye7 (fun yr8 =>
                                    cond (decide (0 ≤ x1)) (
                                      cond (decide (x1 < (((List.length x3) : Nat) : Int))) (
                                        Option.bind (x3[(Int.toNat x1)]?) fun ye9 =>
                                        conv_FromInt k 0 0 ye9 (fun yr10 =>
                                          cond (yr8 != yr10) (
                                            K0 false) (
                                            rec (Wi64 (x1 + 1)) x2 x3))) (
                                        none)) (
                                      none))) (
                                  none)) (
                                none))) (
                            none)) (
                          none)) (
                        cond (decide (0 ≤ x1)) (
                          cond (decide (x1 < (((List.length x2) : Nat) : Int))) (
                            Option.bind (x2[(Int.toNat x1)]?) fun ye11 =>
                            conv_Plain k 0 ye11 (fun yr12 =>
                              cond (decide (0 ≤ x1)) (
                                cond (decide (x1 < (((List.length x3) : Nat) : Int))) (
                                  Option.bind (x3[(Int.toNat x1)]?) fun ye13 =>
                                  conv_FromInt k 0 0 ye13 (fun yr14 =>
                                    cond (yr12 != yr14) (
                                      K0 false) (
                                      rec (Wi64 (x1 + 1)) x2 x3))) (
                                  none)) (
                                none))) (
                            none)) (
                          none)))) (
                    none)) (
                  none)) (
                cond (!(yr3 == false)) (
                  K0 false) (
                  cond (decide (0 ≤ x1)) (
                    cond (decide (x1 < (((List.length x2) : Nat) : Int))) (
                      Option.bind (x2[(Int.toNat x1)]?) fun ye15 =>
                      conv_Plain k 0 ye15 (fun yr16 =>
                        cond (decide (0 ≤ x1)) (
                          cond (decide (x1 < (((List.length x3) : Nat) : Int))) (
                            Option.bind (x3[(Int.toNat x1)]?) fun ye17 =>
                            conv_FromInt k 0 0 ye17 (fun yr18 =>
                              cond (yr16 != yr18) (
                                K0 false) (
                                rec (Wi64 (x1 + 1)) x2 x3))) (
                            none)) (
                          none))) (
                      none)) (
                    none)))) (
              none)) (
            none))) (
        none)) (
      none)) (
    K1)
noncomputable def plumblinetop_TopInts_l0 {R : Type} (k : Nat) : Nat → Int → (List Int) → (List Int) → (Bool → Option R) → (Option R) → Option R
  | 0, _, _, _, _, _ => none
  | n + 1, x1, x2, x3, K0, K1 => plumblinetop_TopInts_l0B conv_FromInt conv_Plain conv_ToInt k (fun x1 x2 x3 => plumblinetop_TopInts_l0 k n x1 x2 x3 K0 K1) x1 x2 x3 K0 K1
noncomputable def cx7_5 {R : Type} (k : Nat) : Cx R := mkCx Ty exts [(27, true, S27 k), (28, true, S28 k), (29, true, S29 k), (30, true, S30 k), (31, true, S31 k), (32, true, S32 k)] fi7 [] []
theorem cx7_5_ok {R : Type} (k : Nat) : CxOk Try.prog (cx7_5 k : Cx R) := mkCx_ok (c := ((Try.f7).body.getD .skip)) ty_ok mixed exts_ok (allSum_cons (S27_ok k) en27 (allSum_cons (S28_ok k) en28 (allSum_cons (S29_ok k) en29 (allSum_cons (S30_ok k) en30 (allSum_cons (S31_ok k) en31 (allSum_cons (S32_ok k) en32 allSum_nil)))))) Try.func7 en7 (by kernel_rfl) (by kernel_rfl) allLoop_nil allCut_nil
noncomputable def L7_5G {R : Type} (plumblinetop_TopInts_l0 : plumblinetop_TopInts_l0Y R) (k n : Nat) : LSum R := fun pin T H K => match pin, T, H with
  | 0, [(7, .sw 0), (8, .sw 1), (9, .i .i64 x1)], ⟨2, [(0, some ⟨0, false, .row [.i .u64] x2⟩), (1, some ⟨1, false, .row [.i .i64] x3⟩)]⟩ => plumblinetop_TopInts_l0 k n x1 x2 x3 (fun q1 => K .ret [(4, .b q1)] ⟨0, []⟩) (K (.exit 0) [] ⟨0, []⟩)
  | _, _, _ => none
noncomputable def L7_5 {R : Type} (k n : Nat) : LSum R := L7_5G plumblinetop_TopInts_l0 k n
theorem plumblinetop_TopInts_l0_gen {R : Type} (soft_Mul : soft_MulY R) (conv_FromInt : conv_FromIntY R) (soft_Add : soft_AddY R) (soft_Sub : soft_SubY R) (conv_ToInt : conv_ToIntY R) (conv_Plain : conv_PlainY R) (plumblinetop_TopInts_l0 : plumblinetop_TopInts_l0Y R) (k n : Nat) (x1 : Int) (x2 : List Int) (x3 : List Int) (K : Kont R) :
    (fun C => codeK C (run C 4)) (mkCx Ty exts [(27, true, S27G soft_Mul k), (28, true, S28G conv_FromInt k), (29, true, S29G soft_Add k), (30, true, S30G soft_Sub k), (31, true, S31G conv_ToInt k), (32, true, S32G conv_Plain k)] fi7 [] []) 0 fi7 (loopAt ((Try.f7).body.getD .skip) 5) [(7, .sw 0), (8, .sw 1), (9, .i .i64 x1)] ⟨2, [(0, some ⟨0, false, .row [.i .u64] x2⟩), (1, some ⟨1, false, .row [.i .i64] x3⟩)]⟩ (fun ex T H => match (generalizing := false) ex with
      | .normal => normAt (some [7, 8, 9]) 0 T H (fun T H => L7_5G plumblinetop_TopInts_l0 k n 0 T H K)
      | ex => exitNorm fi7.ann 5 0 K ex T H) =
    plumblinetop_TopInts_l0B conv_FromInt conv_Plain conv_ToInt k (fun x1 x2 x3 => plumblinetop_TopInts_l0 k n x1 x2 x3 (fun q1 => K .ret [(4, .b q1)] ⟨0, []⟩) (K (.exit 0) [] ⟨0, []⟩)) x1 x2 x3 (fun q1 => K .ret [(4, .b q1)] ⟨0, []⟩) (K (.exit 0) [] ⟨0, []⟩) := by kernel_rfl
theorem L7_5_cok {R : Type} (k : Nat) : CodeOk Try.prog (cx7_5 k : Cx R) fi7 (loopAt ((Try.f7).body.getD .skip) 5) := loopAt_ok (((cx7_5_ok k).fns 7 fi7 (by kernel_rfl)).2.2.2 ((Try.f7).body.getD .skip) (by kernel_rfl))
theorem L7_5_ok {R : Type} (k : Nat) : ∀ n, LoopOk Try.prog (Try.f7).ntmps (loopAt ((Try.f7).body.getD .skip) 5) (L7_5 k n : LSum R)
  | 0 => by
    intro pin T H K r h
    unfold L7_5 L7_5G at h
    split at h
    all_goals exact nomatch (show (none : Option R) = some r from h)
  | n + 1 => by
    intro pin T H K r h
    unfold L7_5 L7_5G at h
    split at h
    · obtain ⟨ex, T1, H1, h, hb⟩ := codeK_sound (cx7_5_ok k) (run_sound (cx7_5_ok k) 4) _ fi7 _ _ _ _ _ (L7_5_cok k) ((plumblinetop_TopInts_l0_gen soft_Mul conv_FromInt soft_Add soft_Sub conv_ToInt conv_Plain plumblinetop_TopInts_l0 k n _ _ _ K).trans h)
      exact loop_step (fun T H hh => L7_5_ok k n _ T H K r hh) hb h
    · cases h
noncomputable def cx7 {R : Type} (k : Nat) : Cx R := mkCx Ty exts [(27, true, S27 k), (28, true, S28 k), (29, true, S29 k), (30, true, S30 k), (31, true, S31 k), (32, true, S32 k)] fi7 [(5, L7_5 k k)] []
theorem cx7_ok {R : Type} (k : Nat) : CxOk Try.prog (cx7 k : Cx R) := mkCx_ok (c := ((Try.f7).body.getD .skip)) ty_ok mixed exts_ok (allSum_cons (S27_ok k) en27 (allSum_cons (S28_ok k) en28 (allSum_cons (S29_ok k) en29 (allSum_cons (S30_ok k) en30 (allSum_cons (S31_ok k) en31 (allSum_cons (S32_ok k) en32 allSum_nil)))))) Try.func7 en7 (by kernel_rfl) (by kernel_rfl) (allLoop_loop (by kernel_rfl) (L7_5_ok k k) allLoop_nil) allCut_nil
@[reducible] def plumblinetop_TopIntsY (R : Type) : Type := Nat → Int → Int → (Bool → Option R) → Option R
noncomputable def plumblinetop_TopIntsT {R : Type} (conv_FromInt : conv_FromIntY R) (plumblinetop_TopInts_l0 : plumblinetop_TopInts_l0Y R) (soft_Add : soft_AddY R) (soft_Mul : soft_MulY R) (soft_Sub : soft_SubY R) (k : Nat) (a1 : Int) (a2 : Int) (K0 : Bool → Option R) : Option R :=
  conv_FromInt k 0 0 (Wi64 a1) (fun r1 =>
    conv_FromInt k 0 0 (Wi64 a2) (fun r2 =>
      soft_Add k 0 0 r1 r2 (fun r3 =>
        soft_Sub k 0 0 r1 r2 (fun r4 =>
          conv_FromInt k 0 0 (Wi64 (Wi16 a1)) (fun r5 =>
            conv_FromInt k 0 0 (Wi64 (Wi16 a2)) (fun r6 =>
              soft_Mul k 0 0 r5 r6 (fun r7 =>
                plumblinetop_TopInts_l0 k k 0 [r3, r4, r7] [(Wi64 ((Wi64 a1) + (Wi64 a2))), (Wi64 ((Wi64 a1) - (Wi64 a2))), (Wi64 ((Wi64 (Wi16 a1)) * (Wi64 (Wi16 a2))))] (fun r8 =>
                  K0 r8) (
                  K0 true))))))))
noncomputable def plumblinetop_TopInts {R : Type} (k : Nat) (a1 : Int) (a2 : Int) (K0 : Bool → Option R) : Option R := plumblinetop_TopIntsT conv_FromInt plumblinetop_TopInts_l0 soft_Add soft_Mul soft_Sub k a1 a2 K0
theorem plumblinetop_TopInts_gen {R : Type} (soft_Mul : soft_MulY R) (conv_FromInt : conv_FromIntY R) (soft_Add : soft_AddY R) (soft_Sub : soft_SubY R) (conv_ToInt : conv_ToIntY R) (conv_Plain : conv_PlainY R) (plumblinetop_TopInts_l0 : plumblinetop_TopInts_l0Y R) (k : Nat) (a1 : Int) (a2 : Int) (K : AV → Heap → Option R) :
    fnK (mkCx Ty exts [(27, true, S27G soft_Mul k), (28, true, S28G conv_FromInt k), (29, true, S29G soft_Add k), (30, true, S30G soft_Sub k), (31, true, S31G conv_ToInt k), (32, true, S32G conv_Plain k)] fi7 [(5, L7_5G plumblinetop_TopInts_l0 k k)] []) 6 7 [.i .i32 a1, .i .i32 a2] ⟨0, []⟩ K = plumblinetop_TopIntsT conv_FromInt plumblinetop_TopInts_l0 soft_Add soft_Mul soft_Sub k a1 a2 (fun q1 => K (.b q1) ⟨0, []⟩) := by kernel_rfl
noncomputable def S7G {R : Type} (plumblinetop_TopInts : plumblinetop_TopIntsY R) (k : Nat) : Sum R := fun args H K => match args, H with
  | [.i .i32 a1, .i .i32 a2], ⟨0, []⟩ => plumblinetop_TopInts k a1 a2 (fun q1 => K (.b q1) ⟨0, []⟩)
  | _, _ => none
noncomputable def S7 {R : Type} (k : Nat) : Sum R := S7G plumblinetop_TopInts k
theorem S7_ok0 {R : Type} (k : Nat) : SumOk Try.prog 7 false (S7 k : Sum R) := by
  intro args H K r h
  unfold S7 S7G at h
  split at h
  · exact fnK_sound (cx7_ok k) 6 7 _ _ K r ((plumblinetop_TopInts_gen soft_Mul conv_FromInt soft_Add soft_Sub conv_ToInt conv_Plain plumblinetop_TopInts_l0 k _ _ K).trans h)
  · cases h
theorem S7_ok {R : Type} (k : Nat) : SumOk Try.prog 7 true (S7 k : Sum R) := by
  refine sumOk_keep (S7_ok0 k) ?_
  intro args H K r h
  unfold S7 S7G at h ⊢
  split at h
  · refine Eq.trans ?_ h
    show plumblinetop_TopInts k _ _ _ = plumblinetop_TopInts k _ _ _
    exact congrArg (plumblinetop_TopInts k _ _) (funext fun q1 => if_pos (keeps_app _ _ _ []))
  · cases h
end Go.Proofs.Ytejfnbjhcohkiaa.N
