/- Printed by wip/gen/emit.py: functions of the program as plain Lean functions, tied to the model by the evaluator. Conditions: none. -/
import Derived.Test.YtejfnbjhcohkiaaNspan
namespace Go.Proofs.Ytejfnbjhcohkiaa.N
set_option linter.unusedVariables false
set_option maxRecDepth 100000
open Go Go.Ab
-- function 10: plumbline/octagon.New
noncomputable def fi10 : FnI := ⟨10, Try.f10, [(100005, [3, 19, 20]), (100008, [3, 4, 19, 20, 26, 27]), (3005000, [3]), (3008002, [3, 19, 20])]⟩
theorem en10 : Enters Try.prog 10 := enters_of Try.func10 (c := ((Try.f10).body.getD .skip)) (by kernel_rfl) (by kernel_rfl)
@[reducible] def octagon_New_l0Y (R : Type) : Type := Nat → Nat → Int → Int → Int → Int → Int → Int → (List Int) → Bool → ((List Int) → Option R) → Option R
noncomputable def octagon_New_l0B {R : Type} (k : Nat) (rec : Int → Int → Int → Int → Int → Int → (List Int) → Bool → Option R) (x1 : Int) (x2 : Int) (x3 : Int) (x4 : Int) (x5 : Int) (x6 : Int) (x7 : List Int) (x8 : Bool) (K0 : (List Int) → Option R) : Option R :=
  cond (decide (x5 < x4)) (
    cond (x5 != (bXor .i64 x1 1)) (
      cond (decide (0 ≤ x1)) (
        cond (decide (x1 < 16)) (
          cond (decide (0 ≤ x5)) (
            cond (decide (x5 < 16)) (
              Option.bind (x7[((((Int.toNat x1) * 16) + 0) + (Int.toNat x5))]?) fun yye1 =>
              rec x1 x2 x3 x4 (Wi64 (x5 + 1)) x6 (List.set x7 ((((Int.toNat x1) * 16) + 0) + (Int.toNat x5)) 17179869184) x8) (
              none)) (
            none)) (
          none)) (
        none)) (
      rec x1 x2 x3 x4 (Wi64 (x5 + 1)) x6 x7 x8)) (
    K0 x7)
noncomputable def octagon_New_l0 {R : Type} (k : Nat) : Nat → Int → Int → Int → Int → Int → Int → (List Int) → Bool → ((List Int) → Option R) → Option R
  | 0, _, _, _, _, _, _, _, _, _ => none
  | n + 1, x1, x2, x3, x4, x5, x6, x7, x8, K0 => octagon_New_l0B k (fun x1 x2 x3 x4 x5 x6 x7 x8 => octagon_New_l0 k n x1 x2 x3 x4 x5 x6 x7 x8 K0) x1 x2 x3 x4 x5 x6 x7 x8 K0
noncomputable def cx10_8 {R : Type} (k : Nat) : Cx R := mkCx Ty exts [] fi10 [] []
theorem cx10_8_ok {R : Type} (k : Nat) : CxOk Try.prog (cx10_8 k : Cx R) := mkCx_ok (c := ((Try.f10).body.getD .skip)) ty_ok mixed exts_ok allSum_nil Try.func10 en10 (by kernel_rfl) (by kernel_rfl) allLoop_nil allCut_nil
noncomputable def L10_8G {R : Type} (octagon_New_l0 : octagon_New_l0Y R) (k n : Nat) : LSum R := fun pin T H K => match pin, T, H with
  | 0, [(3, .ptr 0 0 0 0 0), (4, .i .i64 x1), (19, .i .i64 x2), (20, .i .i64 x3), (26, .i .i64 x4), (27, .i .i64 x5)], ⟨1, [(0, some ⟨0, false, .mix [.i .i64 x6] [.i .i64] 256 x7 [.b x8]⟩)]⟩ => octagon_New_l0 k n x1 x2 x3 x4 x5 x6 x7 x8 (fun q4 => K (.exit 2) [(3, .ptr 0 0 0 0 0), (19, .i .i64 x2), (20, .i .i64 x3)] ⟨1, [(0, some ⟨0, false, .mix [.i .i64 x6] [.i .i64] 256 q4 [.b x8]⟩)]⟩)
  | _, _, _ => none
noncomputable def L10_8 {R : Type} (k n : Nat) : LSum R := L10_8G octagon_New_l0 k n
theorem octagon_New_l0_gen {R : Type} (octagon_New_l0 : octagon_New_l0Y R) (k n : Nat) (x1 : Int) (x2 : Int) (x3 : Int) (x4 : Int) (x5 : Int) (x6 : Int) (x7 : List Int) (x8 : Bool) (K : Kont R) :
    (fun C => codeK C (run C 4)) (mkCx Ty exts [] fi10 [] []) 0 fi10 (loopAt ((Try.f10).body.getD .skip) 8) [(3, .ptr 0 0 0 0 0), (4, .i .i64 x1), (19, .i .i64 x2), (20, .i .i64 x3), (26, .i .i64 x4), (27, .i .i64 x5)] ⟨1, [(0, some ⟨0, false, .mix [.i .i64 x6] [.i .i64] 256 x7 [.b x8]⟩)]⟩ (fun ex T H => match (generalizing := false) ex with
      | .normal => normAt (some [3, 4, 19, 20, 26, 27]) 0 T H (fun T H => L10_8G octagon_New_l0 k n 0 T H K)
      | ex => exitNorm fi10.ann 8 0 K ex T H) =
    octagon_New_l0B k (fun x1 x2 x3 x4 x5 x6 x7 x8 => octagon_New_l0 k n x1 x2 x3 x4 x5 x6 x7 x8 (fun q4 => K (.exit 2) [(3, .ptr 0 0 0 0 0), (19, .i .i64 x2), (20, .i .i64 x3)] ⟨1, [(0, some ⟨0, false, .mix [.i .i64 x6] [.i .i64] 256 q4 [.b x8]⟩)]⟩)) x1 x2 x3 x4 x5 x6 x7 x8 (fun q4 => K (.exit 2) [(3, .ptr 0 0 0 0 0), (19, .i .i64 x2), (20, .i .i64 x3)] ⟨1, [(0, some ⟨0, false, .mix [.i .i64 x6] [.i .i64] 256 q4 [.b x8]⟩)]⟩) := by kernel_rfl
theorem L10_8_cok {R : Type} (k : Nat) : CodeOk Try.prog (cx10_8 k : Cx R) fi10 (loopAt ((Try.f10).body.getD .skip) 8) := loopAt_ok (((cx10_8_ok k).fns 10 fi10 (by kernel_rfl)).2.2.2 ((Try.f10).body.getD .skip) (by kernel_rfl))
theorem L10_8_ok {R : Type} (k : Nat) : ∀ n, LoopOk Try.prog (Try.f10).ntmps (loopAt ((Try.f10).body.getD .skip) 8) (L10_8 k n : LSum R)
  | 0 => by
    intro pin T H K r h
    unfold L10_8 L10_8G at h
    split at h
    all_goals exact nomatch (show (none : Option R) = some r from h)
  | n + 1 => by
    intro pin T H K r h
    unfold L10_8 L10_8G at h
    split at h
    · obtain ⟨ex, T1, H1, h, hb⟩ := codeK_sound (cx10_8_ok k) (run_sound (cx10_8_ok k) 4) _ fi10 _ _ _ _ _ (L10_8_cok k) ((octagon_New_l0_gen octagon_New_l0 k n _ _ _ _ _ _ _ _ K).trans h)
      exact loop_step (fun T H hh => L10_8_ok k n _ T H K r hh) hb h
    · cases h
@[reducible] def octagon_New_l1Y (R : Type) : Type := Nat → Nat → Int → Int → Int → (List Int) → Bool → ((List Int) → Option R) → Option R
noncomputable def octagon_New_l1B {R : Type} (octagon_New_l0 : octagon_New_l0Y R) (k : Nat) (rec : Int → Int → Int → (List Int) → Bool → Option R) (x1 : Int) (x2 : Int) (x3 : Int) (x4 : List Int) (x5 : Bool) (K0 : (List Int) → Option R) : Option R :=
  cond (decide (x2 < x1)) (
    octagon_New_l0 k k x2 x1 x2 x3 0 x3 x4 x5 (fun yr1 =>
      rec x1 (Wi64 (x2 + 1)) x3 yr1 x5)) (
    K0 x4)
noncomputable def octagon_New_l1 {R : Type} (k : Nat) : Nat → Int → Int → Int → (List Int) → Bool → ((List Int) → Option R) → Option R
  | 0, _, _, _, _, _, _ => none
  | n + 1, x1, x2, x3, x4, x5, K0 => octagon_New_l1B octagon_New_l0 k (fun x1 x2 x3 x4 x5 => octagon_New_l1 k n x1 x2 x3 x4 x5 K0) x1 x2 x3 x4 x5 K0
noncomputable def cx10_5 {R : Type} (k : Nat) : Cx R := mkCx Ty exts [] fi10 [(8, L10_8 k k)] []
theorem cx10_5_ok {R : Type} (k : Nat) : CxOk Try.prog (cx10_5 k : Cx R) := mkCx_ok (c := ((Try.f10).body.getD .skip)) ty_ok mixed exts_ok allSum_nil Try.func10 en10 (by kernel_rfl) (by kernel_rfl) (allLoop_loop (by kernel_rfl) (L10_8_ok k k) allLoop_nil) allCut_nil
noncomputable def L10_5G {R : Type} (octagon_New_l1 : octagon_New_l1Y R) (k n : Nat) : LSum R := fun pin T H K => match pin, T, H with
  | 0, [(3, .ptr 0 0 0 0 0), (19, .i .i64 x1), (20, .i .i64 x2)], ⟨1, [(0, some ⟨0, false, .mix [.i .i64 x3] [.i .i64] 256 x4 [.b x5]⟩)]⟩ => octagon_New_l1 k n x1 x2 x3 x4 x5 (fun q2 => K (.exit 0) [(3, .ptr 0 0 0 0 0)] ⟨1, [(0, some ⟨0, false, .mix [.i .i64 x3] [.i .i64] 256 q2 [.b x5]⟩)]⟩)
  | _, _, _ => none
noncomputable def L10_5 {R : Type} (k n : Nat) : LSum R := L10_5G octagon_New_l1 k n
theorem octagon_New_l1_gen {R : Type} (octagon_New_l0 : octagon_New_l0Y R) (octagon_New_l1 : octagon_New_l1Y R) (k n : Nat) (x1 : Int) (x2 : Int) (x3 : Int) (x4 : List Int) (x5 : Bool) (K : Kont R) :
    (fun C => codeK C (run C 4)) (mkCx Ty exts [] fi10 [(8, L10_8G octagon_New_l0 k k)] []) 0 fi10 (loopAt ((Try.f10).body.getD .skip) 5) [(3, .ptr 0 0 0 0 0), (19, .i .i64 x1), (20, .i .i64 x2)] ⟨1, [(0, some ⟨0, false, .mix [.i .i64 x3] [.i .i64] 256 x4 [.b x5]⟩)]⟩ (fun ex T H => match (generalizing := false) ex with
      | .normal => normAt (some [3, 19, 20]) 0 T H (fun T H => L10_5G octagon_New_l1 k n 0 T H K)
      | ex => exitNorm fi10.ann 5 0 K ex T H) =
    octagon_New_l1B octagon_New_l0 k (fun x1 x2 x3 x4 x5 => octagon_New_l1 k n x1 x2 x3 x4 x5 (fun q2 => K (.exit 0) [(3, .ptr 0 0 0 0 0)] ⟨1, [(0, some ⟨0, false, .mix [.i .i64 x3] [.i .i64] 256 q2 [.b x5]⟩)]⟩)) x1 x2 x3 x4 x5 (fun q2 => K (.exit 0) [(3, .ptr 0 0 0 0 0)] ⟨1, [(0, some ⟨0, false, .mix [.i .i64 x3] [.i .i64] 256 q2 [.b x5]⟩)]⟩) := by kernel_rfl
theorem L10_5_cok {R : Type} (k : Nat) : CodeOk Try.prog (cx10_5 k : Cx R) fi10 (loopAt ((Try.f10).body.getD .skip) 5) := loopAt_ok (((cx10_5_ok k).fns 10 fi10 (by kernel_rfl)).2.2.2 ((Try.f10).body.getD .skip) (by kernel_rfl))
theorem L10_5_ok {R : Type} (k : Nat) : ∀ n, LoopOk Try.prog (Try.f10).ntmps (loopAt ((Try.f10).body.getD .skip) 5) (L10_5 k n : LSum R)
  | 0 => by
    intro pin T H K r h
    unfold L10_5 L10_5G at h
    split at h
    all_goals exact nomatch (show (none : Option R) = some r from h)
  | n + 1 => by
    intro pin T H K r h
    unfold L10_5 L10_5G at h
    split at h
    · obtain ⟨ex, T1, H1, h, hb⟩ := codeK_sound (cx10_5_ok k) (run_sound (cx10_5_ok k) 4) _ fi10 _ _ _ _ _ (L10_5_cok k) ((octagon_New_l1_gen octagon_New_l0 octagon_New_l1 k n _ _ _ _ _ K).trans h)
      exact loop_step (fun T H hh => L10_5_ok k n _ T H K r hh) hb h
    · cases h
noncomputable def cx10 {R : Type} (k : Nat) : Cx R := mkCx Ty exts [] fi10 [(8, L10_8 k k), (5, L10_5 k k)] []
theorem cx10_ok {R : Type} (k : Nat) : CxOk Try.prog (cx10 k : Cx R) := mkCx_ok (c := ((Try.f10).body.getD .skip)) ty_ok mixed exts_ok allSum_nil Try.func10 en10 (by kernel_rfl) (by kernel_rfl) (allLoop_loop (by kernel_rfl) (L10_8_ok k k) (allLoop_loop (by kernel_rfl) (L10_5_ok k k) allLoop_nil)) allCut_nil
@[reducible] def octagon_NewY (R : Type) : Type := Nat → Int → (Option R) → (Int → (List Int) → Bool → Option R) → Option R
noncomputable def octagon_NewT {R : Type} (octagon_New_l1 : octagon_New_l1Y R) (k : Nat) (a1 : Int) (K0 : Option R) (K1 : Int → (List Int) → Bool → Option R) : Option R :=
  cond (decide (a1 < 1)) (
    K0) (
    cond (decide (a1 > 8)) (
      K0) (
      octagon_New_l1 k k (Wi64 (2 * a1)) 0 (Wi64 (2 * a1)) (List.replicate 256 0) false (fun r1 =>
        K1 (Wi64 (2 * a1)) r1 false)))
noncomputable def octagon_New {R : Type} (k : Nat) (a1 : Int) (K0 : Option R) (K1 : Int → (List Int) → Bool → Option R) : Option R := octagon_NewT octagon_New_l1 k a1 K0 K1
theorem octagon_New_gen {R : Type} (octagon_New_l0 : octagon_New_l0Y R) (octagon_New_l1 : octagon_New_l1Y R) (k : Nat) (a1 : Int) (K : AV → Heap → Option R) :
    fnK (mkCx Ty exts [] fi10 [(8, L10_8G octagon_New_l0 k k), (5, L10_5G octagon_New_l1 k k)] []) 6 10 [.i .i64 a1] ⟨0, []⟩ K = octagon_NewT octagon_New_l1 k a1 (K .np ⟨0, []⟩) (fun q1 q2 q3 => K (.ptr 0 0 0 0 0) ⟨1, [(0, some ⟨0, false, .mix [.i .i64 q1] [.i .i64] 256 q2 [.b q3]⟩)]⟩) := by kernel_rfl
noncomputable def S10G {R : Type} (octagon_New : octagon_NewY R) (k : Nat) : Sum R := fun args H K => match args, H with
  | [.i .i64 a1], ⟨0, []⟩ => octagon_New k a1 (K .np ⟨0, []⟩) (fun q1 q2 q3 => K (.ptr 0 0 0 0 0) ⟨1, [(0, some ⟨0, false, .mix [.i .i64 q1] [.i .i64] 256 q2 [.b q3]⟩)]⟩)
  | _, _ => none
noncomputable def S10 {R : Type} (k : Nat) : Sum R := S10G octagon_New k
theorem S10_ok0 {R : Type} (k : Nat) : SumOk Try.prog 10 false (S10 k : Sum R) := by
  intro args H K r h
  unfold S10 S10G at h
  split at h
  · exact fnK_sound (cx10_ok k) 6 10 _ _ K r ((octagon_New_gen octagon_New_l0 octagon_New_l1 k _ K).trans h)
  · cases h
theorem S10_ok {R : Type} (k : Nat) : SumOk Try.prog 10 true (S10 k : Sum R) := by
  refine sumOk_keep (S10_ok0 k) ?_
  intro args H K r h
  unfold S10 S10G at h ⊢
  split at h
  · refine Eq.trans ?_ h
    show octagon_New k _ _ _ = octagon_New k _ _ _
    congr 1
    all_goals first | exact (if_pos (keeps_app _ _ _ [])) | skip
    all_goals first | exact (funext fun q1 => funext fun q2 => funext fun q3 => if_pos (keeps_app _ _ _ [(0, some ⟨0, false, .mix [.i .i64 q1] [.i .i64] 256 q2 [.b q3]⟩)])) | skip
  · cases h
-- function 41: (*plumbline/octagon.Oct).has
noncomputable def fi41 : FnI := ⟨41, Try.f41, []⟩
theorem en41 : Enters Try.prog 41 := enters_of Try.func41 (c := ((Try.f41).body.getD .skip)) (by kernel_rfl) (by kernel_rfl)
noncomputable def cx41 {R : Type} (k : Nat) : Cx R := mkCx Ty exts [] fi41 [] []
theorem cx41_ok {R : Type} (k : Nat) : CxOk Try.prog (cx41 k : Cx R) := mkCx_ok (c := ((Try.f41).body.getD .skip)) ty_ok mixed exts_ok allSum_nil Try.func41 en41 (by kernel_rfl) (by kernel_rfl) allLoop_nil allCut_nil
@[reducible] def octagon_Oct_has_n0Y (R : Type) : Type := Nat → Int → (Bool → Option R) → Option R
noncomputable def octagon_Oct_has_n0T {R : Type} (k : Nat) (a1 : Int) (K0 : Bool → Option R) : Option R :=
  K0 false
noncomputable def octagon_Oct_has_n0 {R : Type} (k : Nat) (a1 : Int) (K0 : Bool → Option R) : Option R := octagon_Oct_has_n0T k a1 K0
theorem octagon_Oct_has_n0_gen {R : Type} (k : Nat) (a1 : Int) (K : AV → Heap → Option R) :
    fnK (mkCx Ty exts [] fi41 [] []) 6 41 [.np, .i .i64 a1] ⟨0, []⟩ K = octagon_Oct_has_n0T k a1 (fun q1 => K (.b q1) ⟨0, []⟩) := by kernel_rfl
@[reducible] def octagon_Oct_hasY (R : Type) : Type := Nat → Int → Int → (List Int) → Bool → (Bool → Option R) → Option R
noncomputable def octagon_Oct_hasT {R : Type} (k : Nat) (a1 : Int) (a2 : Int) (a3 : List Int) (a4 : Bool) (K0 : Bool → Option R) : Option R :=
  cond (decide (a1 ≥ 0)) (
    K0 (decide (a1 < (Wi64 (Int.tdiv a2 2))))) (
    K0 false)
noncomputable def octagon_Oct_has {R : Type} (k : Nat) (a1 : Int) (a2 : Int) (a3 : List Int) (a4 : Bool) (K0 : Bool → Option R) : Option R := octagon_Oct_hasT k a1 a2 a3 a4 K0
theorem octagon_Oct_has_gen {R : Type} (k : Nat) (a1 : Int) (a2 : Int) (a3 : List Int) (a4 : Bool) (K : AV → Heap → Option R) :
    fnK (mkCx Ty exts [] fi41 [] []) 6 41 [.ptr 0 0 0 0 0, .i .i64 a1] ⟨1, [(0, some ⟨0, false, .mix [.i .i64 a2] [.i .i64] 256 a3 [.b a4]⟩)]⟩ K = octagon_Oct_hasT k a1 a2 a3 a4 (fun q1 => K (.b q1) ⟨1, [(0, some ⟨0, false, .mix [.i .i64 a2] [.i .i64] 256 a3 [.b a4]⟩)]⟩) := by kernel_rfl
noncomputable def S41G {R : Type} (octagon_Oct_has_n0 : octagon_Oct_has_n0Y R) (octagon_Oct_has : octagon_Oct_hasY R) (k : Nat) : Sum R := fun args H K => match args, H with
  | [.np, .i .i64 a1], ⟨0, []⟩ => octagon_Oct_has_n0 k a1 (fun q1 => K (.b q1) ⟨0, []⟩)
  | [.ptr 0 0 0 0 0, .i .i64 a1], ⟨1, [(0, some ⟨0, false, .mix [.i .i64 a2] [.i .i64] 256 a3 [.b a4]⟩)]⟩ => octagon_Oct_has k a1 a2 a3 a4 (fun q1 => K (.b q1) ⟨1, [(0, some ⟨0, false, .mix [.i .i64 a2] [.i .i64] 256 a3 [.b a4]⟩)]⟩)
  | _, _ => none
noncomputable def S41 {R : Type} (k : Nat) : Sum R := S41G octagon_Oct_has_n0 octagon_Oct_has k
theorem S41_ok0 {R : Type} (k : Nat) : SumOk Try.prog 41 false (S41 k : Sum R) := by
  intro args H K r h
  unfold S41 S41G at h
  split at h
  · exact fnK_sound (cx41_ok k) 6 41 _ _ K r ((octagon_Oct_has_n0_gen k _ K).trans h)
  · exact fnK_sound (cx41_ok k) 6 41 _ _ K r ((octagon_Oct_has_gen k _ _ _ _ K).trans h)
  · cases h
theorem S41_ok {R : Type} (k : Nat) : SumOk Try.prog 41 true (S41 k : Sum R) := by
  refine sumOk_keep (S41_ok0 k) ?_
  intro args H K r h
  unfold S41 S41G at h ⊢
  split at h
  · refine Eq.trans ?_ h
    show octagon_Oct_has_n0 k _ _ = octagon_Oct_has_n0 k _ _
    exact congrArg (octagon_Oct_has_n0 k _) (funext fun q1 => if_pos (keeps_app _ _ _ []))
  · refine Eq.trans ?_ h
    show octagon_Oct_has k _ _ _ _ _ = octagon_Oct_has k _ _ _ _ _
    exact congrArg (octagon_Oct_has k _ _ _ _) (funext fun q1 => if_pos (keeps_app _ _ _ []))
  · cases h
-- function 37: (*plumbline/octagon.Oct).may
noncomputable def fi37 : FnI := ⟨37, Try.f37, [(100004, [0, 1, 2, 13, 14, 15]), (2000004, [8]), (3004000, [1, 2])]⟩
theorem en37 : Enters Try.prog 37 := enters_of Try.func37 (c := ((Try.f37).body.getD .skip)) (by kernel_rfl) (by kernel_rfl)
@[reducible] def octagon_Oct_may_l0Y (R : Type) : Type := Nat → Nat → Int → Int → Int → Int → Int → (List Int) → Bool → (List Int) → (Int → Option R) → (Option R) → Option R
noncomputable def octagon_Oct_may_l0B {R : Type} (octagon_Oct_has : octagon_Oct_hasY R) (k : Nat) (rec : Int → Int → Int → Int → Int → (List Int) → Bool → (List Int) → Option R) (x1 : Int) (x2 : Int) (x3 : Int) (x4 : Int) (x5 : Int) (x6 : List Int) (x7 : Bool) (x8 : List Int) (K0 : Int → Option R) (K1 : Option R) : Option R :=
  cond (decide (x4 < x3)) (
    cond (decide (0 ≤ x4)) (
      cond (decide (x4 < (((List.length x8) : Nat) : Int))) (
        Option.bind (x8[(Int.toNat x4)]?) fun ye1 =>
        octagon_Oct_has k ye1 x5 x6 x7 (fun yr2 =>
          cond (!yr2) (
            K0 2) (
            rec x1 x2 x3 (Wi64 (x4 + 1)) x5 x6 x7 x8))) (
        none)) (
      none)) (
    K1)
noncomputable def octagon_Oct_may_l0 {R : Type} (k : Nat) : Nat → Int → Int → Int → Int → Int → (List Int) → Bool → (List Int) → (Int → Option R) → (Option R) → Option R
  | 0, _, _, _, _, _, _, _, _, _, _ => none
  | n + 1, x1, x2, x3, x4, x5, x6, x7, x8, K0, K1 => octagon_Oct_may_l0B octagon_Oct_has k (fun x1 x2 x3 x4 x5 x6 x7 x8 => octagon_Oct_may_l0 k n x1 x2 x3 x4 x5 x6 x7 x8 K0 K1) x1 x2 x3 x4 x5 x6 x7 x8 K0 K1
noncomputable def cx37_4 {R : Type} (k : Nat) : Cx R := mkCx Ty exts [(41, true, S41 k)] fi37 [] []
theorem cx37_4_ok {R : Type} (k : Nat) : CxOk Try.prog (cx37_4 k : Cx R) := mkCx_ok (c := ((Try.f37).body.getD .skip)) ty_ok mixed exts_ok (allSum_cons (S41_ok k) en41 allSum_nil) Try.func37 en37 (by kernel_rfl) (by kernel_rfl) allLoop_nil allCut_nil
noncomputable def L37_4G {R : Type} (octagon_Oct_may_l0 : octagon_Oct_may_l0Y R) (k n : Nat) : LSum R := fun pin T H K => match pin, T, H with
  | 2, [(0, .ptr 0 0 0 0 0), (1, .i .i64 x1), (2, .i .i64 x2), (13, .sw 1), (14, .i .i64 x3), (15, .i .i64 x4)], ⟨2, [(0, some ⟨0, false, .mix [.i .i64 x5] [.i .i64] 256 x6 [.b x7]⟩), (1, some ⟨1, false, .row [.i .i64] x8⟩)]⟩ => octagon_Oct_may_l0 k n x1 x2 x3 x4 x5 x6 x7 x8 (fun q1 => K .ret [(8, .i .i64 q1)] ⟨2, [(0, some ⟨0, false, .mix [.i .i64 x5] [.i .i64] 256 x6 [.b x7]⟩), (1, some ⟨1, false, .row [.i .i64] x8⟩)]⟩) (K (.exit 0) [(1, .i .i64 x1), (2, .i .i64 x2)] ⟨2, [(0, some ⟨0, false, .mix [.i .i64 x5] [.i .i64] 256 x6 [.b x7]⟩), (1, some ⟨1, false, .row [.i .i64] x8⟩)]⟩)
  | _, _, _ => none
noncomputable def L37_4 {R : Type} (k n : Nat) : LSum R := L37_4G octagon_Oct_may_l0 k n
theorem octagon_Oct_may_l0_gen {R : Type} (octagon_Oct_has_n0 : octagon_Oct_has_n0Y R) (octagon_Oct_has : octagon_Oct_hasY R) (octagon_Oct_may_l0 : octagon_Oct_may_l0Y R) (k n : Nat) (x1 : Int) (x2 : Int) (x3 : Int) (x4 : Int) (x5 : Int) (x6 : List Int) (x7 : Bool) (x8 : List Int) (K : Kont R) :
    (fun C => codeK C (run C 4)) (mkCx Ty exts [(41, true, S41G octagon_Oct_has_n0 octagon_Oct_has k)] fi37 [] []) 2 fi37 (loopAt ((Try.f37).body.getD .skip) 4) [(0, .ptr 0 0 0 0 0), (1, .i .i64 x1), (2, .i .i64 x2), (13, .sw 1), (14, .i .i64 x3), (15, .i .i64 x4)] ⟨2, [(0, some ⟨0, false, .mix [.i .i64 x5] [.i .i64] 256 x6 [.b x7]⟩), (1, some ⟨1, false, .row [.i .i64] x8⟩)]⟩ (fun ex T H => match (generalizing := false) ex with
      | .normal => normAt (some [0, 1, 2, 13, 14, 15]) 2 T H (fun T H => L37_4G octagon_Oct_may_l0 k n 2 T H K)
      | ex => exitNorm fi37.ann 4 2 K ex T H) =
    octagon_Oct_may_l0B octagon_Oct_has k (fun x1 x2 x3 x4 x5 x6 x7 x8 => octagon_Oct_may_l0 k n x1 x2 x3 x4 x5 x6 x7 x8 (fun q1 => K .ret [(8, .i .i64 q1)] ⟨2, [(0, some ⟨0, false, .mix [.i .i64 x5] [.i .i64] 256 x6 [.b x7]⟩), (1, some ⟨1, false, .row [.i .i64] x8⟩)]⟩) (K (.exit 0) [(1, .i .i64 x1), (2, .i .i64 x2)] ⟨2, [(0, some ⟨0, false, .mix [.i .i64 x5] [.i .i64] 256 x6 [.b x7]⟩), (1, some ⟨1, false, .row [.i .i64] x8⟩)]⟩)) x1 x2 x3 x4 x5 x6 x7 x8 (fun q1 => K .ret [(8, .i .i64 q1)] ⟨2, [(0, some ⟨0, false, .mix [.i .i64 x5] [.i .i64] 256 x6 [.b x7]⟩), (1, some ⟨1, false, .row [.i .i64] x8⟩)]⟩) (K (.exit 0) [(1, .i .i64 x1), (2, .i .i64 x2)] ⟨2, [(0, some ⟨0, false, .mix [.i .i64 x5] [.i .i64] 256 x6 [.b x7]⟩), (1, some ⟨1, false, .row [.i .i64] x8⟩)]⟩) := by kernel_rfl
theorem L37_4_cok {R : Type} (k : Nat) : CodeOk Try.prog (cx37_4 k : Cx R) fi37 (loopAt ((Try.f37).body.getD .skip) 4) := loopAt_ok (((cx37_4_ok k).fns 37 fi37 (by kernel_rfl)).2.2.2 ((Try.f37).body.getD .skip) (by kernel_rfl))
theorem L37_4_ok {R : Type} (k : Nat) : ∀ n, LoopOk Try.prog (Try.f37).ntmps (loopAt ((Try.f37).body.getD .skip) 4) (L37_4 k n : LSum R)
  | 0 => by
    intro pin T H K r h
    unfold L37_4 L37_4G at h
    split at h
    all_goals exact nomatch (show (none : Option R) = some r from h)
  | n + 1 => by
    intro pin T H K r h
    unfold L37_4 L37_4G at h
    split at h
    · obtain ⟨ex, T1, H1, h, hb⟩ := codeK_sound (cx37_4_ok k) (run_sound (cx37_4_ok k) 4) _ fi37 _ _ _ _ _ (L37_4_cok k) ((octagon_Oct_may_l0_gen octagon_Oct_has_n0 octagon_Oct_has octagon_Oct_may_l0 k n _ _ _ _ _ _ _ _ K).trans h)
      exact loop_step (fun T H hh => L37_4_ok k n _ T H K r hh) hb h
    · cases h
noncomputable def cx37 {R : Type} (k : Nat) : Cx R := mkCx Ty exts [(41, true, S41 k)] fi37 [(4, L37_4 k k)] []
theorem cx37_ok {R : Type} (k : Nat) : CxOk Try.prog (cx37 k : Cx R) := mkCx_ok (c := ((Try.f37).body.getD .skip)) ty_ok mixed exts_ok (allSum_cons (S41_ok k) en41 allSum_nil) Try.func37 en37 (by kernel_rfl) (by kernel_rfl) (allLoop_loop (by kernel_rfl) (L37_4_ok k k) allLoop_nil) allCut_nil
@[reducible] def octagon_Oct_may_n0Y (R : Type) : Type := Nat → Int → Int → (List Int) → (Int → Option R) → Option R
noncomputable def octagon_Oct_may_n0T {R : Type} (k : Nat) (a1 : Int) (a2 : Int) (a3 : List Int) (K0 : Int → Option R) : Option R :=
  K0 1
noncomputable def octagon_Oct_may_n0 {R : Type} (k : Nat) (a1 : Int) (a2 : Int) (a3 : List Int) (K0 : Int → Option R) : Option R := octagon_Oct_may_n0T k a1 a2 a3 K0
theorem octagon_Oct_may_n0_gen {R : Type} (octagon_Oct_has_n0 : octagon_Oct_has_n0Y R) (octagon_Oct_has : octagon_Oct_hasY R) (octagon_Oct_may_l0 : octagon_Oct_may_l0Y R) (k : Nat) (a1 : Int) (a2 : Int) (a3 : List Int) (K : AV → Heap → Option R) :
    fnK (mkCx Ty exts [(41, true, S41G octagon_Oct_has_n0 octagon_Oct_has k)] fi37 [(4, L37_4G octagon_Oct_may_l0 k k)] []) 6 37 [.np, .i .i64 a1, .i .i64 a2, .sw 0] ⟨1, [(0, some ⟨0, false, .row [.i .i64] a3⟩)]⟩ K = octagon_Oct_may_n0T k a1 a2 a3 (fun q1 => K (.i .i64 q1) ⟨1, [(0, some ⟨0, false, .row [.i .i64] a3⟩)]⟩) := by kernel_rfl
@[reducible] def octagon_Oct_mayY (R : Type) : Type := Nat → Int → Int → Int → (List Int) → Bool → (List Int) → (Int → Option R) → Option R
noncomputable def octagon_Oct_mayT {R : Type} (octagon_Oct_may_l0 : octagon_Oct_may_l0Y R) (k : Nat) (a1 : Int) (a2 : Int) (a3 : Int) (a4 : List Int) (a5 : Bool) (a6 : List Int) (K0 : Int → Option R) : Option R :=
  octagon_Oct_may_l0 k k a1 a2 (((List.length a6) : Nat) : Int) 0 a3 a4 a5 a6 (fun r1 =>
    K0 r1) (
    cond (decide (a2 < (Wi64 (0 - a1)))) (
      K0 2) (
      cond (decide (a2 > a1)) (
        K0 2) (
        K0 0)))
noncomputable def octagon_Oct_may {R : Type} (k : Nat) (a1 : Int) (a2 : Int) (a3 : Int) (a4 : List Int) (a5 : Bool) (a6 : List Int) (K0 : Int → Option R) : Option R := octagon_Oct_mayT octagon_Oct_may_l0 k a1 a2 a3 a4 a5 a6 K0
theorem octagon_Oct_may_gen {R : Type} (octagon_Oct_has_n0 : octagon_Oct_has_n0Y R) (octagon_Oct_has : octagon_Oct_hasY R) (octagon_Oct_may_l0 : octagon_Oct_may_l0Y R) (k : Nat) (a1 : Int) (a2 : Int) (a3 : Int) (a4 : List Int) (a5 : Bool) (a6 : List Int) (K : AV → Heap → Option R) :
    fnK (mkCx Ty exts [(41, true, S41G octagon_Oct_has_n0 octagon_Oct_has k)] fi37 [(4, L37_4G octagon_Oct_may_l0 k k)] []) 6 37 [.ptr 0 0 0 0 0, .i .i64 a1, .i .i64 a2, .sw 1] ⟨2, [(0, some ⟨0, false, .mix [.i .i64 a3] [.i .i64] 256 a4 [.b a5]⟩), (1, some ⟨1, false, .row [.i .i64] a6⟩)]⟩ K = octagon_Oct_mayT octagon_Oct_may_l0 k a1 a2 a3 a4 a5 a6 (fun q1 => K (.i .i64 q1) ⟨2, [(0, some ⟨0, false, .mix [.i .i64 a3] [.i .i64] 256 a4 [.b a5]⟩), (1, some ⟨1, false, .row [.i .i64] a6⟩)]⟩) := by kernel_rfl
noncomputable def S37G {R : Type} (octagon_Oct_may_n0 : octagon_Oct_may_n0Y R) (octagon_Oct_may : octagon_Oct_mayY R) (k : Nat) : Sum R := fun args H K => match args, H with
  | [.np, .i .i64 a1, .i .i64 a2, .sw 0], ⟨1, [(0, some ⟨0, false, .row [.i .i64] a3⟩)]⟩ => octagon_Oct_may_n0 k a1 a2 a3 (fun q1 => K (.i .i64 q1) ⟨1, [(0, some ⟨0, false, .row [.i .i64] a3⟩)]⟩)
  | [.ptr 0 0 0 0 0, .i .i64 a1, .i .i64 a2, .sw 1], ⟨2, [(0, some ⟨0, false, .mix [.i .i64 a3] [.i .i64] 256 a4 [.b a5]⟩), (1, some ⟨1, false, .row [.i .i64] a6⟩)]⟩ => octagon_Oct_may k a1 a2 a3 a4 a5 a6 (fun q1 => K (.i .i64 q1) ⟨2, [(0, some ⟨0, false, .mix [.i .i64 a3] [.i .i64] 256 a4 [.b a5]⟩), (1, some ⟨1, false, .row [.i .i64] a6⟩)]⟩)
  | _, _ => none
noncomputable def S37 {R : Type} (k : Nat) : Sum R := S37G octagon_Oct_may_n0 octagon_Oct_may k
theorem S37_ok0 {R : Type} (k : Nat) : SumOk Try.prog 37 false (S37 k : Sum R) := by
  intro args H K r h
  unfold S37 S37G at h
  split at h
  · exact fnK_sound (cx37_ok k) 6 37 _ _ K r ((octagon_Oct_may_n0_gen octagon_Oct_has_n0 octagon_Oct_has octagon_Oct_may_l0 k _ _ _ K).trans h)
  · exact fnK_sound (cx37_ok k) 6 37 _ _ K r ((octagon_Oct_may_gen octagon_Oct_has_n0 octagon_Oct_has octagon_Oct_may_l0 k _ _ _ _ _ _ K).trans h)
  · cases h
theorem S37_ok {R : Type} (k : Nat) : SumOk Try.prog 37 true (S37 k : Sum R) := by
  refine sumOk_keep (S37_ok0 k) ?_
  intro args H K r h
  unfold S37 S37G at h ⊢
  split at h
  · refine Eq.trans ?_ h
    show octagon_Oct_may_n0 k _ _ _ _ = octagon_Oct_may_n0 k _ _ _ _
    exact congrArg (octagon_Oct_may_n0 k _ _ _) (funext fun q1 => if_pos (keeps_app _ _ _ []))
  · refine Eq.trans ?_ h
    show octagon_Oct_may k _ _ _ _ _ _ _ = octagon_Oct_may k _ _ _ _ _ _ _
    exact congrArg (octagon_Oct_may k _ _ _ _ _ _) (funext fun q1 => if_pos (keeps_app _ _ _ []))
  · cases h
-- function 39: plumbline/octagon.node
noncomputable def fi39 : FnI := ⟨39, Try.f39, []⟩
theorem en39 : Enters Try.prog 39 := enters_of Try.func39 (c := ((Try.f39).body.getD .skip)) (by kernel_rfl) (by kernel_rfl)
noncomputable def cx39 {R : Type} (k : Nat) : Cx R := mkCx Ty exts [] fi39 [] []
theorem cx39_ok {R : Type} (k : Nat) : CxOk Try.prog (cx39 k : Cx R) := mkCx_ok (c := ((Try.f39).body.getD .skip)) ty_ok mixed exts_ok allSum_nil Try.func39 en39 (by kernel_rfl) (by kernel_rfl) allLoop_nil allCut_nil
@[reducible] def octagon_nodeY (R : Type) : Type := Nat → Int → Bool → (Int → Option R) → Option R
noncomputable def octagon_nodeT {R : Type} (k : Nat) (a1 : Int) (a2 : Bool) (K0 : Int → Option R) : Option R :=
  cond a2 (
    K0 (Wi64 ((Wi64 (2 * a1)) + 1))) (
    K0 (Wi64 (2 * a1)))
noncomputable def octagon_node {R : Type} (k : Nat) (a1 : Int) (a2 : Bool) (K0 : Int → Option R) : Option R := octagon_nodeT k a1 a2 K0
theorem octagon_node_gen {R : Type} (k : Nat) (a1 : Int) (a2 : Bool) (K : AV → Heap → Option R) :
    fnK (mkCx Ty exts [] fi39 [] []) 6 39 [.i .i64 a1, .b a2] ⟨0, []⟩ K = octagon_nodeT k a1 a2 (fun q1 => K (.i .i64 q1) ⟨0, []⟩) := by kernel_rfl
noncomputable def S39G {R : Type} (octagon_node : octagon_nodeY R) (k : Nat) : Sum R := fun args H K => match args, H with
  | [.i .i64 a1, .b a2], ⟨0, []⟩ => octagon_node k a1 a2 (fun q1 => K (.i .i64 q1) ⟨0, []⟩)
  | _, _ => none
noncomputable def S39 {R : Type} (k : Nat) : Sum R := S39G octagon_node k
theorem S39_ok0 {R : Type} (k : Nat) : SumOk Try.prog 39 false (S39 k : Sum R) := by
  intro args H K r h
  unfold S39 S39G at h
  split at h
  · exact fnK_sound (cx39_ok k) 6 39 _ _ K r ((octagon_node_gen k _ _ K).trans h)
  · cases h
theorem S39_ok {R : Type} (k : Nat) : SumOk Try.prog 39 true (S39 k : Sum R) := by
  refine sumOk_keep (S39_ok0 k) ?_
  intro args H K r h
  unfold S39 S39G at h ⊢
  split at h
  · refine Eq.trans ?_ h
    show octagon_node k _ _ _ = octagon_node k _ _ _
    exact congrArg (octagon_node k _ _) (funext fun q1 => if_pos (keeps_app _ _ _ []))
  · cases h
-- function 38: (*plumbline/octagon.Oct).let
noncomputable def fi38 : FnI := ⟨38, Try.f38, []⟩
theorem en38 : Enters Try.prog 38 := enters_of Try.func38 (c := ((Try.f38).body.getD .skip)) (by kernel_rfl) (by kernel_rfl)
noncomputable def cx38 {R : Type} (k : Nat) : Cx R := mkCx Ty exts [] fi38 [] []
theorem cx38_ok {R : Type} (k : Nat) : CxOk Try.prog (cx38 k : Cx R) := mkCx_ok (c := ((Try.f38).body.getD .skip)) ty_ok mixed exts_ok allSum_nil Try.func38 en38 (by kernel_rfl) (by kernel_rfl) allLoop_nil allCut_nil
@[reducible] def octagon_Oct_let_n0Y (R : Type) : Type := Nat → Int → Int → Int → Option R
noncomputable def octagon_Oct_let_n0T {R : Type} (k : Nat) (a1 : Int) (a2 : Int) (a3 : Int) : Option R :=
  none
noncomputable def octagon_Oct_let_n0 {R : Type} (k : Nat) (a1 : Int) (a2 : Int) (a3 : Int) : Option R := octagon_Oct_let_n0T k a1 a2 a3
theorem octagon_Oct_let_n0_gen {R : Type} (k : Nat) (a1 : Int) (a2 : Int) (a3 : Int) (K : AV → Heap → Option R) :
    fnK (mkCx Ty exts [] fi38 [] []) 6 38 [.np, .i .i64 a1, .i .i64 a2, .i .i64 a3] ⟨0, []⟩ K = octagon_Oct_let_n0T k a1 a2 a3 := by kernel_rfl
@[reducible] def octagon_Oct_letY (R : Type) : Type := Nat → Int → Int → Int → Int → (List Int) → Bool → ((List Int) → Option R) → Option R
noncomputable def octagon_Oct_letT {R : Type} (k : Nat) (a1 : Int) (a2 : Int) (a3 : Int) (a4 : Int) (a5 : List Int) (a6 : Bool) (K0 : (List Int) → Option R) : Option R :=
  cond (decide (0 ≤ a1)) (
    cond (decide (a1 < 16)) (
      cond (decide (0 ≤ a2)) (
        cond (decide (a2 < 16)) (
          Option.bind (a5[((((Int.toNat a1) * 16) + 0) + (Int.toNat a2))]?) fun e1 =>
          cond (decide (0 ≤ a1)) (
            cond (decide (a1 < 16)) (
              cond (decide (0 ≤ a2)) (
                cond (decide (a2 < 16)) (
                  Option.bind (a5[((((Int.toNat a1) * 16) + 0) + (Int.toNat a2))]?) fun e2 =>
                  cond (decide (0 ≤ a2)) (
                    cond (decide (a2 < 16)) (
                      cond (decide (0 ≤ a1)) (
                        cond (decide (a1 < 16)) (
                          Option.bind ((List.set a5 ((((Int.toNat a1) * 16) + 0) + (Int.toNat a2)) (if a3 < e1 then a3 else e1))[((((Int.toNat a2) * 16) + 0) + (Int.toNat a1))]?) fun e3 =>
                          cond (decide (0 ≤ a2)) (
                            cond (decide (a2 < 16)) (
                              cond (decide (0 ≤ a1)) (
                                cond (decide (a1 < 16)) (
                                  Option.bind ((List.set a5 ((((Int.toNat a1) * 16) + 0) + (Int.toNat a2)) (if a3 < e1 then a3 else e1))[((((Int.toNat a2) * 16) + 0) + (Int.toNat a1))]?) fun e4 =>
                                  K0 (List.set (List.set a5 ((((Int.toNat a1) * 16) + 0) + (Int.toNat a2)) (if a3 < e1 then a3 else e1)) ((((Int.toNat a2) * 16) + 0) + (Int.toNat a1)) (if a3 < e3 then a3 else e3))) (
                                  none)) (
                                none)) (
                              none)) (
                            none)) (
                          none)) (
                        none)) (
                      none)) (
                    none)) (
                  none)) (
                none)) (
              none)) (
            none)) (
          none)) (
        none)) (
      none)) (
    none)
noncomputable def octagon_Oct_let {R : Type} (k : Nat) (a1 : Int) (a2 : Int) (a3 : Int) (a4 : Int) (a5 : List Int) (a6 : Bool) (K0 : (List Int) → Option R) : Option R := octagon_Oct_letT k a1 a2 a3 a4 a5 a6 K0
theorem octagon_Oct_let_gen {R : Type} (k : Nat) (a1 : Int) (a2 : Int) (a3 : Int) (a4 : Int) (a5 : List Int) (a6 : Bool) (K : AV → Heap → Option R) :
    fnK (mkCx Ty exts [] fi38 [] []) 6 38 [.ptr 0 0 0 0 0, .i .i64 a1, .i .i64 a2, .i .i64 a3] ⟨1, [(0, some ⟨0, false, .mix [.i .i64 a4] [.i .i64] 256 a5 [.b a6]⟩)]⟩ K = octagon_Oct_letT k a1 a2 a3 a4 a5 a6 (fun q2 => K .u ⟨1, [(0, some ⟨0, false, .mix [.i .i64 a4] [.i .i64] 256 q2 [.b a6]⟩)]⟩) := by kernel_rfl
noncomputable def S38G {R : Type} (octagon_Oct_let_n0 : octagon_Oct_let_n0Y R) (octagon_Oct_let : octagon_Oct_letY R) (k : Nat) : Sum R := fun args H K => match args, H with
  | [.np, .i .i64 a1, .i .i64 a2, .i .i64 a3], ⟨0, []⟩ => octagon_Oct_let_n0 k a1 a2 a3
  | [.ptr 0 0 0 0 0, .i .i64 a1, .i .i64 a2, .i .i64 a3], ⟨1, [(0, some ⟨0, false, .mix [.i .i64 a4] [.i .i64] 256 a5 [.b a6]⟩)]⟩ => octagon_Oct_let k a1 a2 a3 a4 a5 a6 (fun q2 => K .u ⟨1, [(0, some ⟨0, false, .mix [.i .i64 a4] [.i .i64] 256 q2 [.b a6]⟩)]⟩)
  | _, _ => none
noncomputable def S38 {R : Type} (k : Nat) : Sum R := S38G octagon_Oct_let_n0 octagon_Oct_let k
theorem S38_ok {R : Type} (k : Nat) : SumOk Try.prog 38 false (S38 k : Sum R) := by
  intro args H K r h
  unfold S38 S38G at h
  split at h
  · exact fnK_sound (cx38_ok k) 6 38 _ _ K r ((octagon_Oct_let_n0_gen k _ _ _ K).trans h)
  · exact fnK_sound (cx38_ok k) 6 38 _ _ K r ((octagon_Oct_let_gen k _ _ _ _ _ _ K).trans h)
  · cases h
-- function 44: plumbline/octagon.floor
noncomputable def fi44 : FnI := ⟨44, Try.f44, []⟩
theorem en44 : Enters Try.prog 44 := enters_of Try.func44 (c := ((Try.f44).body.getD .skip)) (by kernel_rfl) (by kernel_rfl)
noncomputable def cx44 {R : Type} (k : Nat) : Cx R := mkCx Ty exts [] fi44 [] []
theorem cx44_ok {R : Type} (k : Nat) : CxOk Try.prog (cx44 k : Cx R) := mkCx_ok (c := ((Try.f44).body.getD .skip)) ty_ok mixed exts_ok allSum_nil Try.func44 en44 (by kernel_rfl) (by kernel_rfl) allLoop_nil allCut_nil
@[reducible] def octagon_floorY (R : Type) : Type := Nat → Int → (Int → Option R) → Option R
noncomputable def octagon_floorT {R : Type} (k : Nat) (a1 : Int) (K0 : Int → Option R) : Option R :=
  K0 (shr .i64 a1 1)
noncomputable def octagon_floor {R : Type} (k : Nat) (a1 : Int) (K0 : Int → Option R) : Option R := octagon_floorT k a1 K0
theorem octagon_floor_gen {R : Type} (k : Nat) (a1 : Int) (K : AV → Heap → Option R) :
    fnK (mkCx Ty exts [] fi44 [] []) 6 44 [.i .i64 a1] ⟨0, []⟩ K = octagon_floorT k a1 (fun q1 => K (.i .i64 q1) ⟨0, []⟩) := by kernel_rfl
noncomputable def S44G {R : Type} (octagon_floor : octagon_floorY R) (k : Nat) : Sum R := fun args H K => match args, H with
  | [.i .i64 a1], ⟨0, []⟩ => octagon_floor k a1 (fun q1 => K (.i .i64 q1) ⟨0, []⟩)
  | _, _ => none
noncomputable def S44 {R : Type} (k : Nat) : Sum R := S44G octagon_floor k
theorem S44_ok0 {R : Type} (k : Nat) : SumOk Try.prog 44 false (S44 k : Sum R) := by
  intro args H K r h
  unfold S44 S44G at h
  split at h
  · exact fnK_sound (cx44_ok k) 6 44 _ _ K r ((octagon_floor_gen k _ K).trans h)
  · cases h
theorem S44_ok {R : Type} (k : Nat) : SumOk Try.prog 44 true (S44 k : Sum R) := by
  refine sumOk_keep (S44_ok0 k) ?_
  intro args H K r h
  unfold S44 S44G at h ⊢
  split at h
  · refine Eq.trans ?_ h
    show octagon_floor k _ _ = octagon_floor k _ _
    exact congrArg (octagon_floor k _) (funext fun q1 => if_pos (keeps_app _ _ _ []))
  · cases h
-- function 40: (*plumbline/octagon.Oct).close
noncomputable def fi40 : FnI := ⟨40, Try.f40, [(100002, [0, 16, 17]), (100005, [0, 2, 16, 17, 23, 24]), (100009, [0, 2, 3, 4, 16, 17, 23, 24, 42, 43]), (100016, [0, 78, 79]), (100021, [0, 103, 104]), (100026, [0, 7, 103, 104, 145, 146]), (3002000, [0]), (3005002, [0, 16, 17]), (3009004, [0, 2, 16, 17, 23, 24]), (3016006, [0]), (3021008, []), (3026010, [0, 103, 104])]⟩
theorem en40 : Enters Try.prog 40 := enters_of Try.func40 (c := ((Try.f40).body.getD .skip)) (by kernel_rfl) (by kernel_rfl)
@[reducible] def octagon_Oct_close_l0Y (R : Type) : Type := Nat → Nat → Int → Int → Nat → Nat → Int → Int → Int → Int → Int → Int → Int → (List Int) → Bool → ((List Int) → Option R) → Option R
noncomputable def octagon_Oct_close_l0B {R : Type} (k : Nat) (rec : Int → Int → Nat → Nat → Int → Int → Int → Int → Int → Int → Int → (List Int) → Bool → Option R) (x1 : Int) (x2 : Int) (x3 : Nat) (x4 : Nat) (x5 : Int) (x6 : Int) (x7 : Int) (x8 : Int) (x9 : Int) (x10 : Int) (x11 : Int) (x12 : List Int) (x13 : Bool) (K0 : (List Int) → Option R) : Option R :=
  cond (decide (x10 < x9)) (
    cond (decide (0 ≤ x10)) (
      cond (decide (x10 < ((x4 : Nat) : Int))) (
        Option.bind (x12[(x3 + (Int.toNat x10))]?) fun yyye1 =>
        cond (decide (0 ≤ x2)) (
          cond (decide (x2 < 16)) (
            cond (decide (0 ≤ x1)) (
              cond (decide (x1 < 16)) (
                Option.bind (x12[((((Int.toNat x2) * 16) + 0) + (Int.toNat x1))]?) fun yyye2 =>
                cond (decide (0 ≤ (bXor .i64 x1 1))) (
                  cond (decide ((bXor .i64 x1 1) < 16)) (
                    cond (decide (0 ≤ x10)) (
                      cond (decide (x10 < 16)) (
                        Option.bind (x12[((((Int.toNat (bXor .i64 x1 1)) * 16) + 0) + (Int.toNat x10))]?) fun yyye3 =>
                        cond (decide (0 ≤ x10)) (
                          cond (decide (x10 < ((x4 : Nat) : Int))) (
                            Option.bind (x12[(x3 + (Int.toNat x10))]?) fun yyye4 =>
                            rec x1 x2 x3 x4 x5 x6 x7 x8 x9 (Wi64 (x10 + 1)) x11 (List.set x12 (x3 + (Int.toNat x10)) (if (Wi64 (yyye2 + yyye3)) < yyye1 then (Wi64 (yyye2 + yyye3)) else yyye1)) x13) (
                            none)) (
                          none)) (
                        none)) (
                      none)) (
                    none)) (
                  none)) (
                none)) (
              none)) (
            none)) (
          none)) (
        none)) (
      none)) (
    K0 x12)
noncomputable def octagon_Oct_close_l0 {R : Type} (k : Nat) : Nat → Int → Int → Nat → Nat → Int → Int → Int → Int → Int → Int → Int → (List Int) → Bool → ((List Int) → Option R) → Option R
  | 0, _, _, _, _, _, _, _, _, _, _, _, _, _, _ => none
  | n + 1, x1, x2, x3, x4, x5, x6, x7, x8, x9, x10, x11, x12, x13, K0 => octagon_Oct_close_l0B k (fun x1 x2 x3 x4 x5 x6 x7 x8 x9 x10 x11 x12 x13 => octagon_Oct_close_l0 k n x1 x2 x3 x4 x5 x6 x7 x8 x9 x10 x11 x12 x13 K0) x1 x2 x3 x4 x5 x6 x7 x8 x9 x10 x11 x12 x13 K0
noncomputable def cx40_9 {R : Type} (k : Nat) : Cx R := mkCx Ty exts [(44, true, S44 k)] fi40 [] []
theorem cx40_9_ok {R : Type} (k : Nat) : CxOk Try.prog (cx40_9 k : Cx R) := mkCx_ok (c := ((Try.f40).body.getD .skip)) ty_ok mixed exts_ok (allSum_cons (S44_ok k) en44 allSum_nil) Try.func40 en40 (by kernel_rfl) (by kernel_rfl) allLoop_nil allCut_nil
noncomputable def L40_9G {R : Type} (octagon_Oct_close_l0 : octagon_Oct_close_l0Y R) (k n : Nat) : LSum R := fun pin T H K => match pin, T, H with
  | 1, [(0, .ptr 0 0 0 0 0), (2, .i .i64 x1), (3, .i .i64 x2), (4, .sl 0 1 x3 1 x4), (16, .i .i64 x5), (17, .i .i64 x6), (23, .i .i64 x7), (24, .i .i64 x8), (42, .i .i64 x9), (43, .i .i64 x10)], ⟨1, [(0, some ⟨0, false, .mix [.i .i64 x11] [.i .i64] 256 x12 [.b x13]⟩)]⟩ => octagon_Oct_close_l0 k n x1 x2 x3 x4 x5 x6 x7 x8 x9 x10 x11 x12 x13 (fun q7 => K (.exit 4) [(0, .ptr 0 0 0 0 0), (2, .i .i64 x1), (16, .i .i64 x5), (17, .i .i64 x6), (23, .i .i64 x7), (24, .i .i64 x8)] ⟨1, [(0, some ⟨0, false, .mix [.i .i64 x11] [.i .i64] 256 q7 [.b x13]⟩)]⟩)
  | _, _, _ => none
noncomputable def L40_9 {R : Type} (k n : Nat) : LSum R := L40_9G octagon_Oct_close_l0 k n
theorem octagon_Oct_close_l0_gen {R : Type} (octagon_floor : octagon_floorY R) (octagon_Oct_close_l0 : octagon_Oct_close_l0Y R) (k n : Nat) (x1 : Int) (x2 : Int) (x3 : Nat) (x4 : Nat) (x5 : Int) (x6 : Int) (x7 : Int) (x8 : Int) (x9 : Int) (x10 : Int) (x11 : Int) (x12 : List Int) (x13 : Bool) (K : Kont R) :
    (fun C => codeK C (run C 4)) (mkCx Ty exts [(44, true, S44G octagon_floor k)] fi40 [] []) 1 fi40 (loopAt ((Try.f40).body.getD .skip) 9) [(0, .ptr 0 0 0 0 0), (2, .i .i64 x1), (3, .i .i64 x2), (4, .sl 0 1 x3 1 x4), (16, .i .i64 x5), (17, .i .i64 x6), (23, .i .i64 x7), (24, .i .i64 x8), (42, .i .i64 x9), (43, .i .i64 x10)] ⟨1, [(0, some ⟨0, false, .mix [.i .i64 x11] [.i .i64] 256 x12 [.b x13]⟩)]⟩ (fun ex T H => match (generalizing := false) ex with
      | .normal => normAt (some [0, 2, 3, 4, 16, 17, 23, 24, 42, 43]) 1 T H (fun T H => L40_9G octagon_Oct_close_l0 k n 1 T H K)
      | ex => exitNorm fi40.ann 9 1 K ex T H) =
    octagon_Oct_close_l0B k (fun x1 x2 x3 x4 x5 x6 x7 x8 x9 x10 x11 x12 x13 => octagon_Oct_close_l0 k n x1 x2 x3 x4 x5 x6 x7 x8 x9 x10 x11 x12 x13 (fun q7 => K (.exit 4) [(0, .ptr 0 0 0 0 0), (2, .i .i64 x1), (16, .i .i64 x5), (17, .i .i64 x6), (23, .i .i64 x7), (24, .i .i64 x8)] ⟨1, [(0, some ⟨0, false, .mix [.i .i64 x11] [.i .i64] 256 q7 [.b x13]⟩)]⟩)) x1 x2 x3 x4 x5 x6 x7 x8 x9 x10 x11 x12 x13 (fun q7 => K (.exit 4) [(0, .ptr 0 0 0 0 0), (2, .i .i64 x1), (16, .i .i64 x5), (17, .i .i64 x6), (23, .i .i64 x7), (24, .i .i64 x8)] ⟨1, [(0, some ⟨0, false, .mix [.i .i64 x11] [.i .i64] 256 q7 [.b x13]⟩)]⟩) := by kernel_rfl
theorem L40_9_cok {R : Type} (k : Nat) : CodeOk Try.prog (cx40_9 k : Cx R) fi40 (loopAt ((Try.f40).body.getD .skip) 9) := loopAt_ok (((cx40_9_ok k).fns 40 fi40 (by kernel_rfl)).2.2.2 ((Try.f40).body.getD .skip) (by kernel_rfl))
theorem L40_9_ok {R : Type} (k : Nat) : ∀ n, LoopOk Try.prog (Try.f40).ntmps (loopAt ((Try.f40).body.getD .skip) 9) (L40_9 k n : LSum R)
  | 0 => by
    intro pin T H K r h
    unfold L40_9 L40_9G at h
    split at h
    all_goals exact nomatch (show (none : Option R) = some r from h)
  | n + 1 => by
    intro pin T H K r h
    unfold L40_9 L40_9G at h
    split at h
    · obtain ⟨ex, T1, H1, h, hb⟩ := codeK_sound (cx40_9_ok k) (run_sound (cx40_9_ok k) 4) _ fi40 _ _ _ _ _ (L40_9_cok k) ((octagon_Oct_close_l0_gen octagon_floor octagon_Oct_close_l0 k n _ _ _ _ _ _ _ _ _ _ _ _ _ K).trans h)
      exact loop_step (fun T H hh => L40_9_ok k n _ T H K r hh) hb h
    · cases h
@[reducible] def octagon_Oct_close_l1Y (R : Type) : Type := Nat → Nat → Int → Int → Int → Int → Int → Int → (List Int) → Bool → ((List Int) → Option R) → Option R
noncomputable def octagon_Oct_close_l1B {R : Type} (octagon_Oct_close_l0 : octagon_Oct_close_l0Y R) (k : Nat) (rec : Int → Int → Int → Int → Int → Int → (List Int) → Bool → Option R) (x1 : Int) (x2 : Int) (x3 : Int) (x4 : Int) (x5 : Int) (x6 : Int) (x7 : List Int) (x8 : Bool) (K0 : (List Int) → Option R) : Option R :=
  cond (decide (x5 < x4)) (
    cond (decide (0 ≤ x5)) (
      cond (decide (x5 < 16)) (
        cond (decide (0 ≤ x6)) (
          cond (decide (x6 ≤ 16)) (
            cond (decide (0 ≤ x6)) (
              cond (decide (x6 ≤ (((Int.toNat x6) : Nat) : Int))) (
                octagon_Oct_close_l0 k k x1 x5 ((((Int.toNat x5) * 16) + 0) + 0) ((Int.toNat x6) - 0) x2 x3 x4 x5 ((((Int.toNat x6) - 0) : Nat) : Int) 0 x6 x7 x8 (fun yyr1 =>
                  rec x1 x2 x3 x4 (Wi64 (x5 + 1)) x6 yyr1 x8)) (
                none)) (
              none)) (
            none)) (
          none)) (
        none)) (
      none)) (
    K0 x7)
noncomputable def octagon_Oct_close_l1 {R : Type} (k : Nat) : Nat → Int → Int → Int → Int → Int → Int → (List Int) → Bool → ((List Int) → Option R) → Option R
  | 0, _, _, _, _, _, _, _, _, _ => none
  | n + 1, x1, x2, x3, x4, x5, x6, x7, x8, K0 => octagon_Oct_close_l1B octagon_Oct_close_l0 k (fun x1 x2 x3 x4 x5 x6 x7 x8 => octagon_Oct_close_l1 k n x1 x2 x3 x4 x5 x6 x7 x8 K0) x1 x2 x3 x4 x5 x6 x7 x8 K0
noncomputable def cx40_5 {R : Type} (k : Nat) : Cx R := mkCx Ty exts [(44, true, S44 k)] fi40 [(9, L40_9 k k)] []
theorem cx40_5_ok {R : Type} (k : Nat) : CxOk Try.prog (cx40_5 k : Cx R) := mkCx_ok (c := ((Try.f40).body.getD .skip)) ty_ok mixed exts_ok (allSum_cons (S44_ok k) en44 allSum_nil) Try.func40 en40 (by kernel_rfl) (by kernel_rfl) (allLoop_loop (by kernel_rfl) (L40_9_ok k k) allLoop_nil) allCut_nil
noncomputable def L40_5G {R : Type} (octagon_Oct_close_l1 : octagon_Oct_close_l1Y R) (k n : Nat) : LSum R := fun pin T H K => match pin, T, H with
  | 1, [(0, .ptr 0 0 0 0 0), (2, .i .i64 x1), (16, .i .i64 x2), (17, .i .i64 x3), (23, .i .i64 x4), (24, .i .i64 x5)], ⟨1, [(0, some ⟨0, false, .mix [.i .i64 x6] [.i .i64] 256 x7 [.b x8]⟩)]⟩ => octagon_Oct_close_l1 k n x1 x2 x3 x4 x5 x6 x7 x8 (fun q4 => K (.exit 2) [(0, .ptr 0 0 0 0 0), (16, .i .i64 x2), (17, .i .i64 x3)] ⟨1, [(0, some ⟨0, false, .mix [.i .i64 x6] [.i .i64] 256 q4 [.b x8]⟩)]⟩)
  | _, _, _ => none
noncomputable def L40_5 {R : Type} (k n : Nat) : LSum R := L40_5G octagon_Oct_close_l1 k n
theorem octagon_Oct_close_l1_gen {R : Type} (octagon_floor : octagon_floorY R) (octagon_Oct_close_l0 : octagon_Oct_close_l0Y R) (octagon_Oct_close_l1 : octagon_Oct_close_l1Y R) (k n : Nat) (x1 : Int) (x2 : Int) (x3 : Int) (x4 : Int) (x5 : Int) (x6 : Int) (x7 : List Int) (x8 : Bool) (K : Kont R) :
    (fun C => codeK C (run C 4)) (mkCx Ty exts [(44, true, S44G octagon_floor k)] fi40 [(9, L40_9G octagon_Oct_close_l0 k k)] []) 1 fi40 (loopAt ((Try.f40).body.getD .skip) 5) [(0, .ptr 0 0 0 0 0), (2, .i .i64 x1), (16, .i .i64 x2), (17, .i .i64 x3), (23, .i .i64 x4), (24, .i .i64 x5)] ⟨1, [(0, some ⟨0, false, .mix [.i .i64 x6] [.i .i64] 256 x7 [.b x8]⟩)]⟩ (fun ex T H => match (generalizing := false) ex with
      | .normal => normAt (some [0, 2, 16, 17, 23, 24]) 1 T H (fun T H => L40_5G octagon_Oct_close_l1 k n 1 T H K)
      | ex => exitNorm fi40.ann 5 1 K ex T H) =
    octagon_Oct_close_l1B octagon_Oct_close_l0 k (fun x1 x2 x3 x4 x5 x6 x7 x8 => octagon_Oct_close_l1 k n x1 x2 x3 x4 x5 x6 x7 x8 (fun q4 => K (.exit 2) [(0, .ptr 0 0 0 0 0), (16, .i .i64 x2), (17, .i .i64 x3)] ⟨1, [(0, some ⟨0, false, .mix [.i .i64 x6] [.i .i64] 256 q4 [.b x8]⟩)]⟩)) x1 x2 x3 x4 x5 x6 x7 x8 (fun q4 => K (.exit 2) [(0, .ptr 0 0 0 0 0), (16, .i .i64 x2), (17, .i .i64 x3)] ⟨1, [(0, some ⟨0, false, .mix [.i .i64 x6] [.i .i64] 256 q4 [.b x8]⟩)]⟩) := by kernel_rfl
theorem L40_5_cok {R : Type} (k : Nat) : CodeOk Try.prog (cx40_5 k : Cx R) fi40 (loopAt ((Try.f40).body.getD .skip) 5) := loopAt_ok (((cx40_5_ok k).fns 40 fi40 (by kernel_rfl)).2.2.2 ((Try.f40).body.getD .skip) (by kernel_rfl))
theorem L40_5_ok {R : Type} (k : Nat) : ∀ n, LoopOk Try.prog (Try.f40).ntmps (loopAt ((Try.f40).body.getD .skip) 5) (L40_5 k n : LSum R)
  | 0 => by
    intro pin T H K r h
    unfold L40_5 L40_5G at h
    split at h
    all_goals exact nomatch (show (none : Option R) = some r from h)
  | n + 1 => by
    intro pin T H K r h
    unfold L40_5 L40_5G at h
    split at h
    · obtain ⟨ex, T1, H1, h, hb⟩ := codeK_sound (cx40_5_ok k) (run_sound (cx40_5_ok k) 4) _ fi40 _ _ _ _ _ (L40_5_cok k) ((octagon_Oct_close_l1_gen octagon_floor octagon_Oct_close_l0 octagon_Oct_close_l1 k n _ _ _ _ _ _ _ _ K).trans h)
      exact loop_step (fun T H hh => L40_5_ok k n _ T H K r hh) hb h
    · cases h
@[reducible] def octagon_Oct_close_l2Y (R : Type) : Type := Nat → Nat → Int → Int → Int → (List Int) → Bool → ((List Int) → Option R) → Option R
noncomputable def octagon_Oct_close_l2B {R : Type} (octagon_Oct_close_l1 : octagon_Oct_close_l1Y R) (k : Nat) (rec : Int → Int → Int → (List Int) → Bool → Option R) (x1 : Int) (x2 : Int) (x3 : Int) (x4 : List Int) (x5 : Bool) (K0 : (List Int) → Option R) : Option R :=
  cond (decide (x2 < x1)) (
    octagon_Oct_close_l1 k k x2 x1 x2 x3 0 x3 x4 x5 (fun yr1 =>
      rec x1 (Wi64 (x2 + 1)) x3 yr1 x5)) (
    K0 x4)
noncomputable def octagon_Oct_close_l2 {R : Type} (k : Nat) : Nat → Int → Int → Int → (List Int) → Bool → ((List Int) → Option R) → Option R
  | 0, _, _, _, _, _, _ => none
  | n + 1, x1, x2, x3, x4, x5, K0 => octagon_Oct_close_l2B octagon_Oct_close_l1 k (fun x1 x2 x3 x4 x5 => octagon_Oct_close_l2 k n x1 x2 x3 x4 x5 K0) x1 x2 x3 x4 x5 K0
noncomputable def cx40_2 {R : Type} (k : Nat) : Cx R := mkCx Ty exts [(44, true, S44 k)] fi40 [(9, L40_9 k k), (5, L40_5 k k)] []
theorem cx40_2_ok {R : Type} (k : Nat) : CxOk Try.prog (cx40_2 k : Cx R) := mkCx_ok (c := ((Try.f40).body.getD .skip)) ty_ok mixed exts_ok (allSum_cons (S44_ok k) en44 allSum_nil) Try.func40 en40 (by kernel_rfl) (by kernel_rfl) (allLoop_loop (by kernel_rfl) (L40_9_ok k k) (allLoop_loop (by kernel_rfl) (L40_5_ok k k) allLoop_nil)) allCut_nil
noncomputable def L40_2G {R : Type} (octagon_Oct_close_l2 : octagon_Oct_close_l2Y R) (k n : Nat) : LSum R := fun pin T H K => match pin, T, H with
  | 1, [(0, .ptr 0 0 0 0 0), (16, .i .i64 x1), (17, .i .i64 x2)], ⟨1, [(0, some ⟨0, false, .mix [.i .i64 x3] [.i .i64] 256 x4 [.b x5]⟩)]⟩ => octagon_Oct_close_l2 k n x1 x2 x3 x4 x5 (fun q2 => K (.exit 0) [(0, .ptr 0 0 0 0 0)] ⟨1, [(0, some ⟨0, false, .mix [.i .i64 x3] [.i .i64] 256 q2 [.b x5]⟩)]⟩)
  | _, _, _ => none
noncomputable def L40_2 {R : Type} (k n : Nat) : LSum R := L40_2G octagon_Oct_close_l2 k n
theorem octagon_Oct_close_l2_gen {R : Type} (octagon_floor : octagon_floorY R) (octagon_Oct_close_l0 : octagon_Oct_close_l0Y R) (octagon_Oct_close_l1 : octagon_Oct_close_l1Y R) (octagon_Oct_close_l2 : octagon_Oct_close_l2Y R) (k n : Nat) (x1 : Int) (x2 : Int) (x3 : Int) (x4 : List Int) (x5 : Bool) (K : Kont R) :
    (fun C => codeK C (run C 4)) (mkCx Ty exts [(44, true, S44G octagon_floor k)] fi40 [(9, L40_9G octagon_Oct_close_l0 k k), (5, L40_5G octagon_Oct_close_l1 k k)] []) 1 fi40 (loopAt ((Try.f40).body.getD .skip) 2) [(0, .ptr 0 0 0 0 0), (16, .i .i64 x1), (17, .i .i64 x2)] ⟨1, [(0, some ⟨0, false, .mix [.i .i64 x3] [.i .i64] 256 x4 [.b x5]⟩)]⟩ (fun ex T H => match (generalizing := false) ex with
      | .normal => normAt (some [0, 16, 17]) 1 T H (fun T H => L40_2G octagon_Oct_close_l2 k n 1 T H K)
      | ex => exitNorm fi40.ann 2 1 K ex T H) =
    octagon_Oct_close_l2B octagon_Oct_close_l1 k (fun x1 x2 x3 x4 x5 => octagon_Oct_close_l2 k n x1 x2 x3 x4 x5 (fun q2 => K (.exit 0) [(0, .ptr 0 0 0 0 0)] ⟨1, [(0, some ⟨0, false, .mix [.i .i64 x3] [.i .i64] 256 q2 [.b x5]⟩)]⟩)) x1 x2 x3 x4 x5 (fun q2 => K (.exit 0) [(0, .ptr 0 0 0 0 0)] ⟨1, [(0, some ⟨0, false, .mix [.i .i64 x3] [.i .i64] 256 q2 [.b x5]⟩)]⟩) := by kernel_rfl
theorem L40_2_cok {R : Type} (k : Nat) : CodeOk Try.prog (cx40_2 k : Cx R) fi40 (loopAt ((Try.f40).body.getD .skip) 2) := loopAt_ok (((cx40_2_ok k).fns 40 fi40 (by kernel_rfl)).2.2.2 ((Try.f40).body.getD .skip) (by kernel_rfl))
theorem L40_2_ok {R : Type} (k : Nat) : ∀ n, LoopOk Try.prog (Try.f40).ntmps (loopAt ((Try.f40).body.getD .skip) 2) (L40_2 k n : LSum R)
  | 0 => by
    intro pin T H K r h
    unfold L40_2 L40_2G at h
    split at h
    all_goals exact nomatch (show (none : Option R) = some r from h)
  | n + 1 => by
    intro pin T H K r h
    unfold L40_2 L40_2G at h
    split at h
    · obtain ⟨ex, T1, H1, h, hb⟩ := codeK_sound (cx40_2_ok k) (run_sound (cx40_2_ok k) 4) _ fi40 _ _ _ _ _ (L40_2_cok k) ((octagon_Oct_close_l2_gen octagon_floor octagon_Oct_close_l0 octagon_Oct_close_l1 octagon_Oct_close_l2 k n _ _ _ _ _ K).trans h)
      exact loop_step (fun T H hh => L40_2_ok k n _ T H K r hh) hb h
    · cases h
@[reducible] def octagon_Oct_close_l3Y (R : Type) : Type := Nat → Nat → Int → Int → Int → (List Int) → Bool → ((List Int) → Option R) → Option R
noncomputable def octagon_Oct_close_l3B {R : Type} (octagon_floor : octagon_floorY R) (k : Nat) (rec : Int → Int → Int → (List Int) → Bool → Option R) (x1 : Int) (x2 : Int) (x3 : Int) (x4 : List Int) (x5 : Bool) (K0 : (List Int) → Option R) : Option R :=
  cond (decide (x2 < x1)) (
    cond (decide (0 ≤ x2)) (
      cond (decide (x2 < 16)) (
        cond (decide (0 ≤ x2)) (
          cond (decide (x2 < 16)) (
            Option.bind (x4[((((Int.toNat x2) * 16) + 0) + (Int.toNat x2))]?) fun ye1 =>
            octagon_floor k ye1 (fun yr2 =>
              cond (decide (0 ≤ x2)) (
                cond (decide (x2 < 16)) (
                  cond (decide (0 ≤ x2)) (
                    cond (decide (x2 < 16)) (
                      Option.bind (x4[((((Int.toNat x2) * 16) + 0) + (Int.toNat x2))]?) fun ye3 =>
                      rec x1 (Wi64 (x2 + 1)) x3 (List.set x4 ((((Int.toNat x2) * 16) + 0) + (Int.toNat x2)) (Wi64 (2 * yr2))) x5) (
                      none)) (
                    none)) (
                  none)) (
                none))) (
            none)) (
          none)) (
        none)) (
      none)) (
    K0 x4)
noncomputable def octagon_Oct_close_l3 {R : Type} (k : Nat) : Nat → Int → Int → Int → (List Int) → Bool → ((List Int) → Option R) → Option R
  | 0, _, _, _, _, _, _ => none
  | n + 1, x1, x2, x3, x4, x5, K0 => octagon_Oct_close_l3B octagon_floor k (fun x1 x2 x3 x4 x5 => octagon_Oct_close_l3 k n x1 x2 x3 x4 x5 K0) x1 x2 x3 x4 x5 K0
noncomputable def cx40_16 {R : Type} (k : Nat) : Cx R := mkCx Ty exts [(44, true, S44 k)] fi40 [(9, L40_9 k k), (5, L40_5 k k), (2, L40_2 k k)] []
theorem cx40_16_ok {R : Type} (k : Nat) : CxOk Try.prog (cx40_16 k : Cx R) := mkCx_ok (c := ((Try.f40).body.getD .skip)) ty_ok mixed exts_ok (allSum_cons (S44_ok k) en44 allSum_nil) Try.func40 en40 (by kernel_rfl) (by kernel_rfl) (allLoop_loop (by kernel_rfl) (L40_9_ok k k) (allLoop_loop (by kernel_rfl) (L40_5_ok k k) (allLoop_loop (by kernel_rfl) (L40_2_ok k k) allLoop_nil))) allCut_nil
noncomputable def L40_16G {R : Type} (octagon_Oct_close_l3 : octagon_Oct_close_l3Y R) (k n : Nat) : LSum R := fun pin T H K => match pin, T, H with
  | 1, [(0, .ptr 0 0 0 0 0), (78, .i .i64 x1), (79, .i .i64 x2)], ⟨1, [(0, some ⟨0, false, .mix [.i .i64 x3] [.i .i64] 256 x4 [.b x5]⟩)]⟩ => octagon_Oct_close_l3 k n x1 x2 x3 x4 x5 (fun q2 => K (.exit 6) [(0, .ptr 0 0 0 0 0)] ⟨1, [(0, some ⟨0, false, .mix [.i .i64 x3] [.i .i64] 256 q2 [.b x5]⟩)]⟩)
  | _, _, _ => none
noncomputable def L40_16 {R : Type} (k n : Nat) : LSum R := L40_16G octagon_Oct_close_l3 k n
theorem octagon_Oct_close_l3_gen {R : Type} (octagon_floor : octagon_floorY R) (octagon_Oct_close_l0 : octagon_Oct_close_l0Y R) (octagon_Oct_close_l1 : octagon_Oct_close_l1Y R) (octagon_Oct_close_l2 : octagon_Oct_close_l2Y R) (octagon_Oct_close_l3 : octagon_Oct_close_l3Y R) (k n : Nat) (x1 : Int) (x2 : Int) (x3 : Int) (x4 : List Int) (x5 : Bool) (K : Kont R) :
    (fun C => codeK C (run C 4)) (mkCx Ty exts [(44, true, S44G octagon_floor k)] fi40 [(9, L40_9G octagon_Oct_close_l0 k k), (5, L40_5G octagon_Oct_close_l1 k k), (2, L40_2G octagon_Oct_close_l2 k k)] []) 1 fi40 (loopAt ((Try.f40).body.getD .skip) 16) [(0, .ptr 0 0 0 0 0), (78, .i .i64 x1), (79, .i .i64 x2)] ⟨1, [(0, some ⟨0, false, .mix [.i .i64 x3] [.i .i64] 256 x4 [.b x5]⟩)]⟩ (fun ex T H => match (generalizing := false) ex with
      | .normal => normAt (some [0, 78, 79]) 1 T H (fun T H => L40_16G octagon_Oct_close_l3 k n 1 T H K)
      | ex => exitNorm fi40.ann 16 1 K ex T H) =
    octagon_Oct_close_l3B octagon_floor k (fun x1 x2 x3 x4 x5 => octagon_Oct_close_l3 k n x1 x2 x3 x4 x5 (fun q2 => K (.exit 6) [(0, .ptr 0 0 0 0 0)] ⟨1, [(0, some ⟨0, false, .mix [.i .i64 x3] [.i .i64] 256 q2 [.b x5]⟩)]⟩)) x1 x2 x3 x4 x5 (fun q2 => K (.exit 6) [(0, .ptr 0 0 0 0 0)] ⟨1, [(0, some ⟨0, false, .mix [.i .i64 x3] [.i .i64] 256 q2 [.b x5]⟩)]⟩) := by kernel_rfl
theorem L40_16_cok {R : Type} (k : Nat) : CodeOk Try.prog (cx40_16 k : Cx R) fi40 (loopAt ((Try.f40).body.getD .skip) 16) := loopAt_ok (((cx40_16_ok k).fns 40 fi40 (by kernel_rfl)).2.2.2 ((Try.f40).body.getD .skip) (by kernel_rfl))
theorem L40_16_ok {R : Type} (k : Nat) : ∀ n, LoopOk Try.prog (Try.f40).ntmps (loopAt ((Try.f40).body.getD .skip) 16) (L40_16 k n : LSum R)
  | 0 => by
    intro pin T H K r h
    unfold L40_16 L40_16G at h
    split at h
    all_goals exact nomatch (show (none : Option R) = some r from h)
  | n + 1 => by
    intro pin T H K r h
    unfold L40_16 L40_16G at h
    split at h
    · obtain ⟨ex, T1, H1, h, hb⟩ := codeK_sound (cx40_16_ok k) (run_sound (cx40_16_ok k) 4) _ fi40 _ _ _ _ _ (L40_16_cok k) ((octagon_Oct_close_l3_gen octagon_floor octagon_Oct_close_l0 octagon_Oct_close_l1 octagon_Oct_close_l2 octagon_Oct_close_l3 k n _ _ _ _ _ K).trans h)
      exact loop_step (fun T H hh => L40_16_ok k n _ T H K r hh) hb h
    · cases h
@[reducible] def octagon_Oct_close_l4Y (R : Type) : Type := Nat → Nat → Int → Int → Int → Int → Int → Int → (List Int) → Bool → ((List Int) → Option R) → Option R
noncomputable def octagon_Oct_close_l4B {R : Type} (octagon_floor : octagon_floorY R) (k : Nat) (rec : Int → Int → Int → Int → Int → Int → (List Int) → Bool → Option R) (x1 : Int) (x2 : Int) (x3 : Int) (x4 : Int) (x5 : Int) (x6 : Int) (x7 : List Int) (x8 : Bool) (K0 : (List Int) → Option R) : Option R :=
  cond (decide (x5 < x4)) (
    cond (x5 == (bXor .i64 x1 1)) (
      rec x1 x2 x3 x4 (Wi64 (x5 + 1)) x6 x7 x8) (
      cond (decide (0 ≤ x1)) (
        cond (decide (x1 < 16)) (
          cond (decide (0 ≤ x5)) (
            cond (decide (x5 < 16)) (
              Option.bind (x7[((((Int.toNat x1) * 16) + 0) + (Int.toNat x5))]?) fun yye1 =>
              cond (decide (0 ≤ x1)) (
                cond (decide (x1 < 16)) (
                  cond (decide (0 ≤ x1)) (
                    cond (decide (x1 < 16)) (
                      Option.bind (x7[((((Int.toNat x1) * 16) + 0) + (Int.toNat x1))]?) fun yye2 =>
                      octagon_floor k yye2 (fun yyr3 =>
                        cond (decide (0 ≤ x5)) (
                          cond (decide (x5 < 16)) (
                            cond (decide (0 ≤ x5)) (
                              cond (decide (x5 < 16)) (
                                Option.bind (x7[((((Int.toNat x5) * 16) + 0) + (Int.toNat x5))]?) fun yye4 =>
                                octagon_floor k yye4 (fun yyr5 =>
                                  cond (decide (0 ≤ x1)) (
                                    cond (decide (x1 < 16)) (
                                      cond (decide (0 ≤ x5)) (
                                        cond (decide (x5 < 16)) (
                                          Option.bind (x7[((((Int.toNat x1) * 16) + 0) + (Int.toNat x5))]?) fun yye6 =>
                                          rec x1 x2 x3 x4 (Wi64 (x5 + 1)) x6 (List.set x7 ((((Int.toNat x1) * 16) + 0) + (Int.toNat x5)) (if (Wi64 (yyr3 + yyr5)) < yye1 then (Wi64 (yyr3 + yyr5)) else yye1)) x8) (
                                          none)) (
                                        none)) (
                                      none)) (
                                    none))) (
                                none)) (
                              none)) (
                            none)) (
                          none))) (
                      none)) (
                    none)) (
                  none)) (
                none)) (
              none)) (
            none)) (
          none)) (
        none))) (
    K0 x7)
noncomputable def octagon_Oct_close_l4 {R : Type} (k : Nat) : Nat → Int → Int → Int → Int → Int → Int → (List Int) → Bool → ((List Int) → Option R) → Option R
  | 0, _, _, _, _, _, _, _, _, _ => none
  | n + 1, x1, x2, x3, x4, x5, x6, x7, x8, K0 => octagon_Oct_close_l4B octagon_floor k (fun x1 x2 x3 x4 x5 x6 x7 x8 => octagon_Oct_close_l4 k n x1 x2 x3 x4 x5 x6 x7 x8 K0) x1 x2 x3 x4 x5 x6 x7 x8 K0
noncomputable def cx40_26 {R : Type} (k : Nat) : Cx R := mkCx Ty exts [(44, true, S44 k)] fi40 [(9, L40_9 k k), (5, L40_5 k k), (2, L40_2 k k), (16, L40_16 k k)] []
theorem cx40_26_ok {R : Type} (k : Nat) : CxOk Try.prog (cx40_26 k : Cx R) := mkCx_ok (c := ((Try.f40).body.getD .skip)) ty_ok mixed exts_ok (allSum_cons (S44_ok k) en44 allSum_nil) Try.func40 en40 (by kernel_rfl) (by kernel_rfl) (allLoop_loop (by kernel_rfl) (L40_9_ok k k) (allLoop_loop (by kernel_rfl) (L40_5_ok k k) (allLoop_loop (by kernel_rfl) (L40_2_ok k k) (allLoop_loop (by kernel_rfl) (L40_16_ok k k) allLoop_nil)))) allCut_nil
noncomputable def L40_26G {R : Type} (octagon_Oct_close_l4 : octagon_Oct_close_l4Y R) (k n : Nat) : LSum R := fun pin T H K => match pin, T, H with
  | 1, [(0, .ptr 0 0 0 0 0), (7, .i .i64 x1), (103, .i .i64 x2), (104, .i .i64 x3), (145, .i .i64 x4), (146, .i .i64 x5)], ⟨1, [(0, some ⟨0, false, .mix [.i .i64 x6] [.i .i64] 256 x7 [.b x8]⟩)]⟩ => octagon_Oct_close_l4 k n x1 x2 x3 x4 x5 x6 x7 x8 (fun q4 => K (.exit 10) [(0, .ptr 0 0 0 0 0), (103, .i .i64 x2), (104, .i .i64 x3)] ⟨1, [(0, some ⟨0, false, .mix [.i .i64 x6] [.i .i64] 256 q4 [.b x8]⟩)]⟩)
  | _, _, _ => none
noncomputable def L40_26 {R : Type} (k n : Nat) : LSum R := L40_26G octagon_Oct_close_l4 k n
theorem octagon_Oct_close_l4_gen {R : Type} (octagon_floor : octagon_floorY R) (octagon_Oct_close_l0 : octagon_Oct_close_l0Y R) (octagon_Oct_close_l1 : octagon_Oct_close_l1Y R) (octagon_Oct_close_l2 : octagon_Oct_close_l2Y R) (octagon_Oct_close_l3 : octagon_Oct_close_l3Y R) (octagon_Oct_close_l4 : octagon_Oct_close_l4Y R) (k n : Nat) (x1 : Int) (x2 : Int) (x3 : Int) (x4 : Int) (x5 : Int) (x6 : Int) (x7 : List Int) (x8 : Bool) (K : Kont R) :
    (fun C => codeK C (run C 4)) (mkCx Ty exts [(44, true, S44G octagon_floor k)] fi40 [(9, L40_9G octagon_Oct_close_l0 k k), (5, L40_5G octagon_Oct_close_l1 k k), (2, L40_2G octagon_Oct_close_l2 k k), (16, L40_16G octagon_Oct_close_l3 k k)] []) 1 fi40 (loopAt ((Try.f40).body.getD .skip) 26) [(0, .ptr 0 0 0 0 0), (7, .i .i64 x1), (103, .i .i64 x2), (104, .i .i64 x3), (145, .i .i64 x4), (146, .i .i64 x5)] ⟨1, [(0, some ⟨0, false, .mix [.i .i64 x6] [.i .i64] 256 x7 [.b x8]⟩)]⟩ (fun ex T H => match (generalizing := false) ex with
      | .normal => normAt (some [0, 7, 103, 104, 145, 146]) 1 T H (fun T H => L40_26G octagon_Oct_close_l4 k n 1 T H K)
      | ex => exitNorm fi40.ann 26 1 K ex T H) =
    octagon_Oct_close_l4B octagon_floor k (fun x1 x2 x3 x4 x5 x6 x7 x8 => octagon_Oct_close_l4 k n x1 x2 x3 x4 x5 x6 x7 x8 (fun q4 => K (.exit 10) [(0, .ptr 0 0 0 0 0), (103, .i .i64 x2), (104, .i .i64 x3)] ⟨1, [(0, some ⟨0, false, .mix [.i .i64 x6] [.i .i64] 256 q4 [.b x8]⟩)]⟩)) x1 x2 x3 x4 x5 x6 x7 x8 (fun q4 => K (.exit 10) [(0, .ptr 0 0 0 0 0), (103, .i .i64 x2), (104, .i .i64 x3)] ⟨1, [(0, some ⟨0, false, .mix [.i .i64 x6] [.i .i64] 256 q4 [.b x8]⟩)]⟩) := by kernel_rfl
theorem L40_26_cok {R : Type} (k : Nat) : CodeOk Try.prog (cx40_26 k : Cx R) fi40 (loopAt ((Try.f40).body.getD .skip) 26) := loopAt_ok (((cx40_26_ok k).fns 40 fi40 (by kernel_rfl)).2.2.2 ((Try.f40).body.getD .skip) (by kernel_rfl))
theorem L40_26_ok {R : Type} (k : Nat) : ∀ n, LoopOk Try.prog (Try.f40).ntmps (loopAt ((Try.f40).body.getD .skip) 26) (L40_26 k n : LSum R)
  | 0 => by
    intro pin T H K r h
    unfold L40_26 L40_26G at h
    split at h
    all_goals exact nomatch (show (none : Option R) = some r from h)
  | n + 1 => by
    intro pin T H K r h
    unfold L40_26 L40_26G at h
    split at h
    · obtain ⟨ex, T1, H1, h, hb⟩ := codeK_sound (cx40_26_ok k) (run_sound (cx40_26_ok k) 4) _ fi40 _ _ _ _ _ (L40_26_cok k) ((octagon_Oct_close_l4_gen octagon_floor octagon_Oct_close_l0 octagon_Oct_close_l1 octagon_Oct_close_l2 octagon_Oct_close_l3 octagon_Oct_close_l4 k n _ _ _ _ _ _ _ _ K).trans h)
      exact loop_step (fun T H hh => L40_26_ok k n _ T H K r hh) hb h
    · cases h
@[reducible] def octagon_Oct_close_l5Y (R : Type) : Type := Nat → Nat → Int → Int → Int → (List Int) → Bool → ((List Int) → Bool → Option R) → Option R
noncomputable def octagon_Oct_close_l5B {R : Type} (octagon_Oct_close_l4 : octagon_Oct_close_l4Y R) (k : Nat) (rec : Int → Int → Int → (List Int) → Bool → Option R) (x1 : Int) (x2 : Int) (x3 : Int) (x4 : List Int) (x5 : Bool) (K0 : (List Int) → Bool → Option R) : Option R :=
  cond (decide (x2 < x1)) (
    cond (decide (0 ≤ x2)) (
      cond (decide (x2 < 16)) (
        cond (decide (0 ≤ (bXor .i64 x2 1))) (
          cond (decide ((bXor .i64 x2 1) < 16)) (
            Option.bind (x4[((((Int.toNat x2) * 16) + 0) + (Int.toNat (bXor .i64 x2 1)))]?) fun ye1 =>
            cond (decide (ye1 < 0)) (
              K0 x4 true) (
              cond (decide (0 ≤ x2)) (
                cond (decide (x2 < 16)) (
                  cond (decide (0 ≤ x2)) (
                    cond (decide (x2 < 16)) (
                      Option.bind (x4[((((Int.toNat x2) * 16) + 0) + (Int.toNat x2))]?) fun ye2 =>
                      cond (decide (0 ≤ (bXor .i64 x2 1))) (
                        cond (decide ((bXor .i64 x2 1) < 16)) (
                          cond (decide (0 ≤ (bXor .i64 x2 1))) (
                            cond (decide ((bXor .i64 x2 1) < 16)) (
                              Option.bind (x4[((((Int.toNat (bXor .i64 x2 1)) * 16) + 0) + (Int.toNat (bXor .i64 x2 1)))]?) fun ye3 =>
                              cond (decide ((Wi64 (ye2 + ye3)) < 0)) (
                                K0 x4 true) (
                                octagon_Oct_close_l4 k k x2 x1 x2 x3 0 x3 x4 x5 (fun yr4 =>
                                  rec x1 (Wi64 (x2 + 1)) x3 yr4 x5))) (
                              none)) (
                            none)) (
                          none)) (
                        none)) (
                      none)) (
                    none)) (
                  none)) (
                none))) (
            none)) (
          none)) (
        none)) (
      none)) (
    K0 x4 x5)
noncomputable def octagon_Oct_close_l5 {R : Type} (k : Nat) : Nat → Int → Int → Int → (List Int) → Bool → ((List Int) → Bool → Option R) → Option R
  | 0, _, _, _, _, _, _ => none
  | n + 1, x1, x2, x3, x4, x5, K0 => octagon_Oct_close_l5B octagon_Oct_close_l4 k (fun x1 x2 x3 x4 x5 => octagon_Oct_close_l5 k n x1 x2 x3 x4 x5 K0) x1 x2 x3 x4 x5 K0
noncomputable def cx40_21 {R : Type} (k : Nat) : Cx R := mkCx Ty exts [(44, true, S44 k)] fi40 [(9, L40_9 k k), (5, L40_5 k k), (2, L40_2 k k), (16, L40_16 k k), (26, L40_26 k k)] []
theorem cx40_21_ok {R : Type} (k : Nat) : CxOk Try.prog (cx40_21 k : Cx R) := mkCx_ok (c := ((Try.f40).body.getD .skip)) ty_ok mixed exts_ok (allSum_cons (S44_ok k) en44 allSum_nil) Try.func40 en40 (by kernel_rfl) (by kernel_rfl) (allLoop_loop (by kernel_rfl) (L40_9_ok k k) (allLoop_loop (by kernel_rfl) (L40_5_ok k k) (allLoop_loop (by kernel_rfl) (L40_2_ok k k) (allLoop_loop (by kernel_rfl) (L40_16_ok k k) (allLoop_loop (by kernel_rfl) (L40_26_ok k k) allLoop_nil))))) allCut_nil
noncomputable def L40_21G {R : Type} (octagon_Oct_close_l5 : octagon_Oct_close_l5Y R) (k n : Nat) : LSum R := fun pin T H K => match pin, T, H with
  | 1, [(0, .ptr 0 0 0 0 0), (103, .i .i64 x1), (104, .i .i64 x2)], ⟨1, [(0, some ⟨0, false, .mix [.i .i64 x3] [.i .i64] 256 x4 [.b x5]⟩)]⟩ => octagon_Oct_close_l5 k n x1 x2 x3 x4 x5 (fun q2 q3 => K (.exit 8) [] ⟨1, [(0, some ⟨0, false, .mix [.i .i64 x3] [.i .i64] 256 q2 [.b q3]⟩)]⟩)
  | _, _, _ => none
noncomputable def L40_21 {R : Type} (k n : Nat) : LSum R := L40_21G octagon_Oct_close_l5 k n
theorem octagon_Oct_close_l5_gen {R : Type} (octagon_floor : octagon_floorY R) (octagon_Oct_close_l0 : octagon_Oct_close_l0Y R) (octagon_Oct_close_l1 : octagon_Oct_close_l1Y R) (octagon_Oct_close_l2 : octagon_Oct_close_l2Y R) (octagon_Oct_close_l3 : octagon_Oct_close_l3Y R) (octagon_Oct_close_l4 : octagon_Oct_close_l4Y R) (octagon_Oct_close_l5 : octagon_Oct_close_l5Y R) (k n : Nat) (x1 : Int) (x2 : Int) (x3 : Int) (x4 : List Int) (x5 : Bool) (K : Kont R) :
    (fun C => codeK C (run C 4)) (mkCx Ty exts [(44, true, S44G octagon_floor k)] fi40 [(9, L40_9G octagon_Oct_close_l0 k k), (5, L40_5G octagon_Oct_close_l1 k k), (2, L40_2G octagon_Oct_close_l2 k k), (16, L40_16G octagon_Oct_close_l3 k k), (26, L40_26G octagon_Oct_close_l4 k k)] []) 1 fi40 (loopAt ((Try.f40).body.getD .skip) 21) [(0, .ptr 0 0 0 0 0), (103, .i .i64 x1), (104, .i .i64 x2)] ⟨1, [(0, some ⟨0, false, .mix [.i .i64 x3] [.i .i64] 256 x4 [.b x5]⟩)]⟩ (fun ex T H => match (generalizing := false) ex with
      | .normal => normAt (some [0, 103, 104]) 1 T H (fun T H => L40_21G octagon_Oct_close_l5 k n 1 T H K)
      | ex => exitNorm fi40.ann 21 1 K ex T H) =
    octagon_Oct_close_l5B octagon_Oct_close_l4 k (fun x1 x2 x3 x4 x5 => octagon_Oct_close_l5 k n x1 x2 x3 x4 x5 (fun q2 q3 => K (.exit 8) [] ⟨1, [(0, some ⟨0, false, .mix [.i .i64 x3] [.i .i64] 256 q2 [.b q3]⟩)]⟩)) x1 x2 x3 x4 x5 (fun q2 q3 => K (.exit 8) [] ⟨1, [(0, some ⟨0, false, .mix [.i .i64 x3] [.i .i64] 256 q2 [.b q3]⟩)]⟩) := by kernel_rfl
theorem L40_21_cok {R : Type} (k : Nat) : CodeOk Try.prog (cx40_21 k : Cx R) fi40 (loopAt ((Try.f40).body.getD .skip) 21) := loopAt_ok (((cx40_21_ok k).fns 40 fi40 (by kernel_rfl)).2.2.2 ((Try.f40).body.getD .skip) (by kernel_rfl))
theorem L40_21_ok {R : Type} (k : Nat) : ∀ n, LoopOk Try.prog (Try.f40).ntmps (loopAt ((Try.f40).body.getD .skip) 21) (L40_21 k n : LSum R)
  | 0 => by
    intro pin T H K r h
    unfold L40_21 L40_21G at h
    split at h
    all_goals exact nomatch (show (none : Option R) = some r from h)
  | n + 1 => by
    intro pin T H K r h
    unfold L40_21 L40_21G at h
    split at h
    · obtain ⟨ex, T1, H1, h, hb⟩ := codeK_sound (cx40_21_ok k) (run_sound (cx40_21_ok k) 4) _ fi40 _ _ _ _ _ (L40_21_cok k) ((octagon_Oct_close_l5_gen octagon_floor octagon_Oct_close_l0 octagon_Oct_close_l1 octagon_Oct_close_l2 octagon_Oct_close_l3 octagon_Oct_close_l4 octagon_Oct_close_l5 k n _ _ _ _ _ K).trans h)
      exact loop_step (fun T H hh => L40_21_ok k n _ T H K r hh) hb h
    · cases h
noncomputable def cx40 {R : Type} (k : Nat) : Cx R := mkCx Ty exts [(44, true, S44 k)] fi40 [(9, L40_9 k k), (5, L40_5 k k), (2, L40_2 k k), (16, L40_16 k k), (26, L40_26 k k), (21, L40_21 k k)] []
theorem cx40_ok {R : Type} (k : Nat) : CxOk Try.prog (cx40 k : Cx R) := mkCx_ok (c := ((Try.f40).body.getD .skip)) ty_ok mixed exts_ok (allSum_cons (S44_ok k) en44 allSum_nil) Try.func40 en40 (by kernel_rfl) (by kernel_rfl) (allLoop_loop (by kernel_rfl) (L40_9_ok k k) (allLoop_loop (by kernel_rfl) (L40_5_ok k k) (allLoop_loop (by kernel_rfl) (L40_2_ok k k) (allLoop_loop (by kernel_rfl) (L40_16_ok k k) (allLoop_loop (by kernel_rfl) (L40_26_ok k k) (allLoop_loop (by kernel_rfl) (L40_21_ok k k) allLoop_nil)))))) allCut_nil
@[reducible] def octagon_Oct_closeY (R : Type) : Type := Nat → Int → (List Int) → Bool → ((List Int) → Bool → Option R) → Option R
noncomputable def octagon_Oct_closeT {R : Type} (octagon_Oct_close_l2 : octagon_Oct_close_l2Y R) (octagon_Oct_close_l3 : octagon_Oct_close_l3Y R) (octagon_Oct_close_l5 : octagon_Oct_close_l5Y R) (k : Nat) (a1 : Int) (a2 : List Int) (a3 : Bool) (K0 : (List Int) → Bool → Option R) : Option R :=
  cond a3 (
    K0 a2 a3) (
    octagon_Oct_close_l2 k k a1 0 a1 a2 a3 (fun r1 =>
      octagon_Oct_close_l3 k k a1 0 a1 r1 a3 (fun r2 =>
        octagon_Oct_close_l5 k k a1 0 a1 r2 a3 (fun r3 r4 =>
          K0 r3 r4))))
noncomputable def octagon_Oct_close {R : Type} (k : Nat) (a1 : Int) (a2 : List Int) (a3 : Bool) (K0 : (List Int) → Bool → Option R) : Option R := octagon_Oct_closeT octagon_Oct_close_l2 octagon_Oct_close_l3 octagon_Oct_close_l5 k a1 a2 a3 K0
theorem octagon_Oct_close_gen {R : Type} (octagon_floor : octagon_floorY R) (octagon_Oct_close_l0 : octagon_Oct_close_l0Y R) (octagon_Oct_close_l1 : octagon_Oct_close_l1Y R) (octagon_Oct_close_l2 : octagon_Oct_close_l2Y R) (octagon_Oct_close_l3 : octagon_Oct_close_l3Y R) (octagon_Oct_close_l4 : octagon_Oct_close_l4Y R) (octagon_Oct_close_l5 : octagon_Oct_close_l5Y R) (k : Nat) (a1 : Int) (a2 : List Int) (a3 : Bool) (K : AV → Heap → Option R) :
    fnK (mkCx Ty exts [(44, true, S44G octagon_floor k)] fi40 [(9, L40_9G octagon_Oct_close_l0 k k), (5, L40_5G octagon_Oct_close_l1 k k), (2, L40_2G octagon_Oct_close_l2 k k), (16, L40_16G octagon_Oct_close_l3 k k), (26, L40_26G octagon_Oct_close_l4 k k), (21, L40_21G octagon_Oct_close_l5 k k)] []) 6 40 [.ptr 0 0 0 0 0] ⟨1, [(0, some ⟨0, false, .mix [.i .i64 a1] [.i .i64] 256 a2 [.b a3]⟩)]⟩ K = octagon_Oct_closeT octagon_Oct_close_l2 octagon_Oct_close_l3 octagon_Oct_close_l5 k a1 a2 a3 (fun q2 q3 => K .u ⟨1, [(0, some ⟨0, false, .mix [.i .i64 a1] [.i .i64] 256 q2 [.b q3]⟩)]⟩) := by kernel_rfl
noncomputable def S40G {R : Type} (octagon_Oct_close : octagon_Oct_closeY R) (k : Nat) : Sum R := fun args H K => match args, H with
  | [.ptr 0 0 0 0 0], ⟨1, [(0, some ⟨0, false, .mix [.i .i64 a1] [.i .i64] 256 a2 [.b a3]⟩)]⟩ => octagon_Oct_close k a1 a2 a3 (fun q2 q3 => K .u ⟨1, [(0, some ⟨0, false, .mix [.i .i64 a1] [.i .i64] 256 q2 [.b q3]⟩)]⟩)
  | _, _ => none
noncomputable def S40 {R : Type} (k : Nat) : Sum R := S40G octagon_Oct_close k
theorem S40_ok {R : Type} (k : Nat) : SumOk Try.prog 40 false (S40 k : Sum R) := by
  intro args H K r h
  unfold S40 S40G at h
  split at h
  · exact fnK_sound (cx40_ok k) 6 40 _ _ K r ((octagon_Oct_close_gen octagon_floor octagon_Oct_close_l0 octagon_Oct_close_l1 octagon_Oct_close_l2 octagon_Oct_close_l3 octagon_Oct_close_l4 octagon_Oct_close_l5 k _ _ _ K).trans h)
  · cases h
-- function 11: (*plumbline/octagon.Oct).Limit
noncomputable def fi11 : FnI := ⟨11, Try.f11, []⟩
theorem en11 : Enters Try.prog 11 := enters_of Try.func11 (c := ((Try.f11).body.getD .skip)) (by kernel_rfl) (by kernel_rfl)
noncomputable def cx11 {R : Type} (k : Nat) : Cx R := mkCx Ty exts [(37, true, S37 k), (38, false, S38 k), (39, true, S39 k), (40, false, S40 k)] fi11 [] []
theorem cx11_ok {R : Type} (k : Nat) : CxOk Try.prog (cx11 k : Cx R) := mkCx_ok (c := ((Try.f11).body.getD .skip)) ty_ok mixed exts_ok (allSum_cons (S37_ok k) en37 (allSum_cons (S38_ok k) en38 (allSum_cons (S39_ok k) en39 (allSum_cons (S40_ok k) en40 allSum_nil)))) Try.func11 en11 (by kernel_rfl) (by kernel_rfl) allLoop_nil allCut_nil
@[reducible] def octagon_Oct_Limit_n0Y (R : Type) : Type := Nat → Int → Bool → Int → Bool → Int → (Int → Option R) → Option R
noncomputable def octagon_Oct_Limit_n0T {R : Type} (octagon_Oct_let_n0 : octagon_Oct_let_n0Y R) (octagon_Oct_may_n0 : octagon_Oct_may_n0Y R) (octagon_node : octagon_nodeY R) (k : Nat) (a1 : Int) (a2 : Bool) (a3 : Int) (a4 : Bool) (a5 : Int) (K0 : Int → Option R) : Option R :=
  octagon_Oct_may_n0 k 34359738368 a5 [a1, a3] (fun r1 =>
    cond (r1 != 0) (
      K0 r1) (
      octagon_node k a1 a2 (fun r2 =>
        octagon_node k a3 a4 (fun r3 =>
          octagon_Oct_let_n0 k r2 r3 a5))))
noncomputable def octagon_Oct_Limit_n0 {R : Type} (k : Nat) (a1 : Int) (a2 : Bool) (a3 : Int) (a4 : Bool) (a5 : Int) (K0 : Int → Option R) : Option R := octagon_Oct_Limit_n0T octagon_Oct_let_n0 octagon_Oct_may_n0 octagon_node k a1 a2 a3 a4 a5 K0
theorem octagon_Oct_Limit_n0_gen {R : Type} (octagon_Oct_may_n0 : octagon_Oct_may_n0Y R) (octagon_Oct_may : octagon_Oct_mayY R) (octagon_Oct_let_n0 : octagon_Oct_let_n0Y R) (octagon_Oct_let : octagon_Oct_letY R) (octagon_node : octagon_nodeY R) (octagon_Oct_close : octagon_Oct_closeY R) (k : Nat) (a1 : Int) (a2 : Bool) (a3 : Int) (a4 : Bool) (a5 : Int) (K : AV → Heap → Option R) :
    fnK (mkCx Ty exts [(37, true, S37G octagon_Oct_may_n0 octagon_Oct_may k), (38, false, S38G octagon_Oct_let_n0 octagon_Oct_let k), (39, true, S39G octagon_node k), (40, false, S40G octagon_Oct_close k)] fi11 [] []) 6 11 [.np, .i .i64 a1, .b a2, .i .i64 a3, .b a4, .i .i64 a5] ⟨0, []⟩ K = octagon_Oct_Limit_n0T octagon_Oct_let_n0 octagon_Oct_may_n0 octagon_node k a1 a2 a3 a4 a5 (fun q1 => K (.i .i64 q1) ⟨0, []⟩) := by kernel_rfl
@[reducible] def octagon_Oct_LimitY (R : Type) : Type := Nat → Int → Bool → Int → Bool → Int → Int → (List Int) → Bool → (Int → (List Int) → Bool → Option R) → Option R
noncomputable def octagon_Oct_LimitT {R : Type} (octagon_Oct_close : octagon_Oct_closeY R) (octagon_Oct_let : octagon_Oct_letY R) (octagon_Oct_may : octagon_Oct_mayY R) (octagon_node : octagon_nodeY R) (k : Nat) (a1 : Int) (a2 : Bool) (a3 : Int) (a4 : Bool) (a5 : Int) (a6 : Int) (a7 : List Int) (a8 : Bool) (K0 : Int → (List Int) → Bool → Option R) : Option R :=
  octagon_Oct_may k 34359738368 a5 a6 a7 a8 [a1, a3] (fun r1 =>
    cond (r1 != 0) (
      K0 r1 a7 a8) (
      octagon_node k a1 a2 (fun r2 =>
        octagon_node k a3 a4 (fun r3 =>
          octagon_Oct_let k r2 r3 a5 a6 a7 a8 (fun r4 =>
            octagon_Oct_close k a6 r4 a8 (fun r5 r6 =>
              K0 0 r5 r6))))))
noncomputable def octagon_Oct_Limit {R : Type} (k : Nat) (a1 : Int) (a2 : Bool) (a3 : Int) (a4 : Bool) (a5 : Int) (a6 : Int) (a7 : List Int) (a8 : Bool) (K0 : Int → (List Int) → Bool → Option R) : Option R := octagon_Oct_LimitT octagon_Oct_close octagon_Oct_let octagon_Oct_may octagon_node k a1 a2 a3 a4 a5 a6 a7 a8 K0
theorem octagon_Oct_Limit_gen {R : Type} (octagon_Oct_may_n0 : octagon_Oct_may_n0Y R) (octagon_Oct_may : octagon_Oct_mayY R) (octagon_Oct_let_n0 : octagon_Oct_let_n0Y R) (octagon_Oct_let : octagon_Oct_letY R) (octagon_node : octagon_nodeY R) (octagon_Oct_close : octagon_Oct_closeY R) (k : Nat) (a1 : Int) (a2 : Bool) (a3 : Int) (a4 : Bool) (a5 : Int) (a6 : Int) (a7 : List Int) (a8 : Bool) (K : AV → Heap → Option R) :
    fnK (mkCx Ty exts [(37, true, S37G octagon_Oct_may_n0 octagon_Oct_may k), (38, false, S38G octagon_Oct_let_n0 octagon_Oct_let k), (39, true, S39G octagon_node k), (40, false, S40G octagon_Oct_close k)] fi11 [] []) 6 11 [.ptr 0 0 0 0 0, .i .i64 a1, .b a2, .i .i64 a3, .b a4, .i .i64 a5] ⟨1, [(0, some ⟨0, false, .mix [.i .i64 a6] [.i .i64] 256 a7 [.b a8]⟩)]⟩ K = octagon_Oct_LimitT octagon_Oct_close octagon_Oct_let octagon_Oct_may octagon_node k a1 a2 a3 a4 a5 a6 a7 a8 (fun q1 q3 q4 => K (.i .i64 q1) ⟨1, [(0, some ⟨0, false, .mix [.i .i64 a6] [.i .i64] 256 q3 [.b q4]⟩)]⟩) := by kernel_rfl
noncomputable def S11G {R : Type} (octagon_Oct_Limit_n0 : octagon_Oct_Limit_n0Y R) (octagon_Oct_Limit : octagon_Oct_LimitY R) (k : Nat) : Sum R := fun args H K => match args, H with
  | [.np, .i .i64 a1, .b a2, .i .i64 a3, .b a4, .i .i64 a5], ⟨0, []⟩ => octagon_Oct_Limit_n0 k a1 a2 a3 a4 a5 (fun q1 => K (.i .i64 q1) ⟨0, []⟩)
  | [.ptr 0 0 0 0 0, .i .i64 a1, .b a2, .i .i64 a3, .b a4, .i .i64 a5], ⟨1, [(0, some ⟨0, false, .mix [.i .i64 a6] [.i .i64] 256 a7 [.b a8]⟩)]⟩ => octagon_Oct_Limit k a1 a2 a3 a4 a5 a6 a7 a8 (fun q1 q3 q4 => K (.i .i64 q1) ⟨1, [(0, some ⟨0, false, .mix [.i .i64 a6] [.i .i64] 256 q3 [.b q4]⟩)]⟩)
  | _, _ => none
noncomputable def S11 {R : Type} (k : Nat) : Sum R := S11G octagon_Oct_Limit_n0 octagon_Oct_Limit k
theorem S11_ok {R : Type} (k : Nat) : SumOk Try.prog 11 false (S11 k : Sum R) := by
  intro args H K r h
  unfold S11 S11G at h
  split at h
  · exact fnK_sound (cx11_ok k) 6 11 _ _ K r ((octagon_Oct_Limit_n0_gen octagon_Oct_may_n0 octagon_Oct_may octagon_Oct_let_n0 octagon_Oct_let octagon_node octagon_Oct_close k _ _ _ _ _ K).trans h)
  · exact fnK_sound (cx11_ok k) 6 11 _ _ K r ((octagon_Oct_Limit_gen octagon_Oct_may_n0 octagon_Oct_may octagon_Oct_let_n0 octagon_Oct_let octagon_node octagon_Oct_close k _ _ _ _ _ _ _ _ K).trans h)
  · cases h
-- function 12: (*plumbline/octagon.Oct).Bound
noncomputable def fi12 : FnI := ⟨12, Try.f12, []⟩
theorem en12 : Enters Try.prog 12 := enters_of Try.func12 (c := ((Try.f12).body.getD .skip)) (by kernel_rfl) (by kernel_rfl)
noncomputable def cx12 {R : Type} (k : Nat) : Cx R := mkCx Ty exts [(39, true, S39 k), (41, true, S41 k)] fi12 [] []
theorem cx12_ok {R : Type} (k : Nat) : CxOk Try.prog (cx12 k : Cx R) := mkCx_ok (c := ((Try.f12).body.getD .skip)) ty_ok mixed exts_ok (allSum_cons (S39_ok k) en39 (allSum_cons (S41_ok k) en41 allSum_nil)) Try.func12 en12 (by kernel_rfl) (by kernel_rfl) allLoop_nil allCut_nil
@[reducible] def octagon_Oct_Bound_n0Y (R : Type) : Type := Nat → Int → Bool → Int → Bool → (Int → Option R) → Option R
noncomputable def octagon_Oct_Bound_n0T {R : Type} (octagon_Oct_has_n0 : octagon_Oct_has_n0Y R) (k : Nat) (a1 : Int) (a2 : Bool) (a3 : Int) (a4 : Bool) (K0 : Int → Option R) : Option R :=
  octagon_Oct_has_n0 k a1 (fun r1 =>
    cond (!r1) (
      K0 0) (
      octagon_Oct_has_n0 k a3 (fun r2 =>
        cond (!r2) (
          K0 0) (
          none))))
noncomputable def octagon_Oct_Bound_n0 {R : Type} (k : Nat) (a1 : Int) (a2 : Bool) (a3 : Int) (a4 : Bool) (K0 : Int → Option R) : Option R := octagon_Oct_Bound_n0T octagon_Oct_has_n0 k a1 a2 a3 a4 K0
theorem octagon_Oct_Bound_n0_gen {R : Type} (octagon_node : octagon_nodeY R) (octagon_Oct_has_n0 : octagon_Oct_has_n0Y R) (octagon_Oct_has : octagon_Oct_hasY R) (k : Nat) (a1 : Int) (a2 : Bool) (a3 : Int) (a4 : Bool) (K : AV → Heap → Option R) :
    fnK (mkCx Ty exts [(39, true, S39G octagon_node k), (41, true, S41G octagon_Oct_has_n0 octagon_Oct_has k)] fi12 [] []) 6 12 [.np, .i .i64 a1, .b a2, .i .i64 a3, .b a4] ⟨0, []⟩ K = octagon_Oct_Bound_n0T octagon_Oct_has_n0 k a1 a2 a3 a4 (fun q1 => K (.i .i64 q1) ⟨0, []⟩) := by kernel_rfl
@[reducible] def octagon_Oct_BoundY (R : Type) : Type := Nat → Int → Bool → Int → Bool → Int → (List Int) → Bool → (Int → Option R) → Option R
noncomputable def octagon_Oct_BoundT {R : Type} (octagon_Oct_has : octagon_Oct_hasY R) (octagon_node : octagon_nodeY R) (k : Nat) (a1 : Int) (a2 : Bool) (a3 : Int) (a4 : Bool) (a5 : Int) (a6 : List Int) (a7 : Bool) (K0 : Int → Option R) : Option R :=
  octagon_Oct_has k a1 a5 a6 a7 (fun r1 =>
    cond (!r1) (
      K0 0) (
      octagon_Oct_has k a3 a5 a6 a7 (fun r2 =>
        cond (!r2) (
          K0 0) (
          cond a7 (
            K0 (-1099511627776)) (
            octagon_node k a1 a2 (fun r3 =>
              octagon_node k a3 a4 (fun r4 =>
                cond (decide (0 ≤ r3)) (
                  cond (decide (r3 < 16)) (
                    cond (decide (0 ≤ r4)) (
                      cond (decide (r4 < 16)) (
                        Option.bind (a6[((((Int.toNat r3) * 16) + 0) + (Int.toNat r4))]?) fun e5 =>
                        K0 e5) (
                        none)) (
                      none)) (
                    none)) (
                  none))))))))
noncomputable def octagon_Oct_Bound {R : Type} (k : Nat) (a1 : Int) (a2 : Bool) (a3 : Int) (a4 : Bool) (a5 : Int) (a6 : List Int) (a7 : Bool) (K0 : Int → Option R) : Option R := octagon_Oct_BoundT octagon_Oct_has octagon_node k a1 a2 a3 a4 a5 a6 a7 K0
theorem octagon_Oct_Bound_gen {R : Type} (octagon_node : octagon_nodeY R) (octagon_Oct_has_n0 : octagon_Oct_has_n0Y R) (octagon_Oct_has : octagon_Oct_hasY R) (k : Nat) (a1 : Int) (a2 : Bool) (a3 : Int) (a4 : Bool) (a5 : Int) (a6 : List Int) (a7 : Bool) (K : AV → Heap → Option R) :
    fnK (mkCx Ty exts [(39, true, S39G octagon_node k), (41, true, S41G octagon_Oct_has_n0 octagon_Oct_has k)] fi12 [] []) 6 12 [.ptr 0 0 0 0 0, .i .i64 a1, .b a2, .i .i64 a3, .b a4] ⟨1, [(0, some ⟨0, false, .mix [.i .i64 a5] [.i .i64] 256 a6 [.b a7]⟩)]⟩ K = octagon_Oct_BoundT octagon_Oct_has octagon_node k a1 a2 a3 a4 a5 a6 a7 (fun q1 => K (.i .i64 q1) ⟨1, [(0, some ⟨0, false, .mix [.i .i64 a5] [.i .i64] 256 a6 [.b a7]⟩)]⟩) := by kernel_rfl
noncomputable def S12G {R : Type} (octagon_Oct_Bound_n0 : octagon_Oct_Bound_n0Y R) (octagon_Oct_Bound : octagon_Oct_BoundY R) (k : Nat) : Sum R := fun args H K => match args, H with
  | [.np, .i .i64 a1, .b a2, .i .i64 a3, .b a4], ⟨0, []⟩ => octagon_Oct_Bound_n0 k a1 a2 a3 a4 (fun q1 => K (.i .i64 q1) ⟨0, []⟩)
  | [.ptr 0 0 0 0 0, .i .i64 a1, .b a2, .i .i64 a3, .b a4], ⟨1, [(0, some ⟨0, false, .mix [.i .i64 a5] [.i .i64] 256 a6 [.b a7]⟩)]⟩ => octagon_Oct_Bound k a1 a2 a3 a4 a5 a6 a7 (fun q1 => K (.i .i64 q1) ⟨1, [(0, some ⟨0, false, .mix [.i .i64 a5] [.i .i64] 256 a6 [.b a7]⟩)]⟩)
  | _, _ => none
noncomputable def S12 {R : Type} (k : Nat) : Sum R := S12G octagon_Oct_Bound_n0 octagon_Oct_Bound k
theorem S12_ok0 {R : Type} (k : Nat) : SumOk Try.prog 12 false (S12 k : Sum R) := by
  intro args H K r h
  unfold S12 S12G at h
  split at h
  · exact fnK_sound (cx12_ok k) 6 12 _ _ K r ((octagon_Oct_Bound_n0_gen octagon_node octagon_Oct_has_n0 octagon_Oct_has k _ _ _ _ K).trans h)
  · exact fnK_sound (cx12_ok k) 6 12 _ _ K r ((octagon_Oct_Bound_gen octagon_node octagon_Oct_has_n0 octagon_Oct_has k _ _ _ _ _ _ _ K).trans h)
  · cases h
theorem S12_ok {R : Type} (k : Nat) : SumOk Try.prog 12 true (S12 k : Sum R) := by
  refine sumOk_keep (S12_ok0 k) ?_
  intro args H K r h
  unfold S12 S12G at h ⊢
  split at h
  · refine Eq.trans ?_ h
    show octagon_Oct_Bound_n0 k _ _ _ _ _ = octagon_Oct_Bound_n0 k _ _ _ _ _
    exact congrArg (octagon_Oct_Bound_n0 k _ _ _ _) (funext fun q1 => if_pos (keeps_app _ _ _ []))
  · refine Eq.trans ?_ h
    show octagon_Oct_Bound k _ _ _ _ _ _ _ _ = octagon_Oct_Bound k _ _ _ _ _ _ _ _
    exact congrArg (octagon_Oct_Bound k _ _ _ _ _ _ _) (funext fun q1 => if_pos (keeps_app _ _ _ []))
  · cases h
-- function 13: (*plumbline/octagon.Oct).Set
noncomputable def fi13 : FnI := ⟨13, Try.f13, []⟩
theorem en13 : Enters Try.prog 13 := enters_of Try.func13 (c := ((Try.f13).body.getD .skip)) (by kernel_rfl) (by kernel_rfl)
noncomputable def cx13 {R : Type} (k : Nat) : Cx R := mkCx Ty exts [(37, true, S37 k), (38, false, S38 k), (40, false, S40 k), (42, true, S42 k)] fi13 [] []
theorem cx13_ok {R : Type} (k : Nat) : CxOk Try.prog (cx13 k : Cx R) := mkCx_ok (c := ((Try.f13).body.getD .skip)) ty_ok mixed exts_ok (allSum_cons (S37_ok k) en37 (allSum_cons (S38_ok k) en38 (allSum_cons (S40_ok k) en40 (allSum_cons (S42_ok k) en42 allSum_nil)))) Try.func13 en13 (by kernel_rfl) (by kernel_rfl) allLoop_nil allCut_nil
@[reducible] def octagon_Oct_Set_n0Y (R : Type) : Type := Nat → Int → Bool → Int → Int → (Int → Option R) → Option R
noncomputable def octagon_Oct_Set_n0T {R : Type} (octagon_Oct_let_n0 : octagon_Oct_let_n0Y R) (octagon_Oct_may_n0 : octagon_Oct_may_n0Y R) (span_IntRight : span_IntRightY R) (k : Nat) (a1 : Int) (a2 : Bool) (a3 : Int) (a4 : Int) (K0 : Int → Option R) : Option R :=
  octagon_Oct_may_n0 k 0 0 [a1] (fun r1 =>
    cond (r1 != 0) (
      K0 r1) (
      span_IntRight k a2 a3 a4 (fun r2 =>
        cond (!r2) (
          K0 2) (
          cond a2 (
            none) (
            octagon_Oct_let_n0 k (Wi64 (2 * a1)) (Wi64 (2 * a1)) (Wi64 (2 * a4)))))))
noncomputable def octagon_Oct_Set_n0 {R : Type} (k : Nat) (a1 : Int) (a2 : Bool) (a3 : Int) (a4 : Int) (K0 : Int → Option R) : Option R := octagon_Oct_Set_n0T octagon_Oct_let_n0 octagon_Oct_may_n0 span_IntRight k a1 a2 a3 a4 K0
theorem octagon_Oct_Set_n0_gen {R : Type} (octagon_Oct_may_n0 : octagon_Oct_may_n0Y R) (octagon_Oct_may : octagon_Oct_mayY R) (octagon_Oct_let_n0 : octagon_Oct_let_n0Y R) (octagon_Oct_let : octagon_Oct_letY R) (octagon_Oct_close : octagon_Oct_closeY R) (span_IntRight : span_IntRightY R) (k : Nat) (a1 : Int) (a2 : Bool) (a3 : Int) (a4 : Int) (K : AV → Heap → Option R) :
    fnK (mkCx Ty exts [(37, true, S37G octagon_Oct_may_n0 octagon_Oct_may k), (38, false, S38G octagon_Oct_let_n0 octagon_Oct_let k), (40, false, S40G octagon_Oct_close k), (42, true, S42G span_IntRight k)] fi13 [] []) 6 13 [.np, .i .i64 a1, .agg [.b a2, .i .i64 a3, .i .i64 a4]] ⟨0, []⟩ K = octagon_Oct_Set_n0T octagon_Oct_let_n0 octagon_Oct_may_n0 span_IntRight k a1 a2 a3 a4 (fun q1 => K (.i .i64 q1) ⟨0, []⟩) := by kernel_rfl
@[reducible] def octagon_Oct_SetY (R : Type) : Type := Nat → Int → Bool → Int → Int → Int → (List Int) → Bool → (Int → (List Int) → Bool → Option R) → Option R
noncomputable def octagon_Oct_SetT {R : Type} (octagon_Oct_close : octagon_Oct_closeY R) (octagon_Oct_let : octagon_Oct_letY R) (octagon_Oct_may : octagon_Oct_mayY R) (span_IntRight : span_IntRightY R) (k : Nat) (a1 : Int) (a2 : Bool) (a3 : Int) (a4 : Int) (a5 : Int) (a6 : List Int) (a7 : Bool) (K0 : Int → (List Int) → Bool → Option R) : Option R :=
  octagon_Oct_may k 0 0 a5 a6 a7 [a1] (fun r1 =>
    cond (r1 != 0) (
      K0 r1 a6 a7) (
      span_IntRight k a2 a3 a4 (fun r2 =>
        cond (!r2) (
          K0 2 a6 a7) (
          cond a2 (
            K0 0 a6 true) (
            octagon_Oct_let k (Wi64 (2 * a1)) (Wi64 (2 * a1)) (Wi64 (2 * a4)) a5 a6 a7 (fun r3 =>
              octagon_Oct_let k (Wi64 ((Wi64 (2 * a1)) + 1)) (Wi64 ((Wi64 (2 * a1)) + 1)) (Wi64 ((-2) * a3)) a5 r3 a7 (fun r4 =>
                octagon_Oct_close k a5 r4 a7 (fun r5 r6 =>
                  K0 0 r5 r6))))))))
noncomputable def octagon_Oct_Set {R : Type} (k : Nat) (a1 : Int) (a2 : Bool) (a3 : Int) (a4 : Int) (a5 : Int) (a6 : List Int) (a7 : Bool) (K0 : Int → (List Int) → Bool → Option R) : Option R := octagon_Oct_SetT octagon_Oct_close octagon_Oct_let octagon_Oct_may span_IntRight k a1 a2 a3 a4 a5 a6 a7 K0
theorem octagon_Oct_Set_gen {R : Type} (octagon_Oct_may_n0 : octagon_Oct_may_n0Y R) (octagon_Oct_may : octagon_Oct_mayY R) (octagon_Oct_let_n0 : octagon_Oct_let_n0Y R) (octagon_Oct_let : octagon_Oct_letY R) (octagon_Oct_close : octagon_Oct_closeY R) (span_IntRight : span_IntRightY R) (k : Nat) (a1 : Int) (a2 : Bool) (a3 : Int) (a4 : Int) (a5 : Int) (a6 : List Int) (a7 : Bool) (K : AV → Heap → Option R) :
    fnK (mkCx Ty exts [(37, true, S37G octagon_Oct_may_n0 octagon_Oct_may k), (38, false, S38G octagon_Oct_let_n0 octagon_Oct_let k), (40, false, S40G octagon_Oct_close k), (42, true, S42G span_IntRight k)] fi13 [] []) 6 13 [.ptr 0 0 0 0 0, .i .i64 a1, .agg [.b a2, .i .i64 a3, .i .i64 a4]] ⟨1, [(0, some ⟨0, false, .mix [.i .i64 a5] [.i .i64] 256 a6 [.b a7]⟩)]⟩ K = octagon_Oct_SetT octagon_Oct_close octagon_Oct_let octagon_Oct_may span_IntRight k a1 a2 a3 a4 a5 a6 a7 (fun q1 q3 q4 => K (.i .i64 q1) ⟨1, [(0, some ⟨0, false, .mix [.i .i64 a5] [.i .i64] 256 q3 [.b q4]⟩)]⟩) := by kernel_rfl
noncomputable def S13G {R : Type} (octagon_Oct_Set_n0 : octagon_Oct_Set_n0Y R) (octagon_Oct_Set : octagon_Oct_SetY R) (k : Nat) : Sum R := fun args H K => match args, H with
  | [.np, .i .i64 a1, .agg [.b a2, .i .i64 a3, .i .i64 a4]], ⟨0, []⟩ => octagon_Oct_Set_n0 k a1 a2 a3 a4 (fun q1 => K (.i .i64 q1) ⟨0, []⟩)
  | [.ptr 0 0 0 0 0, .i .i64 a1, .agg [.b a2, .i .i64 a3, .i .i64 a4]], ⟨1, [(0, some ⟨0, false, .mix [.i .i64 a5] [.i .i64] 256 a6 [.b a7]⟩)]⟩ => octagon_Oct_Set k a1 a2 a3 a4 a5 a6 a7 (fun q1 q3 q4 => K (.i .i64 q1) ⟨1, [(0, some ⟨0, false, .mix [.i .i64 a5] [.i .i64] 256 q3 [.b q4]⟩)]⟩)
  | _, _ => none
noncomputable def S13 {R : Type} (k : Nat) : Sum R := S13G octagon_Oct_Set_n0 octagon_Oct_Set k
theorem S13_ok {R : Type} (k : Nat) : SumOk Try.prog 13 false (S13 k : Sum R) := by
  intro args H K r h
  unfold S13 S13G at h
  split at h
  · exact fnK_sound (cx13_ok k) 6 13 _ _ K r ((octagon_Oct_Set_n0_gen octagon_Oct_may_n0 octagon_Oct_may octagon_Oct_let_n0 octagon_Oct_let octagon_Oct_close span_IntRight k _ _ _ _ K).trans h)
  · exact fnK_sound (cx13_ok k) 6 13 _ _ K r ((octagon_Oct_Set_gen octagon_Oct_may_n0 octagon_Oct_may octagon_Oct_let_n0 octagon_Oct_let octagon_Oct_close span_IntRight k _ _ _ _ _ _ _ K).trans h)
  · cases h
-- function 14: (*plumbline/octagon.Oct).Empty
noncomputable def fi14 : FnI := ⟨14, Try.f14, []⟩
theorem en14 : Enters Try.prog 14 := enters_of Try.func14 (c := ((Try.f14).body.getD .skip)) (by kernel_rfl) (by kernel_rfl)
noncomputable def cx14 {R : Type} (k : Nat) : Cx R := mkCx Ty exts [] fi14 [] []
theorem cx14_ok {R : Type} (k : Nat) : CxOk Try.prog (cx14 k : Cx R) := mkCx_ok (c := ((Try.f14).body.getD .skip)) ty_ok mixed exts_ok allSum_nil Try.func14 en14 (by kernel_rfl) (by kernel_rfl) allLoop_nil allCut_nil
@[reducible] def octagon_Oct_Empty_n0Y (R : Type) : Type := Nat → (Bool → Option R) → Option R
noncomputable def octagon_Oct_Empty_n0T {R : Type} (k : Nat) (K0 : Bool → Option R) : Option R :=
  K0 false
noncomputable def octagon_Oct_Empty_n0 {R : Type} (k : Nat) (K0 : Bool → Option R) : Option R := octagon_Oct_Empty_n0T k K0
theorem octagon_Oct_Empty_n0_gen {R : Type} (k : Nat) (K : AV → Heap → Option R) :
    fnK (mkCx Ty exts [] fi14 [] []) 6 14 [.np] ⟨0, []⟩ K = octagon_Oct_Empty_n0T k (fun q1 => K (.b q1) ⟨0, []⟩) := by kernel_rfl
@[reducible] def octagon_Oct_EmptyY (R : Type) : Type := Nat → Int → (List Int) → Bool → (Option R) → Option R
noncomputable def octagon_Oct_EmptyT {R : Type} (k : Nat) (a1 : Int) (a2 : List Int) (a3 : Bool) (K0 : Option R) : Option R :=
  K0
noncomputable def octagon_Oct_Empty {R : Type} (k : Nat) (a1 : Int) (a2 : List Int) (a3 : Bool) (K0 : Option R) : Option R := octagon_Oct_EmptyT k a1 a2 a3 K0
theorem octagon_Oct_Empty_gen {R : Type} (k : Nat) (a1 : Int) (a2 : List Int) (a3 : Bool) (K : AV → Heap → Option R) :
    fnK (mkCx Ty exts [] fi14 [] []) 6 14 [.ptr 0 0 0 0 0] ⟨1, [(0, some ⟨0, false, .mix [.i .i64 a1] [.i .i64] 256 a2 [.b a3]⟩)]⟩ K = octagon_Oct_EmptyT k a1 a2 a3 (K (.b a3) ⟨1, [(0, some ⟨0, false, .mix [.i .i64 a1] [.i .i64] 256 a2 [.b a3]⟩)]⟩) := by kernel_rfl
noncomputable def S14G {R : Type} (octagon_Oct_Empty_n0 : octagon_Oct_Empty_n0Y R) (octagon_Oct_Empty : octagon_Oct_EmptyY R) (k : Nat) : Sum R := fun args H K => match args, H with
  | [.np], ⟨0, []⟩ => octagon_Oct_Empty_n0 k (fun q1 => K (.b q1) ⟨0, []⟩)
  | [.ptr 0 0 0 0 0], ⟨1, [(0, some ⟨0, false, .mix [.i .i64 a1] [.i .i64] 256 a2 [.b a3]⟩)]⟩ => octagon_Oct_Empty k a1 a2 a3 (K (.b a3) ⟨1, [(0, some ⟨0, false, .mix [.i .i64 a1] [.i .i64] 256 a2 [.b a3]⟩)]⟩)
  | _, _ => none
noncomputable def S14 {R : Type} (k : Nat) : Sum R := S14G octagon_Oct_Empty_n0 octagon_Oct_Empty k
theorem S14_ok0 {R : Type} (k : Nat) : SumOk Try.prog 14 false (S14 k : Sum R) := by
  intro args H K r h
  unfold S14 S14G at h
  split at h
  · exact fnK_sound (cx14_ok k) 6 14 _ _ K r ((octagon_Oct_Empty_n0_gen k K).trans h)
  · exact fnK_sound (cx14_ok k) 6 14 _ _ K r ((octagon_Oct_Empty_gen k _ _ _ K).trans h)
  · cases h
theorem S14_ok {R : Type} (k : Nat) : SumOk Try.prog 14 true (S14 k : Sum R) := by
  refine sumOk_keep (S14_ok0 k) ?_
  intro args H K r h
  unfold S14 S14G at h ⊢
  split at h
  · refine Eq.trans ?_ h
    show octagon_Oct_Empty_n0 k _ = octagon_Oct_Empty_n0 k _
    exact congrArg (octagon_Oct_Empty_n0 k) (funext fun q1 => if_pos (keeps_app _ _ _ []))
  · refine Eq.trans ?_ h
    show octagon_Oct_Empty k _ _ _ _ = octagon_Oct_Empty k _ _ _ _
    exact congrArg (octagon_Oct_Empty k _ _ _) (if_pos (keeps_app _ _ _ []))
  · cases h
-- function 15: (*plumbline/octagon.Oct).Range
noncomputable def fi15 : FnI := ⟨15, Try.f15, []⟩
theorem en15 : Enters Try.prog 15 := enters_of Try.func15 (c := ((Try.f15).body.getD .skip)) (by kernel_rfl) (by kernel_rfl)
noncomputable def cx15 {R : Type} (k : Nat) : Cx R := mkCx Ty exts [(41, true, S41 k), (43, true, S43 k), (44, true, S44 k)] fi15 [] []
theorem cx15_ok {R : Type} (k : Nat) : CxOk Try.prog (cx15 k : Cx R) := mkCx_ok (c := ((Try.f15).body.getD .skip)) ty_ok mixed exts_ok (allSum_cons (S41_ok k) en41 (allSum_cons (S43_ok k) en43 (allSum_cons (S44_ok k) en44 allSum_nil))) Try.func15 en15 (by kernel_rfl) (by kernel_rfl) allLoop_nil allCut_nil
@[reducible] def octagon_Oct_Range_n0Y (R : Type) : Type := Nat → Int → (Bool → Int → Int → Option R) → Option R
noncomputable def octagon_Oct_Range_n0T {R : Type} (octagon_Oct_has_n0 : octagon_Oct_has_n0Y R) (k : Nat) (a1 : Int) (K0 : Bool → Int → Int → Option R) : Option R :=
  octagon_Oct_has_n0 k a1 (fun r1 =>
    cond (!r1) (
      K0 true 0 0) (
      none))
noncomputable def octagon_Oct_Range_n0 {R : Type} (k : Nat) (a1 : Int) (K0 : Bool → Int → Int → Option R) : Option R := octagon_Oct_Range_n0T octagon_Oct_has_n0 k a1 K0
theorem octagon_Oct_Range_n0_gen {R : Type} (octagon_Oct_has_n0 : octagon_Oct_has_n0Y R) (octagon_Oct_has : octagon_Oct_hasY R) (span_IntOf : span_IntOfY R) (octagon_floor : octagon_floorY R) (k : Nat) (a1 : Int) (K : AV → Heap → Option R) :
    fnK (mkCx Ty exts [(41, true, S41G octagon_Oct_has_n0 octagon_Oct_has k), (43, true, S43G span_IntOf k), (44, true, S44G octagon_floor k)] fi15 [] []) 6 15 [.np, .i .i64 a1] ⟨0, []⟩ K = octagon_Oct_Range_n0T octagon_Oct_has_n0 k a1 (fun q1 q2 q3 => K (.agg [.b q1, .i .i64 q2, .i .i64 q3]) ⟨0, []⟩) := by kernel_rfl
@[reducible] def octagon_Oct_RangeY (R : Type) : Type := Nat → Int → Int → (List Int) → Bool → (Bool → Int → Int → Option R) → Option R
noncomputable def octagon_Oct_RangeT {R : Type} (octagon_Oct_has : octagon_Oct_hasY R) (octagon_floor : octagon_floorY R) (span_IntOf : span_IntOfY R) (k : Nat) (a1 : Int) (a2 : Int) (a3 : List Int) (a4 : Bool) (K0 : Bool → Int → Int → Option R) : Option R :=
  octagon_Oct_has k a1 a2 a3 a4 (fun r1 =>
    cond (!r1) (
      K0 true 0 0) (
      cond a4 (
        K0 true 0 0) (
        cond (decide (0 ≤ (Wi64 ((Wi64 (2 * a1)) + 1)))) (
          cond (decide ((Wi64 ((Wi64 (2 * a1)) + 1)) < 16)) (
            cond (decide (0 ≤ (Wi64 ((Wi64 (2 * a1)) + 1)))) (
              cond (decide ((Wi64 ((Wi64 (2 * a1)) + 1)) < 16)) (
                Option.bind (a3[((((Int.toNat (Wi64 ((Wi64 (2 * a1)) + 1))) * 16) + 0) + (Int.toNat (Wi64 ((Wi64 (2 * a1)) + 1))))]?) fun e2 =>
                octagon_floor k e2 (fun r3 =>
                  cond (decide (0 ≤ (Wi64 (2 * a1)))) (
                    cond (decide ((Wi64 (2 * a1)) < 16)) (
                      cond (decide (0 ≤ (Wi64 (2 * a1)))) (
                        cond (decide ((Wi64 (2 * a1)) < 16)) (
                          Option.bind (a3[((((Int.toNat (Wi64 (2 * a1))) * 16) + 0) + (Int.toNat (Wi64 (2 * a1))))]?) fun e4 =>
                          octagon_floor k e4 (fun r5 =>
                            span_IntOf k (if (-2147483648) > (Wi64 (0 - r3)) then (-2147483648) else (Wi64 (0 - r3))) (if 2147483647 < r5 then 2147483647 else r5) (fun r6 r7 r8 =>
                              K0 r6 r7 r8))) (
                          none)) (
                        none)) (
                      none)) (
                    none))) (
                none)) (
              none)) (
            none)) (
          none))))
noncomputable def octagon_Oct_Range {R : Type} (k : Nat) (a1 : Int) (a2 : Int) (a3 : List Int) (a4 : Bool) (K0 : Bool → Int → Int → Option R) : Option R := octagon_Oct_RangeT octagon_Oct_has octagon_floor span_IntOf k a1 a2 a3 a4 K0
theorem octagon_Oct_Range_gen {R : Type} (octagon_Oct_has_n0 : octagon_Oct_has_n0Y R) (octagon_Oct_has : octagon_Oct_hasY R) (span_IntOf : span_IntOfY R) (octagon_floor : octagon_floorY R) (k : Nat) (a1 : Int) (a2 : Int) (a3 : List Int) (a4 : Bool) (K : AV → Heap → Option R) :
    fnK (mkCx Ty exts [(41, true, S41G octagon_Oct_has_n0 octagon_Oct_has k), (43, true, S43G span_IntOf k), (44, true, S44G octagon_floor k)] fi15 [] []) 6 15 [.ptr 0 0 0 0 0, .i .i64 a1] ⟨1, [(0, some ⟨0, false, .mix [.i .i64 a2] [.i .i64] 256 a3 [.b a4]⟩)]⟩ K = octagon_Oct_RangeT octagon_Oct_has octagon_floor span_IntOf k a1 a2 a3 a4 (fun q1 q2 q3 => K (.agg [.b q1, .i .i64 q2, .i .i64 q3]) ⟨1, [(0, some ⟨0, false, .mix [.i .i64 a2] [.i .i64] 256 a3 [.b a4]⟩)]⟩) := by kernel_rfl
noncomputable def S15G {R : Type} (octagon_Oct_Range_n0 : octagon_Oct_Range_n0Y R) (octagon_Oct_Range : octagon_Oct_RangeY R) (k : Nat) : Sum R := fun args H K => match args, H with
  | [.np, .i .i64 a1], ⟨0, []⟩ => octagon_Oct_Range_n0 k a1 (fun q1 q2 q3 => K (.agg [.b q1, .i .i64 q2, .i .i64 q3]) ⟨0, []⟩)
  | [.ptr 0 0 0 0 0, .i .i64 a1], ⟨1, [(0, some ⟨0, false, .mix [.i .i64 a2] [.i .i64] 256 a3 [.b a4]⟩)]⟩ => octagon_Oct_Range k a1 a2 a3 a4 (fun q1 q2 q3 => K (.agg [.b q1, .i .i64 q2, .i .i64 q3]) ⟨1, [(0, some ⟨0, false, .mix [.i .i64 a2] [.i .i64] 256 a3 [.b a4]⟩)]⟩)
  | _, _ => none
noncomputable def S15 {R : Type} (k : Nat) : Sum R := S15G octagon_Oct_Range_n0 octagon_Oct_Range k
theorem S15_ok0 {R : Type} (k : Nat) : SumOk Try.prog 15 false (S15 k : Sum R) := by
  intro args H K r h
  unfold S15 S15G at h
  split at h
  · exact fnK_sound (cx15_ok k) 6 15 _ _ K r ((octagon_Oct_Range_n0_gen octagon_Oct_has_n0 octagon_Oct_has span_IntOf octagon_floor k _ K).trans h)
  · exact fnK_sound (cx15_ok k) 6 15 _ _ K r ((octagon_Oct_Range_gen octagon_Oct_has_n0 octagon_Oct_has span_IntOf octagon_floor k _ _ _ _ K).trans h)
  · cases h
theorem S15_ok {R : Type} (k : Nat) : SumOk Try.prog 15 true (S15 k : Sum R) := by
  refine sumOk_keep (S15_ok0 k) ?_
  intro args H K r h
  unfold S15 S15G at h ⊢
  split at h
  · refine Eq.trans ?_ h
    show octagon_Oct_Range_n0 k _ _ = octagon_Oct_Range_n0 k _ _
    exact congrArg (octagon_Oct_Range_n0 k _) (funext fun q1 => funext fun q2 => funext fun q3 => if_pos (keeps_app _ _ _ []))
  · refine Eq.trans ?_ h
    show octagon_Oct_Range k _ _ _ _ _ = octagon_Oct_Range k _ _ _ _ _
    exact congrArg (octagon_Oct_Range k _ _ _ _) (funext fun q1 => funext fun q2 => funext fun q3 => if_pos (keeps_app _ _ _ []))
  · cases h
end Go.Proofs.Ytejfnbjhcohkiaa.N
