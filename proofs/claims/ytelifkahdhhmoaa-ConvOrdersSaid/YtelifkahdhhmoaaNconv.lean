/- Printed by wip/gen/emit.py: functions of the program as plain Lean functions, tied to the model by the evaluator. Conditions: none. -/
import Derived.Test.YtelifkahdhhmoaaNsoft
import Derived.Test.YtelifkahdhhmoaaNwide
namespace Go.Proofs.Ytelifkahdhhmoaa.N
set_option linter.unusedVariables false
set_option maxRecDepth 100000
open Go Go.Ab
-- function 43: plumbline/conv.digits
noncomputable def fi43 : FnI := ⟨43, Try.f43, [(100003, [0, 2, 3, 4, 6, 10, 11, 12]), (200000, []), (3000000, [2, 3, 4, 5]), (3003000, [2, 3, 4, 6]), (4003000, [])]⟩
theorem en43 : Enters Try.prog 43 := enters_of Try.func43 (c := ((Try.f43).body.getD .skip)) (by kernel_rfl) (by kernel_rfl)
@[reducible] def conv_digits_l0Y (R : Type) : Type := Nat → Nat → ByteArray → Int → Int → Int → Int → Int → Int → (List Int) → (Option R) → (Int → Int → Int → Int → Option R) → Option R
noncomputable def conv_digits_l0B {R : Type} (k : Nat) (rec : ByteArray → Int → Int → Int → Int → Int → Int → (List Int) → Option R) (x1 : ByteArray) (x2 : Int) (x3 : Int) (x4 : Int) (x5 : Int) (x6 : Int) (x7 : Int) (x8 : List Int) (K0 : Option R) (K1 : Int → Int → Int → Int → Option R) : Option R :=
  cond (decide (x7 < x6)) (
    cond (decide (0 ≤ x7)) (
      cond (decide (x7 < (((List.length x8) : Nat) : Int))) (
        Option.bind (x8[(Int.toNat x7)]?) fun ye1 =>
        cond (ye1 == 46) (
          cond (decide (x7 > 0)) (
            cond (decide (x7 < (Wi64 (((ByteArray.size x1 : Nat) : Int) - 1)))) (
              rec x1 x2 x3 x4 (Wi64 (x5 + 1)) x6 (Wi64 (x7 + 1)) x8) (
              cond (decide (ye1 < 48)) (
                K0) (
                cond (decide (ye1 > 57)) (
                  K0) (
                  cond (decide ((Wi64 (x3 + 1)) ≤ 18)) (
                    rec x1 (Wu64 ((Wu64 (10 * x2)) + (Wu64 (Wu8 (ye1 - 48))))) (Wi64 (x3 + 1)) (Wi64 (x4 + x5)) x5 x6 (Wi64 (x7 + 1)) x8) (
                    rec x1 x2 (Wi64 (x3 + 1)) (Wi64 (x4 + x5)) x5 x6 (Wi64 (x7 + 1)) x8))))) (
            cond (decide (ye1 < 48)) (
              K0) (
              cond (decide (ye1 > 57)) (
                K0) (
                cond (decide ((Wi64 (x3 + 1)) ≤ 18)) (
                  rec x1 (Wu64 ((Wu64 (10 * x2)) + (Wu64 (Wu8 (ye1 - 48))))) (Wi64 (x3 + 1)) (Wi64 (x4 + x5)) x5 x6 (Wi64 (x7 + 1)) x8) (
                  rec x1 x2 (Wi64 (x3 + 1)) (Wi64 (x4 + x5)) x5 x6 (Wi64 (x7 + 1)) x8))))) (
          cond (decide (ye1 < 48)) (
            K0) (
            cond (decide (ye1 > 57)) (
              K0) (
              cond (decide ((Wi64 (x3 + 1)) ≤ 18)) (
                rec x1 (Wu64 ((Wu64 (10 * x2)) + (Wu64 (Wu8 (ye1 - 48))))) (Wi64 (x3 + 1)) (Wi64 (x4 + x5)) x5 x6 (Wi64 (x7 + 1)) x8) (
                rec x1 x2 (Wi64 (x3 + 1)) (Wi64 (x4 + x5)) x5 x6 (Wi64 (x7 + 1)) x8))))) (
        none)) (
      none)) (
    K1 x2 x3 x4 x5)
noncomputable def conv_digits_l0 {R : Type} (k : Nat) : Nat → ByteArray → Int → Int → Int → Int → Int → Int → (List Int) → (Option R) → (Int → Int → Int → Int → Option R) → Option R
  | 0, _, _, _, _, _, _, _, _, _, _ => none
  | n + 1, x1, x2, x3, x4, x5, x6, x7, x8, K0, K1 => conv_digits_l0B k (fun x1 x2 x3 x4 x5 x6 x7 x8 => conv_digits_l0 k n x1 x2 x3 x4 x5 x6 x7 x8 K0 K1) x1 x2 x3 x4 x5 x6 x7 x8 K0 K1
noncomputable def cx43_3 {R : Type} (k : Nat) : Cx R := mkCx Ty exts [] fi43 [] []
theorem cx43_3_ok {R : Type} (k : Nat) : CxOk Try.prog (cx43_3 k : Cx R) := mkCx_ok (c := ((Try.f43).body.getD .skip)) ty_ok mixed exts_ok allSum_nil Try.func43 en43 (by kernel_rfl) (by kernel_rfl) allLoop_nil allCut_nil
noncomputable def L43_3G {R : Type} (conv_digits_l0 : conv_digits_l0Y R) (k n : Nat) : LSum R := fun pin T H K => match pin, T, H with
  | 0, [(0, .s x1), (2, .i .u64 x2), (3, .i .i64 x3), (4, .i .i64 x4), (6, .i .i64 x5), (10, .sw 0), (11, .i .i64 x6), (12, .i .i64 x7)], ⟨1, [(0, some ⟨0, true, .row [.i .u8] x8⟩)]⟩ => conv_digits_l0 k n x1 x2 x3 x4 x5 x6 x7 x8 (K (.goto 0) [] ⟨0, []⟩) (fun q1 q2 q3 q4 => K (.exit 0) [(2, .i .u64 q1), (3, .i .i64 q2), (4, .i .i64 q3), (6, .i .i64 q4)] ⟨0, []⟩)
  | _, _, _ => none
noncomputable def L43_3 {R : Type} (k n : Nat) : LSum R := L43_3G conv_digits_l0 k n
theorem conv_digits_l0_gen {R : Type} (conv_digits_l0 : conv_digits_l0Y R) (k n : Nat) (x1 : ByteArray) (x2 : Int) (x3 : Int) (x4 : Int) (x5 : Int) (x6 : Int) (x7 : Int) (x8 : List Int) (K : Kont R) :
    (fun C => codeK C (run C 4)) (mkCx Ty exts [] fi43 [] []) 0 fi43 (loopAt ((Try.f43).body.getD .skip) 3) [(0, .s x1), (2, .i .u64 x2), (3, .i .i64 x3), (4, .i .i64 x4), (6, .i .i64 x5), (10, .sw 0), (11, .i .i64 x6), (12, .i .i64 x7)] ⟨1, [(0, some ⟨0, true, .row [.i .u8] x8⟩)]⟩ (fun ex T H => match (generalizing := false) ex with
      | .normal => normAt (some [0, 2, 3, 4, 6, 10, 11, 12]) 0 T H (fun T H => L43_3G conv_digits_l0 k n 0 T H K)
      | ex => exitNorm fi43.ann 3 0 K ex T H) =
    conv_digits_l0B k (fun x1 x2 x3 x4 x5 x6 x7 x8 => conv_digits_l0 k n x1 x2 x3 x4 x5 x6 x7 x8 (K (.goto 0) [] ⟨0, []⟩) (fun q1 q2 q3 q4 => K (.exit 0) [(2, .i .u64 q1), (3, .i .i64 q2), (4, .i .i64 q3), (6, .i .i64 q4)] ⟨0, []⟩)) x1 x2 x3 x4 x5 x6 x7 x8 (K (.goto 0) [] ⟨0, []⟩) (fun q1 q2 q3 q4 => K (.exit 0) [(2, .i .u64 q1), (3, .i .i64 q2), (4, .i .i64 q3), (6, .i .i64 q4)] ⟨0, []⟩) := by kernel_rfl
theorem L43_3_cok {R : Type} (k : Nat) : CodeOk Try.prog (cx43_3 k : Cx R) fi43 (loopAt ((Try.f43).body.getD .skip) 3) := loopAt_ok (((cx43_3_ok k).fns 43 fi43 (by kernel_rfl)).2.2.2 ((Try.f43).body.getD .skip) (by kernel_rfl))
theorem L43_3_ok {R : Type} (k : Nat) : ∀ n, LoopOk Try.prog (Try.f43).ntmps (loopAt ((Try.f43).body.getD .skip) 3) (L43_3 k n : LSum R)
  | 0 => by
    intro pin T H K r h
    unfold L43_3 L43_3G at h
    split at h
    all_goals exact nomatch (show (none : Option R) = some r from h)
  | n + 1 => by
    intro pin T H K r h
    unfold L43_3 L43_3G at h
    split at h
    · obtain ⟨ex, T1, H1, h, hb⟩ := codeK_sound (cx43_3_ok k) (run_sound (cx43_3_ok k) 4) _ fi43 _ _ _ _ _ (L43_3_cok k) ((conv_digits_l0_gen conv_digits_l0 k n _ _ _ _ _ _ _ _ K).trans h)
      exact loop_step (fun T H hh => L43_3_ok k n _ T H K r hh) hb h
    · cases h
@[reducible] def conv_digits_l1Y (R : Type) : Type := Nat → Nat → (Int → Int → Int → Bool → Option R) → Option R
noncomputable def conv_digits_l1B {R : Type} (k : Nat) (rec : Option R) (K0 : Int → Int → Int → Bool → Option R) : Option R :=
  K0 0 0 0 false
noncomputable def conv_digits_l1 {R : Type} (k : Nat) : Nat → (Int → Int → Int → Bool → Option R) → Option R
  | 0, _ => none
  | n + 1, K0 => conv_digits_l1B k (conv_digits_l1 k n K0) K0
noncomputable def cx43_1000000 {R : Type} (k : Nat) : Cx R := mkCx Ty exts [] fi43 [(3, L43_3 k k)] []
theorem cx43_1000000_ok {R : Type} (k : Nat) : CxOk Try.prog (cx43_1000000 k : Cx R) := mkCx_ok (c := ((Try.f43).body.getD .skip)) ty_ok mixed exts_ok allSum_nil Try.func43 en43 (by kernel_rfl) (by kernel_rfl) (allLoop_loop (by kernel_rfl) (L43_3_ok k k) allLoop_nil) allCut_nil
noncomputable def L43_1000000G {R : Type} (conv_digits_l1 : conv_digits_l1Y R) (k n : Nat) : LSum R := fun pin T H K => match pin, T, H with
  | 0, [], ⟨0, []⟩ => conv_digits_l1 k n (fun q1 q2 q3 q4 => K .ret [(2, .i .u64 q1), (3, .i .i64 q2), (4, .i .i64 q3), (5, .b q4)] ⟨0, []⟩)
  | _, _, _ => none
noncomputable def L43_1000000 {R : Type} (k n : Nat) : LSum R := L43_1000000G conv_digits_l1 k n
theorem conv_digits_l1_gen {R : Type} (conv_digits_l0 : conv_digits_l0Y R) (conv_digits_l1 : conv_digits_l1Y R) (k n : Nat) (K : Kont R) :
    (fun C => codeK C (run C 4)) (mkCx Ty exts [] fi43 [(3, L43_3G conv_digits_l0 k k)] []) 0 fi43 (restAt ((Try.f43).body.getD .skip) 0) [] ⟨0, []⟩ (fun ex T H => match (generalizing := false) ex with
      | .goto l' => cond (Nat.beq l' 0) (normAt (some []) 0 T H (fun T H => L43_1000000G conv_digits_l1 k n 0 T H K)) (match findLabel (scopeAt ((Try.f43).body.getD .skip) 0) l' with | some _ => none | none => exitNorm fi43.ann 1000000 0 K (.goto l') T H)
      | ex => exitNorm fi43.ann 1000000 0 K ex T H) =
    conv_digits_l1B k (conv_digits_l1 k n (fun q1 q2 q3 q4 => K .ret [(2, .i .u64 q1), (3, .i .i64 q2), (4, .i .i64 q3), (5, .b q4)] ⟨0, []⟩)) (fun q1 q2 q3 q4 => K .ret [(2, .i .u64 q1), (3, .i .i64 q2), (4, .i .i64 q3), (5, .b q4)] ⟨0, []⟩) := by kernel_rfl
theorem L43_1000000_cok {R : Type} (k : Nat) : CodeOk Try.prog (cx43_1000000 k : Cx R) fi43 (restAt ((Try.f43).body.getD .skip) 0) := restAt_ok (((cx43_1000000_ok k).fns 43 fi43 (by kernel_rfl)).2.2.2 ((Try.f43).body.getD .skip) (by kernel_rfl))
theorem L43_1000000_ok {R : Type} (k : Nat) : ∀ n, JumpOk Try.prog (Try.f43).ntmps (scopeAt ((Try.f43).body.getD .skip) 0) (restAt ((Try.f43).body.getD .skip) 0) (L43_1000000 k n : LSum R)
  | 0 => by
    intro pin T H K r h
    unfold L43_1000000 L43_1000000G at h
    split at h
    all_goals exact nomatch (show (none : Option R) = some r from h)
  | n + 1 => by
    intro pin T H K r h
    unfold L43_1000000 L43_1000000G at h
    split at h
    · obtain ⟨ex, T1, H1, h, hb⟩ := codeK_sound (cx43_1000000_ok k) (run_sound (cx43_1000000_ok k) 4) _ fi43 _ _ _ _ _ (L43_1000000_cok k) ((conv_digits_l1_gen conv_digits_l0 conv_digits_l1 k n K).trans h)
      exact jump_step (by kernel_rfl) (fun T H hh => L43_1000000_ok k n _ T H K r hh) hb h
    · cases h
noncomputable def cx43 {R : Type} (k : Nat) : Cx R := mkCx Ty exts [] fi43 [(3, L43_3 k k), (1000000, L43_1000000 k k)] []
theorem cx43_ok {R : Type} (k : Nat) : CxOk Try.prog (cx43 k : Cx R) := mkCx_ok (c := ((Try.f43).body.getD .skip)) ty_ok mixed exts_ok allSum_nil Try.func43 en43 (by kernel_rfl) (by kernel_rfl) (allLoop_loop (by kernel_rfl) (L43_3_ok k k) (allLoop_jump (by kernel_rfl) (L43_1000000_ok k k) (by kernel_rfl) allLoop_nil)) allCut_nil
@[reducible] def conv_digitsY (R : Type) : Type := Nat → ByteArray → (Int → Int → Int → Bool → Option R) → Option R
noncomputable def conv_digitsT {R : Type} (conv_digits_l0 : conv_digits_l0Y R) (conv_digits_l1 : conv_digits_l1Y R) (k : Nat) (a1 : ByteArray) (K0 : Int → Int → Int → Bool → Option R) : Option R :=
  conv_digits_l0 k k a1 0 0 0 0 (((List.length (strInts a1)) : Nat) : Int) 0 (strInts a1) (
    conv_digits_l1 k k (fun r1 r2 r3 r4 =>
      K0 r1 r2 r3 r4)) (fun r5 r6 r7 r8 =>
    cond (decide (r8 > 1)) (
      conv_digits_l1 k k (fun r9 r10 r11 r12 =>
        K0 r9 r10 r11 r12)) (
      cond (r6 == 0) (
        conv_digits_l1 k k (fun r13 r14 r15 r16 =>
          K0 r13 r14 r15 r16)) (
        K0 r5 r6 r7 true)))
noncomputable def conv_digits {R : Type} (k : Nat) (a1 : ByteArray) (K0 : Int → Int → Int → Bool → Option R) : Option R := conv_digitsT conv_digits_l0 conv_digits_l1 k a1 K0
theorem conv_digits_gen {R : Type} (conv_digits_l0 : conv_digits_l0Y R) (conv_digits_l1 : conv_digits_l1Y R) (k : Nat) (a1 : ByteArray) (K : AV → Heap → Option R) :
    fnK (mkCx Ty exts [] fi43 [(3, L43_3G conv_digits_l0 k k), (1000000, L43_1000000G conv_digits_l1 k k)] []) 6 43 [.s a1] ⟨0, []⟩ K = conv_digitsT conv_digits_l0 conv_digits_l1 k a1 (fun q1 q2 q3 q4 => K (.tup [.i .u64 q1, .i .i64 q2, .i .i64 q3, .b q4]) ⟨0, []⟩) := by kernel_rfl
noncomputable def S43G {R : Type} (conv_digits : conv_digitsY R) (k : Nat) : Sum R := fun args H K => match args, H with
  | [.s a1], ⟨0, []⟩ => conv_digits k a1 (fun q1 q2 q3 q4 => K (.tup [.i .u64 q1, .i .i64 q2, .i .i64 q3, .b q4]) ⟨0, []⟩)
  | _, _ => none
noncomputable def S43 {R : Type} (k : Nat) : Sum R := S43G conv_digits k
theorem S43_ok0 {R : Type} (k : Nat) : SumOk Try.prog 43 false (S43 k : Sum R) := by
  intro args H K r h
  unfold S43 S43G at h
  split at h
  · exact fnK_sound (cx43_ok k) 6 43 _ _ K r ((conv_digits_gen conv_digits_l0 conv_digits_l1 k _ K).trans h)
  · cases h
theorem S43_ok {R : Type} (k : Nat) : SumOk Try.prog 43 true (S43 k : Sum R) := by
  refine sumOk_keep (S43_ok0 k) ?_
  intro args H K r h
  unfold S43 S43G at h ⊢
  split at h
  · refine Eq.trans ?_ h
    show conv_digits k _ _ = conv_digits k _ _
    congr 1
    all_goals first | exact (funext fun q1 => funext fun q2 => funext fun q3 => funext fun q4 => if_pos (keeps_app _ _ _ [])) | skip
  · cases h
-- function 44: plumbline/conv.point
noncomputable def fi44 : FnI := ⟨44, Try.f44, [(100002, [6]), (2000002, [2]), (3002000, [])]⟩
theorem en44 : Enters Try.prog 44 := enters_of Try.func44 (c := ((Try.f44).body.getD .skip)) (by kernel_rfl) (by kernel_rfl)
@[reducible] def conv_point_l0Y (R : Type) : Type := Nat → Nat → ByteArray → Int → (Bool → Option R) → (Option R) → Option R
noncomputable def conv_point_l0B {R : Type} (k : Nat) (rec : ByteArray → Int → Option R) (x1 : ByteArray) (x2 : Int) (K0 : Bool → Option R) (K1 : Option R) : Option R :=
  cond (decide (x2 < ((ByteArray.size x1 : Nat) : Int))) (
    cond ((runeAt x1 x2) == 46) (
      K0 true) (
      rec x1 (x2 + (runeW x1 x2)))) (
    K1)
noncomputable def conv_point_l0 {R : Type} (k : Nat) : Nat → ByteArray → Int → (Bool → Option R) → (Option R) → Option R
  | 0, _, _, _, _ => none
  | n + 1, x1, x2, K0, K1 => conv_point_l0B k (fun x1 x2 => conv_point_l0 k n x1 x2 K0 K1) x1 x2 K0 K1
noncomputable def cx44_2 {R : Type} (k : Nat) : Cx R := mkCx Ty exts [] fi44 [] []
theorem cx44_2_ok {R : Type} (k : Nat) : CxOk Try.prog (cx44_2 k : Cx R) := mkCx_ok (c := ((Try.f44).body.getD .skip)) ty_ok mixed exts_ok allSum_nil Try.func44 en44 (by kernel_rfl) (by kernel_rfl) allLoop_nil allCut_nil
noncomputable def L44_2G {R : Type} (conv_point_l0 : conv_point_l0Y R) (k n : Nat) : LSum R := fun pin T H K => match pin, T, H with
  | 0, [(6, .ptr 0 0 0 0 0)], ⟨1, [(0, some ⟨0, false, .siter x1 x2⟩)]⟩ => conv_point_l0 k n x1 x2 (fun q1 => K .ret [(2, .b q1)] ⟨0, []⟩) (K (.exit 0) [] ⟨0, []⟩)
  | _, _, _ => none
noncomputable def L44_2 {R : Type} (k n : Nat) : LSum R := L44_2G conv_point_l0 k n
theorem conv_point_l0_gen {R : Type} (conv_point_l0 : conv_point_l0Y R) (k n : Nat) (x1 : ByteArray) (x2 : Int) (K : Kont R) :
    (fun C => codeK C (run C 4)) (mkCx Ty exts [] fi44 [] []) 0 fi44 (loopAt ((Try.f44).body.getD .skip) 2) [(6, .ptr 0 0 0 0 0)] ⟨1, [(0, some ⟨0, false, .siter x1 x2⟩)]⟩ (fun ex T H => match (generalizing := false) ex with
      | .normal => normAt (some [6]) 0 T H (fun T H => L44_2G conv_point_l0 k n 0 T H K)
      | ex => exitNorm fi44.ann 2 0 K ex T H) =
    conv_point_l0B k (fun x1 x2 => conv_point_l0 k n x1 x2 (fun q1 => K .ret [(2, .b q1)] ⟨0, []⟩) (K (.exit 0) [] ⟨0, []⟩)) x1 x2 (fun q1 => K .ret [(2, .b q1)] ⟨0, []⟩) (K (.exit 0) [] ⟨0, []⟩) := by kernel_rfl
theorem L44_2_cok {R : Type} (k : Nat) : CodeOk Try.prog (cx44_2 k : Cx R) fi44 (loopAt ((Try.f44).body.getD .skip) 2) := loopAt_ok (((cx44_2_ok k).fns 44 fi44 (by kernel_rfl)).2.2.2 ((Try.f44).body.getD .skip) (by kernel_rfl))
theorem L44_2_ok {R : Type} (k : Nat) : ∀ n, LoopOk Try.prog (Try.f44).ntmps (loopAt ((Try.f44).body.getD .skip) 2) (L44_2 k n : LSum R)
  | 0 => by
    intro pin T H K r h
    unfold L44_2 L44_2G at h
    split at h
    all_goals exact nomatch (show (none : Option R) = some r from h)
  | n + 1 => by
    intro pin T H K r h
    unfold L44_2 L44_2G at h
    split at h
    · obtain ⟨ex, T1, H1, h, hb⟩ := codeK_sound (cx44_2_ok k) (run_sound (cx44_2_ok k) 4) _ fi44 _ _ _ _ _ (L44_2_cok k) ((conv_point_l0_gen conv_point_l0 k n _ _ K).trans h)
      exact loop_step (fun T H hh => L44_2_ok k n _ T H K r hh) hb h
    · cases h
noncomputable def cx44 {R : Type} (k : Nat) : Cx R := mkCx Ty exts [] fi44 [(2, L44_2 k k)] []
theorem cx44_ok {R : Type} (k : Nat) : CxOk Try.prog (cx44 k : Cx R) := mkCx_ok (c := ((Try.f44).body.getD .skip)) ty_ok mixed exts_ok allSum_nil Try.func44 en44 (by kernel_rfl) (by kernel_rfl) (allLoop_loop (by kernel_rfl) (L44_2_ok k k) allLoop_nil) allCut_nil
@[reducible] def conv_pointY (R : Type) : Type := Nat → ByteArray → (Bool → Option R) → Option R
noncomputable def conv_pointT {R : Type} (conv_point_l0 : conv_point_l0Y R) (k : Nat) (a1 : ByteArray) (K0 : Bool → Option R) : Option R :=
  conv_point_l0 k k a1 0 (fun r1 =>
    K0 r1) (
    K0 false)
noncomputable def conv_point {R : Type} (k : Nat) (a1 : ByteArray) (K0 : Bool → Option R) : Option R := conv_pointT conv_point_l0 k a1 K0
theorem conv_point_gen {R : Type} (conv_point_l0 : conv_point_l0Y R) (k : Nat) (a1 : ByteArray) (K : AV → Heap → Option R) :
    fnK (mkCx Ty exts [] fi44 [(2, L44_2G conv_point_l0 k k)] []) 6 44 [.s a1] ⟨0, []⟩ K = conv_pointT conv_point_l0 k a1 (fun q1 => K (.b q1) ⟨0, []⟩) := by kernel_rfl
noncomputable def S44G {R : Type} (conv_point : conv_pointY R) (k : Nat) : Sum R := fun args H K => match args, H with
  | [.s a1], ⟨0, []⟩ => conv_point k a1 (fun q1 => K (.b q1) ⟨0, []⟩)
  | _, _ => none
noncomputable def S44 {R : Type} (k : Nat) : Sum R := S44G conv_point k
theorem S44_ok0 {R : Type} (k : Nat) : SumOk Try.prog 44 false (S44 k : Sum R) := by
  intro args H K r h
  unfold S44 S44G at h
  split at h
  · exact fnK_sound (cx44_ok k) 6 44 _ _ K r ((conv_point_gen conv_point_l0 k _ K).trans h)
  · cases h
theorem S44_ok {R : Type} (k : Nat) : SumOk Try.prog 44 true (S44 k : Sum R) := by
  refine sumOk_keep (S44_ok0 k) ?_
  intro args H K r h
  unfold S44 S44G at h ⊢
  split at h
  · refine Eq.trans ?_ h
    show conv_point k _ _ = conv_point k _ _
    congr 1
    all_goals first | exact (funext fun q1 => if_pos (keeps_app _ _ _ [])) | skip
  · cases h
-- function 15: plumbline/conv.Literal
noncomputable def fi15 : FnI := ⟨15, Try.f15, [(100008, [0, 6, 10, 32, 33]), (3008001, [0, 6, 10])]⟩
theorem en15 : Enters Try.prog 15 := enters_of Try.func15 (c := ((Try.f15).body.getD .skip)) (by kernel_rfl) (by kernel_rfl)
@[reducible] def conv_Literal_l0Y (R : Type) : Type := Nat → Nat → Int → Int → Int → Int → Int → (Int → Option R) → Option R
noncomputable def conv_Literal_l0B {R : Type} (k : Nat) (rec : Int → Int → Int → Int → Int → Option R) (x1 : Int) (x2 : Int) (x3 : Int) (x4 : Int) (x5 : Int) (K0 : Int → Option R) : Option R :=
  cond (decide (x5 < x4)) (
    rec x1 x2 (Wu64 (x3 * 10)) x4 (Wi64 (x5 + 1))) (
    K0 x3)
noncomputable def conv_Literal_l0 {R : Type} (k : Nat) : Nat → Int → Int → Int → Int → Int → (Int → Option R) → Option R
  | 0, _, _, _, _, _, _ => none
  | n + 1, x1, x2, x3, x4, x5, K0 => conv_Literal_l0B k (fun x1 x2 x3 x4 x5 => conv_Literal_l0 k n x1 x2 x3 x4 x5 K0) x1 x2 x3 x4 x5 K0
noncomputable def cx15_8 {R : Type} (k : Nat) : Cx R := mkCx Ty exts [(43, true, S43 k), (44, true, S44 k), (45, true, S45 k), (46, true, S46 k), (47, true, S47 k), (48, true, S48 k)] fi15 [] []
theorem cx15_8_ok {R : Type} (k : Nat) : CxOk Try.prog (cx15_8 k : Cx R) := mkCx_ok (c := ((Try.f15).body.getD .skip)) ty_ok mixed exts_ok (allSum_cons (S43_ok k) en43 (allSum_cons (S44_ok k) en44 (allSum_cons (S45_ok k) en45 (allSum_cons (S46_ok k) en46 (allSum_cons (S47_ok k) en47 (allSum_cons (S48_ok k) en48 allSum_nil)))))) Try.func15 en15 (by kernel_rfl) (by kernel_rfl) allLoop_nil allCut_nil
noncomputable def L15_8G {R : Type} (conv_Literal_l0 : conv_Literal_l0Y R) (k n : Nat) : LSum R := fun pin T H K => match pin, T, H with
  | 0, [(0, .i .i64 x1), (6, .i .u64 x2), (10, .i .u64 x3), (32, .i .i64 x4), (33, .i .i64 x5)], ⟨0, []⟩ => conv_Literal_l0 k n x1 x2 x3 x4 x5 (fun q3 => K (.exit 1) [(0, .i .i64 x1), (6, .i .u64 x2), (10, .i .u64 q3)] ⟨0, []⟩)
  | _, _, _ => none
noncomputable def L15_8 {R : Type} (k n : Nat) : LSum R := L15_8G conv_Literal_l0 k n
theorem conv_Literal_l0_gen {R : Type} (conv_digits : conv_digitsY R) (conv_point : conv_pointY R) (wide_Len : wide_LenY R) (wide_Div : wide_DivY R) (wide_Shl : wide_ShlY R) (soft_Round : soft_RoundY R) (conv_Literal_l0 : conv_Literal_l0Y R) (k n : Nat) (x1 : Int) (x2 : Int) (x3 : Int) (x4 : Int) (x5 : Int) (K : Kont R) :
    (fun C => codeK C (run C 4)) (mkCx Ty exts [(43, true, S43G conv_digits k), (44, true, S44G conv_point k), (45, true, S45G wide_Len k), (46, true, S46G wide_Div k), (47, true, S47G wide_Shl k), (48, true, S48G soft_Round k)] fi15 [] []) 0 fi15 (loopAt ((Try.f15).body.getD .skip) 8) [(0, .i .i64 x1), (6, .i .u64 x2), (10, .i .u64 x3), (32, .i .i64 x4), (33, .i .i64 x5)] ⟨0, []⟩ (fun ex T H => match (generalizing := false) ex with
      | .normal => normAt (some [0, 6, 10, 32, 33]) 0 T H (fun T H => L15_8G conv_Literal_l0 k n 0 T H K)
      | ex => exitNorm fi15.ann 8 0 K ex T H) =
    conv_Literal_l0B k (fun x1 x2 x3 x4 x5 => conv_Literal_l0 k n x1 x2 x3 x4 x5 (fun q3 => K (.exit 1) [(0, .i .i64 x1), (6, .i .u64 x2), (10, .i .u64 q3)] ⟨0, []⟩)) x1 x2 x3 x4 x5 (fun q3 => K (.exit 1) [(0, .i .i64 x1), (6, .i .u64 x2), (10, .i .u64 q3)] ⟨0, []⟩) := by kernel_rfl
theorem L15_8_cok {R : Type} (k : Nat) : CodeOk Try.prog (cx15_8 k : Cx R) fi15 (loopAt ((Try.f15).body.getD .skip) 8) := loopAt_ok (((cx15_8_ok k).fns 15 fi15 (by kernel_rfl)).2.2.2 ((Try.f15).body.getD .skip) (by kernel_rfl))
theorem L15_8_ok {R : Type} (k : Nat) : ∀ n, LoopOk Try.prog (Try.f15).ntmps (loopAt ((Try.f15).body.getD .skip) 8) (L15_8 k n : LSum R)
  | 0 => by
    intro pin T H K r h
    unfold L15_8 L15_8G at h
    split at h
    all_goals exact nomatch (show (none : Option R) = some r from h)
  | n + 1 => by
    intro pin T H K r h
    unfold L15_8 L15_8G at h
    split at h
    · obtain ⟨ex, T1, H1, h, hb⟩ := codeK_sound (cx15_8_ok k) (run_sound (cx15_8_ok k) 4) _ fi15 _ _ _ _ _ (L15_8_cok k) ((conv_Literal_l0_gen conv_digits conv_point wide_Len wide_Div wide_Shl soft_Round conv_Literal_l0 k n _ _ _ _ _ K).trans h)
      exact loop_step (fun T H hh => L15_8_ok k n _ T H K r hh) hb h
    · cases h
noncomputable def cx15 {R : Type} (k : Nat) : Cx R := mkCx Ty exts [(43, true, S43 k), (44, true, S44 k), (45, true, S45 k), (46, true, S46 k), (47, true, S47 k), (48, true, S48 k)] fi15 [(8, L15_8 k k)] []
theorem cx15_ok {R : Type} (k : Nat) : CxOk Try.prog (cx15 k : Cx R) := mkCx_ok (c := ((Try.f15).body.getD .skip)) ty_ok mixed exts_ok (allSum_cons (S43_ok k) en43 (allSum_cons (S44_ok k) en44 (allSum_cons (S45_ok k) en45 (allSum_cons (S46_ok k) en46 (allSum_cons (S47_ok k) en47 (allSum_cons (S48_ok k) en48 allSum_nil)))))) Try.func15 en15 (by kernel_rfl) (by kernel_rfl) (allLoop_loop (by kernel_rfl) (L15_8_ok k k) allLoop_nil) allCut_nil
@[reducible] def conv_LiteralY (R : Type) : Type := Nat → Int → ByteArray → (Int → Int → Option R) → Option R
noncomputable def conv_LiteralT {R : Type} (conv_Literal_l0 : conv_Literal_l0Y R) (conv_digits : conv_digitsY R) (conv_point : conv_pointY R) (soft_Round : soft_RoundY R) (wide_Div : wide_DivY R) (wide_Len : wide_LenY R) (wide_Shl : wide_ShlY R) (k : Nat) (a1 : Int) (a2 : ByteArray) (K0 : Int → Int → Option R) : Option R :=
  conv_digits k a2 (fun r1 r2 r3 r4 =>
    cond (!r4) (
      K0 0 4) (
      conv_point k a2 (fun r5 =>
        cond (!r5) (
          K0 0 4) (
          cond (decide (r2 > 18)) (
            K0 0 9) (
            conv_Literal_l0 k k a1 r1 1 r3 0 (fun r6 =>
              wide_Len k 0 r1 (fun r7 =>
                wide_Shl k 0 r1 (Wi64 (127 - r7)) (fun r8 r9 =>
                  wide_Div k r8 r9 r6 (fun r10 r11 r12 =>
                    soft_Round k a1 0 false r10 r11 (Wi64 (0 - (Wi64 (127 - r7)))) (r12 != 0) (fun r13 =>
                      K0 r13 0))))))))))
noncomputable def conv_Literal {R : Type} (k : Nat) (a1 : Int) (a2 : ByteArray) (K0 : Int → Int → Option R) : Option R := conv_LiteralT conv_Literal_l0 conv_digits conv_point soft_Round wide_Div wide_Len wide_Shl k a1 a2 K0
theorem conv_Literal_gen {R : Type} (conv_digits : conv_digitsY R) (conv_point : conv_pointY R) (wide_Len : wide_LenY R) (wide_Div : wide_DivY R) (wide_Shl : wide_ShlY R) (soft_Round : soft_RoundY R) (conv_Literal_l0 : conv_Literal_l0Y R) (k : Nat) (a1 : Int) (a2 : ByteArray) (K : AV → Heap → Option R) :
    fnK (mkCx Ty exts [(43, true, S43G conv_digits k), (44, true, S44G conv_point k), (45, true, S45G wide_Len k), (46, true, S46G wide_Div k), (47, true, S47G wide_Shl k), (48, true, S48G soft_Round k)] fi15 [(8, L15_8G conv_Literal_l0 k k)] []) 6 15 [.i .i64 a1, .s a2] ⟨0, []⟩ K = conv_LiteralT conv_Literal_l0 conv_digits conv_point soft_Round wide_Div wide_Len wide_Shl k a1 a2 (fun q1 q2 => K (.tup [.i .u64 q1, .i .i64 q2]) ⟨0, []⟩) := by kernel_rfl
noncomputable def S15G {R : Type} (conv_Literal : conv_LiteralY R) (k : Nat) : Sum R := fun args H K => match args, H with
  | [.i .i64 a1, .s a2], ⟨0, []⟩ => conv_Literal k a1 a2 (fun q1 q2 => K (.tup [.i .u64 q1, .i .i64 q2]) ⟨0, []⟩)
  | _, _ => none
noncomputable def S15 {R : Type} (k : Nat) : Sum R := S15G conv_Literal k
theorem S15_ok0 {R : Type} (k : Nat) : SumOk Try.prog 15 false (S15 k : Sum R) := by
  intro args H K r h
  unfold S15 S15G at h
  split at h
  · exact fnK_sound (cx15_ok k) 6 15 _ _ K r ((conv_Literal_gen conv_digits conv_point wide_Len wide_Div wide_Shl soft_Round conv_Literal_l0 k _ _ K).trans h)
  · cases h
theorem S15_ok {R : Type} (k : Nat) : SumOk Try.prog 15 true (S15 k : Sum R) := by
  refine sumOk_keep (S15_ok0 k) ?_
  intro args H K r h
  unfold S15 S15G at h ⊢
  split at h
  · refine Eq.trans ?_ h
    show conv_Literal k _ _ _ = conv_Literal k _ _ _
    congr 1
    all_goals first | exact (funext fun q1 => funext fun q2 => if_pos (keeps_app _ _ _ [])) | skip
  · cases h
-- function 20: plumbline/conv.FromInt
noncomputable def fi20 : FnI := ⟨20, Try.f20, []⟩
theorem en20 : Enters Try.prog 20 := enters_of Try.func20 (c := ((Try.f20).body.getD .skip)) (by kernel_rfl) (by kernel_rfl)
noncomputable def cx20 {R : Type} (k : Nat) : Cx R := mkCx Ty exts [(48, true, S48 k)] fi20 [] []
theorem cx20_ok {R : Type} (k : Nat) : CxOk Try.prog (cx20 k : Cx R) := mkCx_ok (c := ((Try.f20).body.getD .skip)) ty_ok mixed exts_ok (allSum_cons (S48_ok k) en48 allSum_nil) Try.func20 en20 (by kernel_rfl) (by kernel_rfl) allLoop_nil allCut_nil
@[reducible] def conv_FromIntY (R : Type) : Type := Nat → Int → Int → Int → (Int → Option R) → Option R
noncomputable def conv_FromIntT {R : Type} (soft_Round : soft_RoundY R) (k : Nat) (a1 : Int) (a2 : Int) (a3 : Int) (K0 : Int → Option R) : Option R :=
  cond (decide (a3 < 0)) (
    soft_Round k a1 a2 (decide (a3 < 0)) 0 (Wu64 (0 - (Wu64 a3))) 0 false (fun r1 =>
      K0 r1)) (
    soft_Round k a1 a2 (decide (a3 < 0)) 0 (Wu64 a3) 0 false (fun r2 =>
      K0 r2))
noncomputable def conv_FromInt {R : Type} (k : Nat) (a1 : Int) (a2 : Int) (a3 : Int) (K0 : Int → Option R) : Option R := conv_FromIntT soft_Round k a1 a2 a3 K0
theorem conv_FromInt_gen {R : Type} (soft_Round : soft_RoundY R) (k : Nat) (a1 : Int) (a2 : Int) (a3 : Int) (K : AV → Heap → Option R) :
    fnK (mkCx Ty exts [(48, true, S48G soft_Round k)] fi20 [] []) 6 20 [.i .i64 a1, .i .i64 a2, .i .i64 a3] ⟨0, []⟩ K = conv_FromIntT soft_Round k a1 a2 a3 (fun q1 => K (.i .u64 q1) ⟨0, []⟩) := by kernel_rfl
noncomputable def S20G {R : Type} (conv_FromInt : conv_FromIntY R) (k : Nat) : Sum R := fun args H K => match args, H with
  | [.i .i64 a1, .i .i64 a2, .i .i64 a3], ⟨0, []⟩ => conv_FromInt k a1 a2 a3 (fun q1 => K (.i .u64 q1) ⟨0, []⟩)
  | _, _ => none
noncomputable def S20 {R : Type} (k : Nat) : Sum R := S20G conv_FromInt k
theorem S20_ok0 {R : Type} (k : Nat) : SumOk Try.prog 20 false (S20 k : Sum R) := by
  intro args H K r h
  unfold S20 S20G at h
  split at h
  · exact fnK_sound (cx20_ok k) 6 20 _ _ K r ((conv_FromInt_gen soft_Round k _ _ _ K).trans h)
  · cases h
theorem S20_ok {R : Type} (k : Nat) : SumOk Try.prog 20 true (S20 k : Sum R) := by
  refine sumOk_keep (S20_ok0 k) ?_
  intro args H K r h
  unfold S20 S20G at h ⊢
  split at h
  · refine Eq.trans ?_ h
    show conv_FromInt k _ _ _ _ = conv_FromInt k _ _ _ _
    congr 1
    all_goals first | exact (funext fun q1 => if_pos (keeps_app _ _ _ [])) | skip
  · cases h
-- function 25: plumbline/conv.Plain
noncomputable def fi25 : FnI := ⟨25, Try.f25, []⟩
theorem en25 : Enters Try.prog 25 := enters_of Try.func25 (c := ((Try.f25).body.getD .skip)) (by kernel_rfl) (by kernel_rfl)
noncomputable def cx25 {R : Type} (k : Nat) : Cx R := mkCx Ty exts [(38, true, S38 k), (42, true, S42 k)] fi25 [] []
theorem cx25_ok {R : Type} (k : Nat) : CxOk Try.prog (cx25 k : Cx R) := mkCx_ok (c := ((Try.f25).body.getD .skip)) ty_ok mixed exts_ok (allSum_cons (S38_ok k) en38 (allSum_cons (S42_ok k) en42 allSum_nil)) Try.func25 en25 (by kernel_rfl) (by kernel_rfl) allLoop_nil allCut_nil
@[reducible] def conv_PlainY (R : Type) : Type := Nat → Int → Int → (Int → Option R) → Option R
noncomputable def conv_PlainT {R : Type} (soft_Class : soft_ClassY R) (soft_Nan : soft_NanY R) (k : Nat) (a1 : Int) (a2 : Int) (K0 : Int → Option R) : Option R :=
  soft_Class k a1 a2 (fun r1 =>
    cond (r1 == 0) (
      soft_Nan k a1 (fun r2 =>
        K0 r2)) (
      cond (r1 == 5) (
        soft_Nan k a1 (fun r3 =>
          K0 r3)) (
        cond (r1 == 1) (
          K0 0) (
          K0 a2))))
noncomputable def conv_Plain {R : Type} (k : Nat) (a1 : Int) (a2 : Int) (K0 : Int → Option R) : Option R := conv_PlainT soft_Class soft_Nan k a1 a2 K0
theorem conv_Plain_gen {R : Type} (soft_Nan : soft_NanY R) (soft_Class : soft_ClassY R) (k : Nat) (a1 : Int) (a2 : Int) (K : AV → Heap → Option R) :
    fnK (mkCx Ty exts [(38, true, S38G soft_Nan k), (42, true, S42G soft_Class k)] fi25 [] []) 6 25 [.i .i64 a1, .i .u64 a2] ⟨0, []⟩ K = conv_PlainT soft_Class soft_Nan k a1 a2 (fun q1 => K (.i .u64 q1) ⟨0, []⟩) := by kernel_rfl
noncomputable def S25G {R : Type} (conv_Plain : conv_PlainY R) (k : Nat) : Sum R := fun args H K => match args, H with
  | [.i .i64 a1, .i .u64 a2], ⟨0, []⟩ => conv_Plain k a1 a2 (fun q1 => K (.i .u64 q1) ⟨0, []⟩)
  | _, _ => none
noncomputable def S25 {R : Type} (k : Nat) : Sum R := S25G conv_Plain k
theorem S25_ok0 {R : Type} (k : Nat) : SumOk Try.prog 25 false (S25 k : Sum R) := by
  intro args H K r h
  unfold S25 S25G at h
  split at h
  · exact fnK_sound (cx25_ok k) 6 25 _ _ K r ((conv_Plain_gen soft_Nan soft_Class k _ _ K).trans h)
  · cases h
theorem S25_ok {R : Type} (k : Nat) : SumOk Try.prog 25 true (S25 k : Sum R) := by
  refine sumOk_keep (S25_ok0 k) ?_
  intro args H K r h
  unfold S25 S25G at h ⊢
  split at h
  · refine Eq.trans ?_ h
    show conv_Plain k _ _ _ = conv_Plain k _ _ _
    congr 1
    all_goals first | exact (funext fun q1 => if_pos (keeps_app _ _ _ [])) | skip
  · cases h
-- function 41: plumbline/conv.bits
noncomputable def fi41 : FnI := ⟨41, Try.f41, []⟩
theorem en41 : Enters Try.prog 41 := enters_of Try.func41 (c := ((Try.f41).body.getD .skip)) (by kernel_rfl) (by kernel_rfl)
noncomputable def cx41 {R : Type} (k : Nat) : Cx R := mkCx Ty exts [] fi41 [] []
theorem cx41_ok {R : Type} (k : Nat) : CxOk Try.prog (cx41 k : Cx R) := mkCx_ok (c := ((Try.f41).body.getD .skip)) ty_ok mixed exts_ok allSum_nil Try.func41 en41 (by kernel_rfl) (by kernel_rfl) allLoop_nil allCut_nil
@[reducible] def conv_bitsY (R : Type) : Type := Nat → Int → (Int → Option R) → Option R
noncomputable def conv_bitsT {R : Type} (k : Nat) (a1 : Int) (K0 : Int → Option R) : Option R :=
  cond (a1 == 1) (
    K0 32) (
    K0 64)
noncomputable def conv_bits {R : Type} (k : Nat) (a1 : Int) (K0 : Int → Option R) : Option R := conv_bitsT k a1 K0
theorem conv_bits_gen {R : Type} (k : Nat) (a1 : Int) (K : AV → Heap → Option R) :
    fnK (mkCx Ty exts [] fi41 [] []) 6 41 [.i .i64 a1] ⟨0, []⟩ K = conv_bitsT k a1 (fun q1 => K (.i .i64 q1) ⟨0, []⟩) := by kernel_rfl
noncomputable def S41G {R : Type} (conv_bits : conv_bitsY R) (k : Nat) : Sum R := fun args H K => match args, H with
  | [.i .i64 a1], ⟨0, []⟩ => conv_bits k a1 (fun q1 => K (.i .i64 q1) ⟨0, []⟩)
  | _, _ => none
noncomputable def S41 {R : Type} (k : Nat) : Sum R := S41G conv_bits k
theorem S41_ok0 {R : Type} (k : Nat) : SumOk Try.prog 41 false (S41 k : Sum R) := by
  intro args H K r h
  unfold S41 S41G at h
  split at h
  · exact fnK_sound (cx41_ok k) 6 41 _ _ K r ((conv_bits_gen k _ K).trans h)
  · cases h
theorem S41_ok {R : Type} (k : Nat) : SumOk Try.prog 41 true (S41 k : Sum R) := by
  refine sumOk_keep (S41_ok0 k) ?_
  intro args H K r h
  unfold S41 S41G at h ⊢
  split at h
  · refine Eq.trans ?_ h
    show conv_bits k _ _ = conv_bits k _ _
    congr 1
    all_goals first | exact (funext fun q1 => if_pos (keeps_app _ _ _ [])) | skip
  · cases h
-- function 53: plumbline/conv.below
noncomputable def fi53 : FnI := ⟨53, Try.f53, []⟩
theorem en53 : Enters Try.prog 53 := enters_of Try.func53 (c := ((Try.f53).body.getD .skip)) (by kernel_rfl) (by kernel_rfl)
noncomputable def cx53 {R : Type} (k : Nat) : Cx R := mkCx Ty exts [(41, true, S41 k)] fi53 [] []
theorem cx53_ok {R : Type} (k : Nat) : CxOk Try.prog (cx53 k : Cx R) := mkCx_ok (c := ((Try.f53).body.getD .skip)) ty_ok mixed exts_ok (allSum_cons (S41_ok k) en41 allSum_nil) Try.func53 en53 (by kernel_rfl) (by kernel_rfl) allLoop_nil allCut_nil
@[reducible] def conv_belowY (R : Type) : Type := Nat → Int → Int → (Bool → Option R) → Option R
noncomputable def conv_belowT {R : Type} (conv_bits : conv_bitsY R) (k : Nat) (a1 : Int) (a2 : Int) (K0 : Bool → Option R) : Option R :=
  conv_bits k a1 (fun r1 =>
    cond (decide ((Wi64 (r1 - 1)) < 0)) (
      none) (
      K0 ((bAnd .u64 (shr .u64 a2 (Wi64 (r1 - 1))) 1) == 1)))
noncomputable def conv_below {R : Type} (k : Nat) (a1 : Int) (a2 : Int) (K0 : Bool → Option R) : Option R := conv_belowT conv_bits k a1 a2 K0
theorem conv_below_gen {R : Type} (conv_bits : conv_bitsY R) (k : Nat) (a1 : Int) (a2 : Int) (K : AV → Heap → Option R) :
    fnK (mkCx Ty exts [(41, true, S41G conv_bits k)] fi53 [] []) 6 53 [.i .i64 a1, .i .u64 a2] ⟨0, []⟩ K = conv_belowT conv_bits k a1 a2 (fun q1 => K (.b q1) ⟨0, []⟩) := by kernel_rfl
noncomputable def S53G {R : Type} (conv_below : conv_belowY R) (k : Nat) : Sum R := fun args H K => match args, H with
  | [.i .i64 a1, .i .u64 a2], ⟨0, []⟩ => conv_below k a1 a2 (fun q1 => K (.b q1) ⟨0, []⟩)
  | _, _ => none
noncomputable def S53 {R : Type} (k : Nat) : Sum R := S53G conv_below k
theorem S53_ok0 {R : Type} (k : Nat) : SumOk Try.prog 53 false (S53 k : Sum R) := by
  intro args H K r h
  unfold S53 S53G at h
  split at h
  · exact fnK_sound (cx53_ok k) 6 53 _ _ K r ((conv_below_gen conv_bits k _ _ K).trans h)
  · cases h
theorem S53_ok {R : Type} (k : Nat) : SumOk Try.prog 53 true (S53 k : Sum R) := by
  refine sumOk_keep (S53_ok0 k) ?_
  intro args H K r h
  unfold S53 S53G at h ⊢
  split at h
  · refine Eq.trans ?_ h
    show conv_below k _ _ _ = conv_below k _ _ _
    congr 1
    all_goals first | exact (funext fun q1 => if_pos (keeps_app _ _ _ [])) | skip
  · cases h
-- function 21: plumbline/conv.Next
noncomputable def fi21 : FnI := ⟨21, Try.f21, []⟩
theorem en21 : Enters Try.prog 21 := enters_of Try.func21 (c := ((Try.f21).body.getD .skip)) (by kernel_rfl) (by kernel_rfl)
noncomputable def cx21 {R : Type} (k : Nat) : Cx R := mkCx Ty exts [(25, true, S25 k), (37, true, S37 k), (38, true, S38 k), (39, true, S39 k), (53, true, S53 k)] fi21 [] []
theorem cx21_ok {R : Type} (k : Nat) : CxOk Try.prog (cx21 k : Cx R) := mkCx_ok (c := ((Try.f21).body.getD .skip)) ty_ok mixed exts_ok (allSum_cons (S25_ok k) en25 (allSum_cons (S37_ok k) en37 (allSum_cons (S38_ok k) en38 (allSum_cons (S39_ok k) en39 (allSum_cons (S53_ok k) en53 allSum_nil))))) Try.func21 en21 (by kernel_rfl) (by kernel_rfl) allLoop_nil allCut_nil
@[reducible] def conv_NextY (R : Type) : Type := Nat → Int → Int → (Int → Option R) → Option R
noncomputable def conv_NextT {R : Type} (conv_Plain : conv_PlainY R) (conv_below : conv_belowY R) (soft_Finite : soft_FiniteY R) (soft_Most : soft_MostY R) (soft_Nan : soft_NanY R) (k : Nat) (a1 : Int) (a2 : Int) (K0 : Int → Option R) : Option R :=
  soft_Finite k a1 a2 (fun r1 =>
    cond (!r1) (
      soft_Nan k a1 (fun r2 =>
        K0 r2)) (
      conv_Plain k a1 a2 (fun r3 =>
        cond (r3 == 0) (
          K0 1) (
          conv_below k a1 a2 (fun r4 =>
            cond r4 (
              conv_Plain k a1 (Wu64 (a2 - 1)) (fun r5 =>
                K0 r5)) (
              soft_Most k a1 (fun r6 =>
                cond (a2 == r6) (
                  K0 a2) (
                  K0 (Wu64 (a2 + 1))))))))))
noncomputable def conv_Next {R : Type} (k : Nat) (a1 : Int) (a2 : Int) (K0 : Int → Option R) : Option R := conv_NextT conv_Plain conv_below soft_Finite soft_Most soft_Nan k a1 a2 K0
theorem conv_Next_gen {R : Type} (conv_Plain : conv_PlainY R) (soft_Finite : soft_FiniteY R) (soft_Nan : soft_NanY R) (soft_Most : soft_MostY R) (conv_below : conv_belowY R) (k : Nat) (a1 : Int) (a2 : Int) (K : AV → Heap → Option R) :
    fnK (mkCx Ty exts [(25, true, S25G conv_Plain k), (37, true, S37G soft_Finite k), (38, true, S38G soft_Nan k), (39, true, S39G soft_Most k), (53, true, S53G conv_below k)] fi21 [] []) 6 21 [.i .i64 a1, .i .u64 a2] ⟨0, []⟩ K = conv_NextT conv_Plain conv_below soft_Finite soft_Most soft_Nan k a1 a2 (fun q1 => K (.i .u64 q1) ⟨0, []⟩) := by kernel_rfl
noncomputable def S21G {R : Type} (conv_Next : conv_NextY R) (k : Nat) : Sum R := fun args H K => match args, H with
  | [.i .i64 a1, .i .u64 a2], ⟨0, []⟩ => conv_Next k a1 a2 (fun q1 => K (.i .u64 q1) ⟨0, []⟩)
  | _, _ => none
noncomputable def S21 {R : Type} (k : Nat) : Sum R := S21G conv_Next k
theorem S21_ok0 {R : Type} (k : Nat) : SumOk Try.prog 21 false (S21 k : Sum R) := by
  intro args H K r h
  unfold S21 S21G at h
  split at h
  · exact fnK_sound (cx21_ok k) 6 21 _ _ K r ((conv_Next_gen conv_Plain soft_Finite soft_Nan soft_Most conv_below k _ _ K).trans h)
  · cases h
theorem S21_ok {R : Type} (k : Nat) : SumOk Try.prog 21 true (S21 k : Sum R) := by
  refine sumOk_keep (S21_ok0 k) ?_
  intro args H K r h
  unfold S21 S21G at h ⊢
  split at h
  · refine Eq.trans ?_ h
    show conv_Next k _ _ _ = conv_Next k _ _ _
    congr 1
    all_goals first | exact (funext fun q1 => if_pos (keeps_app _ _ _ [])) | skip
  · cases h
-- function 13: plumbline/conv.Hex
noncomputable def fi13 : FnI := ⟨13, Try.f13, [(100006, [1, 5, 6, 19, 20]), (3006000, [5, 6])]⟩
theorem en13 : Enters Try.prog 13 := enters_of Try.func13 (c := ((Try.f13).body.getD .skip)) (by kernel_rfl) (by kernel_rfl)
@[reducible] def conv_Hex_l0Y (R : Type) : Type := Nat → Nat → Int → Int → Int → Int → (List Int) → ((List Int) → Option R) → Option R
noncomputable def conv_Hex_l0B {R : Type} (k : Nat) (rec : Int → Int → Int → Int → (List Int) → Option R) (x1 : Int) (x2 : Int) (x3 : Int) (x4 : Int) (x5 : List Int) (K0 : (List Int) → Option R) : Option R :=
  cond (decide (x4 < x3)) (
    cond (decide ((Wi64 (4 * (Wi64 (15 - x4)))) < 0)) (
      none) (
      Option.bind (strAt ⟨#[48, 49, 50, 51, 52, 53, 54, 55, 56, 57, 97, 98, 99, 100, 101, 102]⟩ (bAnd .u64 (shr .u64 x1 (Wi64 (4 * (Wi64 (15 - x4))))) 15)) fun yc1 =>
      cond (decide (0 ≤ x4)) (
        cond (decide (x4 < (((List.length x5) : Nat) : Int))) (
          Option.bind (x5[(Int.toNat x4)]?) fun ye2 =>
          rec x1 x2 x3 (Wi64 (x4 + 1)) (List.set x5 (Int.toNat x4) yc1)) (
          none)) (
        none))) (
    K0 x5)
noncomputable def conv_Hex_l0 {R : Type} (k : Nat) : Nat → Int → Int → Int → Int → (List Int) → ((List Int) → Option R) → Option R
  | 0, _, _, _, _, _, _ => none
  | n + 1, x1, x2, x3, x4, x5, K0 => conv_Hex_l0B k (fun x1 x2 x3 x4 x5 => conv_Hex_l0 k n x1 x2 x3 x4 x5 K0) x1 x2 x3 x4 x5 K0
noncomputable def cx13_6 {R : Type} (k : Nat) : Cx R := mkCx Ty exts [(38, true, S38 k), (41, true, S41 k), (42, true, S42 k)] fi13 [] []
theorem cx13_6_ok {R : Type} (k : Nat) : CxOk Try.prog (cx13_6 k : Cx R) := mkCx_ok (c := ((Try.f13).body.getD .skip)) ty_ok mixed exts_ok (allSum_cons (S38_ok k) en38 (allSum_cons (S41_ok k) en41 (allSum_cons (S42_ok k) en42 allSum_nil))) Try.func13 en13 (by kernel_rfl) (by kernel_rfl) allLoop_nil allCut_nil
noncomputable def L13_6G {R : Type} (conv_Hex_l0 : conv_Hex_l0Y R) (k n : Nat) : LSum R := fun pin T H K => match pin, T, H with
  | 0, [(1, .i .u64 x1), (5, .i .i64 x2), (6, .sw 0), (19, .i .i64 x3), (20, .i .i64 x4)], ⟨1, [(0, some ⟨0, false, .row [.i .u8] x5⟩)]⟩ => conv_Hex_l0 k n x1 x2 x3 x4 x5 (fun q2 => K (.exit 0) [(5, .i .i64 x2), (6, .sw 0)] ⟨1, [(0, some ⟨0, false, .row [.i .u8] q2⟩)]⟩)
  | _, _, _ => none
noncomputable def L13_6 {R : Type} (k n : Nat) : LSum R := L13_6G conv_Hex_l0 k n
theorem conv_Hex_l0_gen {R : Type} (soft_Nan : soft_NanY R) (conv_bits : conv_bitsY R) (soft_Class : soft_ClassY R) (conv_Hex_l0 : conv_Hex_l0Y R) (k n : Nat) (x1 : Int) (x2 : Int) (x3 : Int) (x4 : Int) (x5 : List Int) (K : Kont R) :
    (fun C => codeK C (run C 4)) (mkCx Ty exts [(38, true, S38G soft_Nan k), (41, true, S41G conv_bits k), (42, true, S42G soft_Class k)] fi13 [] []) 0 fi13 (loopAt ((Try.f13).body.getD .skip) 6) [(1, .i .u64 x1), (5, .i .i64 x2), (6, .sw 0), (19, .i .i64 x3), (20, .i .i64 x4)] ⟨1, [(0, some ⟨0, false, .row [.i .u8] x5⟩)]⟩ (fun ex T H => match (generalizing := false) ex with
      | .normal => normAt (some [1, 5, 6, 19, 20]) 0 T H (fun T H => L13_6G conv_Hex_l0 k n 0 T H K)
      | ex => exitNorm fi13.ann 6 0 K ex T H) =
    conv_Hex_l0B k (fun x1 x2 x3 x4 x5 => conv_Hex_l0 k n x1 x2 x3 x4 x5 (fun q2 => K (.exit 0) [(5, .i .i64 x2), (6, .sw 0)] ⟨1, [(0, some ⟨0, false, .row [.i .u8] q2⟩)]⟩)) x1 x2 x3 x4 x5 (fun q2 => K (.exit 0) [(5, .i .i64 x2), (6, .sw 0)] ⟨1, [(0, some ⟨0, false, .row [.i .u8] q2⟩)]⟩) := by kernel_rfl
theorem L13_6_cok {R : Type} (k : Nat) : CodeOk Try.prog (cx13_6 k : Cx R) fi13 (loopAt ((Try.f13).body.getD .skip) 6) := loopAt_ok (((cx13_6_ok k).fns 13 fi13 (by kernel_rfl)).2.2.2 ((Try.f13).body.getD .skip) (by kernel_rfl))
theorem L13_6_ok {R : Type} (k : Nat) : ∀ n, LoopOk Try.prog (Try.f13).ntmps (loopAt ((Try.f13).body.getD .skip) 6) (L13_6 k n : LSum R)
  | 0 => by
    intro pin T H K r h
    unfold L13_6 L13_6G at h
    split at h
    all_goals exact nomatch (show (none : Option R) = some r from h)
  | n + 1 => by
    intro pin T H K r h
    unfold L13_6 L13_6G at h
    split at h
    · obtain ⟨ex, T1, H1, h, hb⟩ := codeK_sound (cx13_6_ok k) (run_sound (cx13_6_ok k) 4) _ fi13 _ _ _ _ _ (L13_6_cok k) ((conv_Hex_l0_gen soft_Nan conv_bits soft_Class conv_Hex_l0 k n _ _ _ _ _ K).trans h)
      exact loop_step (fun T H hh => L13_6_ok k n _ T H K r hh) hb h
    · cases h
noncomputable def cx13 {R : Type} (k : Nat) : Cx R := mkCx Ty exts [(38, true, S38 k), (41, true, S41 k), (42, true, S42 k)] fi13 [(6, L13_6 k k)] []
theorem cx13_ok {R : Type} (k : Nat) : CxOk Try.prog (cx13 k : Cx R) := mkCx_ok (c := ((Try.f13).body.getD .skip)) ty_ok mixed exts_ok (allSum_cons (S38_ok k) en38 (allSum_cons (S41_ok k) en41 (allSum_cons (S42_ok k) en42 allSum_nil))) Try.func13 en13 (by kernel_rfl) (by kernel_rfl) (allLoop_loop (by kernel_rfl) (L13_6_ok k k) allLoop_nil) allCut_nil
@[reducible] def conv_HexY (R : Type) : Type := Nat → Int → Int → (ByteArray → Option R) → Option R
noncomputable def conv_HexT {R : Type} (conv_Hex_l0 : conv_Hex_l0Y R) (conv_bits : conv_bitsY R) (soft_Class : soft_ClassY R) (soft_Nan : soft_NanY R) (k : Nat) (a1 : Int) (a2 : Int) (K0 : ByteArray → Option R) : Option R :=
  conv_bits k a1 (fun r1 =>
    soft_Class k a1 a2 (fun r2 =>
      cond (r2 == 0) (
        soft_Nan k a1 (fun r3 =>
          conv_Hex_l0 k k r3 (Wi64 (Int.tdiv r1 4)) (((List.length (List.replicate 16 0)) : Nat) : Int) 0 (List.replicate 16 0) (fun r4 =>
            cond (decide (16 ≤ (((List.length r4) : Nat) : Int))) (
              cond (decide (0 ≤ (Wi64 (16 - (Wi64 (Int.tdiv r1 4)))))) (
                cond (decide ((Wi64 (16 - (Wi64 (Int.tdiv r1 4)))) ≤ 16)) (
                  cond (decide (((Int.toNat (Wi64 (16 - (Wi64 (Int.tdiv r1 4))))) + (16 - (Int.toNat (Wi64 (16 - (Wi64 (Int.tdiv r1 4))))))) ≤ (List.length r4))) (
                    K0 (bytesOf (List.take (16 - (Int.toNat (Wi64 (16 - (Wi64 (Int.tdiv r1 4)))))) (List.drop (Int.toNat (Wi64 (16 - (Wi64 (Int.tdiv r1 4))))) r4)))) (
                    none)) (
                  none)) (
                none)) (
              none)))) (
        conv_Hex_l0 k k a2 (Wi64 (Int.tdiv r1 4)) (((List.length (List.replicate 16 0)) : Nat) : Int) 0 (List.replicate 16 0) (fun r5 =>
          cond (decide (16 ≤ (((List.length r5) : Nat) : Int))) (
            cond (decide (0 ≤ (Wi64 (16 - (Wi64 (Int.tdiv r1 4)))))) (
              cond (decide ((Wi64 (16 - (Wi64 (Int.tdiv r1 4)))) ≤ 16)) (
                cond (decide (((Int.toNat (Wi64 (16 - (Wi64 (Int.tdiv r1 4))))) + (16 - (Int.toNat (Wi64 (16 - (Wi64 (Int.tdiv r1 4))))))) ≤ (List.length r5))) (
                  K0 (bytesOf (List.take (16 - (Int.toNat (Wi64 (16 - (Wi64 (Int.tdiv r1 4)))))) (List.drop (Int.toNat (Wi64 (16 - (Wi64 (Int.tdiv r1 4))))) r5)))) (
                  none)) (
                none)) (
              none)) (
            none)))))
noncomputable def conv_Hex {R : Type} (k : Nat) (a1 : Int) (a2 : Int) (K0 : ByteArray → Option R) : Option R := conv_HexT conv_Hex_l0 conv_bits soft_Class soft_Nan k a1 a2 K0
theorem conv_Hex_gen {R : Type} (soft_Nan : soft_NanY R) (conv_bits : conv_bitsY R) (soft_Class : soft_ClassY R) (conv_Hex_l0 : conv_Hex_l0Y R) (k : Nat) (a1 : Int) (a2 : Int) (K : AV → Heap → Option R) :
    fnK (mkCx Ty exts [(38, true, S38G soft_Nan k), (41, true, S41G conv_bits k), (42, true, S42G soft_Class k)] fi13 [(6, L13_6G conv_Hex_l0 k k)] []) 6 13 [.i .i64 a1, .i .u64 a2] ⟨0, []⟩ K = conv_HexT conv_Hex_l0 conv_bits soft_Class soft_Nan k a1 a2 (fun q1 => K (.s q1) ⟨0, []⟩) := by kernel_rfl
noncomputable def S13G {R : Type} (conv_Hex : conv_HexY R) (k : Nat) : Sum R := fun args H K => match args, H with
  | [.i .i64 a1, .i .u64 a2], ⟨0, []⟩ => conv_Hex k a1 a2 (fun q1 => K (.s q1) ⟨0, []⟩)
  | _, _ => none
noncomputable def S13 {R : Type} (k : Nat) : Sum R := S13G conv_Hex k
theorem S13_ok0 {R : Type} (k : Nat) : SumOk Try.prog 13 false (S13 k : Sum R) := by
  intro args H K r h
  unfold S13 S13G at h
  split at h
  · exact fnK_sound (cx13_ok k) 6 13 _ _ K r ((conv_Hex_gen soft_Nan conv_bits soft_Class conv_Hex_l0 k _ _ K).trans h)
  · cases h
theorem S13_ok {R : Type} (k : Nat) : SumOk Try.prog 13 true (S13 k : Sum R) := by
  refine sumOk_keep (S13_ok0 k) ?_
  intro args H K r h
  unfold S13 S13G at h ⊢
  split at h
  · refine Eq.trans ?_ h
    show conv_Hex k _ _ _ = conv_Hex k _ _ _
    congr 1
    all_goals first | exact (funext fun q1 => if_pos (keeps_app _ _ _ [])) | skip
  · cases h
-- function 83: plumbline/conv.fraction
noncomputable def fi83 : FnI := ⟨83, Try.f83, []⟩
theorem en83 : Enters Try.prog 83 := enters_of Try.func83 (c := ((Try.f83).body.getD .skip)) (by kernel_rfl) (by kernel_rfl)
noncomputable def cx83 {R : Type} (k : Nat) : Cx R := mkCx Ty exts [] fi83 [] []
theorem cx83_ok {R : Type} (k : Nat) : CxOk Try.prog (cx83 k : Cx R) := mkCx_ok (c := ((Try.f83).body.getD .skip)) ty_ok mixed exts_ok allSum_nil Try.func83 en83 (by kernel_rfl) (by kernel_rfl) allLoop_nil allCut_nil
@[reducible] def conv_fractionY (R : Type) : Type := Nat → Int → (Int → Int → Option R) → Option R
noncomputable def conv_fractionT {R : Type} (k : Nat) (a1 : Int) (K0 : Int → Int → Option R) : Option R :=
  cond (a1 == 1) (
    K0 23 (-149)) (
    K0 52 (-1074))
noncomputable def conv_fraction {R : Type} (k : Nat) (a1 : Int) (K0 : Int → Int → Option R) : Option R := conv_fractionT k a1 K0
theorem conv_fraction_gen {R : Type} (k : Nat) (a1 : Int) (K : AV → Heap → Option R) :
    fnK (mkCx Ty exts [] fi83 [] []) 6 83 [.i .i64 a1] ⟨0, []⟩ K = conv_fractionT k a1 (fun q1 q2 => K (.tup [.i .i64 q1, .i .i64 q2]) ⟨0, []⟩) := by kernel_rfl
noncomputable def S83G {R : Type} (conv_fraction : conv_fractionY R) (k : Nat) : Sum R := fun args H K => match args, H with
  | [.i .i64 a1], ⟨0, []⟩ => conv_fraction k a1 (fun q1 q2 => K (.tup [.i .i64 q1, .i .i64 q2]) ⟨0, []⟩)
  | _, _ => none
noncomputable def S83 {R : Type} (k : Nat) : Sum R := S83G conv_fraction k
theorem S83_ok0 {R : Type} (k : Nat) : SumOk Try.prog 83 false (S83 k : Sum R) := by
  intro args H K r h
  unfold S83 S83G at h
  split at h
  · exact fnK_sound (cx83_ok k) 6 83 _ _ K r ((conv_fraction_gen k _ K).trans h)
  · cases h
theorem S83_ok {R : Type} (k : Nat) : SumOk Try.prog 83 true (S83 k : Sum R) := by
  refine sumOk_keep (S83_ok0 k) ?_
  intro args H K r h
  unfold S83 S83G at h ⊢
  split at h
  · refine Eq.trans ?_ h
    show conv_fraction k _ _ = conv_fraction k _ _
    congr 1
    all_goals first | exact (funext fun q1 => funext fun q2 => if_pos (keeps_app _ _ _ [])) | skip
  · cases h
-- function 65: plumbline/conv.value
noncomputable def fi65 : FnI := ⟨65, Try.f65, []⟩
theorem en65 : Enters Try.prog 65 := enters_of Try.func65 (c := ((Try.f65).body.getD .skip)) (by kernel_rfl) (by kernel_rfl)
noncomputable def cx65 {R : Type} (k : Nat) : Cx R := mkCx Ty exts [(83, true, S83 k), (84, true, S84 k)] fi65 [] []
theorem cx65_ok {R : Type} (k : Nat) : CxOk Try.prog (cx65 k : Cx R) := mkCx_ok (c := ((Try.f65).body.getD .skip)) ty_ok mixed exts_ok (allSum_cons (S83_ok k) en83 (allSum_cons (S84_ok k) en84 allSum_nil)) Try.func65 en65 (by kernel_rfl) (by kernel_rfl) allLoop_nil allCut_nil
@[reducible] def conv_valueY (R : Type) : Type := Nat → Int → Int → (Int → Int → Option R) → Option R
noncomputable def conv_valueT {R : Type} (conv_fraction : conv_fractionY R) (soft_Abs : soft_AbsY R) (k : Nat) (a1 : Int) (a2 : Int) (K0 : Int → Int → Option R) : Option R :=
  conv_fraction k a1 (fun r1 r2 =>
    soft_Abs k a1 a2 (fun r3 =>
      cond (decide (r1 < 0)) (
        none) (
        cond (decide ((shr .u64 r3 r1) > 0)) (
          cond (decide (r1 < 0)) (
            none) (
            cond (decide (r1 < 0)) (
              none) (
              K0 (bOr .u64 (bAnd .u64 r3 (Wu64 ((shl .u64 1 r1) - 1))) (shl .u64 1 r1)) (Wi64 ((Wi64 ((Wi64 (shr .u64 r3 r1)) - 1)) + r2))))) (
          K0 r3 r2))))
noncomputable def conv_value {R : Type} (k : Nat) (a1 : Int) (a2 : Int) (K0 : Int → Int → Option R) : Option R := conv_valueT conv_fraction soft_Abs k a1 a2 K0
theorem conv_value_gen {R : Type} (conv_fraction : conv_fractionY R) (soft_Abs : soft_AbsY R) (k : Nat) (a1 : Int) (a2 : Int) (K : AV → Heap → Option R) :
    fnK (mkCx Ty exts [(83, true, S83G conv_fraction k), (84, true, S84G soft_Abs k)] fi65 [] []) 6 65 [.i .i64 a1, .i .u64 a2] ⟨0, []⟩ K = conv_valueT conv_fraction soft_Abs k a1 a2 (fun q1 q2 => K (.tup [.i .u64 q1, .i .i64 q2]) ⟨0, []⟩) := by kernel_rfl
noncomputable def S65G {R : Type} (conv_value : conv_valueY R) (k : Nat) : Sum R := fun args H K => match args, H with
  | [.i .i64 a1, .i .u64 a2], ⟨0, []⟩ => conv_value k a1 a2 (fun q1 q2 => K (.tup [.i .u64 q1, .i .i64 q2]) ⟨0, []⟩)
  | _, _ => none
noncomputable def S65 {R : Type} (k : Nat) : Sum R := S65G conv_value k
theorem S65_ok0 {R : Type} (k : Nat) : SumOk Try.prog 65 false (S65 k : Sum R) := by
  intro args H K r h
  unfold S65 S65G at h
  split at h
  · exact fnK_sound (cx65_ok k) 6 65 _ _ K r ((conv_value_gen conv_fraction soft_Abs k _ _ K).trans h)
  · cases h
theorem S65_ok {R : Type} (k : Nat) : SumOk Try.prog 65 true (S65 k : Sum R) := by
  refine sumOk_keep (S65_ok0 k) ?_
  intro args H K r h
  unfold S65 S65G at h ⊢
  split at h
  · refine Eq.trans ?_ h
    show conv_value k _ _ _ = conv_value k _ _ _
    congr 1
    all_goals first | exact (funext fun q1 => funext fun q2 => if_pos (keeps_app _ _ _ [])) | skip
  · cases h
-- function 63: plumbline/conv.turned
noncomputable def fi63 : FnI := ⟨63, Try.f63, []⟩
theorem en63 : Enters Try.prog 63 := enters_of Try.func63 (c := ((Try.f63).body.getD .skip)) (by kernel_rfl) (by kernel_rfl)
noncomputable def cx63 {R : Type} (k : Nat) : Cx R := mkCx Ty exts [(37, true, S37 k), (38, true, S38 k), (39, true, S39 k), (42, true, S42 k), (48, true, S48 k), (53, true, S53 k), (58, true, S58 k), (65, true, S65 k)] fi63 [] []
theorem cx63_ok {R : Type} (k : Nat) : CxOk Try.prog (cx63 k : Cx R) := mkCx_ok (c := ((Try.f63).body.getD .skip)) ty_ok mixed exts_ok (allSum_cons (S37_ok k) en37 (allSum_cons (S38_ok k) en38 (allSum_cons (S39_ok k) en39 (allSum_cons (S42_ok k) en42 (allSum_cons (S48_ok k) en48 (allSum_cons (S53_ok k) en53 (allSum_cons (S58_ok k) en58 (allSum_cons (S65_ok k) en65 allSum_nil)))))))) Try.func63 en63 (by kernel_rfl) (by kernel_rfl) allLoop_nil allCut_nil
@[reducible] def conv_turnedY (R : Type) : Type := Nat → Int → Int → Int → Int → (Int → Option R) → Option R
noncomputable def conv_turnedT {R : Type} (conv_below : conv_belowY R) (conv_value : conv_valueY R) (soft_Class : soft_ClassY R) (soft_Finite : soft_FiniteY R) (soft_Most : soft_MostY R) (soft_Nan : soft_NanY R) (soft_Neg : soft_NegY R) (soft_Round : soft_RoundY R) (k : Nat) (a1 : Int) (a2 : Int) (a3 : Int) (a4 : Int) (K0 : Int → Option R) : Option R :=
  soft_Finite k a1 a4 (fun r1 =>
    cond (!r1) (
      soft_Class k a1 a4 (fun r2 =>
        cond (r2 != 4) (
          soft_Nan k a2 (fun r3 =>
            K0 r3)) (
          soft_Most k a2 (fun r4 =>
            conv_below k a1 a4 (fun r5 =>
              cond r5 (
                soft_Neg k a2 (Wu64 (r4 + 1)) (fun r6 =>
                  K0 r6)) (
                K0 (Wu64 (r4 + 1)))))))) (
      conv_value k a1 a4 (fun r7 r8 =>
        conv_below k a1 a4 (fun r9 =>
          soft_Round k a2 a3 r9 0 r7 r8 false (fun r10 =>
            K0 r10)))))
noncomputable def conv_turned {R : Type} (k : Nat) (a1 : Int) (a2 : Int) (a3 : Int) (a4 : Int) (K0 : Int → Option R) : Option R := conv_turnedT conv_below conv_value soft_Class soft_Finite soft_Most soft_Nan soft_Neg soft_Round k a1 a2 a3 a4 K0
theorem conv_turned_gen {R : Type} (soft_Finite : soft_FiniteY R) (soft_Nan : soft_NanY R) (soft_Most : soft_MostY R) (soft_Class : soft_ClassY R) (soft_Round : soft_RoundY R) (conv_below : conv_belowY R) (soft_Neg : soft_NegY R) (conv_value : conv_valueY R) (k : Nat) (a1 : Int) (a2 : Int) (a3 : Int) (a4 : Int) (K : AV → Heap → Option R) :
    fnK (mkCx Ty exts [(37, true, S37G soft_Finite k), (38, true, S38G soft_Nan k), (39, true, S39G soft_Most k), (42, true, S42G soft_Class k), (48, true, S48G soft_Round k), (53, true, S53G conv_below k), (58, true, S58G soft_Neg k), (65, true, S65G conv_value k)] fi63 [] []) 6 63 [.i .i64 a1, .i .i64 a2, .i .i64 a3, .i .u64 a4] ⟨0, []⟩ K = conv_turnedT conv_below conv_value soft_Class soft_Finite soft_Most soft_Nan soft_Neg soft_Round k a1 a2 a3 a4 (fun q1 => K (.i .u64 q1) ⟨0, []⟩) := by kernel_rfl
noncomputable def S63G {R : Type} (conv_turned : conv_turnedY R) (k : Nat) : Sum R := fun args H K => match args, H with
  | [.i .i64 a1, .i .i64 a2, .i .i64 a3, .i .u64 a4], ⟨0, []⟩ => conv_turned k a1 a2 a3 a4 (fun q1 => K (.i .u64 q1) ⟨0, []⟩)
  | _, _ => none
noncomputable def S63 {R : Type} (k : Nat) : Sum R := S63G conv_turned k
theorem S63_ok0 {R : Type} (k : Nat) : SumOk Try.prog 63 false (S63 k : Sum R) := by
  intro args H K r h
  unfold S63 S63G at h
  split at h
  · exact fnK_sound (cx63_ok k) 6 63 _ _ K r ((conv_turned_gen soft_Finite soft_Nan soft_Most soft_Class soft_Round conv_below soft_Neg conv_value k _ _ _ _ K).trans h)
  · cases h
theorem S63_ok {R : Type} (k : Nat) : SumOk Try.prog 63 true (S63 k : Sum R) := by
  refine sumOk_keep (S63_ok0 k) ?_
  intro args H K r h
  unfold S63 S63G at h ⊢
  split at h
  · refine Eq.trans ?_ h
    show conv_turned k _ _ _ _ _ = conv_turned k _ _ _ _ _
    congr 1
    all_goals first | exact (funext fun q1 => if_pos (keeps_app _ _ _ [])) | skip
  · cases h
-- function 30: plumbline/conv.Widen
noncomputable def fi30 : FnI := ⟨30, Try.f30, []⟩
theorem en30 : Enters Try.prog 30 := enters_of Try.func30 (c := ((Try.f30).body.getD .skip)) (by kernel_rfl) (by kernel_rfl)
noncomputable def cx30 {R : Type} (k : Nat) : Cx R := mkCx Ty exts [(63, true, S63 k)] fi30 [] []
theorem cx30_ok {R : Type} (k : Nat) : CxOk Try.prog (cx30 k : Cx R) := mkCx_ok (c := ((Try.f30).body.getD .skip)) ty_ok mixed exts_ok (allSum_cons (S63_ok k) en63 allSum_nil) Try.func30 en30 (by kernel_rfl) (by kernel_rfl) allLoop_nil allCut_nil
@[reducible] def conv_WidenY (R : Type) : Type := Nat → Int → (Int → Option R) → Option R
noncomputable def conv_WidenT {R : Type} (conv_turned : conv_turnedY R) (k : Nat) (a1 : Int) (K0 : Int → Option R) : Option R :=
  conv_turned k 1 0 0 a1 (fun r1 =>
    K0 r1)
noncomputable def conv_Widen {R : Type} (k : Nat) (a1 : Int) (K0 : Int → Option R) : Option R := conv_WidenT conv_turned k a1 K0
theorem conv_Widen_gen {R : Type} (conv_turned : conv_turnedY R) (k : Nat) (a1 : Int) (K : AV → Heap → Option R) :
    fnK (mkCx Ty exts [(63, true, S63G conv_turned k)] fi30 [] []) 6 30 [.i .u64 a1] ⟨0, []⟩ K = conv_WidenT conv_turned k a1 (fun q1 => K (.i .u64 q1) ⟨0, []⟩) := by kernel_rfl
noncomputable def S30G {R : Type} (conv_Widen : conv_WidenY R) (k : Nat) : Sum R := fun args H K => match args, H with
  | [.i .u64 a1], ⟨0, []⟩ => conv_Widen k a1 (fun q1 => K (.i .u64 q1) ⟨0, []⟩)
  | _, _ => none
noncomputable def S30 {R : Type} (k : Nat) : Sum R := S30G conv_Widen k
theorem S30_ok0 {R : Type} (k : Nat) : SumOk Try.prog 30 false (S30 k : Sum R) := by
  intro args H K r h
  unfold S30 S30G at h
  split at h
  · exact fnK_sound (cx30_ok k) 6 30 _ _ K r ((conv_Widen_gen conv_turned k _ K).trans h)
  · cases h
theorem S30_ok {R : Type} (k : Nat) : SumOk Try.prog 30 true (S30 k : Sum R) := by
  refine sumOk_keep (S30_ok0 k) ?_
  intro args H K r h
  unfold S30 S30G at h ⊢
  split at h
  · refine Eq.trans ?_ h
    show conv_Widen k _ _ = conv_Widen k _ _
    congr 1
    all_goals first | exact (funext fun q1 => if_pos (keeps_app _ _ _ [])) | skip
  · cases h
-- function 32: plumbline/conv.Narrow
noncomputable def fi32 : FnI := ⟨32, Try.f32, []⟩
theorem en32 : Enters Try.prog 32 := enters_of Try.func32 (c := ((Try.f32).body.getD .skip)) (by kernel_rfl) (by kernel_rfl)
noncomputable def cx32 {R : Type} (k : Nat) : Cx R := mkCx Ty exts [(63, true, S63 k)] fi32 [] []
theorem cx32_ok {R : Type} (k : Nat) : CxOk Try.prog (cx32 k : Cx R) := mkCx_ok (c := ((Try.f32).body.getD .skip)) ty_ok mixed exts_ok (allSum_cons (S63_ok k) en63 allSum_nil) Try.func32 en32 (by kernel_rfl) (by kernel_rfl) allLoop_nil allCut_nil
@[reducible] def conv_NarrowY (R : Type) : Type := Nat → Int → Int → (Int → Option R) → Option R
noncomputable def conv_NarrowT {R : Type} (conv_turned : conv_turnedY R) (k : Nat) (a1 : Int) (a2 : Int) (K0 : Int → Option R) : Option R :=
  conv_turned k 0 1 a1 a2 (fun r1 =>
    K0 r1)
noncomputable def conv_Narrow {R : Type} (k : Nat) (a1 : Int) (a2 : Int) (K0 : Int → Option R) : Option R := conv_NarrowT conv_turned k a1 a2 K0
theorem conv_Narrow_gen {R : Type} (conv_turned : conv_turnedY R) (k : Nat) (a1 : Int) (a2 : Int) (K : AV → Heap → Option R) :
    fnK (mkCx Ty exts [(63, true, S63G conv_turned k)] fi32 [] []) 6 32 [.i .i64 a1, .i .u64 a2] ⟨0, []⟩ K = conv_NarrowT conv_turned k a1 a2 (fun q1 => K (.i .u64 q1) ⟨0, []⟩) := by kernel_rfl
noncomputable def S32G {R : Type} (conv_Narrow : conv_NarrowY R) (k : Nat) : Sum R := fun args H K => match args, H with
  | [.i .i64 a1, .i .u64 a2], ⟨0, []⟩ => conv_Narrow k a1 a2 (fun q1 => K (.i .u64 q1) ⟨0, []⟩)
  | _, _ => none
noncomputable def S32 {R : Type} (k : Nat) : Sum R := S32G conv_Narrow k
theorem S32_ok0 {R : Type} (k : Nat) : SumOk Try.prog 32 false (S32 k : Sum R) := by
  intro args H K r h
  unfold S32 S32G at h
  split at h
  · exact fnK_sound (cx32_ok k) 6 32 _ _ K r ((conv_Narrow_gen conv_turned k _ _ K).trans h)
  · cases h
theorem S32_ok {R : Type} (k : Nat) : SumOk Try.prog 32 true (S32 k : Sum R) := by
  refine sumOk_keep (S32_ok0 k) ?_
  intro args H K r h
  unfold S32 S32G at h ⊢
  split at h
  · refine Eq.trans ?_ h
    show conv_Narrow k _ _ _ = conv_Narrow k _ _ _
    congr 1
    all_goals first | exact (funext fun q1 => if_pos (keeps_app _ _ _ [])) | skip
  · cases h
-- function 34: plumbline/conv.ToInt
noncomputable def fi34 : FnI := ⟨34, Try.f34, []⟩
theorem en34 : Enters Try.prog 34 := enters_of Try.func34 (c := ((Try.f34).body.getD .skip)) (by kernel_rfl) (by kernel_rfl)
noncomputable def cx34 {R : Type} (k : Nat) : Cx R := mkCx Ty exts [(37, true, S37 k), (53, true, S53 k), (65, true, S65 k), (66, true, S66 k)] fi34 [] []
theorem cx34_ok {R : Type} (k : Nat) : CxOk Try.prog (cx34 k : Cx R) := mkCx_ok (c := ((Try.f34).body.getD .skip)) ty_ok mixed exts_ok (allSum_cons (S37_ok k) en37 (allSum_cons (S53_ok k) en53 (allSum_cons (S65_ok k) en65 (allSum_cons (S66_ok k) en66 allSum_nil)))) Try.func34 en34 (by kernel_rfl) (by kernel_rfl) allLoop_nil allCut_nil
@[reducible] def conv_ToIntY (R : Type) : Type := Nat → Int → Int → (Int → Bool → Option R) → Option R
noncomputable def conv_ToIntT {R : Type} (conv_below : conv_belowY R) (conv_value : conv_valueY R) (soft_Finite : soft_FiniteY R) (wide_Shr : wide_ShrY R) (k : Nat) (a1 : Int) (a2 : Int) (K0 : Int → Bool → Option R) : Option R :=
  soft_Finite k a1 a2 (fun r1 =>
    cond (!r1) (
      K0 0 false) (
      conv_value k a1 a2 (fun r2 r3 =>
        cond (decide (r3 ≤ 0)) (
          wide_Shr k 0 r2 (Wi64 (0 - r3)) (fun r4 r5 r6 =>
            cond (decide (r5 > 2147483648)) (
              K0 0 false) (
              conv_below k a1 a2 (fun r7 =>
                cond r7 (
                  cond (decide ((Wi64 (0 - (Wi64 r5))) > 2147483647)) (
                    K0 0 false) (
                    K0 (Wi64 (0 - (Wi64 r5))) true)) (
                  cond (decide ((Wi64 r5) > 2147483647)) (
                    K0 0 false) (
                    K0 (Wi64 r5) true)))))) (
          cond (decide (r3 < 11)) (
            cond (decide (r3 < 0)) (
              none) (
              cond (decide ((shl .u64 r2 r3) > 2147483648)) (
                K0 0 false) (
                conv_below k a1 a2 (fun r8 =>
                  cond r8 (
                    cond (decide ((Wi64 (0 - (Wi64 (shl .u64 r2 r3)))) > 2147483647)) (
                      K0 0 false) (
                      K0 (Wi64 (0 - (Wi64 (shl .u64 r2 r3)))) true)) (
                    cond (decide ((Wi64 (shl .u64 r2 r3)) > 2147483647)) (
                      K0 0 false) (
                      K0 (Wi64 (shl .u64 r2 r3)) true)))))) (
            cond (decide (r2 > 0)) (
              K0 0 false) (
              cond (decide (r2 > 2147483648)) (
                K0 0 false) (
                conv_below k a1 a2 (fun r9 =>
                  cond r9 (
                    cond (decide ((Wi64 (0 - (Wi64 r2))) > 2147483647)) (
                      K0 0 false) (
                      K0 (Wi64 (0 - (Wi64 r2))) true)) (
                    cond (decide ((Wi64 r2) > 2147483647)) (
                      K0 0 false) (
                      K0 (Wi64 r2) true))))))))))
noncomputable def conv_ToInt {R : Type} (k : Nat) (a1 : Int) (a2 : Int) (K0 : Int → Bool → Option R) : Option R := conv_ToIntT conv_below conv_value soft_Finite wide_Shr k a1 a2 K0
theorem conv_ToInt_gen {R : Type} (soft_Finite : soft_FiniteY R) (conv_below : conv_belowY R) (conv_value : conv_valueY R) (wide_Shr : wide_ShrY R) (k : Nat) (a1 : Int) (a2 : Int) (K : AV → Heap → Option R) :
    fnK (mkCx Ty exts [(37, true, S37G soft_Finite k), (53, true, S53G conv_below k), (65, true, S65G conv_value k), (66, true, S66G wide_Shr k)] fi34 [] []) 6 34 [.i .i64 a1, .i .u64 a2] ⟨0, []⟩ K = conv_ToIntT conv_below conv_value soft_Finite wide_Shr k a1 a2 (fun q1 q2 => K (.tup [.i .i64 q1, .b q2]) ⟨0, []⟩) := by kernel_rfl
noncomputable def S34G {R : Type} (conv_ToInt : conv_ToIntY R) (k : Nat) : Sum R := fun args H K => match args, H with
  | [.i .i64 a1, .i .u64 a2], ⟨0, []⟩ => conv_ToInt k a1 a2 (fun q1 q2 => K (.tup [.i .i64 q1, .b q2]) ⟨0, []⟩)
  | _, _ => none
noncomputable def S34 {R : Type} (k : Nat) : Sum R := S34G conv_ToInt k
theorem S34_ok0 {R : Type} (k : Nat) : SumOk Try.prog 34 false (S34 k : Sum R) := by
  intro args H K r h
  unfold S34 S34G at h
  split at h
  · exact fnK_sound (cx34_ok k) 6 34 _ _ K r ((conv_ToInt_gen soft_Finite conv_below conv_value wide_Shr k _ _ K).trans h)
  · cases h
theorem S34_ok {R : Type} (k : Nat) : SumOk Try.prog 34 true (S34 k : Sum R) := by
  refine sumOk_keep (S34_ok0 k) ?_
  intro args H K r h
  unfold S34 S34G at h ⊢
  split at h
  · refine Eq.trans ?_ h
    show conv_ToInt k _ _ _ = conv_ToInt k _ _ _
    congr 1
    all_goals first | exact (funext fun q1 => funext fun q2 => if_pos (keeps_app _ _ _ [])) | skip
  · cases h
-- function 17: plumbline/conv.Int
noncomputable def fi17 : FnI := ⟨17, Try.f17, []⟩
theorem en17 : Enters Try.prog 17 := enters_of Try.func17 (c := ((Try.f17).body.getD .skip)) (by kernel_rfl) (by kernel_rfl)
noncomputable def cx17 {R : Type} (k : Nat) : Cx R := mkCx Ty exts [(43, true, S43 k), (44, true, S44 k)] fi17 [] []
theorem cx17_ok {R : Type} (k : Nat) : CxOk Try.prog (cx17 k : Cx R) := mkCx_ok (c := ((Try.f17).body.getD .skip)) ty_ok mixed exts_ok (allSum_cons (S43_ok k) en43 (allSum_cons (S44_ok k) en44 allSum_nil)) Try.func17 en17 (by kernel_rfl) (by kernel_rfl) allLoop_nil allCut_nil
@[reducible] def conv_IntY (R : Type) : Type := Nat → ByteArray → (Int → Int → Option R) → Option R
noncomputable def conv_IntT {R : Type} (conv_digits : conv_digitsY R) (conv_point : conv_pointY R) (k : Nat) (a1 : ByteArray) (K0 : Int → Int → Option R) : Option R :=
  conv_digits k a1 (fun r1 r2 r3 r4 =>
    cond (!r4) (
      K0 0 4) (
      conv_point k a1 (fun r5 =>
        cond r5 (
          K0 0 4) (
          cond (decide (r2 > 18)) (
            K0 0 9) (
            cond (decide (r1 > 2147483647)) (
              K0 0 2) (
              K0 (Wi64 r1) 0))))))
noncomputable def conv_Int {R : Type} (k : Nat) (a1 : ByteArray) (K0 : Int → Int → Option R) : Option R := conv_IntT conv_digits conv_point k a1 K0
theorem conv_Int_gen {R : Type} (conv_digits : conv_digitsY R) (conv_point : conv_pointY R) (k : Nat) (a1 : ByteArray) (K : AV → Heap → Option R) :
    fnK (mkCx Ty exts [(43, true, S43G conv_digits k), (44, true, S44G conv_point k)] fi17 [] []) 6 17 [.s a1] ⟨0, []⟩ K = conv_IntT conv_digits conv_point k a1 (fun q1 q2 => K (.tup [.i .i64 q1, .i .i64 q2]) ⟨0, []⟩) := by kernel_rfl
noncomputable def S17G {R : Type} (conv_Int : conv_IntY R) (k : Nat) : Sum R := fun args H K => match args, H with
  | [.s a1], ⟨0, []⟩ => conv_Int k a1 (fun q1 q2 => K (.tup [.i .i64 q1, .i .i64 q2]) ⟨0, []⟩)
  | _, _ => none
noncomputable def S17 {R : Type} (k : Nat) : Sum R := S17G conv_Int k
theorem S17_ok0 {R : Type} (k : Nat) : SumOk Try.prog 17 false (S17 k : Sum R) := by
  intro args H K r h
  unfold S17 S17G at h
  split at h
  · exact fnK_sound (cx17_ok k) 6 17 _ _ K r ((conv_Int_gen conv_digits conv_point k _ K).trans h)
  · cases h
theorem S17_ok {R : Type} (k : Nat) : SumOk Try.prog 17 true (S17 k : Sum R) := by
  refine sumOk_keep (S17_ok0 k) ?_
  intro args H K r h
  unfold S17 S17G at h ⊢
  split at h
  · refine Eq.trans ?_ h
    show conv_Int k _ _ = conv_Int k _ _
    congr 1
    all_goals first | exact (funext fun q1 => funext fun q2 => if_pos (keeps_app _ _ _ [])) | skip
  · cases h
-- function 23: plumbline/conv.Prev
noncomputable def fi23 : FnI := ⟨23, Try.f23, []⟩
theorem en23 : Enters Try.prog 23 := enters_of Try.func23 (c := ((Try.f23).body.getD .skip)) (by kernel_rfl) (by kernel_rfl)
noncomputable def cx23 {R : Type} (k : Nat) : Cx R := mkCx Ty exts [(21, true, S21 k), (25, true, S25 k), (37, true, S37 k), (38, true, S38 k), (58, true, S58 k)] fi23 [] []
theorem cx23_ok {R : Type} (k : Nat) : CxOk Try.prog (cx23 k : Cx R) := mkCx_ok (c := ((Try.f23).body.getD .skip)) ty_ok mixed exts_ok (allSum_cons (S21_ok k) en21 (allSum_cons (S25_ok k) en25 (allSum_cons (S37_ok k) en37 (allSum_cons (S38_ok k) en38 (allSum_cons (S58_ok k) en58 allSum_nil))))) Try.func23 en23 (by kernel_rfl) (by kernel_rfl) allLoop_nil allCut_nil
@[reducible] def conv_PrevY (R : Type) : Type := Nat → Int → Int → (Int → Option R) → Option R
noncomputable def conv_PrevT {R : Type} (conv_Next : conv_NextY R) (conv_Plain : conv_PlainY R) (soft_Finite : soft_FiniteY R) (soft_Nan : soft_NanY R) (soft_Neg : soft_NegY R) (k : Nat) (a1 : Int) (a2 : Int) (K0 : Int → Option R) : Option R :=
  soft_Finite k a1 a2 (fun r1 =>
    cond (!r1) (
      soft_Nan k a1 (fun r2 =>
        K0 r2)) (
      soft_Neg k a1 a2 (fun r3 =>
        conv_Next k a1 r3 (fun r4 =>
          soft_Neg k a1 r4 (fun r5 =>
            conv_Plain k a1 r5 (fun r6 =>
              K0 r6))))))
noncomputable def conv_Prev {R : Type} (k : Nat) (a1 : Int) (a2 : Int) (K0 : Int → Option R) : Option R := conv_PrevT conv_Next conv_Plain soft_Finite soft_Nan soft_Neg k a1 a2 K0
theorem conv_Prev_gen {R : Type} (conv_Next : conv_NextY R) (conv_Plain : conv_PlainY R) (soft_Finite : soft_FiniteY R) (soft_Nan : soft_NanY R) (soft_Neg : soft_NegY R) (k : Nat) (a1 : Int) (a2 : Int) (K : AV → Heap → Option R) :
    fnK (mkCx Ty exts [(21, true, S21G conv_Next k), (25, true, S25G conv_Plain k), (37, true, S37G soft_Finite k), (38, true, S38G soft_Nan k), (58, true, S58G soft_Neg k)] fi23 [] []) 6 23 [.i .i64 a1, .i .u64 a2] ⟨0, []⟩ K = conv_PrevT conv_Next conv_Plain soft_Finite soft_Nan soft_Neg k a1 a2 (fun q1 => K (.i .u64 q1) ⟨0, []⟩) := by kernel_rfl
noncomputable def S23G {R : Type} (conv_Prev : conv_PrevY R) (k : Nat) : Sum R := fun args H K => match args, H with
  | [.i .i64 a1, .i .u64 a2], ⟨0, []⟩ => conv_Prev k a1 a2 (fun q1 => K (.i .u64 q1) ⟨0, []⟩)
  | _, _ => none
noncomputable def S23 {R : Type} (k : Nat) : Sum R := S23G conv_Prev k
theorem S23_ok0 {R : Type} (k : Nat) : SumOk Try.prog 23 false (S23 k : Sum R) := by
  intro args H K r h
  unfold S23 S23G at h
  split at h
  · exact fnK_sound (cx23_ok k) 6 23 _ _ K r ((conv_Prev_gen conv_Next conv_Plain soft_Finite soft_Nan soft_Neg k _ _ K).trans h)
  · cases h
theorem S23_ok {R : Type} (k : Nat) : SumOk Try.prog 23 true (S23 k : Sum R) := by
  refine sumOk_keep (S23_ok0 k) ?_
  intro args H K r h
  unfold S23 S23G at h ⊢
  split at h
  · refine Eq.trans ?_ h
    show conv_Prev k _ _ _ = conv_Prev k _ _ _
    congr 1
    all_goals first | exact (funext fun q1 => if_pos (keeps_app _ _ _ [])) | skip
  · cases h
end Go.Proofs.Ytelifkahdhhmoaa.N
