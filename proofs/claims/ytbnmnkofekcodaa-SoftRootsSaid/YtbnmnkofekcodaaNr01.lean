/- Printed by wip/gen/emit.py: functions of the program as plain Lean functions, tied to the model by the evaluator. Conditions: none. -/
import Derived.Test.YtbnmnkofekcodaaN0
namespace Go.Proofs.Ytbnmnkofekcodaa.N
set_option linter.unusedVariables false
set_option maxRecDepth 100000
open Go Go.Ab
-- function 66: plumbline/plumblineref01.Bits
noncomputable def fi66 : FnI := ⟨66, Try.f66, [(100003, [1, 3, 4]), (3003000, [3])]⟩
theorem en66 : Enters Try.prog 66 := enters_of Try.func66 (c := ((Try.f66).body.getD .skip)) (by kernel_rfl) (by kernel_rfl)
@[reducible] def plumblineref01_Bits_l0Y (R : Type) : Type := Nat → Nat → Int → Int → Int → (List Bool) → ((List Bool) → Option R) → Option R
noncomputable def plumblineref01_Bits_l0B {R : Type} (k : Nat) (rec : Int → Int → Int → (List Bool) → Option R) (x1 : Int) (x2 : Int) (x3 : Int) (x4 : List Bool) (K0 : (List Bool) → Option R) : Option R :=
  cond (decide (x1 < 64)) (
    cond (decide (x1 < 0)) (
      none) (
      cond (decide (0 ≤ x1)) (
        cond (decide (x1 < (((List.length x4) : Nat) : Int))) (
          Option.bind (x4[(Int.toNat x1)]?) fun ye1 =>
          cond (decide (x1 < 0)) (
            none) (
            cond (decide (0 ≤ (Wi64 (64 + x1)))) (
              cond (decide ((Wi64 (64 + x1)) < (((List.length (List.set x4 (Int.toNat x1) ((bAnd .u64 (shr .u64 x3 x1) 1) == 1))) : Nat) : Int))) (
                Option.bind ((List.set x4 (Int.toNat x1) ((bAnd .u64 (shr .u64 x3 x1) 1) == 1))[(Int.toNat (Wi64 (64 + x1)))]?) fun ye2 =>
                rec (Wi64 (x1 + 1)) x2 x3 (List.set (List.set x4 (Int.toNat x1) ((bAnd .u64 (shr .u64 x3 x1) 1) == 1)) (Int.toNat (Wi64 (64 + x1))) ((bAnd .u64 (shr .u64 x2 x1) 1) == 1))) (
                none)) (
              none))) (
          none)) (
        none))) (
    K0 x4)
noncomputable def plumblineref01_Bits_l0 {R : Type} (k : Nat) : Nat → Int → Int → Int → (List Bool) → ((List Bool) → Option R) → Option R
  | 0, _, _, _, _, _ => none
  | n + 1, x1, x2, x3, x4, K0 => plumblineref01_Bits_l0B k (fun x1 x2 x3 x4 => plumblineref01_Bits_l0 k n x1 x2 x3 x4 K0) x1 x2 x3 x4 K0
noncomputable def cx66_3 {R : Type} (k : Nat) : Cx R := mkCx Ty exts [] fi66 [] []
theorem cx66_3_ok {R : Type} (k : Nat) : CxOk Try.prog (cx66_3 k : Cx R) := mkCx_ok (c := ((Try.f66).body.getD .skip)) ty_ok mixed exts_ok allSum_nil Try.func66 en66 (by kernel_rfl) (by kernel_rfl) allLoop_nil allCut_nil
noncomputable def L66_3G {R : Type} (plumblineref01_Bits_l0 : plumblineref01_Bits_l0Y R) (k n : Nat) : LSum R := fun pin T H K => match pin, T, H with
  | 0, [(1, .ptr 0 0 0 0 0), (3, .sw 1), (4, .i .i64 x1)], ⟨2, [(0, some ⟨0, false, .cells [.i .u64 x2, .i .u64 x3]⟩), (1, some ⟨1, false, .row [.b] x4⟩)]⟩ => plumblineref01_Bits_l0 k n x1 x2 x3 x4 (fun q1 => K (.exit 0) [(3, .sw 0)] ⟨1, [(0, some ⟨0, false, .row [.b] q1⟩)]⟩)
  | _, _, _ => none
noncomputable def L66_3 {R : Type} (k n : Nat) : LSum R := L66_3G plumblineref01_Bits_l0 k n
theorem plumblineref01_Bits_l0_gen {R : Type} (plumblineref01_Bits_l0 : plumblineref01_Bits_l0Y R) (k n : Nat) (x1 : Int) (x2 : Int) (x3 : Int) (x4 : List Bool) (K : Kont R) :
    (fun C => codeK C (run C 4)) (mkCx Ty exts [] fi66 [] []) 0 fi66 (loopAt ((Try.f66).body.getD .skip) 3) [(1, .ptr 0 0 0 0 0), (3, .sw 1), (4, .i .i64 x1)] ⟨2, [(0, some ⟨0, false, .cells [.i .u64 x2, .i .u64 x3]⟩), (1, some ⟨1, false, .row [.b] x4⟩)]⟩ (fun ex T H => match (generalizing := false) ex with
      | .normal => normAt (some [1, 3, 4]) 0 T H (fun T H => L66_3G plumblineref01_Bits_l0 k n 0 T H K)
      | ex => exitNorm fi66.ann 3 0 K ex T H) =
    plumblineref01_Bits_l0B k (fun x1 x2 x3 x4 => plumblineref01_Bits_l0 k n x1 x2 x3 x4 (fun q1 => K (.exit 0) [(3, .sw 0)] ⟨1, [(0, some ⟨0, false, .row [.b] q1⟩)]⟩)) x1 x2 x3 x4 (fun q1 => K (.exit 0) [(3, .sw 0)] ⟨1, [(0, some ⟨0, false, .row [.b] q1⟩)]⟩) := by kernel_rfl
theorem L66_3_cok {R : Type} (k : Nat) : CodeOk Try.prog (cx66_3 k : Cx R) fi66 (loopAt ((Try.f66).body.getD .skip) 3) := loopAt_ok (((cx66_3_ok k).fns 66 fi66 (by kernel_rfl)).2.2.2 ((Try.f66).body.getD .skip) (by kernel_rfl))
theorem L66_3_ok {R : Type} (k : Nat) : ∀ n, LoopOk Try.prog (Try.f66).ntmps (loopAt ((Try.f66).body.getD .skip) 3) (L66_3 k n : LSum R)
  | 0 => by
    intro pin T H K r h
    unfold L66_3 L66_3G at h
    split at h
    all_goals exact nomatch (show (none : Option R) = some r from h)
  | n + 1 => by
    intro pin T H K r h
    unfold L66_3 L66_3G at h
    split at h
    · obtain ⟨ex, T1, H1, h, hb⟩ := codeK_sound (cx66_3_ok k) (run_sound (cx66_3_ok k) 4) _ fi66 _ _ _ _ _ (L66_3_cok k) ((plumblineref01_Bits_l0_gen plumblineref01_Bits_l0 k n _ _ _ _ K).trans h)
      exact loop_step (fun T H hh => L66_3_ok k n _ T H K r hh) hb h
    · cases h
noncomputable def cx66 {R : Type} (k : Nat) : Cx R := mkCx Ty exts [] fi66 [(3, L66_3 k k)] []
theorem cx66_ok {R : Type} (k : Nat) : CxOk Try.prog (cx66 k : Cx R) := mkCx_ok (c := ((Try.f66).body.getD .skip)) ty_ok mixed exts_ok allSum_nil Try.func66 en66 (by kernel_rfl) (by kernel_rfl) (allLoop_loop (by kernel_rfl) (L66_3_ok k k) allLoop_nil) allCut_nil
@[reducible] def plumblineref01_BitsY (R : Type) : Type := Nat → Int → Int → ((List Bool) → Option R) → Option R
noncomputable def plumblineref01_BitsT {R : Type} (plumblineref01_Bits_l0 : plumblineref01_Bits_l0Y R) (k : Nat) (a1 : Int) (a2 : Int) (K0 : (List Bool) → Option R) : Option R :=
  plumblineref01_Bits_l0 k k 0 a1 a2 (List.replicate 128 false) (fun r1 =>
    K0 r1)
noncomputable def plumblineref01_Bits {R : Type} (k : Nat) (a1 : Int) (a2 : Int) (K0 : (List Bool) → Option R) : Option R := plumblineref01_BitsT plumblineref01_Bits_l0 k a1 a2 K0
theorem plumblineref01_Bits_gen {R : Type} (plumblineref01_Bits_l0 : plumblineref01_Bits_l0Y R) (k : Nat) (a1 : Int) (a2 : Int) (K : AV → Heap → Option R) :
    fnK (mkCx Ty exts [] fi66 [(3, L66_3G plumblineref01_Bits_l0 k k)] []) 6 66 [.agg [.i .u64 a1, .i .u64 a2]] ⟨0, []⟩ K = plumblineref01_BitsT plumblineref01_Bits_l0 k a1 a2 (fun q1 => K (.sw 0) ⟨1, [(0, some ⟨0, false, .row [.b] q1⟩)]⟩) := by kernel_rfl
noncomputable def S66G {R : Type} (plumblineref01_Bits : plumblineref01_BitsY R) (k : Nat) : Sum R := fun args H K => match args, H with
  | [.agg [.i .u64 a1, .i .u64 a2]], ⟨0, []⟩ => plumblineref01_Bits k a1 a2 (fun q1 => K (.sw 0) ⟨1, [(0, some ⟨0, false, .row [.b] q1⟩)]⟩)
  | _, _ => none
noncomputable def S66 {R : Type} (k : Nat) : Sum R := S66G plumblineref01_Bits k
theorem S66_ok0 {R : Type} (k : Nat) : SumOk Try.prog 66 false (S66 k : Sum R) := by
  intro args H K r h
  unfold S66 S66G at h
  split at h
  · exact fnK_sound (cx66_ok k) 6 66 _ _ K r ((plumblineref01_Bits_gen plumblineref01_Bits_l0 k _ _ K).trans h)
  · cases h
theorem S66_ok {R : Type} (k : Nat) : SumOk Try.prog 66 true (S66 k : Sum R) := by
  refine sumOk_keep (S66_ok0 k) ?_
  intro args H K r h
  unfold S66 S66G at h ⊢
  split at h
  · refine Eq.trans ?_ h
    show plumblineref01_Bits k _ _ _ = plumblineref01_Bits k _ _ _
    congr 1
    all_goals first | exact (funext fun q1 => if_pos (keeps_app _ _ _ [(0, some ⟨0, false, .row [.b] q1⟩)])) | skip
  · cases h
-- function 76: plumbline/plumblineref01.Len
noncomputable def fi76 : FnI := ⟨76, Try.f76, [(100004, [3, 4, 5]), (3004000, [4])]⟩
theorem en76 : Enters Try.prog 76 := enters_of Try.func76 (c := ((Try.f76).body.getD .skip)) (by kernel_rfl) (by kernel_rfl)
@[reducible] def plumblineref01_Len_l0Y (R : Type) : Type := Nat → Nat → Int → Int → (List Bool) → (Int → Option R) → Option R
noncomputable def plumblineref01_Len_l0B {R : Type} (k : Nat) (rec : Int → Int → (List Bool) → Option R) (x1 : Int) (x2 : Int) (x3 : List Bool) (K0 : Int → Option R) : Option R :=
  cond (decide (x2 < 128)) (
    cond (decide (0 ≤ x2)) (
      cond (decide (x2 < (((List.length x3) : Nat) : Int))) (
        Option.bind (x3[(Int.toNat x2)]?) fun ye1 =>
        cond ye1 (
          rec (Wi64 (x2 + 1)) (Wi64 (x2 + 1)) x3) (
          rec x1 (Wi64 (x2 + 1)) x3)) (
        none)) (
      none)) (
    K0 x1)
noncomputable def plumblineref01_Len_l0 {R : Type} (k : Nat) : Nat → Int → Int → (List Bool) → (Int → Option R) → Option R
  | 0, _, _, _, _ => none
  | n + 1, x1, x2, x3, K0 => plumblineref01_Len_l0B k (fun x1 x2 x3 => plumblineref01_Len_l0 k n x1 x2 x3 K0) x1 x2 x3 K0
noncomputable def cx76_4 {R : Type} (k : Nat) : Cx R := mkCx Ty exts [(66, true, S66 k)] fi76 [] []
theorem cx76_4_ok {R : Type} (k : Nat) : CxOk Try.prog (cx76_4 k : Cx R) := mkCx_ok (c := ((Try.f76).body.getD .skip)) ty_ok mixed exts_ok (allSum_cons (S66_ok k) en66 allSum_nil) Try.func76 en76 (by kernel_rfl) (by kernel_rfl) allLoop_nil allCut_nil
noncomputable def L76_4G {R : Type} (plumblineref01_Len_l0 : plumblineref01_Len_l0Y R) (k n : Nat) : LSum R := fun pin T H K => match pin, T, H with
  | 0, [(3, .sw 0), (4, .i .i64 x1), (5, .i .i64 x2)], ⟨1, [(0, some ⟨0, false, .row [.b] x3⟩)]⟩ => plumblineref01_Len_l0 k n x1 x2 x3 (fun q1 => K (.exit 0) [(4, .i .i64 q1)] ⟨0, []⟩)
  | _, _, _ => none
noncomputable def L76_4 {R : Type} (k n : Nat) : LSum R := L76_4G plumblineref01_Len_l0 k n
theorem plumblineref01_Len_l0_gen {R : Type} (plumblineref01_Bits : plumblineref01_BitsY R) (plumblineref01_Len_l0 : plumblineref01_Len_l0Y R) (k n : Nat) (x1 : Int) (x2 : Int) (x3 : List Bool) (K : Kont R) :
    (fun C => codeK C (run C 4)) (mkCx Ty exts [(66, true, S66G plumblineref01_Bits k)] fi76 [] []) 0 fi76 (loopAt ((Try.f76).body.getD .skip) 4) [(3, .sw 0), (4, .i .i64 x1), (5, .i .i64 x2)] ⟨1, [(0, some ⟨0, false, .row [.b] x3⟩)]⟩ (fun ex T H => match (generalizing := false) ex with
      | .normal => normAt (some [3, 4, 5]) 0 T H (fun T H => L76_4G plumblineref01_Len_l0 k n 0 T H K)
      | ex => exitNorm fi76.ann 4 0 K ex T H) =
    plumblineref01_Len_l0B k (fun x1 x2 x3 => plumblineref01_Len_l0 k n x1 x2 x3 (fun q1 => K (.exit 0) [(4, .i .i64 q1)] ⟨0, []⟩)) x1 x2 x3 (fun q1 => K (.exit 0) [(4, .i .i64 q1)] ⟨0, []⟩) := by kernel_rfl
theorem L76_4_cok {R : Type} (k : Nat) : CodeOk Try.prog (cx76_4 k : Cx R) fi76 (loopAt ((Try.f76).body.getD .skip) 4) := loopAt_ok (((cx76_4_ok k).fns 76 fi76 (by kernel_rfl)).2.2.2 ((Try.f76).body.getD .skip) (by kernel_rfl))
theorem L76_4_ok {R : Type} (k : Nat) : ∀ n, LoopOk Try.prog (Try.f76).ntmps (loopAt ((Try.f76).body.getD .skip) 4) (L76_4 k n : LSum R)
  | 0 => by
    intro pin T H K r h
    unfold L76_4 L76_4G at h
    split at h
    all_goals exact nomatch (show (none : Option R) = some r from h)
  | n + 1 => by
    intro pin T H K r h
    unfold L76_4 L76_4G at h
    split at h
    · obtain ⟨ex, T1, H1, h, hb⟩ := codeK_sound (cx76_4_ok k) (run_sound (cx76_4_ok k) 4) _ fi76 _ _ _ _ _ (L76_4_cok k) ((plumblineref01_Len_l0_gen plumblineref01_Bits plumblineref01_Len_l0 k n _ _ _ K).trans h)
      exact loop_step (fun T H hh => L76_4_ok k n _ T H K r hh) hb h
    · cases h
noncomputable def cx76 {R : Type} (k : Nat) : Cx R := mkCx Ty exts [(66, true, S66 k)] fi76 [(4, L76_4 k k)] []
theorem cx76_ok {R : Type} (k : Nat) : CxOk Try.prog (cx76 k : Cx R) := mkCx_ok (c := ((Try.f76).body.getD .skip)) ty_ok mixed exts_ok (allSum_cons (S66_ok k) en66 allSum_nil) Try.func76 en76 (by kernel_rfl) (by kernel_rfl) (allLoop_loop (by kernel_rfl) (L76_4_ok k k) allLoop_nil) allCut_nil
@[reducible] def plumblineref01_LenY (R : Type) : Type := Nat → Int → Int → (Int → Option R) → Option R
noncomputable def plumblineref01_LenT {R : Type} (plumblineref01_Bits : plumblineref01_BitsY R) (plumblineref01_Len_l0 : plumblineref01_Len_l0Y R) (k : Nat) (a1 : Int) (a2 : Int) (K0 : Int → Option R) : Option R :=
  plumblineref01_Bits k a1 a2 (fun r1 =>
    plumblineref01_Len_l0 k k 0 0 r1 (fun r2 =>
      K0 r2))
noncomputable def plumblineref01_Len {R : Type} (k : Nat) (a1 : Int) (a2 : Int) (K0 : Int → Option R) : Option R := plumblineref01_LenT plumblineref01_Bits plumblineref01_Len_l0 k a1 a2 K0
theorem plumblineref01_Len_gen {R : Type} (plumblineref01_Bits : plumblineref01_BitsY R) (plumblineref01_Len_l0 : plumblineref01_Len_l0Y R) (k : Nat) (a1 : Int) (a2 : Int) (K : AV → Heap → Option R) :
    fnK (mkCx Ty exts [(66, true, S66G plumblineref01_Bits k)] fi76 [(4, L76_4G plumblineref01_Len_l0 k k)] []) 6 76 [.agg [.i .u64 a1, .i .u64 a2]] ⟨0, []⟩ K = plumblineref01_LenT plumblineref01_Bits plumblineref01_Len_l0 k a1 a2 (fun q1 => K (.i .i64 q1) ⟨0, []⟩) := by kernel_rfl
noncomputable def S76G {R : Type} (plumblineref01_Len : plumblineref01_LenY R) (k : Nat) : Sum R := fun args H K => match args, H with
  | [.agg [.i .u64 a1, .i .u64 a2]], ⟨0, []⟩ => plumblineref01_Len k a1 a2 (fun q1 => K (.i .i64 q1) ⟨0, []⟩)
  | _, _ => none
noncomputable def S76 {R : Type} (k : Nat) : Sum R := S76G plumblineref01_Len k
theorem S76_ok0 {R : Type} (k : Nat) : SumOk Try.prog 76 false (S76 k : Sum R) := by
  intro args H K r h
  unfold S76 S76G at h
  split at h
  · exact fnK_sound (cx76_ok k) 6 76 _ _ K r ((plumblineref01_Len_gen plumblineref01_Bits plumblineref01_Len_l0 k _ _ K).trans h)
  · cases h
theorem S76_ok {R : Type} (k : Nat) : SumOk Try.prog 76 true (S76 k : Sum R) := by
  refine sumOk_keep (S76_ok0 k) ?_
  intro args H K r h
  unfold S76 S76G at h ⊢
  split at h
  · refine Eq.trans ?_ h
    show plumblineref01_Len k _ _ _ = plumblineref01_Len k _ _ _
    congr 1
    all_goals first | exact (funext fun q1 => if_pos (keeps_app _ _ _ [])) | skip
  · cases h
-- function 93: plumbline/plumblineref01.From
noncomputable def fi93 : FnI := ⟨93, Try.f93, [(100003, [0, 2, 3, 4]), (3003000, [2, 3])]⟩
theorem en93 : Enters Try.prog 93 := enters_of Try.func93 (c := ((Try.f93).body.getD .skip)) (by kernel_rfl) (by kernel_rfl)
@[reducible] def plumblineref01_From_l0Y (R : Type) : Type := Nat → Nat → Int → (List Bool) → Int → Int → Int → Int → (Int → Int → Option R) → Option R
noncomputable def plumblineref01_From_l0B {R : Type} (k : Nat) (rec : Int → (List Bool) → Int → Int → Int → Int → Option R) (x1 : Int) (x2 : List Bool) (x3 : Int) (x4 : Int) (x5 : Int) (x6 : Int) (K0 : Int → Int → Option R) : Option R :=
  cond (decide (x1 < (((List.length x2) : Nat) : Int))) (
    cond (decide (x1 < 128)) (
      cond (decide (0 ≤ x1)) (
        cond (decide (x1 < (((List.length x2) : Nat) : Int))) (
          Option.bind (x2[(Int.toNat x1)]?) fun ye1 =>
          cond (!ye1) (
            rec (Wi64 (x1 + 1)) x2 x3 x4 x5 x6) (
            cond (decide (x1 < 64)) (
              cond (decide (x1 < 0)) (
                none) (
                rec (Wi64 (x1 + 1)) x2 x3 x4 x5 (bOr .u64 x6 (shl .u64 1 x1)))) (
              cond (decide ((Wi64 (x1 - 64)) < 0)) (
                none) (
                rec (Wi64 (x1 + 1)) x2 x3 x4 (bOr .u64 x5 (shl .u64 1 (Wi64 (x1 - 64)))) x6)))) (
          none)) (
        none)) (
      K0 x5 x6)) (
    K0 x5 x6)
noncomputable def plumblineref01_From_l0 {R : Type} (k : Nat) : Nat → Int → (List Bool) → Int → Int → Int → Int → (Int → Int → Option R) → Option R
  | 0, _, _, _, _, _, _, _ => none
  | n + 1, x1, x2, x3, x4, x5, x6, K0 => plumblineref01_From_l0B k (fun x1 x2 x3 x4 x5 x6 => plumblineref01_From_l0 k n x1 x2 x3 x4 x5 x6 K0) x1 x2 x3 x4 x5 x6 K0
noncomputable def cx93_3 {R : Type} (k : Nat) : Cx R := mkCx Ty exts [] fi93 [] []
theorem cx93_3_ok {R : Type} (k : Nat) : CxOk Try.prog (cx93_3 k : Cx R) := mkCx_ok (c := ((Try.f93).body.getD .skip)) ty_ok mixed exts_ok allSum_nil Try.func93 en93 (by kernel_rfl) (by kernel_rfl) allLoop_nil allCut_nil
noncomputable def L93_3G {R : Type} (plumblineref01_From_l0 : plumblineref01_From_l0Y R) (k n : Nat) : LSum R := fun pin T H K => match pin, T, H with
  | 1, [(0, .sw 0), (2, .ptr 1 0 0 0 0), (3, .ptr 2 0 0 0 0), (4, .i .i64 x1)], ⟨3, [(0, some ⟨0, false, .row [.b] x2⟩), (1, some ⟨1, false, .cells [.i .u64 x3, .i .u64 x4]⟩), (2, some ⟨2, false, .cells [.i .u64 x5, .i .u64 x6]⟩)]⟩ => plumblineref01_From_l0 k n x1 x2 x3 x4 x5 x6 (fun q4 q5 => K (.exit 0) [(2, .ptr 1 0 0 0 0), (3, .ptr 2 0 0 0 0)] ⟨3, [(0, some ⟨0, false, .row [.b] x2⟩), (1, some ⟨1, false, .cells [.i .u64 x3, .i .u64 x4]⟩), (2, some ⟨2, false, .cells [.i .u64 q4, .i .u64 q5]⟩)]⟩)
  | _, _, _ => none
noncomputable def L93_3 {R : Type} (k n : Nat) : LSum R := L93_3G plumblineref01_From_l0 k n
theorem plumblineref01_From_l0_gen {R : Type} (plumblineref01_From_l0 : plumblineref01_From_l0Y R) (k n : Nat) (x1 : Int) (x2 : List Bool) (x3 : Int) (x4 : Int) (x5 : Int) (x6 : Int) (K : Kont R) :
    (fun C => codeK C (run C 4)) (mkCx Ty exts [] fi93 [] []) 1 fi93 (loopAt ((Try.f93).body.getD .skip) 3) [(0, .sw 0), (2, .ptr 1 0 0 0 0), (3, .ptr 2 0 0 0 0), (4, .i .i64 x1)] ⟨3, [(0, some ⟨0, false, .row [.b] x2⟩), (1, some ⟨1, false, .cells [.i .u64 x3, .i .u64 x4]⟩), (2, some ⟨2, false, .cells [.i .u64 x5, .i .u64 x6]⟩)]⟩ (fun ex T H => match (generalizing := false) ex with
      | .normal => normAt (some [0, 2, 3, 4]) 1 T H (fun T H => L93_3G plumblineref01_From_l0 k n 1 T H K)
      | ex => exitNorm fi93.ann 3 1 K ex T H) =
    plumblineref01_From_l0B k (fun x1 x2 x3 x4 x5 x6 => plumblineref01_From_l0 k n x1 x2 x3 x4 x5 x6 (fun q4 q5 => K (.exit 0) [(2, .ptr 1 0 0 0 0), (3, .ptr 2 0 0 0 0)] ⟨3, [(0, some ⟨0, false, .row [.b] x2⟩), (1, some ⟨1, false, .cells [.i .u64 x3, .i .u64 x4]⟩), (2, some ⟨2, false, .cells [.i .u64 q4, .i .u64 q5]⟩)]⟩)) x1 x2 x3 x4 x5 x6 (fun q4 q5 => K (.exit 0) [(2, .ptr 1 0 0 0 0), (3, .ptr 2 0 0 0 0)] ⟨3, [(0, some ⟨0, false, .row [.b] x2⟩), (1, some ⟨1, false, .cells [.i .u64 x3, .i .u64 x4]⟩), (2, some ⟨2, false, .cells [.i .u64 q4, .i .u64 q5]⟩)]⟩) := by kernel_rfl
theorem L93_3_cok {R : Type} (k : Nat) : CodeOk Try.prog (cx93_3 k : Cx R) fi93 (loopAt ((Try.f93).body.getD .skip) 3) := loopAt_ok (((cx93_3_ok k).fns 93 fi93 (by kernel_rfl)).2.2.2 ((Try.f93).body.getD .skip) (by kernel_rfl))
theorem L93_3_ok {R : Type} (k : Nat) : ∀ n, LoopOk Try.prog (Try.f93).ntmps (loopAt ((Try.f93).body.getD .skip) 3) (L93_3 k n : LSum R)
  | 0 => by
    intro pin T H K r h
    unfold L93_3 L93_3G at h
    split at h
    all_goals exact nomatch (show (none : Option R) = some r from h)
  | n + 1 => by
    intro pin T H K r h
    unfold L93_3 L93_3G at h
    split at h
    · obtain ⟨ex, T1, H1, h, hb⟩ := codeK_sound (cx93_3_ok k) (run_sound (cx93_3_ok k) 4) _ fi93 _ _ _ _ _ (L93_3_cok k) ((plumblineref01_From_l0_gen plumblineref01_From_l0 k n _ _ _ _ _ _ K).trans h)
      exact loop_step (fun T H hh => L93_3_ok k n _ T H K r hh) hb h
    · cases h
noncomputable def cx93 {R : Type} (k : Nat) : Cx R := mkCx Ty exts [] fi93 [(3, L93_3 k k)] []
theorem cx93_ok {R : Type} (k : Nat) : CxOk Try.prog (cx93 k : Cx R) := mkCx_ok (c := ((Try.f93).body.getD .skip)) ty_ok mixed exts_ok allSum_nil Try.func93 en93 (by kernel_rfl) (by kernel_rfl) (allLoop_loop (by kernel_rfl) (L93_3_ok k k) allLoop_nil) allCut_nil
@[reducible] def plumblineref01_FromY (R : Type) : Type := Nat → (List Bool) → (Int → Int → Option R) → Option R
noncomputable def plumblineref01_FromT {R : Type} (plumblineref01_From_l0 : plumblineref01_From_l0Y R) (k : Nat) (a1 : List Bool) (K0 : Int → Int → Option R) : Option R :=
  plumblineref01_From_l0 k k 0 a1 0 0 0 0 (fun r1 r2 =>
    K0 r1 r2)
noncomputable def plumblineref01_From {R : Type} (k : Nat) (a1 : List Bool) (K0 : Int → Int → Option R) : Option R := plumblineref01_FromT plumblineref01_From_l0 k a1 K0
theorem plumblineref01_From_gen {R : Type} (plumblineref01_From_l0 : plumblineref01_From_l0Y R) (k : Nat) (a1 : List Bool) (K : AV → Heap → Option R) :
    fnK (mkCx Ty exts [] fi93 [(3, L93_3G plumblineref01_From_l0 k k)] []) 6 93 [.sw 0] ⟨1, [(0, some ⟨0, false, .row [.b] a1⟩)]⟩ K = plumblineref01_FromT plumblineref01_From_l0 k a1 (fun q1 q2 => K (.agg [.i .u64 q1, .i .u64 q2]) ⟨1, [(0, some ⟨0, false, .row [.b] a1⟩)]⟩) := by kernel_rfl
noncomputable def S93G {R : Type} (plumblineref01_From : plumblineref01_FromY R) (k : Nat) : Sum R := fun args H K => match args, H with
  | [.sw 0], ⟨1, [(0, some ⟨0, false, .row [.b] a1⟩)]⟩ => plumblineref01_From k a1 (fun q1 q2 => K (.agg [.i .u64 q1, .i .u64 q2]) ⟨1, [(0, some ⟨0, false, .row [.b] a1⟩)]⟩)
  | _, _ => none
noncomputable def S93 {R : Type} (k : Nat) : Sum R := S93G plumblineref01_From k
theorem S93_ok0 {R : Type} (k : Nat) : SumOk Try.prog 93 false (S93 k : Sum R) := by
  intro args H K r h
  unfold S93 S93G at h
  split at h
  · exact fnK_sound (cx93_ok k) 6 93 _ _ K r ((plumblineref01_From_gen plumblineref01_From_l0 k _ K).trans h)
  · cases h
theorem S93_ok {R : Type} (k : Nat) : SumOk Try.prog 93 true (S93 k : Sum R) := by
  refine sumOk_keep (S93_ok0 k) ?_
  intro args H K r h
  unfold S93 S93G at h ⊢
  split at h
  · refine Eq.trans ?_ h
    show plumblineref01_From k _ _ = plumblineref01_From k _ _
    congr 1
    all_goals first | exact (funext fun q1 => funext fun q2 => if_pos (keeps_app _ _ _ [])) | skip
  · cases h
-- function 77: plumbline/plumblineref01.Shl
noncomputable def fi77 : FnI := ⟨77, Try.f77, [(100006, [1, 4, 5, 6, 7]), (3006000, [4, 6])]⟩
theorem en77 : Enters Try.prog 77 := enters_of Try.func77 (c := ((Try.f77).body.getD .skip)) (by kernel_rfl) (by kernel_rfl)
@[reducible] def plumblineref01_Shl_l0Y (R : Type) : Type := Nat → Nat → Int → Int → Int → Int → (List Bool) → (List Bool) → ((List Bool) → Option R) → Option R
noncomputable def plumblineref01_Shl_l0B {R : Type} (k : Nat) (rec : Int → Int → Int → Int → (List Bool) → (List Bool) → Option R) (x1 : Int) (x2 : Int) (x3 : Int) (x4 : Int) (x5 : List Bool) (x6 : List Bool) (K0 : (List Bool) → Option R) : Option R :=
  cond (decide (x2 ≥ 0)) (
    cond (decide (x2 ≥ x1)) (
      cond (decide (0 ≤ (Wi64 (x2 - x1)))) (
        cond (decide ((Wi64 (x2 - x1)) < (((List.length x5) : Nat) : Int))) (
          Option.bind (x5[(Int.toNat (Wi64 (x2 - x1)))]?) fun ye1 =>
          cond (decide (0 ≤ x2)) (
            cond (decide (x2 < (((List.length x6) : Nat) : Int))) (
              Option.bind (x6[(Int.toNat x2)]?) fun ye2 =>
              rec x1 (Wi64 (x2 - 1)) x3 x4 x5 (List.set x6 (Int.toNat x2) ye1)) (
              none)) (
            none)) (
          none)) (
        none)) (
      K0 x6)) (
    K0 x6)
noncomputable def plumblineref01_Shl_l0 {R : Type} (k : Nat) : Nat → Int → Int → Int → Int → (List Bool) → (List Bool) → ((List Bool) → Option R) → Option R
  | 0, _, _, _, _, _, _, _ => none
  | n + 1, x1, x2, x3, x4, x5, x6, K0 => plumblineref01_Shl_l0B k (fun x1 x2 x3 x4 x5 x6 => plumblineref01_Shl_l0 k n x1 x2 x3 x4 x5 x6 K0) x1 x2 x3 x4 x5 x6 K0
noncomputable def cx77_6 {R : Type} (k : Nat) : Cx R := mkCx Ty exts [(66, true, S66 k), (93, true, S93 k)] fi77 [] []
theorem cx77_6_ok {R : Type} (k : Nat) : CxOk Try.prog (cx77_6 k : Cx R) := mkCx_ok (c := ((Try.f77).body.getD .skip)) ty_ok mixed exts_ok (allSum_cons (S66_ok k) en66 (allSum_cons (S93_ok k) en93 allSum_nil)) Try.func77 en77 (by kernel_rfl) (by kernel_rfl) allLoop_nil allCut_nil
noncomputable def L77_6G {R : Type} (plumblineref01_Shl_l0 : plumblineref01_Shl_l0Y R) (k n : Nat) : LSum R := fun pin T H K => match pin, T, H with
  | 0, [(1, .i .i64 x1), (4, .ptr 0 0 0 0 0), (5, .sw 1), (6, .sw 2), (7, .i .i64 x2)], ⟨3, [(0, some ⟨0, false, .cells [.i .u64 x3, .i .u64 x4]⟩), (1, some ⟨1, false, .row [.b] x5⟩), (2, some ⟨2, false, .row [.b] x6⟩)]⟩ => plumblineref01_Shl_l0 k n x1 x2 x3 x4 x5 x6 (fun q3 => K (.exit 0) [(4, .ptr 0 0 0 0 0), (6, .sw 1)] ⟨2, [(0, some ⟨0, false, .cells [.i .u64 x3, .i .u64 x4]⟩), (1, some ⟨1, false, .row [.b] q3⟩)]⟩)
  | _, _, _ => none
noncomputable def L77_6 {R : Type} (k n : Nat) : LSum R := L77_6G plumblineref01_Shl_l0 k n
theorem plumblineref01_Shl_l0_gen {R : Type} (plumblineref01_Bits : plumblineref01_BitsY R) (plumblineref01_From : plumblineref01_FromY R) (plumblineref01_Shl_l0 : plumblineref01_Shl_l0Y R) (k n : Nat) (x1 : Int) (x2 : Int) (x3 : Int) (x4 : Int) (x5 : List Bool) (x6 : List Bool) (K : Kont R) :
    (fun C => codeK C (run C 4)) (mkCx Ty exts [(66, true, S66G plumblineref01_Bits k), (93, true, S93G plumblineref01_From k)] fi77 [] []) 0 fi77 (loopAt ((Try.f77).body.getD .skip) 6) [(1, .i .i64 x1), (4, .ptr 0 0 0 0 0), (5, .sw 1), (6, .sw 2), (7, .i .i64 x2)] ⟨3, [(0, some ⟨0, false, .cells [.i .u64 x3, .i .u64 x4]⟩), (1, some ⟨1, false, .row [.b] x5⟩), (2, some ⟨2, false, .row [.b] x6⟩)]⟩ (fun ex T H => match (generalizing := false) ex with
      | .normal => normAt (some [1, 4, 5, 6, 7]) 0 T H (fun T H => L77_6G plumblineref01_Shl_l0 k n 0 T H K)
      | ex => exitNorm fi77.ann 6 0 K ex T H) =
    plumblineref01_Shl_l0B k (fun x1 x2 x3 x4 x5 x6 => plumblineref01_Shl_l0 k n x1 x2 x3 x4 x5 x6 (fun q3 => K (.exit 0) [(4, .ptr 0 0 0 0 0), (6, .sw 1)] ⟨2, [(0, some ⟨0, false, .cells [.i .u64 x3, .i .u64 x4]⟩), (1, some ⟨1, false, .row [.b] q3⟩)]⟩)) x1 x2 x3 x4 x5 x6 (fun q3 => K (.exit 0) [(4, .ptr 0 0 0 0 0), (6, .sw 1)] ⟨2, [(0, some ⟨0, false, .cells [.i .u64 x3, .i .u64 x4]⟩), (1, some ⟨1, false, .row [.b] q3⟩)]⟩) := by kernel_rfl
theorem L77_6_cok {R : Type} (k : Nat) : CodeOk Try.prog (cx77_6 k : Cx R) fi77 (loopAt ((Try.f77).body.getD .skip) 6) := loopAt_ok (((cx77_6_ok k).fns 77 fi77 (by kernel_rfl)).2.2.2 ((Try.f77).body.getD .skip) (by kernel_rfl))
theorem L77_6_ok {R : Type} (k : Nat) : ∀ n, LoopOk Try.prog (Try.f77).ntmps (loopAt ((Try.f77).body.getD .skip) 6) (L77_6 k n : LSum R)
  | 0 => by
    intro pin T H K r h
    unfold L77_6 L77_6G at h
    split at h
    all_goals exact nomatch (show (none : Option R) = some r from h)
  | n + 1 => by
    intro pin T H K r h
    unfold L77_6 L77_6G at h
    split at h
    · obtain ⟨ex, T1, H1, h, hb⟩ := codeK_sound (cx77_6_ok k) (run_sound (cx77_6_ok k) 4) _ fi77 _ _ _ _ _ (L77_6_cok k) ((plumblineref01_Shl_l0_gen plumblineref01_Bits plumblineref01_From plumblineref01_Shl_l0 k n _ _ _ _ _ _ K).trans h)
      exact loop_step (fun T H hh => L77_6_ok k n _ T H K r hh) hb h
    · cases h
noncomputable def cx77 {R : Type} (k : Nat) : Cx R := mkCx Ty exts [(66, true, S66 k), (93, true, S93 k)] fi77 [(6, L77_6 k k)] []
theorem cx77_ok {R : Type} (k : Nat) : CxOk Try.prog (cx77 k : Cx R) := mkCx_ok (c := ((Try.f77).body.getD .skip)) ty_ok mixed exts_ok (allSum_cons (S66_ok k) en66 (allSum_cons (S93_ok k) en93 allSum_nil)) Try.func77 en77 (by kernel_rfl) (by kernel_rfl) (allLoop_loop (by kernel_rfl) (L77_6_ok k k) allLoop_nil) allCut_nil
@[reducible] def plumblineref01_ShlY (R : Type) : Type := Nat → Int → Int → Int → (Int → Int → Option R) → Option R
noncomputable def plumblineref01_ShlT {R : Type} (plumblineref01_Bits : plumblineref01_BitsY R) (plumblineref01_From : plumblineref01_FromY R) (plumblineref01_Shl_l0 : plumblineref01_Shl_l0Y R) (k : Nat) (a1 : Int) (a2 : Int) (a3 : Int) (K0 : Int → Int → Option R) : Option R :=
  cond (decide (a3 < 0)) (
    plumblineref01_Bits k a1 a2 (fun r1 =>
      plumblineref01_Shl_l0 k k 0 127 0 0 r1 (List.replicate 128 false) (fun r2 =>
        plumblineref01_From k r2 (fun r3 r4 =>
          K0 r3 r4)))) (
    plumblineref01_Bits k a1 a2 (fun r5 =>
      plumblineref01_Shl_l0 k k a3 127 0 0 r5 (List.replicate 128 false) (fun r6 =>
        plumblineref01_From k r6 (fun r7 r8 =>
          K0 r7 r8))))
noncomputable def plumblineref01_Shl {R : Type} (k : Nat) (a1 : Int) (a2 : Int) (a3 : Int) (K0 : Int → Int → Option R) : Option R := plumblineref01_ShlT plumblineref01_Bits plumblineref01_From plumblineref01_Shl_l0 k a1 a2 a3 K0
theorem plumblineref01_Shl_gen {R : Type} (plumblineref01_Bits : plumblineref01_BitsY R) (plumblineref01_From : plumblineref01_FromY R) (plumblineref01_Shl_l0 : plumblineref01_Shl_l0Y R) (k : Nat) (a1 : Int) (a2 : Int) (a3 : Int) (K : AV → Heap → Option R) :
    fnK (mkCx Ty exts [(66, true, S66G plumblineref01_Bits k), (93, true, S93G plumblineref01_From k)] fi77 [(6, L77_6G plumblineref01_Shl_l0 k k)] []) 6 77 [.agg [.i .u64 a1, .i .u64 a2], .i .i64 a3] ⟨0, []⟩ K = plumblineref01_ShlT plumblineref01_Bits plumblineref01_From plumblineref01_Shl_l0 k a1 a2 a3 (fun q1 q2 => K (.agg [.i .u64 q1, .i .u64 q2]) ⟨0, []⟩) := by kernel_rfl
noncomputable def S77G {R : Type} (plumblineref01_Shl : plumblineref01_ShlY R) (k : Nat) : Sum R := fun args H K => match args, H with
  | [.agg [.i .u64 a1, .i .u64 a2], .i .i64 a3], ⟨0, []⟩ => plumblineref01_Shl k a1 a2 a3 (fun q1 q2 => K (.agg [.i .u64 q1, .i .u64 q2]) ⟨0, []⟩)
  | _, _ => none
noncomputable def S77 {R : Type} (k : Nat) : Sum R := S77G plumblineref01_Shl k
theorem S77_ok0 {R : Type} (k : Nat) : SumOk Try.prog 77 false (S77 k : Sum R) := by
  intro args H K r h
  unfold S77 S77G at h
  split at h
  · exact fnK_sound (cx77_ok k) 6 77 _ _ K r ((plumblineref01_Shl_gen plumblineref01_Bits plumblineref01_From plumblineref01_Shl_l0 k _ _ _ K).trans h)
  · cases h
theorem S77_ok {R : Type} (k : Nat) : SumOk Try.prog 77 true (S77 k : Sum R) := by
  refine sumOk_keep (S77_ok0 k) ?_
  intro args H K r h
  unfold S77 S77G at h ⊢
  split at h
  · refine Eq.trans ?_ h
    show plumblineref01_Shl k _ _ _ _ = plumblineref01_Shl k _ _ _ _
    congr 1
    all_goals first | exact (funext fun q1 => funext fun q2 => if_pos (keeps_app _ _ _ [])) | skip
  · cases h
-- function 98: plumbline/plumblineref01.add
noncomputable def fi98 : FnI := ⟨98, Try.f98, [(100006, [0, 1, 2, 7, 8, 9]), (3006000, [2, 7, 8])]⟩
theorem en98 : Enters Try.prog 98 := enters_of Try.func98 (c := ((Try.f98).body.getD .skip)) (by kernel_rfl) (by kernel_rfl)
@[reducible] def plumblineref01_add_l0Y (R : Type) : Type := Nat → Nat → Bool → Int → Int → (List Bool) → (List Bool) → (List Bool) → (Bool → (List Bool) → Option R) → Option R
noncomputable def plumblineref01_add_l0B {R : Type} (k : Nat) (rec : Bool → Int → Int → (List Bool) → (List Bool) → (List Bool) → Option R) (x1 : Bool) (x2 : Int) (x3 : Int) (x4 : List Bool) (x5 : List Bool) (x6 : List Bool) (K0 : Bool → (List Bool) → Option R) : Option R :=
  cond (decide (x3 < x2)) (
    cond (decide (x3 < (((List.length x4) : Nat) : Int))) (
      cond (decide (0 ≤ x3)) (
        cond (decide (x3 < (((List.length x4) : Nat) : Int))) (
          Option.bind (x4[(Int.toNat x3)]?) fun ye1 =>
          cond ye1 (
            cond (decide (x3 < (((List.length x5) : Nat) : Int))) (
              cond (decide (0 ≤ x3)) (
                cond (decide (x3 < (((List.length x5) : Nat) : Int))) (
                  Option.bind (x5[(Int.toNat x3)]?) fun ye2 =>
                  cond ye2 (
                    cond x1 (
                      cond (decide (0 ≤ x3)) (
                        cond (decide (x3 < (((List.length x6) : Nat) : Int))) (
                          Option.bind (x6[(Int.toNat x3)]?) fun ye3 =>
                          rec true x2 (Wi64 (x3 + 1)) x4 x5 (List.set x6 (Int.toNat x3) true)) (
                          none)) (
                        none)) (
                      cond (decide (0 ≤ x3)) (
                        cond (decide (x3 < (((List.length x6) : Nat) : Int))) (
                          Option.bind (x6[(Int.toNat x3)]?) fun ye4 =>
                          rec true x2 (Wi64 (x3 + 1)) x4 x5 (List.set x6 (Int.toNat x3) false)) (
                          none)) (
                        none))) (
                    cond x1 (
                      cond (decide (0 ≤ x3)) (
                        cond (decide (x3 < (((List.length x6) : Nat) : Int))) (
                          Option.bind (x6[(Int.toNat x3)]?) fun ye5 =>
                          rec true x2 (Wi64 (x3 + 1)) x4 x5 (List.set x6 (Int.toNat x3) false)) (
                          none)) (
                        none)) (
                      cond (decide (0 ≤ x3)) (
                        cond (decide (x3 < (((List.length x6) : Nat) : Int))) (
                          Option.bind (x6[(Int.toNat x3)]?) fun ye6 =>
                          rec false x2 (Wi64 (x3 + 1)) x4 x5 (List.set x6 (Int.toNat x3) true)) (
                          none)) (
                        none)))) (
                  none)) (
                none)) (
              cond x1 (
                cond (decide (0 ≤ x3)) (
                  cond (decide (x3 < (((List.length x6) : Nat) : Int))) (
                    Option.bind (x6[(Int.toNat x3)]?) fun ye7 =>
                    rec true x2 (Wi64 (x3 + 1)) x4 x5 (List.set x6 (Int.toNat x3) false)) (
                    none)) (
                  none)) (
                cond (decide (0 ≤ x3)) (
                  cond (decide (x3 < (((List.length x6) : Nat) : Int))) (
                    Option.bind (x6[(Int.toNat x3)]?) fun ye8 =>
                    rec false x2 (Wi64 (x3 + 1)) x4 x5 (List.set x6 (Int.toNat x3) true)) (
                    none)) (
                  none)))) (
            cond (decide (x3 < (((List.length x5) : Nat) : Int))) (
              cond (decide (0 ≤ x3)) (
                cond (decide (x3 < (((List.length x5) : Nat) : Int))) (
                  Option.bind (x5[(Int.toNat x3)]?) fun ye9 =>
                  cond ye9 (
                    cond x1 (
                      cond (decide (0 ≤ x3)) (
                        cond (decide (x3 < (((List.length x6) : Nat) : Int))) (
                          Option.bind (x6[(Int.toNat x3)]?) fun ye10 =>
                          rec true x2 (Wi64 (x3 + 1)) x4 x5 (List.set x6 (Int.toNat x3) false)) (
                          none)) (
                        none)) (
                      cond (decide (0 ≤ x3)) (
                        cond (decide (x3 < (((List.length x6) : Nat) : Int))) (
                          Option.bind (x6[(Int.toNat x3)]?) fun ye11 =>
                          rec false x2 (Wi64 (x3 + 1)) x4 x5 (List.set x6 (Int.toNat x3) true)) (
                          none)) (
                        none))) (
                    cond x1 (
                      cond (decide (0 ≤ x3)) (
                        cond (decide (x3 < (((List.length x6) : Nat) : Int))) (
                          Option.bind (x6[(Int.toNat x3)]?) fun ye12 =>
                          rec false x2 (Wi64 (x3 + 1)) x4 x5 (List.set x6 (Int.toNat x3) true)) (
                          none)) (
                        none)) (
                      cond (decide (0 ≤ x3)) (
                        cond (decide (x3 < (((List.length x6) : Nat) : Int))) (
                          Option.bind (x6[(Int.toNat x3)]?) fun ye13 =>
                          rec false x2 (Wi64 (x3 + 1)) x4 x5 (List.set x6 (Int.toNat x3) false)) (
                          none)) (
                        none)))) (
                  none)) (
                none)) (
              cond x1 (
                cond (decide (0 ≤ x3)) (
                  cond (decide (x3 < (((List.length x6) : Nat) : Int))) (
                    Option.bind (x6[(Int.toNat x3)]?) fun ye14 =>
                    rec false x2 (Wi64 (x3 + 1)) x4 x5 (List.set x6 (Int.toNat x3) true)) (
                    none)) (
                  none)) (
                cond (decide (0 ≤ x3)) (
                  cond (decide (x3 < (((List.length x6) : Nat) : Int))) (
                    Option.bind (x6[(Int.toNat x3)]?) fun ye15 =>
                    rec false x2 (Wi64 (x3 + 1)) x4 x5 (List.set x6 (Int.toNat x3) false)) (
                    none)) (
                  none))))) (
          none)) (
        none)) (
      cond (decide (x3 < (((List.length x5) : Nat) : Int))) (
        cond (decide (0 ≤ x3)) (
          cond (decide (x3 < (((List.length x5) : Nat) : Int))) (
            Option.bind (x5[(Int.toNat x3)]?) fun ye16 =>
            cond ye16 (
              cond x1 (
                cond (decide (0 ≤ x3)) (
                  cond (decide (x3 < (((List.length x6) : Nat) : Int))) (
                    Option.bind (x6[(Int.toNat x3)]?) fun ye17 =>
                    rec true x2 (Wi64 (x3 + 1)) x4 x5 (List.set x6 (Int.toNat x3) false)) (
                    none)) (
                  none)) (
                cond (decide (0 ≤ x3)) (
                  cond (decide (x3 < (((List.length x6) : Nat) : Int))) (
                    Option.bind (x6[(Int.toNat x3)]?) fun ye18 =>
                    rec false x2 (Wi64 (x3 + 1)) x4 x5 (List.set x6 (Int.toNat x3) true)) (
                    none)) (
                  none))) (
              cond x1 (
                cond (decide (0 ≤ x3)) (
                  cond (decide (x3 < (((List.length x6) : Nat) : Int))) (
                    Option.bind (x6[(Int.toNat x3)]?) fun ye19 =>
                    rec false x2 (Wi64 (x3 + 1)) x4 x5 (List.set x6 (Int.toNat x3) true)) (
                    none)) (
                  none)) (
                cond (decide (0 ≤ x3)) (
                  cond (decide (x3 < (((List.length x6) : Nat) : Int))) (
                    Option.bind (x6[(Int.toNat x3)]?) fun ye20 =>
                    rec false x2 (Wi64 (x3 + 1)) x4 x5 (List.set x6 (Int.toNat x3) false)) (
                    none)) (
                  none)))) (
            none)) (
          none)) (
        cond x1 (
          cond (decide (0 ≤ x3)) (
            cond (decide (x3 < (((List.length x6) : Nat) : Int))) (
              Option.bind (x6[(Int.toNat x3)]?) fun ye21 =>
              rec false x2 (Wi64 (x3 + 1)) x4 x5 (List.set x6 (Int.toNat x3) true)) (
              none)) (
            none)) (
          cond (decide (0 ≤ x3)) (
            cond (decide (x3 < (((List.length x6) : Nat) : Int))) (
              Option.bind (x6[(Int.toNat x3)]?) fun ye22 =>
              rec false x2 (Wi64 (x3 + 1)) x4 x5 (List.set x6 (Int.toNat x3) false)) (
              none)) (
            none))))) (
    K0 x1 x6)
noncomputable def plumblineref01_add_l0 {R : Type} (k : Nat) : Nat → Bool → Int → Int → (List Bool) → (List Bool) → (List Bool) → (Bool → (List Bool) → Option R) → Option R
  | 0, _, _, _, _, _, _, _ => none
  | n + 1, x1, x2, x3, x4, x5, x6, K0 => plumblineref01_add_l0B k (fun x1 x2 x3 x4 x5 x6 => plumblineref01_add_l0 k n x1 x2 x3 x4 x5 x6 K0) x1 x2 x3 x4 x5 x6 K0
noncomputable def cx98_6 {R : Type} (k : Nat) : Cx R := mkCx Ty exts [] fi98 [] []
theorem cx98_6_ok {R : Type} (k : Nat) : CxOk Try.prog (cx98_6 k : Cx R) := mkCx_ok (c := ((Try.f98).body.getD .skip)) ty_ok mixed exts_ok allSum_nil Try.func98 en98 (by kernel_rfl) (by kernel_rfl) allLoop_nil allCut_nil
noncomputable def L98_6G {R : Type} (plumblineref01_add_l0 : plumblineref01_add_l0Y R) (k n : Nat) : LSum R := fun pin T H K => match pin, T, H with
  | 2, [(0, .sw 0), (1, .sw 1), (2, .b x1), (7, .i .i64 x2), (8, .sw 2), (9, .i .i64 x3)], ⟨3, [(0, some ⟨0, false, .row [.b] x4⟩), (1, some ⟨1, false, .row [.b] x5⟩), (2, some ⟨2, false, .row [.b] x6⟩)]⟩ => plumblineref01_add_l0 k n x1 x2 x3 x4 x5 x6 (fun q1 q5 => K (.exit 0) [(2, .b q1), (7, .i .i64 x2), (8, .sw 2)] ⟨3, [(0, some ⟨0, false, .row [.b] x4⟩), (1, some ⟨1, false, .row [.b] x5⟩), (2, some ⟨2, false, .row [.b] q5⟩)]⟩)
  | _, _, _ => none
noncomputable def L98_6 {R : Type} (k n : Nat) : LSum R := L98_6G plumblineref01_add_l0 k n
theorem plumblineref01_add_l0_gen {R : Type} (plumblineref01_add_l0 : plumblineref01_add_l0Y R) (k n : Nat) (x1 : Bool) (x2 : Int) (x3 : Int) (x4 : List Bool) (x5 : List Bool) (x6 : List Bool) (K : Kont R) :
    (fun C => codeK C (run C 4)) (mkCx Ty exts [] fi98 [] []) 2 fi98 (loopAt ((Try.f98).body.getD .skip) 6) [(0, .sw 0), (1, .sw 1), (2, .b x1), (7, .i .i64 x2), (8, .sw 2), (9, .i .i64 x3)] ⟨3, [(0, some ⟨0, false, .row [.b] x4⟩), (1, some ⟨1, false, .row [.b] x5⟩), (2, some ⟨2, false, .row [.b] x6⟩)]⟩ (fun ex T H => match (generalizing := false) ex with
      | .normal => normAt (some [0, 1, 2, 7, 8, 9]) 2 T H (fun T H => L98_6G plumblineref01_add_l0 k n 2 T H K)
      | ex => exitNorm fi98.ann 6 2 K ex T H) =
    plumblineref01_add_l0B k (fun x1 x2 x3 x4 x5 x6 => plumblineref01_add_l0 k n x1 x2 x3 x4 x5 x6 (fun q1 q5 => K (.exit 0) [(2, .b q1), (7, .i .i64 x2), (8, .sw 2)] ⟨3, [(0, some ⟨0, false, .row [.b] x4⟩), (1, some ⟨1, false, .row [.b] x5⟩), (2, some ⟨2, false, .row [.b] q5⟩)]⟩)) x1 x2 x3 x4 x5 x6 (fun q1 q5 => K (.exit 0) [(2, .b q1), (7, .i .i64 x2), (8, .sw 2)] ⟨3, [(0, some ⟨0, false, .row [.b] x4⟩), (1, some ⟨1, false, .row [.b] x5⟩), (2, some ⟨2, false, .row [.b] q5⟩)]⟩) := by kernel_rfl
theorem L98_6_cok {R : Type} (k : Nat) : CodeOk Try.prog (cx98_6 k : Cx R) fi98 (loopAt ((Try.f98).body.getD .skip) 6) := loopAt_ok (((cx98_6_ok k).fns 98 fi98 (by kernel_rfl)).2.2.2 ((Try.f98).body.getD .skip) (by kernel_rfl))
theorem L98_6_ok {R : Type} (k : Nat) : ∀ n, LoopOk Try.prog (Try.f98).ntmps (loopAt ((Try.f98).body.getD .skip) 6) (L98_6 k n : LSum R)
  | 0 => by
    intro pin T H K r h
    unfold L98_6 L98_6G at h
    split at h
    all_goals exact nomatch (show (none : Option R) = some r from h)
  | n + 1 => by
    intro pin T H K r h
    unfold L98_6 L98_6G at h
    split at h
    · obtain ⟨ex, T1, H1, h, hb⟩ := codeK_sound (cx98_6_ok k) (run_sound (cx98_6_ok k) 4) _ fi98 _ _ _ _ _ (L98_6_cok k) ((plumblineref01_add_l0_gen plumblineref01_add_l0 k n _ _ _ _ _ _ K).trans h)
      exact loop_step (fun T H hh => L98_6_ok k n _ T H K r hh) hb h
    · cases h
noncomputable def cx98 {R : Type} (k : Nat) : Cx R := mkCx Ty exts [] fi98 [(6, L98_6 k k)] []
theorem cx98_ok {R : Type} (k : Nat) : CxOk Try.prog (cx98 k : Cx R) := mkCx_ok (c := ((Try.f98).body.getD .skip)) ty_ok mixed exts_ok allSum_nil Try.func98 en98 (by kernel_rfl) (by kernel_rfl) (allLoop_loop (by kernel_rfl) (L98_6_ok k k) allLoop_nil) allCut_nil
@[reducible] def plumblineref01_addY (R : Type) : Type := Nat → Bool → (List Bool) → (List Bool) → ((List Bool) → Option R) → Option R
noncomputable def plumblineref01_addT {R : Type} (plumblineref01_add_l0 : plumblineref01_add_l0Y R) (k : Nat) (a1 : Bool) (a2 : List Bool) (a3 : List Bool) (K0 : (List Bool) → Option R) : Option R :=
  cond (decide ((((List.length a3) : Nat) : Int) > (((List.length a2) : Nat) : Int))) (
    cond (decide (0 ≤ (Wi64 ((((List.length a3) : Nat) : Int) + 1)))) (
      cond (decide ((Wi64 ((((List.length a3) : Nat) : Int) + 1)) ≤ (Wi64 ((((List.length a3) : Nat) : Int) + 1)))) (
        cond (decide (((Wi64 ((((List.length a3) : Nat) : Int) + 1)) * 1) ≤ 140737488355328)) (
          plumblineref01_add_l0 k k a1 (((List.length a3) : Nat) : Int) 0 a2 a3 (List.replicate (Int.toNat (Wi64 ((((List.length a3) : Nat) : Int) + 1))) false) (fun r1 r2 =>
            cond (decide (0 ≤ (((List.length a3) : Nat) : Int))) (
              cond (decide ((((List.length a3) : Nat) : Int) < (((List.length r2) : Nat) : Int))) (
                Option.bind (r2[(Int.toNat (((List.length a3) : Nat) : Int))]?) fun e3 =>
                K0 (List.set r2 (Int.toNat (((List.length a3) : Nat) : Int)) r1)) (
                none)) (
              none))) (
          none)) (
        none)) (
      none)) (
    cond (decide (0 ≤ (Wi64 ((((List.length a2) : Nat) : Int) + 1)))) (
      cond (decide ((Wi64 ((((List.length a2) : Nat) : Int) + 1)) ≤ (Wi64 ((((List.length a2) : Nat) : Int) + 1)))) (
        cond (decide (((Wi64 ((((List.length a2) : Nat) : Int) + 1)) * 1) ≤ 140737488355328)) (
          plumblineref01_add_l0 k k a1 (((List.length a2) : Nat) : Int) 0 a2 a3 (List.replicate (Int.toNat (Wi64 ((((List.length a2) : Nat) : Int) + 1))) false) (fun r4 r5 =>
            cond (decide (0 ≤ (((List.length a2) : Nat) : Int))) (
              cond (decide ((((List.length a2) : Nat) : Int) < (((List.length r5) : Nat) : Int))) (
                Option.bind (r5[(Int.toNat (((List.length a2) : Nat) : Int))]?) fun e6 =>
                K0 (List.set r5 (Int.toNat (((List.length a2) : Nat) : Int)) r4)) (
                none)) (
              none))) (
          none)) (
        none)) (
      none))
noncomputable def plumblineref01_add {R : Type} (k : Nat) (a1 : Bool) (a2 : List Bool) (a3 : List Bool) (K0 : (List Bool) → Option R) : Option R := plumblineref01_addT plumblineref01_add_l0 k a1 a2 a3 K0
theorem plumblineref01_add_gen {R : Type} (plumblineref01_add_l0 : plumblineref01_add_l0Y R) (k : Nat) (a1 : Bool) (a2 : List Bool) (a3 : List Bool) (K : AV → Heap → Option R) :
    fnK (mkCx Ty exts [] fi98 [(6, L98_6G plumblineref01_add_l0 k k)] []) 6 98 [.sw 0, .sw 1, .b a1] ⟨2, [(0, some ⟨0, false, .row [.b] a2⟩), (1, some ⟨1, false, .row [.b] a3⟩)]⟩ K = plumblineref01_addT plumblineref01_add_l0 k a1 a2 a3 (fun q3 => K (.sw 2) ⟨3, [(0, some ⟨0, false, .row [.b] a2⟩), (1, some ⟨1, false, .row [.b] a3⟩), (2, some ⟨2, false, .row [.b] q3⟩)]⟩) := by kernel_rfl
noncomputable def S98G {R : Type} (plumblineref01_add : plumblineref01_addY R) (k : Nat) : Sum R := fun args H K => match args, H with
  | [.sw 0, .sw 1, .b a1], ⟨2, [(0, some ⟨0, false, .row [.b] a2⟩), (1, some ⟨1, false, .row [.b] a3⟩)]⟩ => plumblineref01_add k a1 a2 a3 (fun q3 => K (.sw 2) ⟨3, [(0, some ⟨0, false, .row [.b] a2⟩), (1, some ⟨1, false, .row [.b] a3⟩), (2, some ⟨2, false, .row [.b] q3⟩)]⟩)
  | _, _ => none
noncomputable def S98 {R : Type} (k : Nat) : Sum R := S98G plumblineref01_add k
theorem S98_ok0 {R : Type} (k : Nat) : SumOk Try.prog 98 false (S98 k : Sum R) := by
  intro args H K r h
  unfold S98 S98G at h
  split at h
  · exact fnK_sound (cx98_ok k) 6 98 _ _ K r ((plumblineref01_add_gen plumblineref01_add_l0 k _ _ _ K).trans h)
  · cases h
theorem S98_ok {R : Type} (k : Nat) : SumOk Try.prog 98 true (S98 k : Sum R) := by
  refine sumOk_keep (S98_ok0 k) ?_
  intro args H K r h
  unfold S98 S98G at h ⊢
  split at h
  · refine Eq.trans ?_ h
    show plumblineref01_add k _ _ _ _ = plumblineref01_add k _ _ _ _
    congr 1
    all_goals first | exact (funext fun q3 => if_pos (keeps_app _ _ _ [(2, some ⟨2, false, .row [.b] q3⟩)])) | skip
  · cases h
-- function 90: plumbline/plumblineref01.Add
noncomputable def fi90 : FnI := ⟨90, Try.f90, []⟩
theorem en90 : Enters Try.prog 90 := enters_of Try.func90 (c := ((Try.f90).body.getD .skip)) (by kernel_rfl) (by kernel_rfl)
noncomputable def cx90 {R : Type} (k : Nat) : Cx R := mkCx Ty exts [(66, true, S66 k), (93, true, S93 k), (98, true, S98 k)] fi90 [] []
theorem cx90_ok {R : Type} (k : Nat) : CxOk Try.prog (cx90 k : Cx R) := mkCx_ok (c := ((Try.f90).body.getD .skip)) ty_ok mixed exts_ok (allSum_cons (S66_ok k) en66 (allSum_cons (S93_ok k) en93 (allSum_cons (S98_ok k) en98 allSum_nil))) Try.func90 en90 (by kernel_rfl) (by kernel_rfl) allLoop_nil allCut_nil
@[reducible] def plumblineref01_AddY (R : Type) : Type := Nat → Int → Int → Int → Int → (Int → Int → Bool → Option R) → Option R
noncomputable def plumblineref01_AddT {R : Type} (plumblineref01_Bits : plumblineref01_BitsY R) (plumblineref01_From : plumblineref01_FromY R) (plumblineref01_add : plumblineref01_addY R) (k : Nat) (a1 : Int) (a2 : Int) (a3 : Int) (a4 : Int) (K0 : Int → Int → Bool → Option R) : Option R :=
  plumblineref01_Bits k a1 a2 (fun r1 =>
    plumblineref01_Bits k a3 a4 (fun r2 =>
      plumblineref01_add k false r1 r2 (fun r3 =>
        plumblineref01_From k r3 (fun r4 r5 =>
          cond (decide (128 < (((List.length r3) : Nat) : Int))) (
            Option.bind (r3[128]?) fun e6 =>
            K0 r4 r5 e6) (
            none)))))
noncomputable def plumblineref01_Add {R : Type} (k : Nat) (a1 : Int) (a2 : Int) (a3 : Int) (a4 : Int) (K0 : Int → Int → Bool → Option R) : Option R := plumblineref01_AddT plumblineref01_Bits plumblineref01_From plumblineref01_add k a1 a2 a3 a4 K0
theorem plumblineref01_Add_gen {R : Type} (plumblineref01_Bits : plumblineref01_BitsY R) (plumblineref01_From : plumblineref01_FromY R) (plumblineref01_add : plumblineref01_addY R) (k : Nat) (a1 : Int) (a2 : Int) (a3 : Int) (a4 : Int) (K : AV → Heap → Option R) :
    fnK (mkCx Ty exts [(66, true, S66G plumblineref01_Bits k), (93, true, S93G plumblineref01_From k), (98, true, S98G plumblineref01_add k)] fi90 [] []) 6 90 [.agg [.i .u64 a1, .i .u64 a2], .agg [.i .u64 a3, .i .u64 a4]] ⟨0, []⟩ K = plumblineref01_AddT plumblineref01_Bits plumblineref01_From plumblineref01_add k a1 a2 a3 a4 (fun q1 q2 q3 => K (.tup [.agg [.i .u64 q1, .i .u64 q2], .b q3]) ⟨0, []⟩) := by kernel_rfl
noncomputable def S90G {R : Type} (plumblineref01_Add : plumblineref01_AddY R) (k : Nat) : Sum R := fun args H K => match args, H with
  | [.agg [.i .u64 a1, .i .u64 a2], .agg [.i .u64 a3, .i .u64 a4]], ⟨0, []⟩ => plumblineref01_Add k a1 a2 a3 a4 (fun q1 q2 q3 => K (.tup [.agg [.i .u64 q1, .i .u64 q2], .b q3]) ⟨0, []⟩)
  | _, _ => none
noncomputable def S90 {R : Type} (k : Nat) : Sum R := S90G plumblineref01_Add k
theorem S90_ok0 {R : Type} (k : Nat) : SumOk Try.prog 90 false (S90 k : Sum R) := by
  intro args H K r h
  unfold S90 S90G at h
  split at h
  · exact fnK_sound (cx90_ok k) 6 90 _ _ K r ((plumblineref01_Add_gen plumblineref01_Bits plumblineref01_From plumblineref01_add k _ _ _ _ K).trans h)
  · cases h
theorem S90_ok {R : Type} (k : Nat) : SumOk Try.prog 90 true (S90 k : Sum R) := by
  refine sumOk_keep (S90_ok0 k) ?_
  intro args H K r h
  unfold S90 S90G at h ⊢
  split at h
  · refine Eq.trans ?_ h
    show plumblineref01_Add k _ _ _ _ _ = plumblineref01_Add k _ _ _ _ _
    congr 1
    all_goals first | exact (funext fun q1 => funext fun q2 => funext fun q3 => if_pos (keeps_app _ _ _ [])) | skip
  · cases h
-- function 68: plumbline/plumblineref01.Mul
noncomputable def fi68 : FnI := ⟨68, Try.f68, [(100003, [0, 1, 4, 5, 6]), (3003000, [4, 5])]⟩
theorem en68 : Enters Try.prog 68 := enters_of Try.func68 (c := ((Try.f68).body.getD .skip)) (by kernel_rfl) (by kernel_rfl)
@[reducible] def plumblineref01_Mul_l0Y (R : Type) : Type := Nat → Nat → Int → Int → Int → Int → Int → Int → Int → (Int → Int → Option R) → Option R
noncomputable def plumblineref01_Mul_l0B {R : Type} (plumblineref01_Add : plumblineref01_AddY R) (plumblineref01_Shl : plumblineref01_ShlY R) (k : Nat) (rec : Int → Int → Int → Int → Int → Int → Int → Option R) (x1 : Int) (x2 : Int) (x3 : Int) (x4 : Int) (x5 : Int) (x6 : Int) (x7 : Int) (K0 : Int → Int → Option R) : Option R :=
  cond (decide (x3 < 64)) (
    cond (decide (x3 < 0)) (
      none) (
      cond ((bAnd .u64 (shr .u64 x2 x3) 1) == 1) (
        plumblineref01_Shl k 0 x1 x3 (fun yr1 yr2 =>
          plumblineref01_Add k x6 x7 yr1 yr2 (fun yr3 yr4 yr5 =>
            rec x1 x2 (Wi64 (x3 + 1)) x4 x5 yr3 yr4))) (
        rec x1 x2 (Wi64 (x3 + 1)) x4 x5 x6 x7))) (
    K0 x6 x7)
noncomputable def plumblineref01_Mul_l0 {R : Type} (k : Nat) : Nat → Int → Int → Int → Int → Int → Int → Int → (Int → Int → Option R) → Option R
  | 0, _, _, _, _, _, _, _, _ => none
  | n + 1, x1, x2, x3, x4, x5, x6, x7, K0 => plumblineref01_Mul_l0B plumblineref01_Add plumblineref01_Shl k (fun x1 x2 x3 x4 x5 x6 x7 => plumblineref01_Mul_l0 k n x1 x2 x3 x4 x5 x6 x7 K0) x1 x2 x3 x4 x5 x6 x7 K0
noncomputable def cx68_3 {R : Type} (k : Nat) : Cx R := mkCx Ty exts [(77, true, S77 k), (90, true, S90 k)] fi68 [] []
theorem cx68_3_ok {R : Type} (k : Nat) : CxOk Try.prog (cx68_3 k : Cx R) := mkCx_ok (c := ((Try.f68).body.getD .skip)) ty_ok mixed exts_ok (allSum_cons (S77_ok k) en77 (allSum_cons (S90_ok k) en90 allSum_nil)) Try.func68 en68 (by kernel_rfl) (by kernel_rfl) allLoop_nil allCut_nil
noncomputable def L68_3G {R : Type} (plumblineref01_Mul_l0 : plumblineref01_Mul_l0Y R) (k n : Nat) : LSum R := fun pin T H K => match pin, T, H with
  | 0, [(0, .i .u64 x1), (1, .i .u64 x2), (4, .ptr 0 0 0 0 0), (5, .ptr 1 0 0 0 0), (6, .i .i64 x3)], ⟨2, [(0, some ⟨0, false, .cells [.i .u64 x4, .i .u64 x5]⟩), (1, some ⟨1, false, .cells [.i .u64 x6, .i .u64 x7]⟩)]⟩ => plumblineref01_Mul_l0 k n x1 x2 x3 x4 x5 x6 x7 (fun q3 q4 => K (.exit 0) [(4, .ptr 0 0 0 0 0), (5, .ptr 1 0 0 0 0)] ⟨2, [(0, some ⟨0, false, .cells [.i .u64 x4, .i .u64 x5]⟩), (1, some ⟨1, false, .cells [.i .u64 q3, .i .u64 q4]⟩)]⟩)
  | _, _, _ => none
noncomputable def L68_3 {R : Type} (k n : Nat) : LSum R := L68_3G plumblineref01_Mul_l0 k n
theorem plumblineref01_Mul_l0_gen {R : Type} (plumblineref01_Shl : plumblineref01_ShlY R) (plumblineref01_Add : plumblineref01_AddY R) (plumblineref01_Mul_l0 : plumblineref01_Mul_l0Y R) (k n : Nat) (x1 : Int) (x2 : Int) (x3 : Int) (x4 : Int) (x5 : Int) (x6 : Int) (x7 : Int) (K : Kont R) :
    (fun C => codeK C (run C 4)) (mkCx Ty exts [(77, true, S77G plumblineref01_Shl k), (90, true, S90G plumblineref01_Add k)] fi68 [] []) 0 fi68 (loopAt ((Try.f68).body.getD .skip) 3) [(0, .i .u64 x1), (1, .i .u64 x2), (4, .ptr 0 0 0 0 0), (5, .ptr 1 0 0 0 0), (6, .i .i64 x3)] ⟨2, [(0, some ⟨0, false, .cells [.i .u64 x4, .i .u64 x5]⟩), (1, some ⟨1, false, .cells [.i .u64 x6, .i .u64 x7]⟩)]⟩ (fun ex T H => match (generalizing := false) ex with
      | .normal => normAt (some [0, 1, 4, 5, 6]) 0 T H (fun T H => L68_3G plumblineref01_Mul_l0 k n 0 T H K)
      | ex => exitNorm fi68.ann 3 0 K ex T H) =
    plumblineref01_Mul_l0B plumblineref01_Add plumblineref01_Shl k (fun x1 x2 x3 x4 x5 x6 x7 => plumblineref01_Mul_l0 k n x1 x2 x3 x4 x5 x6 x7 (fun q3 q4 => K (.exit 0) [(4, .ptr 0 0 0 0 0), (5, .ptr 1 0 0 0 0)] ⟨2, [(0, some ⟨0, false, .cells [.i .u64 x4, .i .u64 x5]⟩), (1, some ⟨1, false, .cells [.i .u64 q3, .i .u64 q4]⟩)]⟩)) x1 x2 x3 x4 x5 x6 x7 (fun q3 q4 => K (.exit 0) [(4, .ptr 0 0 0 0 0), (5, .ptr 1 0 0 0 0)] ⟨2, [(0, some ⟨0, false, .cells [.i .u64 x4, .i .u64 x5]⟩), (1, some ⟨1, false, .cells [.i .u64 q3, .i .u64 q4]⟩)]⟩) := by kernel_rfl
theorem L68_3_cok {R : Type} (k : Nat) : CodeOk Try.prog (cx68_3 k : Cx R) fi68 (loopAt ((Try.f68).body.getD .skip) 3) := loopAt_ok (((cx68_3_ok k).fns 68 fi68 (by kernel_rfl)).2.2.2 ((Try.f68).body.getD .skip) (by kernel_rfl))
theorem L68_3_ok {R : Type} (k : Nat) : ∀ n, LoopOk Try.prog (Try.f68).ntmps (loopAt ((Try.f68).body.getD .skip) 3) (L68_3 k n : LSum R)
  | 0 => by
    intro pin T H K r h
    unfold L68_3 L68_3G at h
    split at h
    all_goals exact nomatch (show (none : Option R) = some r from h)
  | n + 1 => by
    intro pin T H K r h
    unfold L68_3 L68_3G at h
    split at h
    · obtain ⟨ex, T1, H1, h, hb⟩ := codeK_sound (cx68_3_ok k) (run_sound (cx68_3_ok k) 4) _ fi68 _ _ _ _ _ (L68_3_cok k) ((plumblineref01_Mul_l0_gen plumblineref01_Shl plumblineref01_Add plumblineref01_Mul_l0 k n _ _ _ _ _ _ _ K).trans h)
      exact loop_step (fun T H hh => L68_3_ok k n _ T H K r hh) hb h
    · cases h
noncomputable def cx68 {R : Type} (k : Nat) : Cx R := mkCx Ty exts [(77, true, S77 k), (90, true, S90 k)] fi68 [(3, L68_3 k k)] []
theorem cx68_ok {R : Type} (k : Nat) : CxOk Try.prog (cx68 k : Cx R) := mkCx_ok (c := ((Try.f68).body.getD .skip)) ty_ok mixed exts_ok (allSum_cons (S77_ok k) en77 (allSum_cons (S90_ok k) en90 allSum_nil)) Try.func68 en68 (by kernel_rfl) (by kernel_rfl) (allLoop_loop (by kernel_rfl) (L68_3_ok k k) allLoop_nil) allCut_nil
@[reducible] def plumblineref01_MulY (R : Type) : Type := Nat → Int → Int → (Int → Int → Option R) → Option R
noncomputable def plumblineref01_MulT {R : Type} (plumblineref01_Mul_l0 : plumblineref01_Mul_l0Y R) (k : Nat) (a1 : Int) (a2 : Int) (K0 : Int → Int → Option R) : Option R :=
  plumblineref01_Mul_l0 k k a1 a2 0 0 0 0 0 (fun r1 r2 =>
    K0 r1 r2)
noncomputable def plumblineref01_Mul {R : Type} (k : Nat) (a1 : Int) (a2 : Int) (K0 : Int → Int → Option R) : Option R := plumblineref01_MulT plumblineref01_Mul_l0 k a1 a2 K0
theorem plumblineref01_Mul_gen {R : Type} (plumblineref01_Shl : plumblineref01_ShlY R) (plumblineref01_Add : plumblineref01_AddY R) (plumblineref01_Mul_l0 : plumblineref01_Mul_l0Y R) (k : Nat) (a1 : Int) (a2 : Int) (K : AV → Heap → Option R) :
    fnK (mkCx Ty exts [(77, true, S77G plumblineref01_Shl k), (90, true, S90G plumblineref01_Add k)] fi68 [(3, L68_3G plumblineref01_Mul_l0 k k)] []) 6 68 [.i .u64 a1, .i .u64 a2] ⟨0, []⟩ K = plumblineref01_MulT plumblineref01_Mul_l0 k a1 a2 (fun q1 q2 => K (.agg [.i .u64 q1, .i .u64 q2]) ⟨0, []⟩) := by kernel_rfl
noncomputable def S68G {R : Type} (plumblineref01_Mul : plumblineref01_MulY R) (k : Nat) : Sum R := fun args H K => match args, H with
  | [.i .u64 a1, .i .u64 a2], ⟨0, []⟩ => plumblineref01_Mul k a1 a2 (fun q1 q2 => K (.agg [.i .u64 q1, .i .u64 q2]) ⟨0, []⟩)
  | _, _ => none
noncomputable def S68 {R : Type} (k : Nat) : Sum R := S68G plumblineref01_Mul k
theorem S68_ok0 {R : Type} (k : Nat) : SumOk Try.prog 68 false (S68 k : Sum R) := by
  intro args H K r h
  unfold S68 S68G at h
  split at h
  · exact fnK_sound (cx68_ok k) 6 68 _ _ K r ((plumblineref01_Mul_gen plumblineref01_Shl plumblineref01_Add plumblineref01_Mul_l0 k _ _ K).trans h)
  · cases h
theorem S68_ok {R : Type} (k : Nat) : SumOk Try.prog 68 true (S68 k : Sum R) := by
  refine sumOk_keep (S68_ok0 k) ?_
  intro args H K r h
  unfold S68 S68G at h ⊢
  split at h
  · refine Eq.trans ?_ h
    show plumblineref01_Mul k _ _ _ = plumblineref01_Mul k _ _ _
    congr 1
    all_goals first | exact (funext fun q1 => funext fun q2 => if_pos (keeps_app _ _ _ [])) | skip
  · cases h
-- function 84: plumbline/plumblineref01.Compare
noncomputable def fi84 : FnI := ⟨84, Try.f84, [(100003, [5, 6, 7]), (2000003, [4]), (3003000, [])]⟩
theorem en84 : Enters Try.prog 84 := enters_of Try.func84 (c := ((Try.f84).body.getD .skip)) (by kernel_rfl) (by kernel_rfl)
@[reducible] def plumblineref01_Compare_l0Y (R : Type) : Type := Nat → Nat → Int → (List Bool) → (List Bool) → (Int → Option R) → (Option R) → Option R
noncomputable def plumblineref01_Compare_l0B {R : Type} (k : Nat) (rec : Int → (List Bool) → (List Bool) → Option R) (x1 : Int) (x2 : List Bool) (x3 : List Bool) (K0 : Int → Option R) (K1 : Option R) : Option R :=
  cond (decide (x1 ≥ 0)) (
    cond (decide (0 ≤ x1)) (
      cond (decide (x1 < (((List.length x2) : Nat) : Int))) (
        Option.bind (x2[(Int.toNat x1)]?) fun ye1 =>
        cond (decide (0 ≤ x1)) (
          cond (decide (x1 < (((List.length x3) : Nat) : Int))) (
            Option.bind (x3[(Int.toNat x1)]?) fun ye2 =>
            cond (!(ye1 == ye2)) (
              cond (decide (0 ≤ x1)) (
                cond (decide (x1 < (((List.length x2) : Nat) : Int))) (
                  Option.bind (x2[(Int.toNat x1)]?) fun ye3 =>
                  cond ye3 (
                    K0 1) (
                    K0 (-1))) (
                  none)) (
                none)) (
              rec (Wi64 (x1 - 1)) x2 x3)) (
            none)) (
          none)) (
        none)) (
      none)) (
    K1)
noncomputable def plumblineref01_Compare_l0 {R : Type} (k : Nat) : Nat → Int → (List Bool) → (List Bool) → (Int → Option R) → (Option R) → Option R
  | 0, _, _, _, _, _ => none
  | n + 1, x1, x2, x3, K0, K1 => plumblineref01_Compare_l0B k (fun x1 x2 x3 => plumblineref01_Compare_l0 k n x1 x2 x3 K0 K1) x1 x2 x3 K0 K1
noncomputable def cx84_3 {R : Type} (k : Nat) : Cx R := mkCx Ty exts [(66, true, S66 k)] fi84 [] []
theorem cx84_3_ok {R : Type} (k : Nat) : CxOk Try.prog (cx84_3 k : Cx R) := mkCx_ok (c := ((Try.f84).body.getD .skip)) ty_ok mixed exts_ok (allSum_cons (S66_ok k) en66 allSum_nil) Try.func84 en84 (by kernel_rfl) (by kernel_rfl) allLoop_nil allCut_nil
noncomputable def L84_3G {R : Type} (plumblineref01_Compare_l0 : plumblineref01_Compare_l0Y R) (k n : Nat) : LSum R := fun pin T H K => match pin, T, H with
  | 0, [(5, .sw 0), (6, .sw 1), (7, .i .i64 x1)], ⟨2, [(0, some ⟨0, false, .row [.b] x2⟩), (1, some ⟨1, false, .row [.b] x3⟩)]⟩ => plumblineref01_Compare_l0 k n x1 x2 x3 (fun q1 => K .ret [(4, .i .i64 q1)] ⟨0, []⟩) (K (.exit 0) [] ⟨0, []⟩)
  | _, _, _ => none
noncomputable def L84_3 {R : Type} (k n : Nat) : LSum R := L84_3G plumblineref01_Compare_l0 k n
theorem plumblineref01_Compare_l0_gen {R : Type} (plumblineref01_Bits : plumblineref01_BitsY R) (plumblineref01_Compare_l0 : plumblineref01_Compare_l0Y R) (k n : Nat) (x1 : Int) (x2 : List Bool) (x3 : List Bool) (K : Kont R) :
    (fun C => codeK C (run C 4)) (mkCx Ty exts [(66, true, S66G plumblineref01_Bits k)] fi84 [] []) 0 fi84 (loopAt ((Try.f84).body.getD .skip) 3) [(5, .sw 0), (6, .sw 1), (7, .i .i64 x1)] ⟨2, [(0, some ⟨0, false, .row [.b] x2⟩), (1, some ⟨1, false, .row [.b] x3⟩)]⟩ (fun ex T H => match (generalizing := false) ex with
      | .normal => normAt (some [5, 6, 7]) 0 T H (fun T H => L84_3G plumblineref01_Compare_l0 k n 0 T H K)
      | ex => exitNorm fi84.ann 3 0 K ex T H) =
    plumblineref01_Compare_l0B k (fun x1 x2 x3 => plumblineref01_Compare_l0 k n x1 x2 x3 (fun q1 => K .ret [(4, .i .i64 q1)] ⟨0, []⟩) (K (.exit 0) [] ⟨0, []⟩)) x1 x2 x3 (fun q1 => K .ret [(4, .i .i64 q1)] ⟨0, []⟩) (K (.exit 0) [] ⟨0, []⟩) := by kernel_rfl
theorem L84_3_cok {R : Type} (k : Nat) : CodeOk Try.prog (cx84_3 k : Cx R) fi84 (loopAt ((Try.f84).body.getD .skip) 3) := loopAt_ok (((cx84_3_ok k).fns 84 fi84 (by kernel_rfl)).2.2.2 ((Try.f84).body.getD .skip) (by kernel_rfl))
theorem L84_3_ok {R : Type} (k : Nat) : ∀ n, LoopOk Try.prog (Try.f84).ntmps (loopAt ((Try.f84).body.getD .skip) 3) (L84_3 k n : LSum R)
  | 0 => by
    intro pin T H K r h
    unfold L84_3 L84_3G at h
    split at h
    all_goals exact nomatch (show (none : Option R) = some r from h)
  | n + 1 => by
    intro pin T H K r h
    unfold L84_3 L84_3G at h
    split at h
    · obtain ⟨ex, T1, H1, h, hb⟩ := codeK_sound (cx84_3_ok k) (run_sound (cx84_3_ok k) 4) _ fi84 _ _ _ _ _ (L84_3_cok k) ((plumblineref01_Compare_l0_gen plumblineref01_Bits plumblineref01_Compare_l0 k n _ _ _ K).trans h)
      exact loop_step (fun T H hh => L84_3_ok k n _ T H K r hh) hb h
    · cases h
noncomputable def cx84 {R : Type} (k : Nat) : Cx R := mkCx Ty exts [(66, true, S66 k)] fi84 [(3, L84_3 k k)] []
theorem cx84_ok {R : Type} (k : Nat) : CxOk Try.prog (cx84 k : Cx R) := mkCx_ok (c := ((Try.f84).body.getD .skip)) ty_ok mixed exts_ok (allSum_cons (S66_ok k) en66 allSum_nil) Try.func84 en84 (by kernel_rfl) (by kernel_rfl) (allLoop_loop (by kernel_rfl) (L84_3_ok k k) allLoop_nil) allCut_nil
@[reducible] def plumblineref01_CompareY (R : Type) : Type := Nat → Int → Int → Int → Int → (Int → Option R) → Option R
noncomputable def plumblineref01_CompareT {R : Type} (plumblineref01_Bits : plumblineref01_BitsY R) (plumblineref01_Compare_l0 : plumblineref01_Compare_l0Y R) (k : Nat) (a1 : Int) (a2 : Int) (a3 : Int) (a4 : Int) (K0 : Int → Option R) : Option R :=
  plumblineref01_Bits k a1 a2 (fun r1 =>
    plumblineref01_Bits k a3 a4 (fun r2 =>
      plumblineref01_Compare_l0 k k 127 r1 r2 (fun r3 =>
        K0 r3) (
        K0 0)))
noncomputable def plumblineref01_Compare {R : Type} (k : Nat) (a1 : Int) (a2 : Int) (a3 : Int) (a4 : Int) (K0 : Int → Option R) : Option R := plumblineref01_CompareT plumblineref01_Bits plumblineref01_Compare_l0 k a1 a2 a3 a4 K0
theorem plumblineref01_Compare_gen {R : Type} (plumblineref01_Bits : plumblineref01_BitsY R) (plumblineref01_Compare_l0 : plumblineref01_Compare_l0Y R) (k : Nat) (a1 : Int) (a2 : Int) (a3 : Int) (a4 : Int) (K : AV → Heap → Option R) :
    fnK (mkCx Ty exts [(66, true, S66G plumblineref01_Bits k)] fi84 [(3, L84_3G plumblineref01_Compare_l0 k k)] []) 6 84 [.agg [.i .u64 a1, .i .u64 a2], .agg [.i .u64 a3, .i .u64 a4]] ⟨0, []⟩ K = plumblineref01_CompareT plumblineref01_Bits plumblineref01_Compare_l0 k a1 a2 a3 a4 (fun q1 => K (.i .i64 q1) ⟨0, []⟩) := by kernel_rfl
noncomputable def S84G {R : Type} (plumblineref01_Compare : plumblineref01_CompareY R) (k : Nat) : Sum R := fun args H K => match args, H with
  | [.agg [.i .u64 a1, .i .u64 a2], .agg [.i .u64 a3, .i .u64 a4]], ⟨0, []⟩ => plumblineref01_Compare k a1 a2 a3 a4 (fun q1 => K (.i .i64 q1) ⟨0, []⟩)
  | _, _ => none
noncomputable def S84 {R : Type} (k : Nat) : Sum R := S84G plumblineref01_Compare k
theorem S84_ok0 {R : Type} (k : Nat) : SumOk Try.prog 84 false (S84 k : Sum R) := by
  intro args H K r h
  unfold S84 S84G at h
  split at h
  · exact fnK_sound (cx84_ok k) 6 84 _ _ K r ((plumblineref01_Compare_gen plumblineref01_Bits plumblineref01_Compare_l0 k _ _ _ _ K).trans h)
  · cases h
theorem S84_ok {R : Type} (k : Nat) : SumOk Try.prog 84 true (S84 k : Sum R) := by
  refine sumOk_keep (S84_ok0 k) ?_
  intro args H K r h
  unfold S84 S84G at h ⊢
  split at h
  · refine Eq.trans ?_ h
    show plumblineref01_Compare k _ _ _ _ _ = plumblineref01_Compare k _ _ _ _ _
    congr 1
    all_goals first | exact (funext fun q1 => if_pos (keeps_app _ _ _ [])) | skip
  · cases h
-- function 85: plumbline/plumblineref01.Sub
noncomputable def fi85 : FnI := ⟨85, Try.f85, [(100003, [2, 4, 6, 7]), (3003000, [2, 4, 6])]⟩
theorem en85 : Enters Try.prog 85 := enters_of Try.func85 (c := ((Try.f85).body.getD .skip)) (by kernel_rfl) (by kernel_rfl)
@[reducible] def plumblineref01_Sub_l0Y (R : Type) : Type := Nat → Nat → Int → Int → Int → Int → Int → (List Bool) → ((List Bool) → Option R) → Option R
noncomputable def plumblineref01_Sub_l0B {R : Type} (k : Nat) (rec : Int → Int → Int → Int → Int → (List Bool) → Option R) (x1 : Int) (x2 : Int) (x3 : Int) (x4 : Int) (x5 : Int) (x6 : List Bool) (K0 : (List Bool) → Option R) : Option R :=
  cond (decide (x1 < 128)) (
    cond (decide (0 ≤ x1)) (
      cond (decide (x1 < (((List.length x6) : Nat) : Int))) (
        Option.bind (x6[(Int.toNat x1)]?) fun ye1 =>
        cond (decide (0 ≤ x1)) (
          cond (decide (x1 < (((List.length x6) : Nat) : Int))) (
            Option.bind (x6[(Int.toNat x1)]?) fun ye2 =>
            rec (Wi64 (x1 + 1)) x2 x3 x4 x5 (List.set x6 (Int.toNat x1) (!ye1))) (
            none)) (
          none)) (
        none)) (
      none)) (
    K0 x6)
noncomputable def plumblineref01_Sub_l0 {R : Type} (k : Nat) : Nat → Int → Int → Int → Int → Int → (List Bool) → ((List Bool) → Option R) → Option R
  | 0, _, _, _, _, _, _, _ => none
  | n + 1, x1, x2, x3, x4, x5, x6, K0 => plumblineref01_Sub_l0B k (fun x1 x2 x3 x4 x5 x6 => plumblineref01_Sub_l0 k n x1 x2 x3 x4 x5 x6 K0) x1 x2 x3 x4 x5 x6 K0
noncomputable def cx85_3 {R : Type} (k : Nat) : Cx R := mkCx Ty exts [(66, true, S66 k), (93, true, S93 k), (98, true, S98 k)] fi85 [] []
theorem cx85_3_ok {R : Type} (k : Nat) : CxOk Try.prog (cx85_3 k : Cx R) := mkCx_ok (c := ((Try.f85).body.getD .skip)) ty_ok mixed exts_ok (allSum_cons (S66_ok k) en66 (allSum_cons (S93_ok k) en93 (allSum_cons (S98_ok k) en98 allSum_nil))) Try.func85 en85 (by kernel_rfl) (by kernel_rfl) allLoop_nil allCut_nil
noncomputable def L85_3G {R : Type} (plumblineref01_Sub_l0 : plumblineref01_Sub_l0Y R) (k n : Nat) : LSum R := fun pin T H K => match pin, T, H with
  | 0, [(2, .ptr 0 0 0 0 0), (4, .ptr 1 0 0 0 0), (6, .sw 2), (7, .i .i64 x1)], ⟨3, [(0, some ⟨0, false, .cells [.i .u64 x2, .i .u64 x3]⟩), (1, some ⟨1, false, .cells [.i .u64 x4, .i .u64 x5]⟩), (2, some ⟨2, false, .row [.b] x6⟩)]⟩ => plumblineref01_Sub_l0 k n x1 x2 x3 x4 x5 x6 (fun q5 => K (.exit 0) [(2, .ptr 0 0 0 0 0), (4, .ptr 1 0 0 0 0), (6, .sw 2)] ⟨3, [(0, some ⟨0, false, .cells [.i .u64 x2, .i .u64 x3]⟩), (1, some ⟨1, false, .cells [.i .u64 x4, .i .u64 x5]⟩), (2, some ⟨2, false, .row [.b] q5⟩)]⟩)
  | _, _, _ => none
noncomputable def L85_3 {R : Type} (k n : Nat) : LSum R := L85_3G plumblineref01_Sub_l0 k n
theorem plumblineref01_Sub_l0_gen {R : Type} (plumblineref01_Bits : plumblineref01_BitsY R) (plumblineref01_From : plumblineref01_FromY R) (plumblineref01_add : plumblineref01_addY R) (plumblineref01_Sub_l0 : plumblineref01_Sub_l0Y R) (k n : Nat) (x1 : Int) (x2 : Int) (x3 : Int) (x4 : Int) (x5 : Int) (x6 : List Bool) (K : Kont R) :
    (fun C => codeK C (run C 4)) (mkCx Ty exts [(66, true, S66G plumblineref01_Bits k), (93, true, S93G plumblineref01_From k), (98, true, S98G plumblineref01_add k)] fi85 [] []) 0 fi85 (loopAt ((Try.f85).body.getD .skip) 3) [(2, .ptr 0 0 0 0 0), (4, .ptr 1 0 0 0 0), (6, .sw 2), (7, .i .i64 x1)] ⟨3, [(0, some ⟨0, false, .cells [.i .u64 x2, .i .u64 x3]⟩), (1, some ⟨1, false, .cells [.i .u64 x4, .i .u64 x5]⟩), (2, some ⟨2, false, .row [.b] x6⟩)]⟩ (fun ex T H => match (generalizing := false) ex with
      | .normal => normAt (some [2, 4, 6, 7]) 0 T H (fun T H => L85_3G plumblineref01_Sub_l0 k n 0 T H K)
      | ex => exitNorm fi85.ann 3 0 K ex T H) =
    plumblineref01_Sub_l0B k (fun x1 x2 x3 x4 x5 x6 => plumblineref01_Sub_l0 k n x1 x2 x3 x4 x5 x6 (fun q5 => K (.exit 0) [(2, .ptr 0 0 0 0 0), (4, .ptr 1 0 0 0 0), (6, .sw 2)] ⟨3, [(0, some ⟨0, false, .cells [.i .u64 x2, .i .u64 x3]⟩), (1, some ⟨1, false, .cells [.i .u64 x4, .i .u64 x5]⟩), (2, some ⟨2, false, .row [.b] q5⟩)]⟩)) x1 x2 x3 x4 x5 x6 (fun q5 => K (.exit 0) [(2, .ptr 0 0 0 0 0), (4, .ptr 1 0 0 0 0), (6, .sw 2)] ⟨3, [(0, some ⟨0, false, .cells [.i .u64 x2, .i .u64 x3]⟩), (1, some ⟨1, false, .cells [.i .u64 x4, .i .u64 x5]⟩), (2, some ⟨2, false, .row [.b] q5⟩)]⟩) := by kernel_rfl
theorem L85_3_cok {R : Type} (k : Nat) : CodeOk Try.prog (cx85_3 k : Cx R) fi85 (loopAt ((Try.f85).body.getD .skip) 3) := loopAt_ok (((cx85_3_ok k).fns 85 fi85 (by kernel_rfl)).2.2.2 ((Try.f85).body.getD .skip) (by kernel_rfl))
theorem L85_3_ok {R : Type} (k : Nat) : ∀ n, LoopOk Try.prog (Try.f85).ntmps (loopAt ((Try.f85).body.getD .skip) 3) (L85_3 k n : LSum R)
  | 0 => by
    intro pin T H K r h
    unfold L85_3 L85_3G at h
    split at h
    all_goals exact nomatch (show (none : Option R) = some r from h)
  | n + 1 => by
    intro pin T H K r h
    unfold L85_3 L85_3G at h
    split at h
    · obtain ⟨ex, T1, H1, h, hb⟩ := codeK_sound (cx85_3_ok k) (run_sound (cx85_3_ok k) 4) _ fi85 _ _ _ _ _ (L85_3_cok k) ((plumblineref01_Sub_l0_gen plumblineref01_Bits plumblineref01_From plumblineref01_add plumblineref01_Sub_l0 k n _ _ _ _ _ _ K).trans h)
      exact loop_step (fun T H hh => L85_3_ok k n _ T H K r hh) hb h
    · cases h
noncomputable def cx85 {R : Type} (k : Nat) : Cx R := mkCx Ty exts [(66, true, S66 k), (93, true, S93 k), (98, true, S98 k)] fi85 [(3, L85_3 k k)] []
theorem cx85_ok {R : Type} (k : Nat) : CxOk Try.prog (cx85 k : Cx R) := mkCx_ok (c := ((Try.f85).body.getD .skip)) ty_ok mixed exts_ok (allSum_cons (S66_ok k) en66 (allSum_cons (S93_ok k) en93 (allSum_cons (S98_ok k) en98 allSum_nil))) Try.func85 en85 (by kernel_rfl) (by kernel_rfl) (allLoop_loop (by kernel_rfl) (L85_3_ok k k) allLoop_nil) allCut_nil
@[reducible] def plumblineref01_SubY (R : Type) : Type := Nat → Int → Int → Int → Int → (Int → Int → Bool → Option R) → Option R
noncomputable def plumblineref01_SubT {R : Type} (plumblineref01_Bits : plumblineref01_BitsY R) (plumblineref01_From : plumblineref01_FromY R) (plumblineref01_Sub_l0 : plumblineref01_Sub_l0Y R) (plumblineref01_add : plumblineref01_addY R) (k : Nat) (a1 : Int) (a2 : Int) (a3 : Int) (a4 : Int) (K0 : Int → Int → Bool → Option R) : Option R :=
  plumblineref01_Bits k a3 a4 (fun r1 =>
    plumblineref01_Sub_l0 k k 0 a1 a2 0 0 r1 (fun r2 =>
      plumblineref01_Bits k a1 a2 (fun r3 =>
        plumblineref01_add k true r3 r2 (fun r4 =>
          plumblineref01_From k r4 (fun r5 r6 =>
            cond (decide (128 < (((List.length r4) : Nat) : Int))) (
              Option.bind (r4[128]?) fun e7 =>
              K0 r5 r6 (!e7)) (
              none))))))
noncomputable def plumblineref01_Sub {R : Type} (k : Nat) (a1 : Int) (a2 : Int) (a3 : Int) (a4 : Int) (K0 : Int → Int → Bool → Option R) : Option R := plumblineref01_SubT plumblineref01_Bits plumblineref01_From plumblineref01_Sub_l0 plumblineref01_add k a1 a2 a3 a4 K0
theorem plumblineref01_Sub_gen {R : Type} (plumblineref01_Bits : plumblineref01_BitsY R) (plumblineref01_From : plumblineref01_FromY R) (plumblineref01_add : plumblineref01_addY R) (plumblineref01_Sub_l0 : plumblineref01_Sub_l0Y R) (k : Nat) (a1 : Int) (a2 : Int) (a3 : Int) (a4 : Int) (K : AV → Heap → Option R) :
    fnK (mkCx Ty exts [(66, true, S66G plumblineref01_Bits k), (93, true, S93G plumblineref01_From k), (98, true, S98G plumblineref01_add k)] fi85 [(3, L85_3G plumblineref01_Sub_l0 k k)] []) 6 85 [.agg [.i .u64 a1, .i .u64 a2], .agg [.i .u64 a3, .i .u64 a4]] ⟨0, []⟩ K = plumblineref01_SubT plumblineref01_Bits plumblineref01_From plumblineref01_Sub_l0 plumblineref01_add k a1 a2 a3 a4 (fun q1 q2 q3 => K (.tup [.agg [.i .u64 q1, .i .u64 q2], .b q3]) ⟨0, []⟩) := by kernel_rfl
noncomputable def S85G {R : Type} (plumblineref01_Sub : plumblineref01_SubY R) (k : Nat) : Sum R := fun args H K => match args, H with
  | [.agg [.i .u64 a1, .i .u64 a2], .agg [.i .u64 a3, .i .u64 a4]], ⟨0, []⟩ => plumblineref01_Sub k a1 a2 a3 a4 (fun q1 q2 q3 => K (.tup [.agg [.i .u64 q1, .i .u64 q2], .b q3]) ⟨0, []⟩)
  | _, _ => none
noncomputable def S85 {R : Type} (k : Nat) : Sum R := S85G plumblineref01_Sub k
theorem S85_ok0 {R : Type} (k : Nat) : SumOk Try.prog 85 false (S85 k : Sum R) := by
  intro args H K r h
  unfold S85 S85G at h
  split at h
  · exact fnK_sound (cx85_ok k) 6 85 _ _ K r ((plumblineref01_Sub_gen plumblineref01_Bits plumblineref01_From plumblineref01_add plumblineref01_Sub_l0 k _ _ _ _ K).trans h)
  · cases h
theorem S85_ok {R : Type} (k : Nat) : SumOk Try.prog 85 true (S85 k : Sum R) := by
  refine sumOk_keep (S85_ok0 k) ?_
  intro args H K r h
  unfold S85 S85G at h ⊢
  split at h
  · refine Eq.trans ?_ h
    show plumblineref01_Sub k _ _ _ _ _ = plumblineref01_Sub k _ _ _ _ _
    congr 1
    all_goals first | exact (funext fun q1 => funext fun q2 => funext fun q3 => if_pos (keeps_app _ _ _ [])) | skip
  · cases h
-- function 78: plumbline/plumblineref01.Sqrt
noncomputable def fi78 : FnI := ⟨78, Try.f78, [(100003, [1, 3, 4, 5]), (3003000, [1, 3, 4])]⟩
theorem en78 : Enters Try.prog 78 := enters_of Try.func78 (c := ((Try.f78).body.getD .skip)) (by kernel_rfl) (by kernel_rfl)
@[reducible] def plumblineref01_Sqrt_l0Y (R : Type) : Type := Nat → Nat → Int → Int → Int → Int → Int → Int → (Int → Option R) → Option R
noncomputable def plumblineref01_Sqrt_l0B {R : Type} (plumblineref01_Compare : plumblineref01_CompareY R) (plumblineref01_Mul : plumblineref01_MulY R) (k : Nat) (rec : Int → Int → Int → Int → Int → Int → Option R) (x1 : Int) (x2 : Int) (x3 : Int) (x4 : Int) (x5 : Int) (x6 : Int) (K0 : Int → Option R) : Option R :=
  cond (decide (x2 ≥ 0)) (
    cond (decide (x2 < 0)) (
      none) (
      plumblineref01_Mul k (bOr .u64 x1 (shl .u64 1 x2)) (bOr .u64 x1 (shl .u64 1 x2)) (fun yr1 yr2 =>
        plumblineref01_Compare k yr1 yr2 x3 x4 (fun yr3 =>
          cond (decide (yr3 ≤ 0)) (
            rec (bOr .u64 x1 (shl .u64 1 x2)) (Wi64 (x2 - 1)) x3 x4 x5 x6) (
            rec x1 (Wi64 (x2 - 1)) x3 x4 x5 x6))))) (
    K0 x1)
noncomputable def plumblineref01_Sqrt_l0 {R : Type} (k : Nat) : Nat → Int → Int → Int → Int → Int → Int → (Int → Option R) → Option R
  | 0, _, _, _, _, _, _, _ => none
  | n + 1, x1, x2, x3, x4, x5, x6, K0 => plumblineref01_Sqrt_l0B plumblineref01_Compare plumblineref01_Mul k (fun x1 x2 x3 x4 x5 x6 => plumblineref01_Sqrt_l0 k n x1 x2 x3 x4 x5 x6 K0) x1 x2 x3 x4 x5 x6 K0
noncomputable def cx78_3 {R : Type} (k : Nat) : Cx R := mkCx Ty exts [(68, true, S68 k), (84, true, S84 k), (85, true, S85 k)] fi78 [] []
theorem cx78_3_ok {R : Type} (k : Nat) : CxOk Try.prog (cx78_3 k : Cx R) := mkCx_ok (c := ((Try.f78).body.getD .skip)) ty_ok mixed exts_ok (allSum_cons (S68_ok k) en68 (allSum_cons (S84_ok k) en84 (allSum_cons (S85_ok k) en85 allSum_nil))) Try.func78 en78 (by kernel_rfl) (by kernel_rfl) allLoop_nil allCut_nil
noncomputable def L78_3G {R : Type} (plumblineref01_Sqrt_l0 : plumblineref01_Sqrt_l0Y R) (k n : Nat) : LSum R := fun pin T H K => match pin, T, H with
  | 0, [(1, .ptr 0 0 0 0 0), (3, .ptr 1 0 0 0 0), (4, .i .u64 x1), (5, .i .i64 x2)], ⟨2, [(0, some ⟨0, false, .cells [.i .u64 x3, .i .u64 x4]⟩), (1, some ⟨1, false, .cells [.i .u64 x5, .i .u64 x6]⟩)]⟩ => plumblineref01_Sqrt_l0 k n x1 x2 x3 x4 x5 x6 (fun q1 => K (.exit 0) [(1, .ptr 0 0 0 0 0), (3, .ptr 1 0 0 0 0), (4, .i .u64 q1)] ⟨2, [(0, some ⟨0, false, .cells [.i .u64 x3, .i .u64 x4]⟩), (1, some ⟨1, false, .cells [.i .u64 x5, .i .u64 x6]⟩)]⟩)
  | _, _, _ => none
noncomputable def L78_3 {R : Type} (k n : Nat) : LSum R := L78_3G plumblineref01_Sqrt_l0 k n
theorem plumblineref01_Sqrt_l0_gen {R : Type} (plumblineref01_Mul : plumblineref01_MulY R) (plumblineref01_Compare : plumblineref01_CompareY R) (plumblineref01_Sub : plumblineref01_SubY R) (plumblineref01_Sqrt_l0 : plumblineref01_Sqrt_l0Y R) (k n : Nat) (x1 : Int) (x2 : Int) (x3 : Int) (x4 : Int) (x5 : Int) (x6 : Int) (K : Kont R) :
    (fun C => codeK C (run C 4)) (mkCx Ty exts [(68, true, S68G plumblineref01_Mul k), (84, true, S84G plumblineref01_Compare k), (85, true, S85G plumblineref01_Sub k)] fi78 [] []) 0 fi78 (loopAt ((Try.f78).body.getD .skip) 3) [(1, .ptr 0 0 0 0 0), (3, .ptr 1 0 0 0 0), (4, .i .u64 x1), (5, .i .i64 x2)] ⟨2, [(0, some ⟨0, false, .cells [.i .u64 x3, .i .u64 x4]⟩), (1, some ⟨1, false, .cells [.i .u64 x5, .i .u64 x6]⟩)]⟩ (fun ex T H => match (generalizing := false) ex with
      | .normal => normAt (some [1, 3, 4, 5]) 0 T H (fun T H => L78_3G plumblineref01_Sqrt_l0 k n 0 T H K)
      | ex => exitNorm fi78.ann 3 0 K ex T H) =
    plumblineref01_Sqrt_l0B plumblineref01_Compare plumblineref01_Mul k (fun x1 x2 x3 x4 x5 x6 => plumblineref01_Sqrt_l0 k n x1 x2 x3 x4 x5 x6 (fun q1 => K (.exit 0) [(1, .ptr 0 0 0 0 0), (3, .ptr 1 0 0 0 0), (4, .i .u64 q1)] ⟨2, [(0, some ⟨0, false, .cells [.i .u64 x3, .i .u64 x4]⟩), (1, some ⟨1, false, .cells [.i .u64 x5, .i .u64 x6]⟩)]⟩)) x1 x2 x3 x4 x5 x6 (fun q1 => K (.exit 0) [(1, .ptr 0 0 0 0 0), (3, .ptr 1 0 0 0 0), (4, .i .u64 q1)] ⟨2, [(0, some ⟨0, false, .cells [.i .u64 x3, .i .u64 x4]⟩), (1, some ⟨1, false, .cells [.i .u64 x5, .i .u64 x6]⟩)]⟩) := by kernel_rfl
theorem L78_3_cok {R : Type} (k : Nat) : CodeOk Try.prog (cx78_3 k : Cx R) fi78 (loopAt ((Try.f78).body.getD .skip) 3) := loopAt_ok (((cx78_3_ok k).fns 78 fi78 (by kernel_rfl)).2.2.2 ((Try.f78).body.getD .skip) (by kernel_rfl))
theorem L78_3_ok {R : Type} (k : Nat) : ∀ n, LoopOk Try.prog (Try.f78).ntmps (loopAt ((Try.f78).body.getD .skip) 3) (L78_3 k n : LSum R)
  | 0 => by
    intro pin T H K r h
    unfold L78_3 L78_3G at h
    split at h
    all_goals exact nomatch (show (none : Option R) = some r from h)
  | n + 1 => by
    intro pin T H K r h
    unfold L78_3 L78_3G at h
    split at h
    · obtain ⟨ex, T1, H1, h, hb⟩ := codeK_sound (cx78_3_ok k) (run_sound (cx78_3_ok k) 4) _ fi78 _ _ _ _ _ (L78_3_cok k) ((plumblineref01_Sqrt_l0_gen plumblineref01_Mul plumblineref01_Compare plumblineref01_Sub plumblineref01_Sqrt_l0 k n _ _ _ _ _ _ K).trans h)
      exact loop_step (fun T H hh => L78_3_ok k n _ T H K r hh) hb h
    · cases h
noncomputable def cx78 {R : Type} (k : Nat) : Cx R := mkCx Ty exts [(68, true, S68 k), (84, true, S84 k), (85, true, S85 k)] fi78 [(3, L78_3 k k)] []
theorem cx78_ok {R : Type} (k : Nat) : CxOk Try.prog (cx78 k : Cx R) := mkCx_ok (c := ((Try.f78).body.getD .skip)) ty_ok mixed exts_ok (allSum_cons (S68_ok k) en68 (allSum_cons (S84_ok k) en84 (allSum_cons (S85_ok k) en85 allSum_nil))) Try.func78 en78 (by kernel_rfl) (by kernel_rfl) (allLoop_loop (by kernel_rfl) (L78_3_ok k k) allLoop_nil) allCut_nil
@[reducible] def plumblineref01_SqrtY (R : Type) : Type := Nat → Int → Int → (Int → Int → Int → Option R) → Option R
noncomputable def plumblineref01_SqrtT {R : Type} (plumblineref01_Mul : plumblineref01_MulY R) (plumblineref01_Sqrt_l0 : plumblineref01_Sqrt_l0Y R) (plumblineref01_Sub : plumblineref01_SubY R) (k : Nat) (a1 : Int) (a2 : Int) (K0 : Int → Int → Int → Option R) : Option R :=
  plumblineref01_Sqrt_l0 k k 0 63 a1 a2 0 0 (fun r1 =>
    plumblineref01_Mul k r1 r1 (fun r2 r3 =>
      plumblineref01_Sub k a1 a2 r2 r3 (fun r4 r5 r6 =>
        K0 r1 r4 r5)))
noncomputable def plumblineref01_Sqrt {R : Type} (k : Nat) (a1 : Int) (a2 : Int) (K0 : Int → Int → Int → Option R) : Option R := plumblineref01_SqrtT plumblineref01_Mul plumblineref01_Sqrt_l0 plumblineref01_Sub k a1 a2 K0
theorem plumblineref01_Sqrt_gen {R : Type} (plumblineref01_Mul : plumblineref01_MulY R) (plumblineref01_Compare : plumblineref01_CompareY R) (plumblineref01_Sub : plumblineref01_SubY R) (plumblineref01_Sqrt_l0 : plumblineref01_Sqrt_l0Y R) (k : Nat) (a1 : Int) (a2 : Int) (K : AV → Heap → Option R) :
    fnK (mkCx Ty exts [(68, true, S68G plumblineref01_Mul k), (84, true, S84G plumblineref01_Compare k), (85, true, S85G plumblineref01_Sub k)] fi78 [(3, L78_3G plumblineref01_Sqrt_l0 k k)] []) 6 78 [.agg [.i .u64 a1, .i .u64 a2]] ⟨0, []⟩ K = plumblineref01_SqrtT plumblineref01_Mul plumblineref01_Sqrt_l0 plumblineref01_Sub k a1 a2 (fun q1 q2 q3 => K (.tup [.i .u64 q1, .agg [.i .u64 q2, .i .u64 q3]]) ⟨0, []⟩) := by kernel_rfl
noncomputable def S78G {R : Type} (plumblineref01_Sqrt : plumblineref01_SqrtY R) (k : Nat) : Sum R := fun args H K => match args, H with
  | [.agg [.i .u64 a1, .i .u64 a2]], ⟨0, []⟩ => plumblineref01_Sqrt k a1 a2 (fun q1 q2 q3 => K (.tup [.i .u64 q1, .agg [.i .u64 q2, .i .u64 q3]]) ⟨0, []⟩)
  | _, _ => none
noncomputable def S78 {R : Type} (k : Nat) : Sum R := S78G plumblineref01_Sqrt k
theorem S78_ok0 {R : Type} (k : Nat) : SumOk Try.prog 78 false (S78 k : Sum R) := by
  intro args H K r h
  unfold S78 S78G at h
  split at h
  · exact fnK_sound (cx78_ok k) 6 78 _ _ K r ((plumblineref01_Sqrt_gen plumblineref01_Mul plumblineref01_Compare plumblineref01_Sub plumblineref01_Sqrt_l0 k _ _ K).trans h)
  · cases h
theorem S78_ok {R : Type} (k : Nat) : SumOk Try.prog 78 true (S78 k : Sum R) := by
  refine sumOk_keep (S78_ok0 k) ?_
  intro args H K r h
  unfold S78 S78G at h ⊢
  split at h
  · refine Eq.trans ?_ h
    show plumblineref01_Sqrt k _ _ _ = plumblineref01_Sqrt k _ _ _
    congr 1
    all_goals first | exact (funext fun q1 => funext fun q2 => funext fun q3 => if_pos (keeps_app _ _ _ [])) | skip
  · cases h
end Go.Proofs.Ytbnmnkofekcodaa.N
