/- Printed by wip/gen/emit.py: functions of the program as plain Lean functions, tied to the model by the evaluator. Conditions: none. -/
import Derived.Test.YtelifkahdhhmoaaNconv
namespace Go.Proofs.Ytelifkahdhhmoaa.N
set_option linter.unusedVariables false
set_option maxRecDepth 100000
open Go Go.Ab
-- function 14: plumbline/plumblinelaw03.live
noncomputable def fi14 : FnI := ⟨14, Try.f14, []⟩
theorem en14 : Enters Try.prog 14 := enters_of Try.func14 (c := ((Try.f14).body.getD .skip)) (by kernel_rfl) (by kernel_rfl)
noncomputable def cx14 {R : Type} (k : Nat) : Cx R := mkCx Ty exts [(13, true, S13 k), (15, true, S15 k), (20, true, S20 k), (21, true, S21 k)] fi14 [] []
theorem cx14_ok {R : Type} (k : Nat) : CxOk Try.prog (cx14 k : Cx R) := mkCx_ok (c := ((Try.f14).body.getD .skip)) ty_ok mixed exts_ok (allSum_cons (S13_ok k) en13 (allSum_cons (S15_ok k) en15 (allSum_cons (S20_ok k) en20 (allSum_cons (S21_ok k) en21 allSum_nil)))) Try.func14 en14 (by kernel_rfl) (by kernel_rfl) allLoop_nil allCut_nil
@[reducible] def plumblinelaw03_liveY (R : Type) : Type := Nat → (Bool → Option R) → Option R
noncomputable def plumblinelaw03_liveT {R : Type} (conv_FromInt : conv_FromIntY R) (conv_Hex : conv_HexY R) (conv_Literal : conv_LiteralY R) (conv_Next : conv_NextY R) (k : Nat) (K0 : Bool → Option R) : Option R :=
  conv_Literal k 0 ⟨#[48, 46, 49]⟩ (fun r1 r2 =>
    cond (r2 == 0) (
      cond (r1 == 4591870180066957722) (
        conv_FromInt k 1 0 3 (fun r3 =>
          cond (r3 == 1077936128) (
            conv_Next k 1 0 (fun r4 =>
              conv_Hex k 1 r4 (fun r5 =>
                K0 (ByteArray.toList r5 == ByteArray.toList ⟨#[48, 48, 48, 48, 48, 48, 48, 49]⟩)))) (
            K0 false))) (
        K0 false)) (
      K0 false))
noncomputable def plumblinelaw03_live {R : Type} (k : Nat) (K0 : Bool → Option R) : Option R := plumblinelaw03_liveT conv_FromInt conv_Hex conv_Literal conv_Next k K0
theorem plumblinelaw03_live_gen {R : Type} (conv_Hex : conv_HexY R) (conv_Literal : conv_LiteralY R) (conv_FromInt : conv_FromIntY R) (conv_Next : conv_NextY R) (k : Nat) (K : AV → Heap → Option R) :
    fnK (mkCx Ty exts [(13, true, S13G conv_Hex k), (15, true, S15G conv_Literal k), (20, true, S20G conv_FromInt k), (21, true, S21G conv_Next k)] fi14 [] []) 6 14 [] ⟨0, []⟩ K = plumblinelaw03_liveT conv_FromInt conv_Hex conv_Literal conv_Next k (fun q1 => K (.b q1) ⟨0, []⟩) := by kernel_rfl
noncomputable def S14G {R : Type} (plumblinelaw03_live : plumblinelaw03_liveY R) (k : Nat) : Sum R := fun args H K => match args, H with
  | [], ⟨0, []⟩ => plumblinelaw03_live k (fun q1 => K (.b q1) ⟨0, []⟩)
  | _, _ => none
noncomputable def S14 {R : Type} (k : Nat) : Sum R := S14G plumblinelaw03_live k
theorem S14_ok0 {R : Type} (k : Nat) : SumOk Try.prog 14 false (S14 k : Sum R) := by
  intro args H K r h
  unfold S14 S14G at h
  split at h
  · exact fnK_sound (cx14_ok k) 6 14 _ _ K r ((plumblinelaw03_live_gen conv_Hex conv_Literal conv_FromInt conv_Next k K).trans h)
  · cases h
theorem S14_ok {R : Type} (k : Nat) : SumOk Try.prog 14 true (S14 k : Sum R) := by
  refine sumOk_keep (S14_ok0 k) ?_
  intro args H K r h
  unfold S14 S14G at h ⊢
  split at h
  · refine Eq.trans ?_ h
    show plumblinelaw03_live k _ = plumblinelaw03_live k _
    congr 1
    all_goals first | exact (funext fun q1 => if_pos (keeps_app _ _ _ [])) | skip
  · cases h
-- function 12: plumbline/plumblinelaw03.format
noncomputable def fi12 : FnI := ⟨12, Try.f12, []⟩
theorem en12 : Enters Try.prog 12 := enters_of Try.func12 (c := ((Try.f12).body.getD .skip)) (by kernel_rfl) (by kernel_rfl)
noncomputable def cx12 {R : Type} (k : Nat) : Cx R := mkCx Ty exts [] fi12 [] []
theorem cx12_ok {R : Type} (k : Nat) : CxOk Try.prog (cx12 k : Cx R) := mkCx_ok (c := ((Try.f12).body.getD .skip)) ty_ok mixed exts_ok allSum_nil Try.func12 en12 (by kernel_rfl) (by kernel_rfl) allLoop_nil allCut_nil
@[reducible] def plumblinelaw03_formatY (R : Type) : Type := Nat → Int → (Int → Option R) → Option R
noncomputable def plumblinelaw03_formatT {R : Type} (k : Nat) (a1 : Int) (K0 : Int → Option R) : Option R :=
  cond (a1 == 1) (
    K0 a1) (
    K0 0)
noncomputable def plumblinelaw03_format {R : Type} (k : Nat) (a1 : Int) (K0 : Int → Option R) : Option R := plumblinelaw03_formatT k a1 K0
theorem plumblinelaw03_format_gen {R : Type} (k : Nat) (a1 : Int) (K : AV → Heap → Option R) :
    fnK (mkCx Ty exts [] fi12 [] []) 6 12 [.i .i64 a1] ⟨0, []⟩ K = plumblinelaw03_formatT k a1 (fun q1 => K (.i .i64 q1) ⟨0, []⟩) := by kernel_rfl
noncomputable def S12G {R : Type} (plumblinelaw03_format : plumblinelaw03_formatY R) (k : Nat) : Sum R := fun args H K => match args, H with
  | [.i .i64 a1], ⟨0, []⟩ => plumblinelaw03_format k a1 (fun q1 => K (.i .i64 q1) ⟨0, []⟩)
  | _, _ => none
noncomputable def S12 {R : Type} (k : Nat) : Sum R := S12G plumblinelaw03_format k
theorem S12_ok0 {R : Type} (k : Nat) : SumOk Try.prog 12 false (S12 k : Sum R) := by
  intro args H K r h
  unfold S12 S12G at h
  split at h
  · exact fnK_sound (cx12_ok k) 6 12 _ _ K r ((plumblinelaw03_format_gen k _ K).trans h)
  · cases h
theorem S12_ok {R : Type} (k : Nat) : SumOk Try.prog 12 true (S12 k : Sum R) := by
  refine sumOk_keep (S12_ok0 k) ?_
  intro args H K r h
  unfold S12 S12G at h ⊢
  split at h
  · refine Eq.trans ?_ h
    show plumblinelaw03_format k _ _ = plumblinelaw03_format k _ _
    congr 1
    all_goals first | exact (funext fun q1 => if_pos (keeps_app _ _ _ [])) | skip
  · cases h
-- function 19: plumbline/plumblinelaw03.digits
noncomputable def fi19 : FnI := ⟨19, Try.f19, []⟩
theorem en19 : Enters Try.prog 19 := enters_of Try.func19 (c := ((Try.f19).body.getD .skip)) (by kernel_rfl) (by kernel_rfl)
@[reducible] def plumblinelaw03_digitsY (R : Type) : Type := Nat → Int → (ByteArray → Option R) → Option R
noncomputable def plumblinelaw03_digitsT {R : Type} (rec : Int → (ByteArray → Option R) → Option R) (k : Nat) (a1 : Int) (K0 : ByteArray → Option R) : Option R :=
  cond (decide (a1 < 10)) (
    K0 (bytesOf [(Wu8 (Wi64 (48 + a1)))])) (
    rec (Wi64 (Int.tdiv a1 10)) (fun r1 =>
      cond (Nat.ble (ByteArray.size r1 + ByteArray.size (bytesOf [(Wu8 (Wi64 (48 + (Int.tmod a1 10))))])) 9223372036854775807) (
        K0 (r1 ++ (bytesOf [(Wu8 (Wi64 (48 + (Int.tmod a1 10))))]))) (
        none)))
noncomputable def plumblinelaw03_digits_n {R : Type} (k : Nat) : Nat → Int → (ByteArray → Option R) → Option R
  | 0, _, _ => none
  | n + 1, a1, K0 => plumblinelaw03_digitsT (plumblinelaw03_digits_n k n) k a1 K0
noncomputable def plumblinelaw03_digits {R : Type} (k : Nat) (a1 : Int) (K0 : ByteArray → Option R) : Option R := plumblinelaw03_digits_n k k a1 K0
noncomputable def S19G {R : Type} (plumblinelaw03_digits : plumblinelaw03_digitsY R) (k : Nat) : Sum R := fun args H K => match args, H with
  | [.i .i64 a1], ⟨0, []⟩ => plumblinelaw03_digits k a1 (fun q1 => K (.s q1) ⟨0, []⟩)
  | _, _ => none
noncomputable def S19N {R : Type} (k n : Nat) : Sum R := S19G (fun _ => plumblinelaw03_digits_n k n) k
noncomputable def S19 {R : Type} (k : Nat) : Sum R := S19G plumblinelaw03_digits k
noncomputable def cx19 {R : Type} (k n : Nat) : Cx R := mkCx Ty exts [(19, false, S19N k n)] fi19 [] []
theorem cx19_ok {R : Type} (k n : Nat) (ih : SumOk Try.prog 19 false (S19N k n : Sum R)) : CxOk Try.prog (cx19 k n : Cx R) := mkCx_ok (c := ((Try.f19).body.getD .skip)) ty_ok mixed exts_ok (allSum_cons ih en19 allSum_nil) Try.func19 en19 (by kernel_rfl) (by kernel_rfl) allLoop_nil allCut_nil
theorem plumblinelaw03_digits_gen {R : Type} (rec : Int → (ByteArray → Option R) → Option R) (k : Nat) (a1 : Int) (K : AV → Heap → Option R) :
    fnK (mkCx Ty exts [(19, false, S19G (fun _ => rec) k)] fi19 [] []) 6 19 [.i .i64 a1] ⟨0, []⟩ K = plumblinelaw03_digitsT rec k a1 (fun q1 => K (.s q1) ⟨0, []⟩) := by kernel_rfl
theorem S19N_ok {R : Type} (k : Nat) : ∀ n, SumOk Try.prog 19 false (S19N k n : Sum R)
  | 0 => by
    intro args H K r h
    unfold S19N S19G at h
    split at h
    all_goals exact nomatch (show (none : Option R) = some r from h)
  | n + 1 => by
    intro args H K r h
    unfold S19N S19G at h
    split at h
    · exact fnK_sound (cx19_ok k n (S19N_ok k n)) 6 19 _ _ K r ((plumblinelaw03_digits_gen (plumblinelaw03_digits_n k n) k _ K).trans h)
    · cases h
theorem S19_ok {R : Type} (k : Nat) : SumOk Try.prog 19 false (S19 k : Sum R) := S19N_ok k k
-- function 28: plumbline/plumblinelaw03.places
noncomputable def fi28 : FnI := ⟨28, Try.f28, [(100002, [0, 3]), (3002000, [0, 3])]⟩
theorem en28 : Enters Try.prog 28 := enters_of Try.func28 (c := ((Try.f28).body.getD .skip)) (by kernel_rfl) (by kernel_rfl)
@[reducible] def plumblinelaw03_places_l0Y (R : Type) : Type := Nat → Nat → Int → ByteArray → (ByteArray → Option R) → Option R
noncomputable def plumblinelaw03_places_l0B {R : Type} (k : Nat) (rec : Int → ByteArray → Option R) (x1 : Int) (x2 : ByteArray) (K0 : ByteArray → Option R) : Option R :=
  cond (decide (((ByteArray.size x2 : Nat) : Int) < 6)) (
    cond (Nat.ble (ByteArray.size ⟨#[48]⟩ + ByteArray.size x2) 9223372036854775807) (
      rec x1 (⟨#[48]⟩ ++ x2)) (
      none)) (
    K0 x2)
noncomputable def plumblinelaw03_places_l0 {R : Type} (k : Nat) : Nat → Int → ByteArray → (ByteArray → Option R) → Option R
  | 0, _, _, _ => none
  | n + 1, x1, x2, K0 => plumblinelaw03_places_l0B k (fun x1 x2 => plumblinelaw03_places_l0 k n x1 x2 K0) x1 x2 K0
noncomputable def cx28_2 {R : Type} (k : Nat) : Cx R := mkCx Ty exts [(19, false, S19 k)] fi28 [] []
theorem cx28_2_ok {R : Type} (k : Nat) : CxOk Try.prog (cx28_2 k : Cx R) := mkCx_ok (c := ((Try.f28).body.getD .skip)) ty_ok mixed exts_ok (allSum_cons (S19_ok k) en19 allSum_nil) Try.func28 en28 (by kernel_rfl) (by kernel_rfl) allLoop_nil allCut_nil
noncomputable def L28_2G {R : Type} (plumblinelaw03_places_l0 : plumblinelaw03_places_l0Y R) (k n : Nat) : LSum R := fun pin T H K => match pin, T, H with
  | 0, [(0, .i .u32 x1), (3, .s x2)], ⟨0, []⟩ => plumblinelaw03_places_l0 k n x1 x2 (fun q2 => K (.exit 0) [(0, .i .u32 x1), (3, .s q2)] ⟨0, []⟩)
  | _, _, _ => none
noncomputable def L28_2 {R : Type} (k n : Nat) : LSum R := L28_2G plumblinelaw03_places_l0 k n
theorem plumblinelaw03_places_l0_gen {R : Type} (plumblinelaw03_digits : plumblinelaw03_digitsY R) (plumblinelaw03_places_l0 : plumblinelaw03_places_l0Y R) (k n : Nat) (x1 : Int) (x2 : ByteArray) (K : Kont R) :
    (fun C => codeK C (run C 4)) (mkCx Ty exts [(19, false, S19G plumblinelaw03_digits k)] fi28 [] []) 0 fi28 (loopAt ((Try.f28).body.getD .skip) 2) [(0, .i .u32 x1), (3, .s x2)] ⟨0, []⟩ (fun ex T H => match (generalizing := false) ex with
      | .normal => normAt (some [0, 3]) 0 T H (fun T H => L28_2G plumblinelaw03_places_l0 k n 0 T H K)
      | ex => exitNorm fi28.ann 2 0 K ex T H) =
    plumblinelaw03_places_l0B k (fun x1 x2 => plumblinelaw03_places_l0 k n x1 x2 (fun q2 => K (.exit 0) [(0, .i .u32 x1), (3, .s q2)] ⟨0, []⟩)) x1 x2 (fun q2 => K (.exit 0) [(0, .i .u32 x1), (3, .s q2)] ⟨0, []⟩) := by kernel_rfl
theorem L28_2_cok {R : Type} (k : Nat) : CodeOk Try.prog (cx28_2 k : Cx R) fi28 (loopAt ((Try.f28).body.getD .skip) 2) := loopAt_ok (((cx28_2_ok k).fns 28 fi28 (by kernel_rfl)).2.2.2 ((Try.f28).body.getD .skip) (by kernel_rfl))
theorem L28_2_ok {R : Type} (k : Nat) : ∀ n, LoopOk Try.prog (Try.f28).ntmps (loopAt ((Try.f28).body.getD .skip) 2) (L28_2 k n : LSum R)
  | 0 => by
    intro pin T H K r h
    unfold L28_2 L28_2G at h
    split at h
    all_goals exact nomatch (show (none : Option R) = some r from h)
  | n + 1 => by
    intro pin T H K r h
    unfold L28_2 L28_2G at h
    split at h
    · obtain ⟨ex, T1, H1, h, hb⟩ := codeK_sound (cx28_2_ok k) (run_sound (cx28_2_ok k) 4) _ fi28 _ _ _ _ _ (L28_2_cok k) ((plumblinelaw03_places_l0_gen plumblinelaw03_digits plumblinelaw03_places_l0 k n _ _ K).trans h)
      exact loop_step (fun T H hh => L28_2_ok k n _ T H K r hh) hb h
    · cases h
noncomputable def cx28 {R : Type} (k : Nat) : Cx R := mkCx Ty exts [(19, false, S19 k)] fi28 [(2, L28_2 k k)] []
theorem cx28_ok {R : Type} (k : Nat) : CxOk Try.prog (cx28 k : Cx R) := mkCx_ok (c := ((Try.f28).body.getD .skip)) ty_ok mixed exts_ok (allSum_cons (S19_ok k) en19 allSum_nil) Try.func28 en28 (by kernel_rfl) (by kernel_rfl) (allLoop_loop (by kernel_rfl) (L28_2_ok k k) allLoop_nil) allCut_nil
@[reducible] def plumblinelaw03_placesY (R : Type) : Type := Nat → Int → (ByteArray → Option R) → Option R
noncomputable def plumblinelaw03_placesT {R : Type} (plumblinelaw03_digits : plumblinelaw03_digitsY R) (plumblinelaw03_places_l0 : plumblinelaw03_places_l0Y R) (k : Nat) (a1 : Int) (K0 : ByteArray → Option R) : Option R :=
  plumblinelaw03_digits k (Wi64 (Int.tmod a1 1000000)) (fun r1 =>
    plumblinelaw03_places_l0 k k a1 r1 (fun r2 =>
      plumblinelaw03_digits k (Wi64 (Wu32 (Int.tdiv a1 1000000))) (fun r3 =>
        cond (Nat.ble (ByteArray.size r3 + ByteArray.size ⟨#[46]⟩) 9223372036854775807) (
          cond (Nat.ble (ByteArray.size (r3 ++ ⟨#[46]⟩) + ByteArray.size r2) 9223372036854775807) (
            K0 ((r3 ++ ⟨#[46]⟩) ++ r2)) (
            none)) (
          none))))
noncomputable def plumblinelaw03_places {R : Type} (k : Nat) (a1 : Int) (K0 : ByteArray → Option R) : Option R := plumblinelaw03_placesT plumblinelaw03_digits plumblinelaw03_places_l0 k a1 K0
theorem plumblinelaw03_places_gen {R : Type} (plumblinelaw03_digits : plumblinelaw03_digitsY R) (plumblinelaw03_places_l0 : plumblinelaw03_places_l0Y R) (k : Nat) (a1 : Int) (K : AV → Heap → Option R) :
    fnK (mkCx Ty exts [(19, false, S19G plumblinelaw03_digits k)] fi28 [(2, L28_2G plumblinelaw03_places_l0 k k)] []) 6 28 [.i .u32 a1] ⟨0, []⟩ K = plumblinelaw03_placesT plumblinelaw03_digits plumblinelaw03_places_l0 k a1 (fun q1 => K (.s q1) ⟨0, []⟩) := by kernel_rfl
noncomputable def S28G {R : Type} (plumblinelaw03_places : plumblinelaw03_placesY R) (k : Nat) : Sum R := fun args H K => match args, H with
  | [.i .u32 a1], ⟨0, []⟩ => plumblinelaw03_places k a1 (fun q1 => K (.s q1) ⟨0, []⟩)
  | _, _ => none
noncomputable def S28 {R : Type} (k : Nat) : Sum R := S28G plumblinelaw03_places k
theorem S28_ok0 {R : Type} (k : Nat) : SumOk Try.prog 28 false (S28 k : Sum R) := by
  intro args H K r h
  unfold S28 S28G at h
  split at h
  · exact fnK_sound (cx28_ok k) 6 28 _ _ K r ((plumblinelaw03_places_gen plumblinelaw03_digits plumblinelaw03_places_l0 k _ K).trans h)
  · cases h
theorem S28_ok {R : Type} (k : Nat) : SumOk Try.prog 28 true (S28 k : Sum R) := by
  refine sumOk_keep (S28_ok0 k) ?_
  intro args H K r h
  unfold S28 S28G at h ⊢
  split at h
  · refine Eq.trans ?_ h
    show plumblinelaw03_places k _ _ = plumblinelaw03_places k _ _
    congr 1
    all_goals first | exact (funext fun q1 => if_pos (keeps_app _ _ _ [])) | skip
  · cases h
end Go.Proofs.Ytelifkahdhhmoaa.N
