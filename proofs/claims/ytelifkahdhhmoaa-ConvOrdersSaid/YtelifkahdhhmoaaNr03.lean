/- Printed by wip/gen/emit.py: functions of the program as plain Lean functions, tied to the model by the evaluator. Conditions: none. -/
import Derived.Test.YtelifkahdhhmoaaNr02
namespace Go.Proofs.Ytelifkahdhhmoaa.N
set_option linter.unusedVariables false
set_option maxRecDepth 100000
open Go Go.Ab
-- function 67: plumbline/plumblineref03.value
noncomputable def fi67 : FnI := ⟨67, Try.f67, []⟩
theorem en67 : Enters Try.prog 67 := enters_of Try.func67 (c := ((Try.f67).body.getD .skip)) (by kernel_rfl) (by kernel_rfl)
noncomputable def cx67 {R : Type} (k : Nat) : Cx R := mkCx Ty exts [(71, true, S71 k)] fi67 [] []
theorem cx67_ok {R : Type} (k : Nat) : CxOk Try.prog (cx67 k : Cx R) := mkCx_ok (c := ((Try.f67).body.getD .skip)) ty_ok mixed exts_ok (allSum_cons (S71_ok k) en71 allSum_nil) Try.func67 en67 (by kernel_rfl) (by kernel_rfl) allLoop_nil allCut_nil
@[reducible] def plumblineref03_valueY (R : Type) : Type := Nat → Int → Int → (Int → Int → Option R) → Option R
noncomputable def plumblineref03_valueT {R : Type} (plumblineref02_Size : plumblineref02_SizeY R) (k : Nat) (a1 : Int) (a2 : Int) (K0 : Int → Int → Option R) : Option R :=
  plumblineref02_Size k a1 (fun r1 r2 r3 =>
    cond (decide (r1 < 0)) (
      none) (
      cond (decide (r2 < 0)) (
        none) (
        cond (decide (r1 < 0)) (
          none) (
          cond ((bAnd .u64 (shr .u64 a2 r1) (Wu64 ((shl .u64 1 r2) - 1))) == 0) (
            K0 (bAnd .u64 a2 (Wu64 ((shl .u64 1 r1) - 1))) r3) (
            cond (decide (r1 < 0)) (
              none) (
              K0 (bOr .u64 (bAnd .u64 a2 (Wu64 ((shl .u64 1 r1) - 1))) (shl .u64 1 r1)) (Wi64 ((Wi64 ((Wi64 (bAnd .u64 (shr .u64 a2 r1) (Wu64 ((shl .u64 1 r2) - 1)))) - 1)) + r3))))))))
noncomputable def plumblineref03_value {R : Type} (k : Nat) (a1 : Int) (a2 : Int) (K0 : Int → Int → Option R) : Option R := plumblineref03_valueT plumblineref02_Size k a1 a2 K0
theorem plumblineref03_value_gen {R : Type} (plumblineref02_Size : plumblineref02_SizeY R) (k : Nat) (a1 : Int) (a2 : Int) (K : AV → Heap → Option R) :
    fnK (mkCx Ty exts [(71, true, S71G plumblineref02_Size k)] fi67 [] []) 6 67 [.i .i64 a1, .i .u64 a2] ⟨0, []⟩ K = plumblineref03_valueT plumblineref02_Size k a1 a2 (fun q1 q2 => K (.tup [.i .u64 q1, .i .i64 q2]) ⟨0, []⟩) := by kernel_rfl
noncomputable def S67G {R : Type} (plumblineref03_value : plumblineref03_valueY R) (k : Nat) : Sum R := fun args H K => match args, H with
  | [.i .i64 a1, .i .u64 a2], ⟨0, []⟩ => plumblineref03_value k a1 a2 (fun q1 q2 => K (.tup [.i .u64 q1, .i .i64 q2]) ⟨0, []⟩)
  | _, _ => none
noncomputable def S67 {R : Type} (k : Nat) : Sum R := S67G plumblineref03_value k
theorem S67_ok0 {R : Type} (k : Nat) : SumOk Try.prog 67 false (S67 k : Sum R) := by
  intro args H K r h
  unfold S67 S67G at h
  split at h
  · exact fnK_sound (cx67_ok k) 6 67 _ _ K r ((plumblineref03_value_gen plumblineref02_Size k _ _ K).trans h)
  · cases h
theorem S67_ok {R : Type} (k : Nat) : SumOk Try.prog 67 true (S67 k : Sum R) := by
  refine sumOk_keep (S67_ok0 k) ?_
  intro args H K r h
  unfold S67 S67G at h ⊢
  split at h
  · refine Eq.trans ?_ h
    show plumblineref03_value k _ _ _ = plumblineref03_value k _ _ _
    congr 1
    all_goals first | exact (funext fun q1 => funext fun q2 => if_pos (keeps_app _ _ _ [])) | skip
  · cases h
-- function 51: plumbline/plumblineref03.bits
noncomputable def fi51 : FnI := ⟨51, Try.f51, [(100002, [0, 3]), (3002000, [3])]⟩
theorem en51 : Enters Try.prog 51 := enters_of Try.func51 (c := ((Try.f51).body.getD .skip)) (by kernel_rfl) (by kernel_rfl)
@[reducible] def plumblineref03_bits_l0Y (R : Type) : Type := Nat → Nat → Int → (List Bool) → ((List Bool) → Option R) → Option R
noncomputable def plumblineref03_bits_l0B {R : Type} (k : Nat) (rec : Int → (List Bool) → Option R) (x1 : Int) (x2 : List Bool) (K0 : (List Bool) → Option R) : Option R :=
  cond (decide (x1 > 0)) (
    cond (Nat.ble (((List.length x2) + 1) * 1) 70368744177664) (
      rec (Wu64 (Int.tdiv x1 2)) (x2 ++ [((Int.tmod x1 2) == 1)])) (
      none)) (
    K0 x2)
noncomputable def plumblineref03_bits_l0 {R : Type} (k : Nat) : Nat → Int → (List Bool) → ((List Bool) → Option R) → Option R
  | 0, _, _, _ => none
  | n + 1, x1, x2, K0 => plumblineref03_bits_l0B k (fun x1 x2 => plumblineref03_bits_l0 k n x1 x2 K0) x1 x2 K0
@[reducible] def plumblineref03_bits_l1Y (R : Type) : Type := Nat → Nat → Int → ((List Bool) → Option R) → (Option R) → Option R
noncomputable def plumblineref03_bits_l1B {R : Type} (k : Nat) (rec : Int → Option R) (o_plumblineref03_bits_l0 : Int → (List Bool) → ((List Bool) → Option R) → Option R) (x1 : Int) (K0 : (List Bool) → Option R) (K1 : Option R) : Option R :=
  cond (decide (x1 > 0)) (
    o_plumblineref03_bits_l0 (Wu64 (Int.tdiv x1 2)) [((Int.tmod x1 2) == 1)] (fun yr1 =>
      K0 yr1)) (
    K1)
noncomputable def plumblineref03_bits_l1 {R : Type} (k : Nat) : Nat → Int → ((List Bool) → Option R) → (Option R) → Option R
  | 0, _, _, _ => none
  | n + 1, x1, K0, K1 => plumblineref03_bits_l1B k (fun x1 => plumblineref03_bits_l1 k n x1 K0 K1) (plumblineref03_bits_l0 k n) x1 K0 K1
noncomputable def cx51_2 {R : Type} (k : Nat) : Cx R := mkCx Ty exts [] fi51 [] []
theorem cx51_2_ok {R : Type} (k : Nat) : CxOk Try.prog (cx51_2 k : Cx R) := mkCx_ok (c := ((Try.f51).body.getD .skip)) ty_ok mixed exts_ok allSum_nil Try.func51 en51 (by kernel_rfl) (by kernel_rfl) allLoop_nil allCut_nil
noncomputable def L51_2G {R : Type} (plumblineref03_bits_l0 : plumblineref03_bits_l0Y R) (plumblineref03_bits_l1 : plumblineref03_bits_l1Y R) (k n : Nat) : LSum R := fun pin T H K => match pin, T, H with
  | 0, [(0, .i .u64 x1), (3, .sw 0)], ⟨1, [(0, some ⟨0, false, .row [.b] x2⟩)]⟩ => plumblineref03_bits_l0 k n x1 x2 (fun q1 => K (.exit 0) [(3, .sw 0)] ⟨1, [(0, some ⟨0, false, .row [.b] q1⟩)]⟩)
  | 0, [(0, .i .u64 x1), (3, .nsl)], ⟨0, []⟩ => plumblineref03_bits_l1 k n x1 (fun q1 => K (.exit 0) [(3, .sw 0)] ⟨1, [(0, some ⟨0, false, .row [.b] q1⟩)]⟩) (K (.exit 0) [(3, .nsl)] ⟨0, []⟩)
  | _, _, _ => none
noncomputable def L51_2 {R : Type} (k n : Nat) : LSum R := L51_2G plumblineref03_bits_l0 plumblineref03_bits_l1 k n
theorem plumblineref03_bits_l0_gen {R : Type} (plumblineref03_bits_l0 : plumblineref03_bits_l0Y R) (plumblineref03_bits_l1 : plumblineref03_bits_l1Y R) (k n : Nat) (x1 : Int) (x2 : List Bool) (K : Kont R) :
    (fun C => codeK C (run C 4)) (mkCx Ty exts [] fi51 [] []) 0 fi51 (loopAt ((Try.f51).body.getD .skip) 2) [(0, .i .u64 x1), (3, .sw 0)] ⟨1, [(0, some ⟨0, false, .row [.b] x2⟩)]⟩ (fun ex T H => match (generalizing := false) ex with
      | .normal => normAt (some [0, 3]) 0 T H (fun T H => L51_2G plumblineref03_bits_l0 plumblineref03_bits_l1 k n 0 T H K)
      | ex => exitNorm fi51.ann 2 0 K ex T H) =
    plumblineref03_bits_l0B k (fun x1 x2 => plumblineref03_bits_l0 k n x1 x2 (fun q1 => K (.exit 0) [(3, .sw 0)] ⟨1, [(0, some ⟨0, false, .row [.b] q1⟩)]⟩)) x1 x2 (fun q1 => K (.exit 0) [(3, .sw 0)] ⟨1, [(0, some ⟨0, false, .row [.b] q1⟩)]⟩) := by kernel_rfl
theorem plumblineref03_bits_l1_gen {R : Type} (plumblineref03_bits_l0 : plumblineref03_bits_l0Y R) (plumblineref03_bits_l1 : plumblineref03_bits_l1Y R) (k n : Nat) (x1 : Int) (K : Kont R) :
    (fun C => codeK C (run C 4)) (mkCx Ty exts [] fi51 [] []) 0 fi51 (loopAt ((Try.f51).body.getD .skip) 2) [(0, .i .u64 x1), (3, .nsl)] ⟨0, []⟩ (fun ex T H => match (generalizing := false) ex with
      | .normal => normAt (some [0, 3]) 0 T H (fun T H => L51_2G plumblineref03_bits_l0 plumblineref03_bits_l1 k n 0 T H K)
      | ex => exitNorm fi51.ann 2 0 K ex T H) =
    plumblineref03_bits_l1B k (fun x1 => plumblineref03_bits_l1 k n x1 (fun q1 => K (.exit 0) [(3, .sw 0)] ⟨1, [(0, some ⟨0, false, .row [.b] q1⟩)]⟩) (K (.exit 0) [(3, .nsl)] ⟨0, []⟩)) (plumblineref03_bits_l0 k n) x1 (fun q1 => K (.exit 0) [(3, .sw 0)] ⟨1, [(0, some ⟨0, false, .row [.b] q1⟩)]⟩) (K (.exit 0) [(3, .nsl)] ⟨0, []⟩) := by kernel_rfl
theorem L51_2_cok {R : Type} (k : Nat) : CodeOk Try.prog (cx51_2 k : Cx R) fi51 (loopAt ((Try.f51).body.getD .skip) 2) := loopAt_ok (((cx51_2_ok k).fns 51 fi51 (by kernel_rfl)).2.2.2 ((Try.f51).body.getD .skip) (by kernel_rfl))
theorem L51_2_ok {R : Type} (k : Nat) : ∀ n, LoopOk Try.prog (Try.f51).ntmps (loopAt ((Try.f51).body.getD .skip) 2) (L51_2 k n : LSum R)
  | 0 => by
    intro pin T H K r h
    unfold L51_2 L51_2G at h
    split at h
    all_goals exact nomatch (show (none : Option R) = some r from h)
  | n + 1 => by
    intro pin T H K r h
    unfold L51_2 L51_2G at h
    split at h
    · obtain ⟨ex, T1, H1, h, hb⟩ := codeK_sound (cx51_2_ok k) (run_sound (cx51_2_ok k) 4) _ fi51 _ _ _ _ _ (L51_2_cok k) ((plumblineref03_bits_l0_gen plumblineref03_bits_l0 plumblineref03_bits_l1 k n _ _ K).trans h)
      exact loop_step (fun T H hh => L51_2_ok k n _ T H K r hh) hb h
    · obtain ⟨ex, T1, H1, h, hb⟩ := codeK_sound (cx51_2_ok k) (run_sound (cx51_2_ok k) 4) _ fi51 _ _ _ _ _ (L51_2_cok k) ((plumblineref03_bits_l1_gen plumblineref03_bits_l0 plumblineref03_bits_l1 k n _ K).trans h)
      exact loop_step (fun T H hh => L51_2_ok k n _ T H K r hh) hb h
    · cases h
noncomputable def cx51 {R : Type} (k : Nat) : Cx R := mkCx Ty exts [] fi51 [(2, L51_2 k k)] []
theorem cx51_ok {R : Type} (k : Nat) : CxOk Try.prog (cx51 k : Cx R) := mkCx_ok (c := ((Try.f51).body.getD .skip)) ty_ok mixed exts_ok allSum_nil Try.func51 en51 (by kernel_rfl) (by kernel_rfl) (allLoop_loop (by kernel_rfl) (L51_2_ok k k) allLoop_nil) allCut_nil
@[reducible] def plumblineref03_bitsY (R : Type) : Type := Nat → Int → ((List Bool) → Option R) → (Option R) → Option R
noncomputable def plumblineref03_bitsT {R : Type} (plumblineref03_bits_l1 : plumblineref03_bits_l1Y R) (k : Nat) (a1 : Int) (K0 : (List Bool) → Option R) (K1 : Option R) : Option R :=
  plumblineref03_bits_l1 k k a1 (fun r1 =>
    K0 r1) (
    K1)
noncomputable def plumblineref03_bits {R : Type} (k : Nat) (a1 : Int) (K0 : (List Bool) → Option R) (K1 : Option R) : Option R := plumblineref03_bitsT plumblineref03_bits_l1 k a1 K0 K1
theorem plumblineref03_bits_gen {R : Type} (plumblineref03_bits_l0 : plumblineref03_bits_l0Y R) (plumblineref03_bits_l1 : plumblineref03_bits_l1Y R) (k : Nat) (a1 : Int) (K : AV → Heap → Option R) :
    fnK (mkCx Ty exts [] fi51 [(2, L51_2G plumblineref03_bits_l0 plumblineref03_bits_l1 k k)] []) 6 51 [.i .u64 a1] ⟨0, []⟩ K = plumblineref03_bitsT plumblineref03_bits_l1 k a1 (fun q1 => K (.sw 0) ⟨1, [(0, some ⟨0, false, .row [.b] q1⟩)]⟩) (K .nsl ⟨0, []⟩) := by kernel_rfl
noncomputable def S51G {R : Type} (plumblineref03_bits : plumblineref03_bitsY R) (k : Nat) : Sum R := fun args H K => match args, H with
  | [.i .u64 a1], ⟨0, []⟩ => plumblineref03_bits k a1 (fun q1 => K (.sw 0) ⟨1, [(0, some ⟨0, false, .row [.b] q1⟩)]⟩) (K .nsl ⟨0, []⟩)
  | _, _ => none
noncomputable def S51 {R : Type} (k : Nat) : Sum R := S51G plumblineref03_bits k
theorem S51_ok0 {R : Type} (k : Nat) : SumOk Try.prog 51 false (S51 k : Sum R) := by
  intro args H K r h
  unfold S51 S51G at h
  split at h
  · exact fnK_sound (cx51_ok k) 6 51 _ _ K r ((plumblineref03_bits_gen plumblineref03_bits_l0 plumblineref03_bits_l1 k _ K).trans h)
  · cases h
theorem S51_ok {R : Type} (k : Nat) : SumOk Try.prog 51 true (S51 k : Sum R) := by
  refine sumOk_keep (S51_ok0 k) ?_
  intro args H K r h
  unfold S51 S51G at h ⊢
  split at h
  · refine Eq.trans ?_ h
    show plumblineref03_bits k _ _ _ = plumblineref03_bits k _ _ _
    congr 1
    all_goals first | exact (funext fun q1 => if_pos (keeps_app _ _ _ [(0, some ⟨0, false, .row [.b] q1⟩)])) | skip
    all_goals first | exact (if_pos (keeps_app _ _ _ [])) | skip
  · cases h
-- function 64: plumbline/plumblineref03.turned
noncomputable def fi64 : FnI := ⟨64, Try.f64, []⟩
theorem en64 : Enters Try.prog 64 := enters_of Try.func64 (c := ((Try.f64).body.getD .skip)) (by kernel_rfl) (by kernel_rfl)
noncomputable def cx64 {R : Type} (k : Nat) : Cx R := mkCx Ty exts [(40, true, S40 k), (51, true, S51 k), (52, true, S52 k), (55, true, S55 k), (57, true, S57 k), (67, true, S67 k), (78, true, S78 k)] fi64 [] []
theorem cx64_ok {R : Type} (k : Nat) : CxOk Try.prog (cx64 k : Cx R) := mkCx_ok (c := ((Try.f64).body.getD .skip)) ty_ok mixed exts_ok (allSum_cons (S40_ok k) en40 (allSum_cons (S51_ok k) en51 (allSum_cons (S52_ok k) en52 (allSum_cons (S55_ok k) en55 (allSum_cons (S57_ok k) en57 (allSum_cons (S67_ok k) en67 (allSum_cons (S78_ok k) en78 allSum_nil))))))) Try.func64 en64 (by kernel_rfl) (by kernel_rfl) allLoop_nil allCut_nil
@[reducible] def plumblineref03_turnedY (R : Type) : Type := Nat → Int → Int → Int → Int → (Int → Option R) → Option R
noncomputable def plumblineref03_turnedT {R : Type} (plumblineref02_Below : plumblineref02_BelowY R) (plumblineref02_Class : plumblineref02_ClassY R) (plumblineref02_Inf : plumblineref02_InfY R) (plumblineref02_Nan : plumblineref02_NanY R) (plumblineref02_Rounded : plumblineref02_RoundedY R) (plumblineref02_Rounded_n3 : plumblineref02_Rounded_n3Y R) (plumblineref03_bits : plumblineref03_bitsY R) (plumblineref03_value : plumblineref03_valueY R) (k : Nat) (a1 : Int) (a2 : Int) (a3 : Int) (a4 : Int) (K0 : Int → Option R) : Option R :=
  plumblineref02_Class k a1 a4 (fun r1 =>
    cond (r1 == 0) (
      plumblineref02_Nan k a2 (fun r2 =>
        K0 r2)) (
      cond (r1 == 5) (
        plumblineref02_Nan k a2 (fun r3 =>
          K0 r3)) (
        cond (r1 == 4) (
          plumblineref02_Below k a1 a4 (fun r4 =>
            plumblineref02_Inf k a2 r4 (fun r5 =>
              K0 r5))) (
          plumblineref03_value k a1 a4 (fun r6 r7 =>
            plumblineref02_Below k a1 a4 (fun r8 =>
              plumblineref03_bits k r6 (fun r9 =>
                plumblineref02_Rounded k a2 a3 r8 r7 r9 (fun r10 =>
                  K0 r10)) (
                plumblineref02_Rounded_n3 k a2 a3 r8 r7 (fun r11 =>
                  K0 r11))))))))
noncomputable def plumblineref03_turned {R : Type} (k : Nat) (a1 : Int) (a2 : Int) (a3 : Int) (a4 : Int) (K0 : Int → Option R) : Option R := plumblineref03_turnedT plumblineref02_Below plumblineref02_Class plumblineref02_Inf plumblineref02_Nan plumblineref02_Rounded plumblineref02_Rounded_n3 plumblineref03_bits plumblineref03_value k a1 a2 a3 a4 K0
theorem plumblineref03_turned_gen {R : Type} (plumblineref02_Class : plumblineref02_ClassY R) (plumblineref03_bits : plumblineref03_bitsY R) (plumblineref02_Rounded : plumblineref02_RoundedY R) (plumblineref02_Rounded_n3 : plumblineref02_Rounded_n3Y R) (plumblineref02_Nan : plumblineref02_NanY R) (plumblineref02_Below : plumblineref02_BelowY R) (plumblineref03_value : plumblineref03_valueY R) (plumblineref02_Inf : plumblineref02_InfY R) (k : Nat) (a1 : Int) (a2 : Int) (a3 : Int) (a4 : Int) (K : AV → Heap → Option R) :
    fnK (mkCx Ty exts [(40, true, S40G plumblineref02_Class k), (51, true, S51G plumblineref03_bits k), (52, true, S52G plumblineref02_Rounded plumblineref02_Rounded_n3 k), (55, true, S55G plumblineref02_Nan k), (57, true, S57G plumblineref02_Below k), (67, true, S67G plumblineref03_value k), (78, true, S78G plumblineref02_Inf k)] fi64 [] []) 6 64 [.i .i64 a1, .i .i64 a2, .i .i64 a3, .i .u64 a4] ⟨0, []⟩ K = plumblineref03_turnedT plumblineref02_Below plumblineref02_Class plumblineref02_Inf plumblineref02_Nan plumblineref02_Rounded plumblineref02_Rounded_n3 plumblineref03_bits plumblineref03_value k a1 a2 a3 a4 (fun q1 => K (.i .u64 q1) ⟨0, []⟩) := by kernel_rfl
noncomputable def S64G {R : Type} (plumblineref03_turned : plumblineref03_turnedY R) (k : Nat) : Sum R := fun args H K => match args, H with
  | [.i .i64 a1, .i .i64 a2, .i .i64 a3, .i .u64 a4], ⟨0, []⟩ => plumblineref03_turned k a1 a2 a3 a4 (fun q1 => K (.i .u64 q1) ⟨0, []⟩)
  | _, _ => none
noncomputable def S64 {R : Type} (k : Nat) : Sum R := S64G plumblineref03_turned k
theorem S64_ok0 {R : Type} (k : Nat) : SumOk Try.prog 64 false (S64 k : Sum R) := by
  intro args H K r h
  unfold S64 S64G at h
  split at h
  · exact fnK_sound (cx64_ok k) 6 64 _ _ K r ((plumblineref03_turned_gen plumblineref02_Class plumblineref03_bits plumblineref02_Rounded plumblineref02_Rounded_n3 plumblineref02_Nan plumblineref02_Below plumblineref03_value plumblineref02_Inf k _ _ _ _ K).trans h)
  · cases h
theorem S64_ok {R : Type} (k : Nat) : SumOk Try.prog 64 true (S64 k : Sum R) := by
  refine sumOk_keep (S64_ok0 k) ?_
  intro args H K r h
  unfold S64 S64G at h ⊢
  split at h
  · refine Eq.trans ?_ h
    show plumblineref03_turned k _ _ _ _ _ = plumblineref03_turned k _ _ _ _ _
    congr 1
    all_goals first | exact (funext fun q1 => if_pos (keeps_app _ _ _ [])) | skip
  · cases h
-- function 31: plumbline/plumblineref03.Widen
noncomputable def fi31 : FnI := ⟨31, Try.f31, []⟩
theorem en31 : Enters Try.prog 31 := enters_of Try.func31 (c := ((Try.f31).body.getD .skip)) (by kernel_rfl) (by kernel_rfl)
noncomputable def cx31 {R : Type} (k : Nat) : Cx R := mkCx Ty exts [(64, true, S64 k)] fi31 [] []
theorem cx31_ok {R : Type} (k : Nat) : CxOk Try.prog (cx31 k : Cx R) := mkCx_ok (c := ((Try.f31).body.getD .skip)) ty_ok mixed exts_ok (allSum_cons (S64_ok k) en64 allSum_nil) Try.func31 en31 (by kernel_rfl) (by kernel_rfl) allLoop_nil allCut_nil
@[reducible] def plumblineref03_WidenY (R : Type) : Type := Nat → Int → (Int → Option R) → Option R
noncomputable def plumblineref03_WidenT {R : Type} (plumblineref03_turned : plumblineref03_turnedY R) (k : Nat) (a1 : Int) (K0 : Int → Option R) : Option R :=
  plumblineref03_turned k 1 0 0 a1 (fun r1 =>
    K0 r1)
noncomputable def plumblineref03_Widen {R : Type} (k : Nat) (a1 : Int) (K0 : Int → Option R) : Option R := plumblineref03_WidenT plumblineref03_turned k a1 K0
theorem plumblineref03_Widen_gen {R : Type} (plumblineref03_turned : plumblineref03_turnedY R) (k : Nat) (a1 : Int) (K : AV → Heap → Option R) :
    fnK (mkCx Ty exts [(64, true, S64G plumblineref03_turned k)] fi31 [] []) 6 31 [.i .u64 a1] ⟨0, []⟩ K = plumblineref03_WidenT plumblineref03_turned k a1 (fun q1 => K (.i .u64 q1) ⟨0, []⟩) := by kernel_rfl
noncomputable def S31G {R : Type} (plumblineref03_Widen : plumblineref03_WidenY R) (k : Nat) : Sum R := fun args H K => match args, H with
  | [.i .u64 a1], ⟨0, []⟩ => plumblineref03_Widen k a1 (fun q1 => K (.i .u64 q1) ⟨0, []⟩)
  | _, _ => none
noncomputable def S31 {R : Type} (k : Nat) : Sum R := S31G plumblineref03_Widen k
theorem S31_ok0 {R : Type} (k : Nat) : SumOk Try.prog 31 false (S31 k : Sum R) := by
  intro args H K r h
  unfold S31 S31G at h
  split at h
  · exact fnK_sound (cx31_ok k) 6 31 _ _ K r ((plumblineref03_Widen_gen plumblineref03_turned k _ K).trans h)
  · cases h
theorem S31_ok {R : Type} (k : Nat) : SumOk Try.prog 31 true (S31 k : Sum R) := by
  refine sumOk_keep (S31_ok0 k) ?_
  intro args H K r h
  unfold S31 S31G at h ⊢
  split at h
  · refine Eq.trans ?_ h
    show plumblineref03_Widen k _ _ = plumblineref03_Widen k _ _
    congr 1
    all_goals first | exact (funext fun q1 => if_pos (keeps_app _ _ _ [])) | skip
  · cases h
-- function 33: plumbline/plumblineref03.Narrow
noncomputable def fi33 : FnI := ⟨33, Try.f33, []⟩
theorem en33 : Enters Try.prog 33 := enters_of Try.func33 (c := ((Try.f33).body.getD .skip)) (by kernel_rfl) (by kernel_rfl)
noncomputable def cx33 {R : Type} (k : Nat) : Cx R := mkCx Ty exts [(64, true, S64 k)] fi33 [] []
theorem cx33_ok {R : Type} (k : Nat) : CxOk Try.prog (cx33 k : Cx R) := mkCx_ok (c := ((Try.f33).body.getD .skip)) ty_ok mixed exts_ok (allSum_cons (S64_ok k) en64 allSum_nil) Try.func33 en33 (by kernel_rfl) (by kernel_rfl) allLoop_nil allCut_nil
@[reducible] def plumblineref03_NarrowY (R : Type) : Type := Nat → Int → Int → (Int → Option R) → Option R
noncomputable def plumblineref03_NarrowT {R : Type} (plumblineref03_turned : plumblineref03_turnedY R) (k : Nat) (a1 : Int) (a2 : Int) (K0 : Int → Option R) : Option R :=
  plumblineref03_turned k 0 1 a1 a2 (fun r1 =>
    K0 r1)
noncomputable def plumblineref03_Narrow {R : Type} (k : Nat) (a1 : Int) (a2 : Int) (K0 : Int → Option R) : Option R := plumblineref03_NarrowT plumblineref03_turned k a1 a2 K0
theorem plumblineref03_Narrow_gen {R : Type} (plumblineref03_turned : plumblineref03_turnedY R) (k : Nat) (a1 : Int) (a2 : Int) (K : AV → Heap → Option R) :
    fnK (mkCx Ty exts [(64, true, S64G plumblineref03_turned k)] fi33 [] []) 6 33 [.i .i64 a1, .i .u64 a2] ⟨0, []⟩ K = plumblineref03_NarrowT plumblineref03_turned k a1 a2 (fun q1 => K (.i .u64 q1) ⟨0, []⟩) := by kernel_rfl
noncomputable def S33G {R : Type} (plumblineref03_Narrow : plumblineref03_NarrowY R) (k : Nat) : Sum R := fun args H K => match args, H with
  | [.i .i64 a1, .i .u64 a2], ⟨0, []⟩ => plumblineref03_Narrow k a1 a2 (fun q1 => K (.i .u64 q1) ⟨0, []⟩)
  | _, _ => none
noncomputable def S33 {R : Type} (k : Nat) : Sum R := S33G plumblineref03_Narrow k
theorem S33_ok0 {R : Type} (k : Nat) : SumOk Try.prog 33 false (S33 k : Sum R) := by
  intro args H K r h
  unfold S33 S33G at h
  split at h
  · exact fnK_sound (cx33_ok k) 6 33 _ _ K r ((plumblineref03_Narrow_gen plumblineref03_turned k _ _ K).trans h)
  · cases h
theorem S33_ok {R : Type} (k : Nat) : SumOk Try.prog 33 true (S33 k : Sum R) := by
  refine sumOk_keep (S33_ok0 k) ?_
  intro args H K r h
  unfold S33 S33G at h ⊢
  split at h
  · refine Eq.trans ?_ h
    show plumblineref03_Narrow k _ _ _ = plumblineref03_Narrow k _ _ _
    congr 1
    all_goals first | exact (funext fun q1 => if_pos (keeps_app _ _ _ [])) | skip
  · cases h
-- function 35: plumbline/plumblineref03.ToInt
noncomputable def fi35 : FnI := ⟨35, Try.f35, [(100004, [0, 1, 6, 7]), (100007, [0, 1, 6, 7]), (3004000, [0, 1, 6, 7]), (3007002, [0, 1, 6, 7])]⟩
theorem en35 : Enters Try.prog 35 := enters_of Try.func35 (c := ((Try.f35).body.getD .skip)) (by kernel_rfl) (by kernel_rfl)
@[reducible] def plumblineref03_ToInt_l0Y (R : Type) : Type := Nat → Nat → Int → Int → Int → Int → (Int → Int → Option R) → Option R
noncomputable def plumblineref03_ToInt_l0B {R : Type} (k : Nat) (rec : Int → Int → Int → Int → Option R) (x1 : Int) (x2 : Int) (x3 : Int) (x4 : Int) (K0 : Int → Int → Option R) : Option R :=
  cond (decide (x4 > 0)) (
    cond (decide (x3 < 1099511627776)) (
      rec x1 x2 (Wu64 (x3 * 2)) (Wi64 (x4 - 1))) (
      K0 x3 x4)) (
    K0 x3 x4)
noncomputable def plumblineref03_ToInt_l0 {R : Type} (k : Nat) : Nat → Int → Int → Int → Int → (Int → Int → Option R) → Option R
  | 0, _, _, _, _, _ => none
  | n + 1, x1, x2, x3, x4, K0 => plumblineref03_ToInt_l0B k (fun x1 x2 x3 x4 => plumblineref03_ToInt_l0 k n x1 x2 x3 x4 K0) x1 x2 x3 x4 K0
noncomputable def cx35_4 {R : Type} (k : Nat) : Cx R := mkCx Ty exts [(54, true, S54 k), (57, true, S57 k), (67, true, S67 k)] fi35 [] []
theorem cx35_4_ok {R : Type} (k : Nat) : CxOk Try.prog (cx35_4 k : Cx R) := mkCx_ok (c := ((Try.f35).body.getD .skip)) ty_ok mixed exts_ok (allSum_cons (S54_ok k) en54 (allSum_cons (S57_ok k) en57 (allSum_cons (S67_ok k) en67 allSum_nil))) Try.func35 en35 (by kernel_rfl) (by kernel_rfl) allLoop_nil allCut_nil
noncomputable def L35_4G {R : Type} (plumblineref03_ToInt_l0 : plumblineref03_ToInt_l0Y R) (k n : Nat) : LSum R := fun pin T H K => match pin, T, H with
  | 0, [(0, .i .i64 x1), (1, .i .u64 x2), (6, .i .u64 x3), (7, .i .i64 x4)], ⟨0, []⟩ => plumblineref03_ToInt_l0 k n x1 x2 x3 x4 (fun q3 q4 => K (.exit 0) [(0, .i .i64 x1), (1, .i .u64 x2), (6, .i .u64 q3), (7, .i .i64 q4)] ⟨0, []⟩)
  | _, _, _ => none
noncomputable def L35_4 {R : Type} (k n : Nat) : LSum R := L35_4G plumblineref03_ToInt_l0 k n
theorem plumblineref03_ToInt_l0_gen {R : Type} (plumblineref02_Finite : plumblineref02_FiniteY R) (plumblineref02_Below : plumblineref02_BelowY R) (plumblineref03_value : plumblineref03_valueY R) (plumblineref03_ToInt_l0 : plumblineref03_ToInt_l0Y R) (k n : Nat) (x1 : Int) (x2 : Int) (x3 : Int) (x4 : Int) (K : Kont R) :
    (fun C => codeK C (run C 4)) (mkCx Ty exts [(54, true, S54G plumblineref02_Finite k), (57, true, S57G plumblineref02_Below k), (67, true, S67G plumblineref03_value k)] fi35 [] []) 0 fi35 (loopAt ((Try.f35).body.getD .skip) 4) [(0, .i .i64 x1), (1, .i .u64 x2), (6, .i .u64 x3), (7, .i .i64 x4)] ⟨0, []⟩ (fun ex T H => match (generalizing := false) ex with
      | .normal => normAt (some [0, 1, 6, 7]) 0 T H (fun T H => L35_4G plumblineref03_ToInt_l0 k n 0 T H K)
      | ex => exitNorm fi35.ann 4 0 K ex T H) =
    plumblineref03_ToInt_l0B k (fun x1 x2 x3 x4 => plumblineref03_ToInt_l0 k n x1 x2 x3 x4 (fun q3 q4 => K (.exit 0) [(0, .i .i64 x1), (1, .i .u64 x2), (6, .i .u64 q3), (7, .i .i64 q4)] ⟨0, []⟩)) x1 x2 x3 x4 (fun q3 q4 => K (.exit 0) [(0, .i .i64 x1), (1, .i .u64 x2), (6, .i .u64 q3), (7, .i .i64 q4)] ⟨0, []⟩) := by kernel_rfl
theorem L35_4_cok {R : Type} (k : Nat) : CodeOk Try.prog (cx35_4 k : Cx R) fi35 (loopAt ((Try.f35).body.getD .skip) 4) := loopAt_ok (((cx35_4_ok k).fns 35 fi35 (by kernel_rfl)).2.2.2 ((Try.f35).body.getD .skip) (by kernel_rfl))
theorem L35_4_ok {R : Type} (k : Nat) : ∀ n, LoopOk Try.prog (Try.f35).ntmps (loopAt ((Try.f35).body.getD .skip) 4) (L35_4 k n : LSum R)
  | 0 => by
    intro pin T H K r h
    unfold L35_4 L35_4G at h
    split at h
    all_goals exact nomatch (show (none : Option R) = some r from h)
  | n + 1 => by
    intro pin T H K r h
    unfold L35_4 L35_4G at h
    split at h
    · obtain ⟨ex, T1, H1, h, hb⟩ := codeK_sound (cx35_4_ok k) (run_sound (cx35_4_ok k) 4) _ fi35 _ _ _ _ _ (L35_4_cok k) ((plumblineref03_ToInt_l0_gen plumblineref02_Finite plumblineref02_Below plumblineref03_value plumblineref03_ToInt_l0 k n _ _ _ _ K).trans h)
      exact loop_step (fun T H hh => L35_4_ok k n _ T H K r hh) hb h
    · cases h
@[reducible] def plumblineref03_ToInt_l1Y (R : Type) : Type := Nat → Nat → Int → Int → Int → Int → (Int → Int → Option R) → Option R
noncomputable def plumblineref03_ToInt_l1B {R : Type} (k : Nat) (rec : Int → Int → Int → Int → Option R) (x1 : Int) (x2 : Int) (x3 : Int) (x4 : Int) (K0 : Int → Int → Option R) : Option R :=
  cond (decide (x4 < 0)) (
    rec x1 x2 (Wu64 (Int.tdiv x3 2)) (Wi64 (x4 + 1))) (
    K0 x3 x4)
noncomputable def plumblineref03_ToInt_l1 {R : Type} (k : Nat) : Nat → Int → Int → Int → Int → (Int → Int → Option R) → Option R
  | 0, _, _, _, _, _ => none
  | n + 1, x1, x2, x3, x4, K0 => plumblineref03_ToInt_l1B k (fun x1 x2 x3 x4 => plumblineref03_ToInt_l1 k n x1 x2 x3 x4 K0) x1 x2 x3 x4 K0
noncomputable def cx35_7 {R : Type} (k : Nat) : Cx R := mkCx Ty exts [(54, true, S54 k), (57, true, S57 k), (67, true, S67 k)] fi35 [(4, L35_4 k k)] []
theorem cx35_7_ok {R : Type} (k : Nat) : CxOk Try.prog (cx35_7 k : Cx R) := mkCx_ok (c := ((Try.f35).body.getD .skip)) ty_ok mixed exts_ok (allSum_cons (S54_ok k) en54 (allSum_cons (S57_ok k) en57 (allSum_cons (S67_ok k) en67 allSum_nil))) Try.func35 en35 (by kernel_rfl) (by kernel_rfl) (allLoop_loop (by kernel_rfl) (L35_4_ok k k) allLoop_nil) allCut_nil
noncomputable def L35_7G {R : Type} (plumblineref03_ToInt_l1 : plumblineref03_ToInt_l1Y R) (k n : Nat) : LSum R := fun pin T H K => match pin, T, H with
  | 0, [(0, .i .i64 x1), (1, .i .u64 x2), (6, .i .u64 x3), (7, .i .i64 x4)], ⟨0, []⟩ => plumblineref03_ToInt_l1 k n x1 x2 x3 x4 (fun q3 q4 => K (.exit 2) [(0, .i .i64 x1), (1, .i .u64 x2), (6, .i .u64 q3), (7, .i .i64 q4)] ⟨0, []⟩)
  | _, _, _ => none
noncomputable def L35_7 {R : Type} (k n : Nat) : LSum R := L35_7G plumblineref03_ToInt_l1 k n
theorem plumblineref03_ToInt_l1_gen {R : Type} (plumblineref02_Finite : plumblineref02_FiniteY R) (plumblineref02_Below : plumblineref02_BelowY R) (plumblineref03_value : plumblineref03_valueY R) (plumblineref03_ToInt_l0 : plumblineref03_ToInt_l0Y R) (plumblineref03_ToInt_l1 : plumblineref03_ToInt_l1Y R) (k n : Nat) (x1 : Int) (x2 : Int) (x3 : Int) (x4 : Int) (K : Kont R) :
    (fun C => codeK C (run C 4)) (mkCx Ty exts [(54, true, S54G plumblineref02_Finite k), (57, true, S57G plumblineref02_Below k), (67, true, S67G plumblineref03_value k)] fi35 [(4, L35_4G plumblineref03_ToInt_l0 k k)] []) 0 fi35 (loopAt ((Try.f35).body.getD .skip) 7) [(0, .i .i64 x1), (1, .i .u64 x2), (6, .i .u64 x3), (7, .i .i64 x4)] ⟨0, []⟩ (fun ex T H => match (generalizing := false) ex with
      | .normal => normAt (some [0, 1, 6, 7]) 0 T H (fun T H => L35_7G plumblineref03_ToInt_l1 k n 0 T H K)
      | ex => exitNorm fi35.ann 7 0 K ex T H) =
    plumblineref03_ToInt_l1B k (fun x1 x2 x3 x4 => plumblineref03_ToInt_l1 k n x1 x2 x3 x4 (fun q3 q4 => K (.exit 2) [(0, .i .i64 x1), (1, .i .u64 x2), (6, .i .u64 q3), (7, .i .i64 q4)] ⟨0, []⟩)) x1 x2 x3 x4 (fun q3 q4 => K (.exit 2) [(0, .i .i64 x1), (1, .i .u64 x2), (6, .i .u64 q3), (7, .i .i64 q4)] ⟨0, []⟩) := by kernel_rfl
theorem L35_7_cok {R : Type} (k : Nat) : CodeOk Try.prog (cx35_7 k : Cx R) fi35 (loopAt ((Try.f35).body.getD .skip) 7) := loopAt_ok (((cx35_7_ok k).fns 35 fi35 (by kernel_rfl)).2.2.2 ((Try.f35).body.getD .skip) (by kernel_rfl))
theorem L35_7_ok {R : Type} (k : Nat) : ∀ n, LoopOk Try.prog (Try.f35).ntmps (loopAt ((Try.f35).body.getD .skip) 7) (L35_7 k n : LSum R)
  | 0 => by
    intro pin T H K r h
    unfold L35_7 L35_7G at h
    split at h
    all_goals exact nomatch (show (none : Option R) = some r from h)
  | n + 1 => by
    intro pin T H K r h
    unfold L35_7 L35_7G at h
    split at h
    · obtain ⟨ex, T1, H1, h, hb⟩ := codeK_sound (cx35_7_ok k) (run_sound (cx35_7_ok k) 4) _ fi35 _ _ _ _ _ (L35_7_cok k) ((plumblineref03_ToInt_l1_gen plumblineref02_Finite plumblineref02_Below plumblineref03_value plumblineref03_ToInt_l0 plumblineref03_ToInt_l1 k n _ _ _ _ K).trans h)
      exact loop_step (fun T H hh => L35_7_ok k n _ T H K r hh) hb h
    · cases h
noncomputable def cx35 {R : Type} (k : Nat) : Cx R := mkCx Ty exts [(54, true, S54 k), (57, true, S57 k), (67, true, S67 k)] fi35 [(4, L35_4 k k), (7, L35_7 k k)] []
theorem cx35_ok {R : Type} (k : Nat) : CxOk Try.prog (cx35 k : Cx R) := mkCx_ok (c := ((Try.f35).body.getD .skip)) ty_ok mixed exts_ok (allSum_cons (S54_ok k) en54 (allSum_cons (S57_ok k) en57 (allSum_cons (S67_ok k) en67 allSum_nil))) Try.func35 en35 (by kernel_rfl) (by kernel_rfl) (allLoop_loop (by kernel_rfl) (L35_4_ok k k) (allLoop_loop (by kernel_rfl) (L35_7_ok k k) allLoop_nil)) allCut_nil
@[reducible] def plumblineref03_ToIntY (R : Type) : Type := Nat → Int → Int → (Int → Bool → Option R) → Option R
noncomputable def plumblineref03_ToIntT {R : Type} (plumblineref02_Below : plumblineref02_BelowY R) (plumblineref02_Finite : plumblineref02_FiniteY R) (plumblineref03_ToInt_l0 : plumblineref03_ToInt_l0Y R) (plumblineref03_ToInt_l1 : plumblineref03_ToInt_l1Y R) (plumblineref03_value : plumblineref03_valueY R) (k : Nat) (a1 : Int) (a2 : Int) (K0 : Int → Bool → Option R) : Option R :=
  plumblineref02_Finite k a1 a2 (fun r1 =>
    cond (!r1) (
      K0 0 false) (
      plumblineref03_value k a1 a2 (fun r2 r3 =>
        plumblineref03_ToInt_l0 k k a1 a2 r2 r3 (fun r4 r5 =>
          plumblineref03_ToInt_l1 k k a1 a2 r4 r5 (fun r6 r7 =>
            plumblineref02_Below k a1 a2 (fun r8 =>
              cond (decide (r7 > 0)) (
                cond (decide (r6 > 0)) (
                  K0 0 false) (
                  cond (decide (r6 > 2147483648)) (
                    K0 0 false) (
                    cond (r6 == 2147483648) (
                      cond (!r8) (
                        K0 0 false) (
                        cond r8 (
                          K0 (Wi64 (0 - (Wi64 r6))) true) (
                          K0 (Wi64 r6) true))) (
                      cond r8 (
                        K0 (Wi64 (0 - (Wi64 r6))) true) (
                        K0 (Wi64 r6) true))))) (
                cond (decide (r6 > 2147483648)) (
                  K0 0 false) (
                  cond (r6 == 2147483648) (
                    cond (!r8) (
                      K0 0 false) (
                      cond r8 (
                        K0 (Wi64 (0 - (Wi64 r6))) true) (
                        K0 (Wi64 r6) true))) (
                    cond r8 (
                      K0 (Wi64 (0 - (Wi64 r6))) true) (
                      K0 (Wi64 r6) true))))))))))
noncomputable def plumblineref03_ToInt {R : Type} (k : Nat) (a1 : Int) (a2 : Int) (K0 : Int → Bool → Option R) : Option R := plumblineref03_ToIntT plumblineref02_Below plumblineref02_Finite plumblineref03_ToInt_l0 plumblineref03_ToInt_l1 plumblineref03_value k a1 a2 K0
theorem plumblineref03_ToInt_gen {R : Type} (plumblineref02_Finite : plumblineref02_FiniteY R) (plumblineref02_Below : plumblineref02_BelowY R) (plumblineref03_value : plumblineref03_valueY R) (plumblineref03_ToInt_l0 : plumblineref03_ToInt_l0Y R) (plumblineref03_ToInt_l1 : plumblineref03_ToInt_l1Y R) (k : Nat) (a1 : Int) (a2 : Int) (K : AV → Heap → Option R) :
    fnK (mkCx Ty exts [(54, true, S54G plumblineref02_Finite k), (57, true, S57G plumblineref02_Below k), (67, true, S67G plumblineref03_value k)] fi35 [(4, L35_4G plumblineref03_ToInt_l0 k k), (7, L35_7G plumblineref03_ToInt_l1 k k)] []) 6 35 [.i .i64 a1, .i .u64 a2] ⟨0, []⟩ K = plumblineref03_ToIntT plumblineref02_Below plumblineref02_Finite plumblineref03_ToInt_l0 plumblineref03_ToInt_l1 plumblineref03_value k a1 a2 (fun q1 q2 => K (.tup [.i .i64 q1, .b q2]) ⟨0, []⟩) := by kernel_rfl
noncomputable def S35G {R : Type} (plumblineref03_ToInt : plumblineref03_ToIntY R) (k : Nat) : Sum R := fun args H K => match args, H with
  | [.i .i64 a1, .i .u64 a2], ⟨0, []⟩ => plumblineref03_ToInt k a1 a2 (fun q1 q2 => K (.tup [.i .i64 q1, .b q2]) ⟨0, []⟩)
  | _, _ => none
noncomputable def S35 {R : Type} (k : Nat) : Sum R := S35G plumblineref03_ToInt k
theorem S35_ok0 {R : Type} (k : Nat) : SumOk Try.prog 35 false (S35 k : Sum R) := by
  intro args H K r h
  unfold S35 S35G at h
  split at h
  · exact fnK_sound (cx35_ok k) 6 35 _ _ K r ((plumblineref03_ToInt_gen plumblineref02_Finite plumblineref02_Below plumblineref03_value plumblineref03_ToInt_l0 plumblineref03_ToInt_l1 k _ _ K).trans h)
  · cases h
theorem S35_ok {R : Type} (k : Nat) : SumOk Try.prog 35 true (S35 k : Sum R) := by
  refine sumOk_keep (S35_ok0 k) ?_
  intro args H K r h
  unfold S35 S35G at h ⊢
  split at h
  · refine Eq.trans ?_ h
    show plumblineref03_ToInt k _ _ _ = plumblineref03_ToInt k _ _ _
    congr 1
    all_goals first | exact (funext fun q1 => funext fun q2 => if_pos (keeps_app _ _ _ [])) | skip
  · cases h
-- function 36: plumbline/plumblineref03.FromInt
noncomputable def fi36 : FnI := ⟨36, Try.f36, []⟩
theorem en36 : Enters Try.prog 36 := enters_of Try.func36 (c := ((Try.f36).body.getD .skip)) (by kernel_rfl) (by kernel_rfl)
noncomputable def cx36 {R : Type} (k : Nat) : Cx R := mkCx Ty exts [(51, true, S51 k), (52, true, S52 k)] fi36 [] []
theorem cx36_ok {R : Type} (k : Nat) : CxOk Try.prog (cx36 k : Cx R) := mkCx_ok (c := ((Try.f36).body.getD .skip)) ty_ok mixed exts_ok (allSum_cons (S51_ok k) en51 (allSum_cons (S52_ok k) en52 allSum_nil)) Try.func36 en36 (by kernel_rfl) (by kernel_rfl) allLoop_nil allCut_nil
@[reducible] def plumblineref03_FromIntY (R : Type) : Type := Nat → Int → Int → Int → (Int → Option R) → Option R
noncomputable def plumblineref03_FromIntT {R : Type} (plumblineref02_Rounded : plumblineref02_RoundedY R) (plumblineref02_Rounded_n3 : plumblineref02_Rounded_n3Y R) (plumblineref03_bits : plumblineref03_bitsY R) (k : Nat) (a1 : Int) (a2 : Int) (a3 : Int) (K0 : Int → Option R) : Option R :=
  cond (decide (a3 < 0)) (
    plumblineref03_bits k (Wu64 (0 - (Wu64 a3))) (fun r1 =>
      plumblineref02_Rounded k a1 a2 (decide (a3 < 0)) 0 r1 (fun r2 =>
        K0 r2)) (
      plumblineref02_Rounded_n3 k a1 a2 (decide (a3 < 0)) 0 (fun r3 =>
        K0 r3))) (
    plumblineref03_bits k (Wu64 a3) (fun r4 =>
      plumblineref02_Rounded k a1 a2 (decide (a3 < 0)) 0 r4 (fun r5 =>
        K0 r5)) (
      plumblineref02_Rounded_n3 k a1 a2 (decide (a3 < 0)) 0 (fun r6 =>
        K0 r6)))
noncomputable def plumblineref03_FromInt {R : Type} (k : Nat) (a1 : Int) (a2 : Int) (a3 : Int) (K0 : Int → Option R) : Option R := plumblineref03_FromIntT plumblineref02_Rounded plumblineref02_Rounded_n3 plumblineref03_bits k a1 a2 a3 K0
theorem plumblineref03_FromInt_gen {R : Type} (plumblineref03_bits : plumblineref03_bitsY R) (plumblineref02_Rounded : plumblineref02_RoundedY R) (plumblineref02_Rounded_n3 : plumblineref02_Rounded_n3Y R) (k : Nat) (a1 : Int) (a2 : Int) (a3 : Int) (K : AV → Heap → Option R) :
    fnK (mkCx Ty exts [(51, true, S51G plumblineref03_bits k), (52, true, S52G plumblineref02_Rounded plumblineref02_Rounded_n3 k)] fi36 [] []) 6 36 [.i .i64 a1, .i .i64 a2, .i .i64 a3] ⟨0, []⟩ K = plumblineref03_FromIntT plumblineref02_Rounded plumblineref02_Rounded_n3 plumblineref03_bits k a1 a2 a3 (fun q1 => K (.i .u64 q1) ⟨0, []⟩) := by kernel_rfl
noncomputable def S36G {R : Type} (plumblineref03_FromInt : plumblineref03_FromIntY R) (k : Nat) : Sum R := fun args H K => match args, H with
  | [.i .i64 a1, .i .i64 a2, .i .i64 a3], ⟨0, []⟩ => plumblineref03_FromInt k a1 a2 a3 (fun q1 => K (.i .u64 q1) ⟨0, []⟩)
  | _, _ => none
noncomputable def S36 {R : Type} (k : Nat) : Sum R := S36G plumblineref03_FromInt k
theorem S36_ok0 {R : Type} (k : Nat) : SumOk Try.prog 36 false (S36 k : Sum R) := by
  intro args H K r h
  unfold S36 S36G at h
  split at h
  · exact fnK_sound (cx36_ok k) 6 36 _ _ K r ((plumblineref03_FromInt_gen plumblineref03_bits plumblineref02_Rounded plumblineref02_Rounded_n3 k _ _ _ K).trans h)
  · cases h
theorem S36_ok {R : Type} (k : Nat) : SumOk Try.prog 36 true (S36 k : Sum R) := by
  refine sumOk_keep (S36_ok0 k) ?_
  intro args H K r h
  unfold S36 S36G at h ⊢
  split at h
  · refine Eq.trans ?_ h
    show plumblineref03_FromInt k _ _ _ _ = plumblineref03_FromInt k _ _ _ _
    congr 1
    all_goals first | exact (funext fun q1 => if_pos (keeps_app _ _ _ [])) | skip
  · cases h
-- function 49: plumbline/plumblineref03.digit
noncomputable def fi49 : FnI := ⟨49, Try.f49, []⟩
theorem en49 : Enters Try.prog 49 := enters_of Try.func49 (c := ((Try.f49).body.getD .skip)) (by kernel_rfl) (by kernel_rfl)
noncomputable def cx49 {R : Type} (k : Nat) : Cx R := mkCx Ty exts [] fi49 [] []
theorem cx49_ok {R : Type} (k : Nat) : CxOk Try.prog (cx49 k : Cx R) := mkCx_ok (c := ((Try.f49).body.getD .skip)) ty_ok mixed exts_ok allSum_nil Try.func49 en49 (by kernel_rfl) (by kernel_rfl) allLoop_nil allCut_nil
@[reducible] def plumblineref03_digitY (R : Type) : Type := Nat → Int → (Bool → Option R) → Option R
noncomputable def plumblineref03_digitT {R : Type} (k : Nat) (a1 : Int) (K0 : Bool → Option R) : Option R :=
  cond (decide (a1 ≥ 48)) (
    K0 (decide (a1 ≤ 57))) (
    K0 false)
noncomputable def plumblineref03_digit {R : Type} (k : Nat) (a1 : Int) (K0 : Bool → Option R) : Option R := plumblineref03_digitT k a1 K0
theorem plumblineref03_digit_gen {R : Type} (k : Nat) (a1 : Int) (K : AV → Heap → Option R) :
    fnK (mkCx Ty exts [] fi49 [] []) 6 49 [.i .u8 a1] ⟨0, []⟩ K = plumblineref03_digitT k a1 (fun q1 => K (.b q1) ⟨0, []⟩) := by kernel_rfl
noncomputable def S49G {R : Type} (plumblineref03_digit : plumblineref03_digitY R) (k : Nat) : Sum R := fun args H K => match args, H with
  | [.i .u8 a1], ⟨0, []⟩ => plumblineref03_digit k a1 (fun q1 => K (.b q1) ⟨0, []⟩)
  | _, _ => none
noncomputable def S49 {R : Type} (k : Nat) : Sum R := S49G plumblineref03_digit k
theorem S49_ok0 {R : Type} (k : Nat) : SumOk Try.prog 49 false (S49 k : Sum R) := by
  intro args H K r h
  unfold S49 S49G at h
  split at h
  · exact fnK_sound (cx49_ok k) 6 49 _ _ K r ((plumblineref03_digit_gen k _ K).trans h)
  · cases h
theorem S49_ok {R : Type} (k : Nat) : SumOk Try.prog 49 true (S49 k : Sum R) := by
  refine sumOk_keep (S49_ok0 k) ?_
  intro args H K r h
  unfold S49 S49G at h ⊢
  split at h
  · refine Eq.trans ?_ h
    show plumblineref03_digit k _ _ = plumblineref03_digit k _ _
    congr 1
    all_goals first | exact (funext fun q1 => if_pos (keeps_app _ _ _ [])) | skip
  · cases h
-- function 50: plumbline/plumblineref03.quotient
noncomputable def fi50 : FnI := ⟨50, Try.f50, [(100004, [0, 1, 2, 8, 9, 10]), (3004000, [8, 9])]⟩
theorem en50 : Enters Try.prog 50 := enters_of Try.func50 (c := ((Try.f50).body.getD .skip)) (by kernel_rfl) (by kernel_rfl)
@[reducible] def plumblineref03_quotient_l0Y (R : Type) : Type := Nat → Nat → Int → Int → Int → Int → (List Bool) → (List Bool) → (Int → (List Bool) → Option R) → Option R
noncomputable def plumblineref03_quotient_l0B {R : Type} (k : Nat) (rec : Int → Int → Int → Int → (List Bool) → (List Bool) → Option R) (x1 : Int) (x2 : Int) (x3 : Int) (x4 : Int) (x5 : List Bool) (x6 : List Bool) (K0 : Int → (List Bool) → Option R) : Option R :=
  cond (decide (x4 ≥ 0)) (
    cond (decide (x4 ≥ x2)) (
      cond (decide (0 ≤ (Wi64 (x4 - x2)))) (
        cond (decide ((Wi64 (x4 - x2)) < (((List.length x5) : Nat) : Int))) (
          Option.bind (x5[(Int.toNat (Wi64 (x4 - x2)))]?) fun ye1 =>
          cond ye1 (
            cond (decide ((Wu64 ((Wu64 (x3 * 2)) + 1)) ≥ x1)) (
              cond (decide (0 ≤ x4)) (
                cond (decide (x4 < (((List.length x6) : Nat) : Int))) (
                  Option.bind (x6[(Int.toNat x4)]?) fun ye2 =>
                  rec x1 x2 (Wu64 ((Wu64 ((Wu64 (x3 * 2)) + 1)) - x1)) (Wi64 (x4 - 1)) x5 (List.set x6 (Int.toNat x4) true)) (
                  none)) (
                none)) (
              rec x1 x2 (Wu64 ((Wu64 (x3 * 2)) + 1)) (Wi64 (x4 - 1)) x5 x6)) (
            cond (decide ((Wu64 (x3 * 2)) ≥ x1)) (
              cond (decide (0 ≤ x4)) (
                cond (decide (x4 < (((List.length x6) : Nat) : Int))) (
                  Option.bind (x6[(Int.toNat x4)]?) fun ye3 =>
                  rec x1 x2 (Wu64 ((Wu64 (x3 * 2)) - x1)) (Wi64 (x4 - 1)) x5 (List.set x6 (Int.toNat x4) true)) (
                  none)) (
                none)) (
              rec x1 x2 (Wu64 (x3 * 2)) (Wi64 (x4 - 1)) x5 x6))) (
          none)) (
        none)) (
      cond (decide ((Wu64 (x3 * 2)) ≥ x1)) (
        cond (decide (0 ≤ x4)) (
          cond (decide (x4 < (((List.length x6) : Nat) : Int))) (
            Option.bind (x6[(Int.toNat x4)]?) fun ye4 =>
            rec x1 x2 (Wu64 ((Wu64 (x3 * 2)) - x1)) (Wi64 (x4 - 1)) x5 (List.set x6 (Int.toNat x4) true)) (
            none)) (
          none)) (
        rec x1 x2 (Wu64 (x3 * 2)) (Wi64 (x4 - 1)) x5 x6))) (
    K0 x3 x6)
noncomputable def plumblineref03_quotient_l0 {R : Type} (k : Nat) : Nat → Int → Int → Int → Int → (List Bool) → (List Bool) → (Int → (List Bool) → Option R) → Option R
  | 0, _, _, _, _, _, _, _ => none
  | n + 1, x1, x2, x3, x4, x5, x6, K0 => plumblineref03_quotient_l0B k (fun x1 x2 x3 x4 x5 x6 => plumblineref03_quotient_l0 k n x1 x2 x3 x4 x5 x6 K0) x1 x2 x3 x4 x5 x6 K0
@[reducible] def plumblineref03_quotient_n0_l0Y (R : Type) : Type := Nat → Nat → Int → Int → Int → Int → (List Bool) → (Int → (List Bool) → Option R) → Option R
noncomputable def plumblineref03_quotient_n0_l0B {R : Type} (k : Nat) (rec : Int → Int → Int → Int → (List Bool) → Option R) (x1 : Int) (x2 : Int) (x3 : Int) (x4 : Int) (x5 : List Bool) (K0 : Int → (List Bool) → Option R) : Option R :=
  cond (decide (x4 ≥ 0)) (
    cond (decide (x4 ≥ x2)) (
      none) (
      cond (decide ((Wu64 (x3 * 2)) ≥ x1)) (
        cond (decide (0 ≤ x4)) (
          cond (decide (x4 < (((List.length x5) : Nat) : Int))) (
            Option.bind (x5[(Int.toNat x4)]?) fun ye1 =>
            rec x1 x2 (Wu64 ((Wu64 (x3 * 2)) - x1)) (Wi64 (x4 - 1)) (List.set x5 (Int.toNat x4) true)) (
            none)) (
          none)) (
        rec x1 x2 (Wu64 (x3 * 2)) (Wi64 (x4 - 1)) x5))) (
    K0 x3 x5)
noncomputable def plumblineref03_quotient_n0_l0 {R : Type} (k : Nat) : Nat → Int → Int → Int → Int → (List Bool) → (Int → (List Bool) → Option R) → Option R
  | 0, _, _, _, _, _, _ => none
  | n + 1, x1, x2, x3, x4, x5, K0 => plumblineref03_quotient_n0_l0B k (fun x1 x2 x3 x4 x5 => plumblineref03_quotient_n0_l0 k n x1 x2 x3 x4 x5 K0) x1 x2 x3 x4 x5 K0
noncomputable def cx50_4 {R : Type} (k : Nat) : Cx R := mkCx Ty exts [] fi50 [] []
theorem cx50_4_ok {R : Type} (k : Nat) : CxOk Try.prog (cx50_4 k : Cx R) := mkCx_ok (c := ((Try.f50).body.getD .skip)) ty_ok mixed exts_ok allSum_nil Try.func50 en50 (by kernel_rfl) (by kernel_rfl) allLoop_nil allCut_nil
noncomputable def L50_4G {R : Type} (plumblineref03_quotient_l0 : plumblineref03_quotient_l0Y R) (plumblineref03_quotient_n0_l0 : plumblineref03_quotient_n0_l0Y R) (k n : Nat) : LSum R := fun pin T H K => match pin, T, H with
  | 1, [(0, .sw 0), (1, .i .u64 x1), (2, .i .i64 x2), (8, .sw 1), (9, .i .u64 x3), (10, .i .i64 x4)], ⟨2, [(0, some ⟨0, false, .row [.b] x5⟩), (1, some ⟨1, false, .row [.b] x6⟩)]⟩ => plumblineref03_quotient_l0 k n x1 x2 x3 x4 x5 x6 (fun q1 q3 => K (.exit 0) [(8, .sw 1), (9, .i .u64 q1)] ⟨2, [(0, some ⟨0, false, .row [.b] x5⟩), (1, some ⟨1, false, .row [.b] q3⟩)]⟩)
  | 0, [(0, .nsl), (1, .i .u64 x1), (2, .i .i64 x2), (8, .sw 0), (9, .i .u64 x3), (10, .i .i64 x4)], ⟨1, [(0, some ⟨0, false, .row [.b] x5⟩)]⟩ => plumblineref03_quotient_n0_l0 k n x1 x2 x3 x4 x5 (fun q1 q2 => K (.exit 0) [(8, .sw 0), (9, .i .u64 q1)] ⟨1, [(0, some ⟨0, false, .row [.b] q2⟩)]⟩)
  | _, _, _ => none
noncomputable def L50_4 {R : Type} (k n : Nat) : LSum R := L50_4G plumblineref03_quotient_l0 plumblineref03_quotient_n0_l0 k n
theorem plumblineref03_quotient_l0_gen {R : Type} (plumblineref03_quotient_l0 : plumblineref03_quotient_l0Y R) (plumblineref03_quotient_n0_l0 : plumblineref03_quotient_n0_l0Y R) (k n : Nat) (x1 : Int) (x2 : Int) (x3 : Int) (x4 : Int) (x5 : List Bool) (x6 : List Bool) (K : Kont R) :
    (fun C => codeK C (run C 4)) (mkCx Ty exts [] fi50 [] []) 1 fi50 (loopAt ((Try.f50).body.getD .skip) 4) [(0, .sw 0), (1, .i .u64 x1), (2, .i .i64 x2), (8, .sw 1), (9, .i .u64 x3), (10, .i .i64 x4)] ⟨2, [(0, some ⟨0, false, .row [.b] x5⟩), (1, some ⟨1, false, .row [.b] x6⟩)]⟩ (fun ex T H => match (generalizing := false) ex with
      | .normal => normAt (some [0, 1, 2, 8, 9, 10]) 1 T H (fun T H => L50_4G plumblineref03_quotient_l0 plumblineref03_quotient_n0_l0 k n 1 T H K)
      | ex => exitNorm fi50.ann 4 1 K ex T H) =
    plumblineref03_quotient_l0B k (fun x1 x2 x3 x4 x5 x6 => plumblineref03_quotient_l0 k n x1 x2 x3 x4 x5 x6 (fun q1 q3 => K (.exit 0) [(8, .sw 1), (9, .i .u64 q1)] ⟨2, [(0, some ⟨0, false, .row [.b] x5⟩), (1, some ⟨1, false, .row [.b] q3⟩)]⟩)) x1 x2 x3 x4 x5 x6 (fun q1 q3 => K (.exit 0) [(8, .sw 1), (9, .i .u64 q1)] ⟨2, [(0, some ⟨0, false, .row [.b] x5⟩), (1, some ⟨1, false, .row [.b] q3⟩)]⟩) := by kernel_rfl
theorem plumblineref03_quotient_n0_l0_gen {R : Type} (plumblineref03_quotient_l0 : plumblineref03_quotient_l0Y R) (plumblineref03_quotient_n0_l0 : plumblineref03_quotient_n0_l0Y R) (k n : Nat) (x1 : Int) (x2 : Int) (x3 : Int) (x4 : Int) (x5 : List Bool) (K : Kont R) :
    (fun C => codeK C (run C 4)) (mkCx Ty exts [] fi50 [] []) 0 fi50 (loopAt ((Try.f50).body.getD .skip) 4) [(0, .nsl), (1, .i .u64 x1), (2, .i .i64 x2), (8, .sw 0), (9, .i .u64 x3), (10, .i .i64 x4)] ⟨1, [(0, some ⟨0, false, .row [.b] x5⟩)]⟩ (fun ex T H => match (generalizing := false) ex with
      | .normal => normAt (some [0, 1, 2, 8, 9, 10]) 0 T H (fun T H => L50_4G plumblineref03_quotient_l0 plumblineref03_quotient_n0_l0 k n 0 T H K)
      | ex => exitNorm fi50.ann 4 0 K ex T H) =
    plumblineref03_quotient_n0_l0B k (fun x1 x2 x3 x4 x5 => plumblineref03_quotient_n0_l0 k n x1 x2 x3 x4 x5 (fun q1 q2 => K (.exit 0) [(8, .sw 0), (9, .i .u64 q1)] ⟨1, [(0, some ⟨0, false, .row [.b] q2⟩)]⟩)) x1 x2 x3 x4 x5 (fun q1 q2 => K (.exit 0) [(8, .sw 0), (9, .i .u64 q1)] ⟨1, [(0, some ⟨0, false, .row [.b] q2⟩)]⟩) := by kernel_rfl
theorem L50_4_cok {R : Type} (k : Nat) : CodeOk Try.prog (cx50_4 k : Cx R) fi50 (loopAt ((Try.f50).body.getD .skip) 4) := loopAt_ok (((cx50_4_ok k).fns 50 fi50 (by kernel_rfl)).2.2.2 ((Try.f50).body.getD .skip) (by kernel_rfl))
theorem L50_4_ok {R : Type} (k : Nat) : ∀ n, LoopOk Try.prog (Try.f50).ntmps (loopAt ((Try.f50).body.getD .skip) 4) (L50_4 k n : LSum R)
  | 0 => by
    intro pin T H K r h
    unfold L50_4 L50_4G at h
    split at h
    all_goals exact nomatch (show (none : Option R) = some r from h)
  | n + 1 => by
    intro pin T H K r h
    unfold L50_4 L50_4G at h
    split at h
    · obtain ⟨ex, T1, H1, h, hb⟩ := codeK_sound (cx50_4_ok k) (run_sound (cx50_4_ok k) 4) _ fi50 _ _ _ _ _ (L50_4_cok k) ((plumblineref03_quotient_l0_gen plumblineref03_quotient_l0 plumblineref03_quotient_n0_l0 k n _ _ _ _ _ _ K).trans h)
      exact loop_step (fun T H hh => L50_4_ok k n _ T H K r hh) hb h
    · obtain ⟨ex, T1, H1, h, hb⟩ := codeK_sound (cx50_4_ok k) (run_sound (cx50_4_ok k) 4) _ fi50 _ _ _ _ _ (L50_4_cok k) ((plumblineref03_quotient_n0_l0_gen plumblineref03_quotient_l0 plumblineref03_quotient_n0_l0 k n _ _ _ _ _ K).trans h)
      exact loop_step (fun T H hh => L50_4_ok k n _ T H K r hh) hb h
    · cases h
noncomputable def cx50 {R : Type} (k : Nat) : Cx R := mkCx Ty exts [] fi50 [(4, L50_4 k k)] []
theorem cx50_ok {R : Type} (k : Nat) : CxOk Try.prog (cx50 k : Cx R) := mkCx_ok (c := ((Try.f50).body.getD .skip)) ty_ok mixed exts_ok allSum_nil Try.func50 en50 (by kernel_rfl) (by kernel_rfl) (allLoop_loop (by kernel_rfl) (L50_4_ok k k) allLoop_nil) allCut_nil
@[reducible] def plumblineref03_quotientY (R : Type) : Type := Nat → Int → Int → (List Bool) → (Bool → (List Bool) → Option R) → Option R
noncomputable def plumblineref03_quotientT {R : Type} (plumblineref03_quotient_l0 : plumblineref03_quotient_l0Y R) (k : Nat) (a1 : Int) (a2 : Int) (a3 : List Bool) (K0 : Bool → (List Bool) → Option R) : Option R :=
  cond (decide (0 ≤ (Wi64 ((((List.length a3) : Nat) : Int) + a2)))) (
    cond (decide ((Wi64 ((((List.length a3) : Nat) : Int) + a2)) ≤ (Wi64 ((((List.length a3) : Nat) : Int) + a2)))) (
      cond (decide (((Wi64 ((((List.length a3) : Nat) : Int) + a2)) * 1) ≤ 140737488355328)) (
        plumblineref03_quotient_l0 k k a1 a2 0 (Wi64 ((((List.length (List.replicate (Int.toNat (Wi64 ((((List.length a3) : Nat) : Int) + a2))) false)) : Nat) : Int) - 1)) a3 (List.replicate (Int.toNat (Wi64 ((((List.length a3) : Nat) : Int) + a2))) false) (fun r1 r2 =>
          K0 (decide (r1 > 0)) r2)) (
        none)) (
      none)) (
    none)
noncomputable def plumblineref03_quotient {R : Type} (k : Nat) (a1 : Int) (a2 : Int) (a3 : List Bool) (K0 : Bool → (List Bool) → Option R) : Option R := plumblineref03_quotientT plumblineref03_quotient_l0 k a1 a2 a3 K0
theorem plumblineref03_quotient_gen {R : Type} (plumblineref03_quotient_l0 : plumblineref03_quotient_l0Y R) (plumblineref03_quotient_n0_l0 : plumblineref03_quotient_n0_l0Y R) (k : Nat) (a1 : Int) (a2 : Int) (a3 : List Bool) (K : AV → Heap → Option R) :
    fnK (mkCx Ty exts [] fi50 [(4, L50_4G plumblineref03_quotient_l0 plumblineref03_quotient_n0_l0 k k)] []) 6 50 [.sw 0, .i .u64 a1, .i .i64 a2] ⟨1, [(0, some ⟨0, false, .row [.b] a3⟩)]⟩ K = plumblineref03_quotientT plumblineref03_quotient_l0 k a1 a2 a3 (fun q1 q3 => K (.tup [.sw 1, .b q1]) ⟨2, [(0, some ⟨0, false, .row [.b] a3⟩), (1, some ⟨1, false, .row [.b] q3⟩)]⟩) := by kernel_rfl
@[reducible] def plumblineref03_quotient_n0Y (R : Type) : Type := Nat → Int → Int → (Bool → (List Bool) → Option R) → Option R
noncomputable def plumblineref03_quotient_n0T {R : Type} (plumblineref03_quotient_n0_l0 : plumblineref03_quotient_n0_l0Y R) (k : Nat) (a1 : Int) (a2 : Int) (K0 : Bool → (List Bool) → Option R) : Option R :=
  cond (decide (0 ≤ (Wi64 (0 + a2)))) (
    cond (decide ((Wi64 (0 + a2)) ≤ (Wi64 (0 + a2)))) (
      cond (decide (((Wi64 (0 + a2)) * 1) ≤ 140737488355328)) (
        plumblineref03_quotient_n0_l0 k k a1 a2 0 (Wi64 ((((List.length (List.replicate (Int.toNat (Wi64 (0 + a2))) false)) : Nat) : Int) - 1)) (List.replicate (Int.toNat (Wi64 (0 + a2))) false) (fun r1 r2 =>
          K0 (decide (r1 > 0)) r2)) (
        none)) (
      none)) (
    none)
noncomputable def plumblineref03_quotient_n0 {R : Type} (k : Nat) (a1 : Int) (a2 : Int) (K0 : Bool → (List Bool) → Option R) : Option R := plumblineref03_quotient_n0T plumblineref03_quotient_n0_l0 k a1 a2 K0
theorem plumblineref03_quotient_n0_gen {R : Type} (plumblineref03_quotient_l0 : plumblineref03_quotient_l0Y R) (plumblineref03_quotient_n0_l0 : plumblineref03_quotient_n0_l0Y R) (k : Nat) (a1 : Int) (a2 : Int) (K : AV → Heap → Option R) :
    fnK (mkCx Ty exts [] fi50 [(4, L50_4G plumblineref03_quotient_l0 plumblineref03_quotient_n0_l0 k k)] []) 6 50 [.nsl, .i .u64 a1, .i .i64 a2] ⟨0, []⟩ K = plumblineref03_quotient_n0T plumblineref03_quotient_n0_l0 k a1 a2 (fun q1 q2 => K (.tup [.sw 0, .b q1]) ⟨1, [(0, some ⟨0, false, .row [.b] q2⟩)]⟩) := by kernel_rfl
noncomputable def S50G {R : Type} (plumblineref03_quotient : plumblineref03_quotientY R) (plumblineref03_quotient_n0 : plumblineref03_quotient_n0Y R) (k : Nat) : Sum R := fun args H K => match args, H with
  | [.sw 0, .i .u64 a1, .i .i64 a2], ⟨1, [(0, some ⟨0, false, .row [.b] a3⟩)]⟩ => plumblineref03_quotient k a1 a2 a3 (fun q1 q3 => K (.tup [.sw 1, .b q1]) ⟨2, [(0, some ⟨0, false, .row [.b] a3⟩), (1, some ⟨1, false, .row [.b] q3⟩)]⟩)
  | [.nsl, .i .u64 a1, .i .i64 a2], ⟨0, []⟩ => plumblineref03_quotient_n0 k a1 a2 (fun q1 q2 => K (.tup [.sw 0, .b q1]) ⟨1, [(0, some ⟨0, false, .row [.b] q2⟩)]⟩)
  | _, _ => none
noncomputable def S50 {R : Type} (k : Nat) : Sum R := S50G plumblineref03_quotient plumblineref03_quotient_n0 k
theorem S50_ok0 {R : Type} (k : Nat) : SumOk Try.prog 50 false (S50 k : Sum R) := by
  intro args H K r h
  unfold S50 S50G at h
  split at h
  · exact fnK_sound (cx50_ok k) 6 50 _ _ K r ((plumblineref03_quotient_gen plumblineref03_quotient_l0 plumblineref03_quotient_n0_l0 k _ _ _ K).trans h)
  · exact fnK_sound (cx50_ok k) 6 50 _ _ K r ((plumblineref03_quotient_n0_gen plumblineref03_quotient_l0 plumblineref03_quotient_n0_l0 k _ _ K).trans h)
  · cases h
theorem S50_ok {R : Type} (k : Nat) : SumOk Try.prog 50 true (S50 k : Sum R) := by
  refine sumOk_keep (S50_ok0 k) ?_
  intro args H K r h
  unfold S50 S50G at h ⊢
  split at h
  · refine Eq.trans ?_ h
    show plumblineref03_quotient k _ _ _ _ = plumblineref03_quotient k _ _ _ _
    congr 1
    all_goals first | exact (funext fun q1 => funext fun q3 => if_pos (keeps_app _ _ _ [(1, some ⟨1, false, .row [.b] q3⟩)])) | skip
  · refine Eq.trans ?_ h
    show plumblineref03_quotient_n0 k _ _ _ = plumblineref03_quotient_n0 k _ _ _
    congr 1
    all_goals first | exact (funext fun q1 => funext fun q2 => if_pos (keeps_app _ _ _ [(0, some ⟨0, false, .row [.b] q2⟩)])) | skip
  · cases h
-- function 16: plumbline/plumblineref03.Literal
noncomputable def fi16 : FnI := ⟨16, Try.f16, [(100003, [0, 1, 6, 7]), (100015, [0, 1, 6, 8, 9, 10]), (2000003, [4, 5]), (3003000, [0, 1, 6]), (3015002, [0, 8, 9])]⟩
theorem en16 : Enters Try.prog 16 := enters_of Try.func16 (c := ((Try.f16).body.getD .skip)) (by kernel_rfl) (by kernel_rfl)
@[reducible] def plumblineref03_Literal_l0Y (R : Type) : Type := Nat → Nat → Int → ByteArray → Int → Int → (Int → Int → Option R) → (Int → Option R) → Option R
noncomputable def plumblineref03_Literal_l0B {R : Type} (plumblineref03_digit : plumblineref03_digitY R) (k : Nat) (rec : Int → ByteArray → Int → Int → Option R) (x1 : Int) (x2 : ByteArray) (x3 : Int) (x4 : Int) (K0 : Int → Int → Option R) (K1 : Int → Option R) : Option R :=
  cond (decide (x4 < ((ByteArray.size x2 : Nat) : Int))) (
    Option.bind (strAt x2 x4) fun yc1 =>
    cond (yc1 == 46) (
      cond (decide (x3 < 0)) (
        rec x1 x2 x4 (Wi64 (x4 + 1))) (
        Option.bind (strAt x2 x4) fun yc2 =>
        plumblineref03_digit k yc2 (fun yr3 =>
          cond (!yr3) (
            K0 0 4) (
            rec x1 x2 x3 (Wi64 (x4 + 1)))))) (
      Option.bind (strAt x2 x4) fun yc4 =>
      plumblineref03_digit k yc4 (fun yr5 =>
        cond (!yr5) (
          K0 0 4) (
          rec x1 x2 x3 (Wi64 (x4 + 1)))))) (
    K1 x3)
noncomputable def plumblineref03_Literal_l0 {R : Type} (k : Nat) : Nat → Int → ByteArray → Int → Int → (Int → Int → Option R) → (Int → Option R) → Option R
  | 0, _, _, _, _, _, _ => none
  | n + 1, x1, x2, x3, x4, K0, K1 => plumblineref03_Literal_l0B plumblineref03_digit k (fun x1 x2 x3 x4 => plumblineref03_Literal_l0 k n x1 x2 x3 x4 K0 K1) x1 x2 x3 x4 K0 K1
noncomputable def cx16_3 {R : Type} (k : Nat) : Cx R := mkCx Ty exts [(49, true, S49 k), (50, true, S50 k), (51, true, S51 k), (52, true, S52 k)] fi16 [] []
theorem cx16_3_ok {R : Type} (k : Nat) : CxOk Try.prog (cx16_3 k : Cx R) := mkCx_ok (c := ((Try.f16).body.getD .skip)) ty_ok mixed exts_ok (allSum_cons (S49_ok k) en49 (allSum_cons (S50_ok k) en50 (allSum_cons (S51_ok k) en51 (allSum_cons (S52_ok k) en52 allSum_nil)))) Try.func16 en16 (by kernel_rfl) (by kernel_rfl) allLoop_nil allCut_nil
noncomputable def L16_3G {R : Type} (plumblineref03_Literal_l0 : plumblineref03_Literal_l0Y R) (k n : Nat) : LSum R := fun pin T H K => match pin, T, H with
  | 0, [(0, .i .i64 x1), (1, .s x2), (6, .i .i64 x3), (7, .i .i64 x4)], ⟨0, []⟩ => plumblineref03_Literal_l0 k n x1 x2 x3 x4 (fun q1 q2 => K .ret [(4, .i .u64 q1), (5, .i .i64 q2)] ⟨0, []⟩) (fun q3 => K (.exit 0) [(0, .i .i64 x1), (1, .s x2), (6, .i .i64 q3)] ⟨0, []⟩)
  | _, _, _ => none
noncomputable def L16_3 {R : Type} (k n : Nat) : LSum R := L16_3G plumblineref03_Literal_l0 k n
theorem plumblineref03_Literal_l0_gen {R : Type} (plumblineref03_digit : plumblineref03_digitY R) (plumblineref03_quotient : plumblineref03_quotientY R) (plumblineref03_quotient_n0 : plumblineref03_quotient_n0Y R) (plumblineref03_bits : plumblineref03_bitsY R) (plumblineref02_Rounded : plumblineref02_RoundedY R) (plumblineref02_Rounded_n3 : plumblineref02_Rounded_n3Y R) (plumblineref03_Literal_l0 : plumblineref03_Literal_l0Y R) (k n : Nat) (x1 : Int) (x2 : ByteArray) (x3 : Int) (x4 : Int) (K : Kont R) :
    (fun C => codeK C (run C 4)) (mkCx Ty exts [(49, true, S49G plumblineref03_digit k), (50, true, S50G plumblineref03_quotient plumblineref03_quotient_n0 k), (51, true, S51G plumblineref03_bits k), (52, true, S52G plumblineref02_Rounded plumblineref02_Rounded_n3 k)] fi16 [] []) 0 fi16 (loopAt ((Try.f16).body.getD .skip) 3) [(0, .i .i64 x1), (1, .s x2), (6, .i .i64 x3), (7, .i .i64 x4)] ⟨0, []⟩ (fun ex T H => match (generalizing := false) ex with
      | .normal => normAt (some [0, 1, 6, 7]) 0 T H (fun T H => L16_3G plumblineref03_Literal_l0 k n 0 T H K)
      | ex => exitNorm fi16.ann 3 0 K ex T H) =
    plumblineref03_Literal_l0B plumblineref03_digit k (fun x1 x2 x3 x4 => plumblineref03_Literal_l0 k n x1 x2 x3 x4 (fun q1 q2 => K .ret [(4, .i .u64 q1), (5, .i .i64 q2)] ⟨0, []⟩) (fun q3 => K (.exit 0) [(0, .i .i64 x1), (1, .s x2), (6, .i .i64 q3)] ⟨0, []⟩)) x1 x2 x3 x4 (fun q1 q2 => K .ret [(4, .i .u64 q1), (5, .i .i64 q2)] ⟨0, []⟩) (fun q3 => K (.exit 0) [(0, .i .i64 x1), (1, .s x2), (6, .i .i64 q3)] ⟨0, []⟩) := by kernel_rfl
theorem L16_3_cok {R : Type} (k : Nat) : CodeOk Try.prog (cx16_3 k : Cx R) fi16 (loopAt ((Try.f16).body.getD .skip) 3) := loopAt_ok (((cx16_3_ok k).fns 16 fi16 (by kernel_rfl)).2.2.2 ((Try.f16).body.getD .skip) (by kernel_rfl))
theorem L16_3_ok {R : Type} (k : Nat) : ∀ n, LoopOk Try.prog (Try.f16).ntmps (loopAt ((Try.f16).body.getD .skip) 3) (L16_3 k n : LSum R)
  | 0 => by
    intro pin T H K r h
    unfold L16_3 L16_3G at h
    split at h
    all_goals exact nomatch (show (none : Option R) = some r from h)
  | n + 1 => by
    intro pin T H K r h
    unfold L16_3 L16_3G at h
    split at h
    · obtain ⟨ex, T1, H1, h, hb⟩ := codeK_sound (cx16_3_ok k) (run_sound (cx16_3_ok k) 4) _ fi16 _ _ _ _ _ (L16_3_cok k) ((plumblineref03_Literal_l0_gen plumblineref03_digit plumblineref03_quotient plumblineref03_quotient_n0 plumblineref03_bits plumblineref02_Rounded plumblineref02_Rounded_n3 plumblineref03_Literal_l0 k n _ _ _ _ K).trans h)
      exact loop_step (fun T H hh => L16_3_ok k n _ T H K r hh) hb h
    · cases h
@[reducible] def plumblineref03_Literal_l1Y (R : Type) : Type := Nat → Nat → Int → ByteArray → Int → Int → Int → Int → (Int → Int → Option R) → Option R
noncomputable def plumblineref03_Literal_l1B {R : Type} (k : Nat) (rec : Int → ByteArray → Int → Int → Int → Int → Option R) (x1 : Int) (x2 : ByteArray) (x3 : Int) (x4 : Int) (x5 : Int) (x6 : Int) (K0 : Int → Int → Option R) : Option R :=
  cond (decide (x6 < ((ByteArray.size x2 : Nat) : Int))) (
    cond (x6 == x3) (
      rec x1 x2 x3 x4 x5 (Wi64 (x6 + 1))) (
      Option.bind (strAt x2 x6) fun yc1 =>
      cond (decide (x6 > x3)) (
        rec x1 x2 x3 (Wu64 ((Wu64 (x4 * 10)) + (Wu64 (Wu8 (yc1 - 48))))) (Wu64 (x5 * 10)) (Wi64 (x6 + 1))) (
        rec x1 x2 x3 (Wu64 ((Wu64 (x4 * 10)) + (Wu64 (Wu8 (yc1 - 48))))) x5 (Wi64 (x6 + 1))))) (
    K0 x4 x5)
noncomputable def plumblineref03_Literal_l1 {R : Type} (k : Nat) : Nat → Int → ByteArray → Int → Int → Int → Int → (Int → Int → Option R) → Option R
  | 0, _, _, _, _, _, _, _ => none
  | n + 1, x1, x2, x3, x4, x5, x6, K0 => plumblineref03_Literal_l1B k (fun x1 x2 x3 x4 x5 x6 => plumblineref03_Literal_l1 k n x1 x2 x3 x4 x5 x6 K0) x1 x2 x3 x4 x5 x6 K0
noncomputable def cx16_15 {R : Type} (k : Nat) : Cx R := mkCx Ty exts [(49, true, S49 k), (50, true, S50 k), (51, true, S51 k), (52, true, S52 k)] fi16 [(3, L16_3 k k)] []
theorem cx16_15_ok {R : Type} (k : Nat) : CxOk Try.prog (cx16_15 k : Cx R) := mkCx_ok (c := ((Try.f16).body.getD .skip)) ty_ok mixed exts_ok (allSum_cons (S49_ok k) en49 (allSum_cons (S50_ok k) en50 (allSum_cons (S51_ok k) en51 (allSum_cons (S52_ok k) en52 allSum_nil)))) Try.func16 en16 (by kernel_rfl) (by kernel_rfl) (allLoop_loop (by kernel_rfl) (L16_3_ok k k) allLoop_nil) allCut_nil
noncomputable def L16_15G {R : Type} (plumblineref03_Literal_l1 : plumblineref03_Literal_l1Y R) (k n : Nat) : LSum R := fun pin T H K => match pin, T, H with
  | 0, [(0, .i .i64 x1), (1, .s x2), (6, .i .i64 x3), (8, .i .u64 x4), (9, .i .u64 x5), (10, .i .i64 x6)], ⟨0, []⟩ => plumblineref03_Literal_l1 k n x1 x2 x3 x4 x5 x6 (fun q2 q3 => K (.exit 2) [(0, .i .i64 x1), (8, .i .u64 q2), (9, .i .u64 q3)] ⟨0, []⟩)
  | _, _, _ => none
noncomputable def L16_15 {R : Type} (k n : Nat) : LSum R := L16_15G plumblineref03_Literal_l1 k n
theorem plumblineref03_Literal_l1_gen {R : Type} (plumblineref03_digit : plumblineref03_digitY R) (plumblineref03_quotient : plumblineref03_quotientY R) (plumblineref03_quotient_n0 : plumblineref03_quotient_n0Y R) (plumblineref03_bits : plumblineref03_bitsY R) (plumblineref02_Rounded : plumblineref02_RoundedY R) (plumblineref02_Rounded_n3 : plumblineref02_Rounded_n3Y R) (plumblineref03_Literal_l0 : plumblineref03_Literal_l0Y R) (plumblineref03_Literal_l1 : plumblineref03_Literal_l1Y R) (k n : Nat) (x1 : Int) (x2 : ByteArray) (x3 : Int) (x4 : Int) (x5 : Int) (x6 : Int) (K : Kont R) :
    (fun C => codeK C (run C 4)) (mkCx Ty exts [(49, true, S49G plumblineref03_digit k), (50, true, S50G plumblineref03_quotient plumblineref03_quotient_n0 k), (51, true, S51G plumblineref03_bits k), (52, true, S52G plumblineref02_Rounded plumblineref02_Rounded_n3 k)] fi16 [(3, L16_3G plumblineref03_Literal_l0 k k)] []) 0 fi16 (loopAt ((Try.f16).body.getD .skip) 15) [(0, .i .i64 x1), (1, .s x2), (6, .i .i64 x3), (8, .i .u64 x4), (9, .i .u64 x5), (10, .i .i64 x6)] ⟨0, []⟩ (fun ex T H => match (generalizing := false) ex with
      | .normal => normAt (some [0, 1, 6, 8, 9, 10]) 0 T H (fun T H => L16_15G plumblineref03_Literal_l1 k n 0 T H K)
      | ex => exitNorm fi16.ann 15 0 K ex T H) =
    plumblineref03_Literal_l1B k (fun x1 x2 x3 x4 x5 x6 => plumblineref03_Literal_l1 k n x1 x2 x3 x4 x5 x6 (fun q2 q3 => K (.exit 2) [(0, .i .i64 x1), (8, .i .u64 q2), (9, .i .u64 q3)] ⟨0, []⟩)) x1 x2 x3 x4 x5 x6 (fun q2 q3 => K (.exit 2) [(0, .i .i64 x1), (8, .i .u64 q2), (9, .i .u64 q3)] ⟨0, []⟩) := by kernel_rfl
theorem L16_15_cok {R : Type} (k : Nat) : CodeOk Try.prog (cx16_15 k : Cx R) fi16 (loopAt ((Try.f16).body.getD .skip) 15) := loopAt_ok (((cx16_15_ok k).fns 16 fi16 (by kernel_rfl)).2.2.2 ((Try.f16).body.getD .skip) (by kernel_rfl))
theorem L16_15_ok {R : Type} (k : Nat) : ∀ n, LoopOk Try.prog (Try.f16).ntmps (loopAt ((Try.f16).body.getD .skip) 15) (L16_15 k n : LSum R)
  | 0 => by
    intro pin T H K r h
    unfold L16_15 L16_15G at h
    split at h
    all_goals exact nomatch (show (none : Option R) = some r from h)
  | n + 1 => by
    intro pin T H K r h
    unfold L16_15 L16_15G at h
    split at h
    · obtain ⟨ex, T1, H1, h, hb⟩ := codeK_sound (cx16_15_ok k) (run_sound (cx16_15_ok k) 4) _ fi16 _ _ _ _ _ (L16_15_cok k) ((plumblineref03_Literal_l1_gen plumblineref03_digit plumblineref03_quotient plumblineref03_quotient_n0 plumblineref03_bits plumblineref02_Rounded plumblineref02_Rounded_n3 plumblineref03_Literal_l0 plumblineref03_Literal_l1 k n _ _ _ _ _ _ K).trans h)
      exact loop_step (fun T H hh => L16_15_ok k n _ T H K r hh) hb h
    · cases h
noncomputable def cx16 {R : Type} (k : Nat) : Cx R := mkCx Ty exts [(49, true, S49 k), (50, true, S50 k), (51, true, S51 k), (52, true, S52 k)] fi16 [(3, L16_3 k k), (15, L16_15 k k)] []
theorem cx16_ok {R : Type} (k : Nat) : CxOk Try.prog (cx16 k : Cx R) := mkCx_ok (c := ((Try.f16).body.getD .skip)) ty_ok mixed exts_ok (allSum_cons (S49_ok k) en49 (allSum_cons (S50_ok k) en50 (allSum_cons (S51_ok k) en51 (allSum_cons (S52_ok k) en52 allSum_nil)))) Try.func16 en16 (by kernel_rfl) (by kernel_rfl) (allLoop_loop (by kernel_rfl) (L16_3_ok k k) (allLoop_loop (by kernel_rfl) (L16_15_ok k k) allLoop_nil)) allCut_nil
@[reducible] def plumblineref03_LiteralY (R : Type) : Type := Nat → Int → ByteArray → (Int → Int → Option R) → Option R
noncomputable def plumblineref03_LiteralT {R : Type} (plumblineref02_Rounded : plumblineref02_RoundedY R) (plumblineref03_Literal_l0 : plumblineref03_Literal_l0Y R) (plumblineref03_Literal_l1 : plumblineref03_Literal_l1Y R) (plumblineref03_bits : plumblineref03_bitsY R) (plumblineref03_quotient : plumblineref03_quotientY R) (plumblineref03_quotient_n0 : plumblineref03_quotient_n0Y R) (k : Nat) (a1 : Int) (a2 : ByteArray) (K0 : Int → Int → Option R) : Option R :=
  plumblineref03_Literal_l0 k k a1 a2 (-1) 0 (fun r1 r2 =>
    K0 r1 r2) (fun r3 =>
    cond (decide (r3 < 1)) (
      K0 0 4) (
      cond (r3 == (Wi64 (((ByteArray.size a2 : Nat) : Int) - 1))) (
        K0 0 4) (
        cond (decide ((Wi64 (((ByteArray.size a2 : Nat) : Int) - 1)) > 18)) (
          K0 0 9) (
          plumblineref03_Literal_l1 k k a1 a2 r3 0 1 0 (fun r4 r5 =>
            plumblineref03_bits k r4 (fun r6 =>
              plumblineref03_quotient k r5 1200 r6 (fun r7 r8 =>
                cond (Nat.ble ((1 + (List.length r8)) * 1) 70368744177664) (
                  plumblineref02_Rounded k a1 0 false (-1201) ([r7] ++ r8) (fun r9 =>
                    K0 r9 0)) (
                  none))) (
              plumblineref03_quotient_n0 k r5 1200 (fun r10 r11 =>
                cond (Nat.ble ((1 + (List.length r11)) * 1) 70368744177664) (
                  plumblineref02_Rounded k a1 0 false (-1201) ([r10] ++ r11) (fun r12 =>
                    K0 r12 0)) (
                  none))))))))
noncomputable def plumblineref03_Literal {R : Type} (k : Nat) (a1 : Int) (a2 : ByteArray) (K0 : Int → Int → Option R) : Option R := plumblineref03_LiteralT plumblineref02_Rounded plumblineref03_Literal_l0 plumblineref03_Literal_l1 plumblineref03_bits plumblineref03_quotient plumblineref03_quotient_n0 k a1 a2 K0
theorem plumblineref03_Literal_gen {R : Type} (plumblineref03_digit : plumblineref03_digitY R) (plumblineref03_quotient : plumblineref03_quotientY R) (plumblineref03_quotient_n0 : plumblineref03_quotient_n0Y R) (plumblineref03_bits : plumblineref03_bitsY R) (plumblineref02_Rounded : plumblineref02_RoundedY R) (plumblineref02_Rounded_n3 : plumblineref02_Rounded_n3Y R) (plumblineref03_Literal_l0 : plumblineref03_Literal_l0Y R) (plumblineref03_Literal_l1 : plumblineref03_Literal_l1Y R) (k : Nat) (a1 : Int) (a2 : ByteArray) (K : AV → Heap → Option R) :
    fnK (mkCx Ty exts [(49, true, S49G plumblineref03_digit k), (50, true, S50G plumblineref03_quotient plumblineref03_quotient_n0 k), (51, true, S51G plumblineref03_bits k), (52, true, S52G plumblineref02_Rounded plumblineref02_Rounded_n3 k)] fi16 [(3, L16_3G plumblineref03_Literal_l0 k k), (15, L16_15G plumblineref03_Literal_l1 k k)] []) 6 16 [.i .i64 a1, .s a2] ⟨0, []⟩ K = plumblineref03_LiteralT plumblineref02_Rounded plumblineref03_Literal_l0 plumblineref03_Literal_l1 plumblineref03_bits plumblineref03_quotient plumblineref03_quotient_n0 k a1 a2 (fun q1 q2 => K (.tup [.i .u64 q1, .i .i64 q2]) ⟨0, []⟩) := by kernel_rfl
noncomputable def S16G {R : Type} (plumblineref03_Literal : plumblineref03_LiteralY R) (k : Nat) : Sum R := fun args H K => match args, H with
  | [.i .i64 a1, .s a2], ⟨0, []⟩ => plumblineref03_Literal k a1 a2 (fun q1 q2 => K (.tup [.i .u64 q1, .i .i64 q2]) ⟨0, []⟩)
  | _, _ => none
noncomputable def S16 {R : Type} (k : Nat) : Sum R := S16G plumblineref03_Literal k
theorem S16_ok0 {R : Type} (k : Nat) : SumOk Try.prog 16 false (S16 k : Sum R) := by
  intro args H K r h
  unfold S16 S16G at h
  split at h
  · exact fnK_sound (cx16_ok k) 6 16 _ _ K r ((plumblineref03_Literal_gen plumblineref03_digit plumblineref03_quotient plumblineref03_quotient_n0 plumblineref03_bits plumblineref02_Rounded plumblineref02_Rounded_n3 plumblineref03_Literal_l0 plumblineref03_Literal_l1 k _ _ K).trans h)
  · cases h
theorem S16_ok {R : Type} (k : Nat) : SumOk Try.prog 16 true (S16 k : Sum R) := by
  refine sumOk_keep (S16_ok0 k) ?_
  intro args H K r h
  unfold S16 S16G at h ⊢
  split at h
  · refine Eq.trans ?_ h
    show plumblineref03_Literal k _ _ _ = plumblineref03_Literal k _ _ _
    congr 1
    all_goals first | exact (funext fun q1 => funext fun q2 => if_pos (keeps_app _ _ _ [])) | skip
  · cases h
-- function 18: plumbline/plumblineref03.Int
noncomputable def fi18 : FnI := ⟨18, Try.f18, [(100002, [0, 4]), (100012, [0, 5, 6]), (2000002, [2, 3]), (3002000, [0]), (3012003, [5])]⟩
theorem en18 : Enters Try.prog 18 := enters_of Try.func18 (c := ((Try.f18).body.getD .skip)) (by kernel_rfl) (by kernel_rfl)
@[reducible] def plumblineref03_Int_l0Y (R : Type) : Type := Nat → Nat → ByteArray → Int → (Int → Int → Option R) → (Option R) → Option R
noncomputable def plumblineref03_Int_l0B {R : Type} (plumblineref03_digit : plumblineref03_digitY R) (k : Nat) (rec : ByteArray → Int → Option R) (x1 : ByteArray) (x2 : Int) (K0 : Int → Int → Option R) (K1 : Option R) : Option R :=
  cond (decide (x2 < ((ByteArray.size x1 : Nat) : Int))) (
    Option.bind (strAt x1 x2) fun yc1 =>
    plumblineref03_digit k yc1 (fun yr2 =>
      cond (!yr2) (
        K0 0 4) (
        rec x1 (Wi64 (x2 + 1))))) (
    K1)
noncomputable def plumblineref03_Int_l0 {R : Type} (k : Nat) : Nat → ByteArray → Int → (Int → Int → Option R) → (Option R) → Option R
  | 0, _, _, _, _ => none
  | n + 1, x1, x2, K0, K1 => plumblineref03_Int_l0B plumblineref03_digit k (fun x1 x2 => plumblineref03_Int_l0 k n x1 x2 K0 K1) x1 x2 K0 K1
noncomputable def cx18_2 {R : Type} (k : Nat) : Cx R := mkCx Ty exts [(49, true, S49 k)] fi18 [] []
theorem cx18_2_ok {R : Type} (k : Nat) : CxOk Try.prog (cx18_2 k : Cx R) := mkCx_ok (c := ((Try.f18).body.getD .skip)) ty_ok mixed exts_ok (allSum_cons (S49_ok k) en49 allSum_nil) Try.func18 en18 (by kernel_rfl) (by kernel_rfl) allLoop_nil allCut_nil
noncomputable def L18_2G {R : Type} (plumblineref03_Int_l0 : plumblineref03_Int_l0Y R) (k n : Nat) : LSum R := fun pin T H K => match pin, T, H with
  | 0, [(0, .s x1), (4, .i .i64 x2)], ⟨0, []⟩ => plumblineref03_Int_l0 k n x1 x2 (fun q1 q2 => K .ret [(2, .i .i64 q1), (3, .i .i64 q2)] ⟨0, []⟩) (K (.exit 0) [(0, .s x1)] ⟨0, []⟩)
  | _, _, _ => none
noncomputable def L18_2 {R : Type} (k n : Nat) : LSum R := L18_2G plumblineref03_Int_l0 k n
theorem plumblineref03_Int_l0_gen {R : Type} (plumblineref03_digit : plumblineref03_digitY R) (plumblineref03_Int_l0 : plumblineref03_Int_l0Y R) (k n : Nat) (x1 : ByteArray) (x2 : Int) (K : Kont R) :
    (fun C => codeK C (run C 4)) (mkCx Ty exts [(49, true, S49G plumblineref03_digit k)] fi18 [] []) 0 fi18 (loopAt ((Try.f18).body.getD .skip) 2) [(0, .s x1), (4, .i .i64 x2)] ⟨0, []⟩ (fun ex T H => match (generalizing := false) ex with
      | .normal => normAt (some [0, 4]) 0 T H (fun T H => L18_2G plumblineref03_Int_l0 k n 0 T H K)
      | ex => exitNorm fi18.ann 2 0 K ex T H) =
    plumblineref03_Int_l0B plumblineref03_digit k (fun x1 x2 => plumblineref03_Int_l0 k n x1 x2 (fun q1 q2 => K .ret [(2, .i .i64 q1), (3, .i .i64 q2)] ⟨0, []⟩) (K (.exit 0) [(0, .s x1)] ⟨0, []⟩)) x1 x2 (fun q1 q2 => K .ret [(2, .i .i64 q1), (3, .i .i64 q2)] ⟨0, []⟩) (K (.exit 0) [(0, .s x1)] ⟨0, []⟩) := by kernel_rfl
theorem L18_2_cok {R : Type} (k : Nat) : CodeOk Try.prog (cx18_2 k : Cx R) fi18 (loopAt ((Try.f18).body.getD .skip) 2) := loopAt_ok (((cx18_2_ok k).fns 18 fi18 (by kernel_rfl)).2.2.2 ((Try.f18).body.getD .skip) (by kernel_rfl))
theorem L18_2_ok {R : Type} (k : Nat) : ∀ n, LoopOk Try.prog (Try.f18).ntmps (loopAt ((Try.f18).body.getD .skip) 2) (L18_2 k n : LSum R)
  | 0 => by
    intro pin T H K r h
    unfold L18_2 L18_2G at h
    split at h
    all_goals exact nomatch (show (none : Option R) = some r from h)
  | n + 1 => by
    intro pin T H K r h
    unfold L18_2 L18_2G at h
    split at h
    · obtain ⟨ex, T1, H1, h, hb⟩ := codeK_sound (cx18_2_ok k) (run_sound (cx18_2_ok k) 4) _ fi18 _ _ _ _ _ (L18_2_cok k) ((plumblineref03_Int_l0_gen plumblineref03_digit plumblineref03_Int_l0 k n _ _ K).trans h)
      exact loop_step (fun T H hh => L18_2_ok k n _ T H K r hh) hb h
    · cases h
@[reducible] def plumblineref03_Int_l1Y (R : Type) : Type := Nat → Nat → ByteArray → Int → Int → (Int → Option R) → Option R
noncomputable def plumblineref03_Int_l1B {R : Type} (k : Nat) (rec : ByteArray → Int → Int → Option R) (x1 : ByteArray) (x2 : Int) (x3 : Int) (K0 : Int → Option R) : Option R :=
  cond (decide (x3 < ((ByteArray.size x1 : Nat) : Int))) (
    Option.bind (strAt x1 x3) fun yc1 =>
    rec x1 (Wi64 ((Wi64 (x2 * 10)) + (Wi64 (Wu8 (yc1 - 48))))) (Wi64 (x3 + 1))) (
    K0 x2)
noncomputable def plumblineref03_Int_l1 {R : Type} (k : Nat) : Nat → ByteArray → Int → Int → (Int → Option R) → Option R
  | 0, _, _, _, _ => none
  | n + 1, x1, x2, x3, K0 => plumblineref03_Int_l1B k (fun x1 x2 x3 => plumblineref03_Int_l1 k n x1 x2 x3 K0) x1 x2 x3 K0
noncomputable def cx18_12 {R : Type} (k : Nat) : Cx R := mkCx Ty exts [(49, true, S49 k)] fi18 [(2, L18_2 k k)] []
theorem cx18_12_ok {R : Type} (k : Nat) : CxOk Try.prog (cx18_12 k : Cx R) := mkCx_ok (c := ((Try.f18).body.getD .skip)) ty_ok mixed exts_ok (allSum_cons (S49_ok k) en49 allSum_nil) Try.func18 en18 (by kernel_rfl) (by kernel_rfl) (allLoop_loop (by kernel_rfl) (L18_2_ok k k) allLoop_nil) allCut_nil
noncomputable def L18_12G {R : Type} (plumblineref03_Int_l1 : plumblineref03_Int_l1Y R) (k n : Nat) : LSum R := fun pin T H K => match pin, T, H with
  | 0, [(0, .s x1), (5, .i .i64 x2), (6, .i .i64 x3)], ⟨0, []⟩ => plumblineref03_Int_l1 k n x1 x2 x3 (fun q1 => K (.exit 3) [(5, .i .i64 q1)] ⟨0, []⟩)
  | _, _, _ => none
noncomputable def L18_12 {R : Type} (k n : Nat) : LSum R := L18_12G plumblineref03_Int_l1 k n
theorem plumblineref03_Int_l1_gen {R : Type} (plumblineref03_digit : plumblineref03_digitY R) (plumblineref03_Int_l0 : plumblineref03_Int_l0Y R) (plumblineref03_Int_l1 : plumblineref03_Int_l1Y R) (k n : Nat) (x1 : ByteArray) (x2 : Int) (x3 : Int) (K : Kont R) :
    (fun C => codeK C (run C 4)) (mkCx Ty exts [(49, true, S49G plumblineref03_digit k)] fi18 [(2, L18_2G plumblineref03_Int_l0 k k)] []) 0 fi18 (loopAt ((Try.f18).body.getD .skip) 12) [(0, .s x1), (5, .i .i64 x2), (6, .i .i64 x3)] ⟨0, []⟩ (fun ex T H => match (generalizing := false) ex with
      | .normal => normAt (some [0, 5, 6]) 0 T H (fun T H => L18_12G plumblineref03_Int_l1 k n 0 T H K)
      | ex => exitNorm fi18.ann 12 0 K ex T H) =
    plumblineref03_Int_l1B k (fun x1 x2 x3 => plumblineref03_Int_l1 k n x1 x2 x3 (fun q1 => K (.exit 3) [(5, .i .i64 q1)] ⟨0, []⟩)) x1 x2 x3 (fun q1 => K (.exit 3) [(5, .i .i64 q1)] ⟨0, []⟩) := by kernel_rfl
theorem L18_12_cok {R : Type} (k : Nat) : CodeOk Try.prog (cx18_12 k : Cx R) fi18 (loopAt ((Try.f18).body.getD .skip) 12) := loopAt_ok (((cx18_12_ok k).fns 18 fi18 (by kernel_rfl)).2.2.2 ((Try.f18).body.getD .skip) (by kernel_rfl))
theorem L18_12_ok {R : Type} (k : Nat) : ∀ n, LoopOk Try.prog (Try.f18).ntmps (loopAt ((Try.f18).body.getD .skip) 12) (L18_12 k n : LSum R)
  | 0 => by
    intro pin T H K r h
    unfold L18_12 L18_12G at h
    split at h
    all_goals exact nomatch (show (none : Option R) = some r from h)
  | n + 1 => by
    intro pin T H K r h
    unfold L18_12 L18_12G at h
    split at h
    · obtain ⟨ex, T1, H1, h, hb⟩ := codeK_sound (cx18_12_ok k) (run_sound (cx18_12_ok k) 4) _ fi18 _ _ _ _ _ (L18_12_cok k) ((plumblineref03_Int_l1_gen plumblineref03_digit plumblineref03_Int_l0 plumblineref03_Int_l1 k n _ _ _ K).trans h)
      exact loop_step (fun T H hh => L18_12_ok k n _ T H K r hh) hb h
    · cases h
noncomputable def cx18 {R : Type} (k : Nat) : Cx R := mkCx Ty exts [(49, true, S49 k)] fi18 [(2, L18_2 k k), (12, L18_12 k k)] []
theorem cx18_ok {R : Type} (k : Nat) : CxOk Try.prog (cx18 k : Cx R) := mkCx_ok (c := ((Try.f18).body.getD .skip)) ty_ok mixed exts_ok (allSum_cons (S49_ok k) en49 allSum_nil) Try.func18 en18 (by kernel_rfl) (by kernel_rfl) (allLoop_loop (by kernel_rfl) (L18_2_ok k k) (allLoop_loop (by kernel_rfl) (L18_12_ok k k) allLoop_nil)) allCut_nil
@[reducible] def plumblineref03_IntY (R : Type) : Type := Nat → ByteArray → (Int → Int → Option R) → Option R
noncomputable def plumblineref03_IntT {R : Type} (plumblineref03_Int_l0 : plumblineref03_Int_l0Y R) (plumblineref03_Int_l1 : plumblineref03_Int_l1Y R) (k : Nat) (a1 : ByteArray) (K0 : Int → Int → Option R) : Option R :=
  plumblineref03_Int_l0 k k a1 0 (fun r1 r2 =>
    K0 r1 r2) (
    cond (ByteArray.toList a1 == ByteArray.toList ⟨#[]⟩) (
      K0 0 4) (
      cond (decide (((ByteArray.size a1 : Nat) : Int) > 18)) (
        K0 0 9) (
        plumblineref03_Int_l1 k k a1 0 0 (fun r3 =>
          cond (decide (r3 > 2147483647)) (
            K0 0 2) (
            K0 r3 0)))))
noncomputable def plumblineref03_Int {R : Type} (k : Nat) (a1 : ByteArray) (K0 : Int → Int → Option R) : Option R := plumblineref03_IntT plumblineref03_Int_l0 plumblineref03_Int_l1 k a1 K0
theorem plumblineref03_Int_gen {R : Type} (plumblineref03_digit : plumblineref03_digitY R) (plumblineref03_Int_l0 : plumblineref03_Int_l0Y R) (plumblineref03_Int_l1 : plumblineref03_Int_l1Y R) (k : Nat) (a1 : ByteArray) (K : AV → Heap → Option R) :
    fnK (mkCx Ty exts [(49, true, S49G plumblineref03_digit k)] fi18 [(2, L18_2G plumblineref03_Int_l0 k k), (12, L18_12G plumblineref03_Int_l1 k k)] []) 6 18 [.s a1] ⟨0, []⟩ K = plumblineref03_IntT plumblineref03_Int_l0 plumblineref03_Int_l1 k a1 (fun q1 q2 => K (.tup [.i .i64 q1, .i .i64 q2]) ⟨0, []⟩) := by kernel_rfl
noncomputable def S18G {R : Type} (plumblineref03_Int : plumblineref03_IntY R) (k : Nat) : Sum R := fun args H K => match args, H with
  | [.s a1], ⟨0, []⟩ => plumblineref03_Int k a1 (fun q1 q2 => K (.tup [.i .i64 q1, .i .i64 q2]) ⟨0, []⟩)
  | _, _ => none
noncomputable def S18 {R : Type} (k : Nat) : Sum R := S18G plumblineref03_Int k
theorem S18_ok0 {R : Type} (k : Nat) : SumOk Try.prog 18 false (S18 k : Sum R) := by
  intro args H K r h
  unfold S18 S18G at h
  split at h
  · exact fnK_sound (cx18_ok k) 6 18 _ _ K r ((plumblineref03_Int_gen plumblineref03_digit plumblineref03_Int_l0 plumblineref03_Int_l1 k _ K).trans h)
  · cases h
theorem S18_ok {R : Type} (k : Nat) : SumOk Try.prog 18 true (S18 k : Sum R) := by
  refine sumOk_keep (S18_ok0 k) ?_
  intro args H K r h
  unfold S18 S18G at h ⊢
  split at h
  · refine Eq.trans ?_ h
    show plumblineref03_Int k _ _ = plumblineref03_Int k _ _
    congr 1
    all_goals first | exact (funext fun q1 => funext fun q2 => if_pos (keeps_app _ _ _ [])) | skip
  · cases h
-- function 26: plumbline/plumblineref03.Plain
noncomputable def fi26 : FnI := ⟨26, Try.f26, []⟩
theorem en26 : Enters Try.prog 26 := enters_of Try.func26 (c := ((Try.f26).body.getD .skip)) (by kernel_rfl) (by kernel_rfl)
noncomputable def cx26 {R : Type} (k : Nat) : Cx R := mkCx Ty exts [(40, true, S40 k), (55, true, S55 k)] fi26 [] []
theorem cx26_ok {R : Type} (k : Nat) : CxOk Try.prog (cx26 k : Cx R) := mkCx_ok (c := ((Try.f26).body.getD .skip)) ty_ok mixed exts_ok (allSum_cons (S40_ok k) en40 (allSum_cons (S55_ok k) en55 allSum_nil)) Try.func26 en26 (by kernel_rfl) (by kernel_rfl) allLoop_nil allCut_nil
@[reducible] def plumblineref03_PlainY (R : Type) : Type := Nat → Int → Int → (Int → Option R) → Option R
noncomputable def plumblineref03_PlainT {R : Type} (plumblineref02_Class : plumblineref02_ClassY R) (plumblineref02_Nan : plumblineref02_NanY R) (k : Nat) (a1 : Int) (a2 : Int) (K0 : Int → Option R) : Option R :=
  plumblineref02_Class k a1 a2 (fun r1 =>
    cond (r1 == 0) (
      plumblineref02_Nan k a1 (fun r2 =>
        K0 r2)) (
      cond (r1 == 5) (
        plumblineref02_Nan k a1 (fun r3 =>
          K0 r3)) (
        cond (r1 == 1) (
          K0 0) (
          K0 a2))))
noncomputable def plumblineref03_Plain {R : Type} (k : Nat) (a1 : Int) (a2 : Int) (K0 : Int → Option R) : Option R := plumblineref03_PlainT plumblineref02_Class plumblineref02_Nan k a1 a2 K0
theorem plumblineref03_Plain_gen {R : Type} (plumblineref02_Class : plumblineref02_ClassY R) (plumblineref02_Nan : plumblineref02_NanY R) (k : Nat) (a1 : Int) (a2 : Int) (K : AV → Heap → Option R) :
    fnK (mkCx Ty exts [(40, true, S40G plumblineref02_Class k), (55, true, S55G plumblineref02_Nan k)] fi26 [] []) 6 26 [.i .i64 a1, .i .u64 a2] ⟨0, []⟩ K = plumblineref03_PlainT plumblineref02_Class plumblineref02_Nan k a1 a2 (fun q1 => K (.i .u64 q1) ⟨0, []⟩) := by kernel_rfl
noncomputable def S26G {R : Type} (plumblineref03_Plain : plumblineref03_PlainY R) (k : Nat) : Sum R := fun args H K => match args, H with
  | [.i .i64 a1, .i .u64 a2], ⟨0, []⟩ => plumblineref03_Plain k a1 a2 (fun q1 => K (.i .u64 q1) ⟨0, []⟩)
  | _, _ => none
noncomputable def S26 {R : Type} (k : Nat) : Sum R := S26G plumblineref03_Plain k
theorem S26_ok0 {R : Type} (k : Nat) : SumOk Try.prog 26 false (S26 k : Sum R) := by
  intro args H K r h
  unfold S26 S26G at h
  split at h
  · exact fnK_sound (cx26_ok k) 6 26 _ _ K r ((plumblineref03_Plain_gen plumblineref02_Class plumblineref02_Nan k _ _ K).trans h)
  · cases h
theorem S26_ok {R : Type} (k : Nat) : SumOk Try.prog 26 true (S26 k : Sum R) := by
  refine sumOk_keep (S26_ok0 k) ?_
  intro args H K r h
  unfold S26 S26G at h ⊢
  split at h
  · refine Eq.trans ?_ h
    show plumblineref03_Plain k _ _ _ = plumblineref03_Plain k _ _ _
    congr 1
    all_goals first | exact (funext fun q1 => if_pos (keeps_app _ _ _ [])) | skip
  · cases h
-- function 22: plumbline/plumblineref03.Next
noncomputable def fi22 : FnI := ⟨22, Try.f22, []⟩
theorem en22 : Enters Try.prog 22 := enters_of Try.func22 (c := ((Try.f22).body.getD .skip)) (by kernel_rfl) (by kernel_rfl)
noncomputable def cx22 {R : Type} (k : Nat) : Cx R := mkCx Ty exts [(26, true, S26 k), (54, true, S54 k), (55, true, S55 k), (56, true, S56 k), (57, true, S57 k)] fi22 [] []
theorem cx22_ok {R : Type} (k : Nat) : CxOk Try.prog (cx22 k : Cx R) := mkCx_ok (c := ((Try.f22).body.getD .skip)) ty_ok mixed exts_ok (allSum_cons (S26_ok k) en26 (allSum_cons (S54_ok k) en54 (allSum_cons (S55_ok k) en55 (allSum_cons (S56_ok k) en56 (allSum_cons (S57_ok k) en57 allSum_nil))))) Try.func22 en22 (by kernel_rfl) (by kernel_rfl) allLoop_nil allCut_nil
@[reducible] def plumblineref03_NextY (R : Type) : Type := Nat → Int → Int → (Int → Option R) → Option R
noncomputable def plumblineref03_NextT {R : Type} (plumblineref02_Below : plumblineref02_BelowY R) (plumblineref02_Finite : plumblineref02_FiniteY R) (plumblineref02_Most : plumblineref02_MostY R) (plumblineref02_Nan : plumblineref02_NanY R) (plumblineref03_Plain : plumblineref03_PlainY R) (k : Nat) (a1 : Int) (a2 : Int) (K0 : Int → Option R) : Option R :=
  plumblineref02_Finite k a1 a2 (fun r1 =>
    cond (!r1) (
      plumblineref02_Nan k a1 (fun r2 =>
        K0 r2)) (
      plumblineref03_Plain k a1 a2 (fun r3 =>
        plumblineref02_Most k a1 (fun r4 =>
          cond (r3 == r4) (
            K0 r3) (
            plumblineref02_Below k a1 r3 (fun r5 =>
              cond r5 (
                plumblineref03_Plain k a1 (Wu64 (r3 - 1)) (fun r6 =>
                  K0 r6)) (
                K0 (Wu64 (r3 + 1)))))))))
noncomputable def plumblineref03_Next {R : Type} (k : Nat) (a1 : Int) (a2 : Int) (K0 : Int → Option R) : Option R := plumblineref03_NextT plumblineref02_Below plumblineref02_Finite plumblineref02_Most plumblineref02_Nan plumblineref03_Plain k a1 a2 K0
theorem plumblineref03_Next_gen {R : Type} (plumblineref03_Plain : plumblineref03_PlainY R) (plumblineref02_Finite : plumblineref02_FiniteY R) (plumblineref02_Nan : plumblineref02_NanY R) (plumblineref02_Most : plumblineref02_MostY R) (plumblineref02_Below : plumblineref02_BelowY R) (k : Nat) (a1 : Int) (a2 : Int) (K : AV → Heap → Option R) :
    fnK (mkCx Ty exts [(26, true, S26G plumblineref03_Plain k), (54, true, S54G plumblineref02_Finite k), (55, true, S55G plumblineref02_Nan k), (56, true, S56G plumblineref02_Most k), (57, true, S57G plumblineref02_Below k)] fi22 [] []) 6 22 [.i .i64 a1, .i .u64 a2] ⟨0, []⟩ K = plumblineref03_NextT plumblineref02_Below plumblineref02_Finite plumblineref02_Most plumblineref02_Nan plumblineref03_Plain k a1 a2 (fun q1 => K (.i .u64 q1) ⟨0, []⟩) := by kernel_rfl
noncomputable def S22G {R : Type} (plumblineref03_Next : plumblineref03_NextY R) (k : Nat) : Sum R := fun args H K => match args, H with
  | [.i .i64 a1, .i .u64 a2], ⟨0, []⟩ => plumblineref03_Next k a1 a2 (fun q1 => K (.i .u64 q1) ⟨0, []⟩)
  | _, _ => none
noncomputable def S22 {R : Type} (k : Nat) : Sum R := S22G plumblineref03_Next k
theorem S22_ok0 {R : Type} (k : Nat) : SumOk Try.prog 22 false (S22 k : Sum R) := by
  intro args H K r h
  unfold S22 S22G at h
  split at h
  · exact fnK_sound (cx22_ok k) 6 22 _ _ K r ((plumblineref03_Next_gen plumblineref03_Plain plumblineref02_Finite plumblineref02_Nan plumblineref02_Most plumblineref02_Below k _ _ K).trans h)
  · cases h
theorem S22_ok {R : Type} (k : Nat) : SumOk Try.prog 22 true (S22 k : Sum R) := by
  refine sumOk_keep (S22_ok0 k) ?_
  intro args H K r h
  unfold S22 S22G at h ⊢
  split at h
  · refine Eq.trans ?_ h
    show plumblineref03_Next k _ _ _ = plumblineref03_Next k _ _ _
    congr 1
    all_goals first | exact (funext fun q1 => if_pos (keeps_app _ _ _ [])) | skip
  · cases h
-- function 24: plumbline/plumblineref03.Prev
noncomputable def fi24 : FnI := ⟨24, Try.f24, []⟩
theorem en24 : Enters Try.prog 24 := enters_of Try.func24 (c := ((Try.f24).body.getD .skip)) (by kernel_rfl) (by kernel_rfl)
noncomputable def cx24 {R : Type} (k : Nat) : Cx R := mkCx Ty exts [(22, true, S22 k), (26, true, S26 k), (54, true, S54 k), (55, true, S55 k), (59, true, S59 k)] fi24 [] []
theorem cx24_ok {R : Type} (k : Nat) : CxOk Try.prog (cx24 k : Cx R) := mkCx_ok (c := ((Try.f24).body.getD .skip)) ty_ok mixed exts_ok (allSum_cons (S22_ok k) en22 (allSum_cons (S26_ok k) en26 (allSum_cons (S54_ok k) en54 (allSum_cons (S55_ok k) en55 (allSum_cons (S59_ok k) en59 allSum_nil))))) Try.func24 en24 (by kernel_rfl) (by kernel_rfl) allLoop_nil allCut_nil
@[reducible] def plumblineref03_PrevY (R : Type) : Type := Nat → Int → Int → (Int → Option R) → Option R
noncomputable def plumblineref03_PrevT {R : Type} (plumblineref02_Finite : plumblineref02_FiniteY R) (plumblineref02_Nan : plumblineref02_NanY R) (plumblineref02_Neg : plumblineref02_NegY R) (plumblineref03_Next : plumblineref03_NextY R) (plumblineref03_Plain : plumblineref03_PlainY R) (k : Nat) (a1 : Int) (a2 : Int) (K0 : Int → Option R) : Option R :=
  plumblineref02_Finite k a1 a2 (fun r1 =>
    cond (!r1) (
      plumblineref02_Nan k a1 (fun r2 =>
        K0 r2)) (
      plumblineref02_Neg k a1 a2 (fun r3 =>
        plumblineref03_Next k a1 r3 (fun r4 =>
          plumblineref02_Neg k a1 r4 (fun r5 =>
            plumblineref03_Plain k a1 r5 (fun r6 =>
              K0 r6))))))
noncomputable def plumblineref03_Prev {R : Type} (k : Nat) (a1 : Int) (a2 : Int) (K0 : Int → Option R) : Option R := plumblineref03_PrevT plumblineref02_Finite plumblineref02_Nan plumblineref02_Neg plumblineref03_Next plumblineref03_Plain k a1 a2 K0
theorem plumblineref03_Prev_gen {R : Type} (plumblineref03_Next : plumblineref03_NextY R) (plumblineref03_Plain : plumblineref03_PlainY R) (plumblineref02_Finite : plumblineref02_FiniteY R) (plumblineref02_Nan : plumblineref02_NanY R) (plumblineref02_Neg : plumblineref02_NegY R) (k : Nat) (a1 : Int) (a2 : Int) (K : AV → Heap → Option R) :
    fnK (mkCx Ty exts [(22, true, S22G plumblineref03_Next k), (26, true, S26G plumblineref03_Plain k), (54, true, S54G plumblineref02_Finite k), (55, true, S55G plumblineref02_Nan k), (59, true, S59G plumblineref02_Neg k)] fi24 [] []) 6 24 [.i .i64 a1, .i .u64 a2] ⟨0, []⟩ K = plumblineref03_PrevT plumblineref02_Finite plumblineref02_Nan plumblineref02_Neg plumblineref03_Next plumblineref03_Plain k a1 a2 (fun q1 => K (.i .u64 q1) ⟨0, []⟩) := by kernel_rfl
noncomputable def S24G {R : Type} (plumblineref03_Prev : plumblineref03_PrevY R) (k : Nat) : Sum R := fun args H K => match args, H with
  | [.i .i64 a1, .i .u64 a2], ⟨0, []⟩ => plumblineref03_Prev k a1 a2 (fun q1 => K (.i .u64 q1) ⟨0, []⟩)
  | _, _ => none
noncomputable def S24 {R : Type} (k : Nat) : Sum R := S24G plumblineref03_Prev k
theorem S24_ok0 {R : Type} (k : Nat) : SumOk Try.prog 24 false (S24 k : Sum R) := by
  intro args H K r h
  unfold S24 S24G at h
  split at h
  · exact fnK_sound (cx24_ok k) 6 24 _ _ K r ((plumblineref03_Prev_gen plumblineref03_Next plumblineref03_Plain plumblineref02_Finite plumblineref02_Nan plumblineref02_Neg k _ _ K).trans h)
  · cases h
theorem S24_ok {R : Type} (k : Nat) : SumOk Try.prog 24 true (S24 k : Sum R) := by
  refine sumOk_keep (S24_ok0 k) ?_
  intro args H K r h
  unfold S24 S24G at h ⊢
  split at h
  · refine Eq.trans ?_ h
    show plumblineref03_Prev k _ _ _ = plumblineref03_Prev k _ _ _
    congr 1
    all_goals first | exact (funext fun q1 => if_pos (keeps_app _ _ _ [])) | skip
  · cases h
-- function 27: plumbline/plumblineref03.Hex
noncomputable def fi27 : FnI := ⟨27, Try.f27, [(100008, [1, 5, 6, 7]), (3008000, [6])]⟩
theorem en27 : Enters Try.prog 27 := enters_of Try.func27 (c := ((Try.f27).body.getD .skip)) (by kernel_rfl) (by kernel_rfl)
@[reducible] def plumblineref03_Hex_l0Y (R : Type) : Type := Nat → Nat → Int → Int → ByteArray → Int → (ByteArray → Option R) → Option R
noncomputable def plumblineref03_Hex_l0B {R : Type} (k : Nat) (rec : Int → Int → ByteArray → Int → Option R) (x1 : Int) (x2 : Int) (x3 : ByteArray) (x4 : Int) (K0 : ByteArray → Option R) : Option R :=
  cond (decide (x4 < x2)) (
    cond (decide ((Wi64 (4 * x4)) < 0)) (
      none) (
      cond (decide ((Wu8 (bAnd .u64 (shr .u64 x1 (Wi64 (4 * x4))) 15)) > 9)) (
        cond (Nat.ble (ByteArray.size (bytesOf [(Wu8 ((Wu8 (97 + (Wu8 (bAnd .u64 (shr .u64 x1 (Wi64 (4 * x4))) 15)))) - 10))]) + ByteArray.size x3) 9223372036854775807) (
          rec x1 x2 ((bytesOf [(Wu8 ((Wu8 (97 + (Wu8 (bAnd .u64 (shr .u64 x1 (Wi64 (4 * x4))) 15)))) - 10))]) ++ x3) (Wi64 (x4 + 1))) (
          none)) (
        cond (Nat.ble (ByteArray.size (bytesOf [(Wu8 (48 + (Wu8 (bAnd .u64 (shr .u64 x1 (Wi64 (4 * x4))) 15))))]) + ByteArray.size x3) 9223372036854775807) (
          rec x1 x2 ((bytesOf [(Wu8 (48 + (Wu8 (bAnd .u64 (shr .u64 x1 (Wi64 (4 * x4))) 15))))]) ++ x3) (Wi64 (x4 + 1))) (
          none)))) (
    K0 x3)
noncomputable def plumblineref03_Hex_l0 {R : Type} (k : Nat) : Nat → Int → Int → ByteArray → Int → (ByteArray → Option R) → Option R
  | 0, _, _, _, _, _ => none
  | n + 1, x1, x2, x3, x4, K0 => plumblineref03_Hex_l0B k (fun x1 x2 x3 x4 => plumblineref03_Hex_l0 k n x1 x2 x3 x4 K0) x1 x2 x3 x4 K0
noncomputable def cx27_8 {R : Type} (k : Nat) : Cx R := mkCx Ty exts [(55, true, S55 k)] fi27 [] []
theorem cx27_8_ok {R : Type} (k : Nat) : CxOk Try.prog (cx27_8 k : Cx R) := mkCx_ok (c := ((Try.f27).body.getD .skip)) ty_ok mixed exts_ok (allSum_cons (S55_ok k) en55 allSum_nil) Try.func27 en27 (by kernel_rfl) (by kernel_rfl) allLoop_nil allCut_nil
noncomputable def L27_8G {R : Type} (plumblineref03_Hex_l0 : plumblineref03_Hex_l0Y R) (k n : Nat) : LSum R := fun pin T H K => match pin, T, H with
  | 0, [(1, .i .u64 x1), (5, .i .i64 x2), (6, .s x3), (7, .i .i64 x4)], ⟨0, []⟩ => plumblineref03_Hex_l0 k n x1 x2 x3 x4 (fun q1 => K (.exit 0) [(6, .s q1)] ⟨0, []⟩)
  | _, _, _ => none
noncomputable def L27_8 {R : Type} (k n : Nat) : LSum R := L27_8G plumblineref03_Hex_l0 k n
theorem plumblineref03_Hex_l0_gen {R : Type} (plumblineref02_Nan : plumblineref02_NanY R) (plumblineref03_Hex_l0 : plumblineref03_Hex_l0Y R) (k n : Nat) (x1 : Int) (x2 : Int) (x3 : ByteArray) (x4 : Int) (K : Kont R) :
    (fun C => codeK C (run C 4)) (mkCx Ty exts [(55, true, S55G plumblineref02_Nan k)] fi27 [] []) 0 fi27 (loopAt ((Try.f27).body.getD .skip) 8) [(1, .i .u64 x1), (5, .i .i64 x2), (6, .s x3), (7, .i .i64 x4)] ⟨0, []⟩ (fun ex T H => match (generalizing := false) ex with
      | .normal => normAt (some [1, 5, 6, 7]) 0 T H (fun T H => L27_8G plumblineref03_Hex_l0 k n 0 T H K)
      | ex => exitNorm fi27.ann 8 0 K ex T H) =
    plumblineref03_Hex_l0B k (fun x1 x2 x3 x4 => plumblineref03_Hex_l0 k n x1 x2 x3 x4 (fun q1 => K (.exit 0) [(6, .s q1)] ⟨0, []⟩)) x1 x2 x3 x4 (fun q1 => K (.exit 0) [(6, .s q1)] ⟨0, []⟩) := by kernel_rfl
theorem L27_8_cok {R : Type} (k : Nat) : CodeOk Try.prog (cx27_8 k : Cx R) fi27 (loopAt ((Try.f27).body.getD .skip) 8) := loopAt_ok (((cx27_8_ok k).fns 27 fi27 (by kernel_rfl)).2.2.2 ((Try.f27).body.getD .skip) (by kernel_rfl))
theorem L27_8_ok {R : Type} (k : Nat) : ∀ n, LoopOk Try.prog (Try.f27).ntmps (loopAt ((Try.f27).body.getD .skip) 8) (L27_8 k n : LSum R)
  | 0 => by
    intro pin T H K r h
    unfold L27_8 L27_8G at h
    split at h
    all_goals exact nomatch (show (none : Option R) = some r from h)
  | n + 1 => by
    intro pin T H K r h
    unfold L27_8 L27_8G at h
    split at h
    · obtain ⟨ex, T1, H1, h, hb⟩ := codeK_sound (cx27_8_ok k) (run_sound (cx27_8_ok k) 4) _ fi27 _ _ _ _ _ (L27_8_cok k) ((plumblineref03_Hex_l0_gen plumblineref02_Nan plumblineref03_Hex_l0 k n _ _ _ _ K).trans h)
      exact loop_step (fun T H hh => L27_8_ok k n _ T H K r hh) hb h
    · cases h
noncomputable def cx27 {R : Type} (k : Nat) : Cx R := mkCx Ty exts [(55, true, S55 k)] fi27 [(8, L27_8 k k)] []
theorem cx27_ok {R : Type} (k : Nat) : CxOk Try.prog (cx27 k : Cx R) := mkCx_ok (c := ((Try.f27).body.getD .skip)) ty_ok mixed exts_ok (allSum_cons (S55_ok k) en55 allSum_nil) Try.func27 en27 (by kernel_rfl) (by kernel_rfl) (allLoop_loop (by kernel_rfl) (L27_8_ok k k) allLoop_nil) allCut_nil
@[reducible] def plumblineref03_HexY (R : Type) : Type := Nat → Int → Int → (ByteArray → Option R) → Option R
noncomputable def plumblineref03_HexT {R : Type} (plumblineref02_Nan : plumblineref02_NanY R) (plumblineref03_Hex_l0 : plumblineref03_Hex_l0Y R) (k : Nat) (a1 : Int) (a2 : Int) (K0 : ByteArray → Option R) : Option R :=
  cond (a1 == 1) (
    cond ((shr .u64 a2 32) != 0) (
      plumblineref02_Nan k a1 (fun r1 =>
        plumblineref03_Hex_l0 k k r1 8 ⟨#[]⟩ 0 (fun r2 =>
          K0 r2))) (
      plumblineref03_Hex_l0 k k a2 8 ⟨#[]⟩ 0 (fun r3 =>
        K0 r3))) (
    plumblineref03_Hex_l0 k k a2 16 ⟨#[]⟩ 0 (fun r4 =>
      K0 r4))
noncomputable def plumblineref03_Hex {R : Type} (k : Nat) (a1 : Int) (a2 : Int) (K0 : ByteArray → Option R) : Option R := plumblineref03_HexT plumblineref02_Nan plumblineref03_Hex_l0 k a1 a2 K0
theorem plumblineref03_Hex_gen {R : Type} (plumblineref02_Nan : plumblineref02_NanY R) (plumblineref03_Hex_l0 : plumblineref03_Hex_l0Y R) (k : Nat) (a1 : Int) (a2 : Int) (K : AV → Heap → Option R) :
    fnK (mkCx Ty exts [(55, true, S55G plumblineref02_Nan k)] fi27 [(8, L27_8G plumblineref03_Hex_l0 k k)] []) 6 27 [.i .i64 a1, .i .u64 a2] ⟨0, []⟩ K = plumblineref03_HexT plumblineref02_Nan plumblineref03_Hex_l0 k a1 a2 (fun q1 => K (.s q1) ⟨0, []⟩) := by kernel_rfl
noncomputable def S27G {R : Type} (plumblineref03_Hex : plumblineref03_HexY R) (k : Nat) : Sum R := fun args H K => match args, H with
  | [.i .i64 a1, .i .u64 a2], ⟨0, []⟩ => plumblineref03_Hex k a1 a2 (fun q1 => K (.s q1) ⟨0, []⟩)
  | _, _ => none
noncomputable def S27 {R : Type} (k : Nat) : Sum R := S27G plumblineref03_Hex k
theorem S27_ok0 {R : Type} (k : Nat) : SumOk Try.prog 27 false (S27 k : Sum R) := by
  intro args H K r h
  unfold S27 S27G at h
  split at h
  · exact fnK_sound (cx27_ok k) 6 27 _ _ K r ((plumblineref03_Hex_gen plumblineref02_Nan plumblineref03_Hex_l0 k _ _ K).trans h)
  · cases h
theorem S27_ok {R : Type} (k : Nat) : SumOk Try.prog 27 true (S27 k : Sum R) := by
  refine sumOk_keep (S27_ok0 k) ?_
  intro args H K r h
  unfold S27 S27G at h ⊢
  split at h
  · refine Eq.trans ?_ h
    show plumblineref03_Hex k _ _ _ = plumblineref03_Hex k _ _ _
    congr 1
    all_goals first | exact (funext fun q1 => if_pos (keeps_app _ _ _ [])) | skip
  · cases h
end Go.Proofs.Ytelifkahdhhmoaa.N
