/- Printed by wip/gen/emit.py: functions of the program as plain Lean functions, tied to the model by the evaluator. Conditions: none. -/
import Derived.Test.YtnbmconaglehbaaN2
namespace Go.Proofs.Ytnbmconaglehbaa.N
set_option linter.unusedVariables false
set_option maxRecDepth 100000
open Go Go.Ab
-- function 20: plumbline/plumblineref01.Add
noncomputable def fi20 : FnI := ⟨20, Try.f20, []⟩
theorem en20 : Enters Try.prog 20 := enters_of Try.func20 (c := ((Try.f20).body.getD .skip)) (by kernel_rfl) (by kernel_rfl)
noncomputable def cx20 {R : Type} (k : Nat) : Cx R := mkCx Ty exts [(31, true, S31 k), (32, true, S32 k), (34, true, S34 k)] fi20 []
theorem cx20_ok {R : Type} (k : Nat) : CxOk Try.prog (cx20 k : Cx R) := mkCx_ok (c := ((Try.f20).body.getD .skip)) ty_ok mixed exts_ok (allSum_cons (S31_ok k) en31 (allSum_cons (S32_ok k) en32 (allSum_cons (S34_ok k) en34 allSum_nil))) Try.func20 en20 (by kernel_rfl) (by kernel_rfl) allLoop_nil
noncomputable def plumblineref01_Add {R : Type} (k : Nat) (a1 : Int) (a2 : Int) (a3 : Int) (a4 : Int) (K0 : Int → Int → Bool → Option R) : Option R :=
  plumblineref01_Bits k a1 a2 (fun r1 =>
    plumblineref01_Bits k a3 a4 (fun r2 =>
      plumblineref01_add k false r1 r2 (fun r3 =>
        plumblineref01_From k r3 (fun r4 r5 =>
          cond (decide (128 < (((List.length r3) : Nat) : Int))) (
            Option.bind (r3[128]?) fun e6 =>
            K0 r4 r5 e6) (
            none)))))
theorem plumblineref01_Add_gen {R : Type} (plumblineref01_Bits : Nat → Int → Int → ((List Bool) → Option R) → Option R) (plumblineref01_From : Nat → (List Bool) → (Int → Int → Option R) → Option R) (plumblineref01_add : Nat → Bool → (List Bool) → (List Bool) → ((List Bool) → Option R) → Option R) (k : Nat) (a1 : Int) (a2 : Int) (a3 : Int) (a4 : Int) (K : AV → Heap → Option R) :
    fnK (mkCx Ty exts [(31, true, S31G plumblineref01_Bits k), (32, true, S32G plumblineref01_From k), (34, true, S34G plumblineref01_add k)] fi20 []) 6 20 [.agg [.i .u64 a1, .i .u64 a2], .agg [.i .u64 a3, .i .u64 a4]] ⟨0, []⟩ K = (fun (K0 : Int → Int → Bool → Option R) =>
    plumblineref01_Bits k a1 a2 (fun r1 =>
      plumblineref01_Bits k a3 a4 (fun r2 =>
        plumblineref01_add k false r1 r2 (fun r3 =>
          plumblineref01_From k r3 (fun r4 r5 =>
            cond (decide (128 < (((List.length r3) : Nat) : Int))) (
              Option.bind (r3[128]?) fun e6 =>
              K0 r4 r5 e6) (
              none)))))) (fun q1 q2 q3 => K (.tup [.agg [.i .u64 q1, .i .u64 q2], .b q3]) ⟨0, []⟩) := by kernel_rfl
theorem plumblineref01_Add_eq {R : Type} (k : Nat) (a1 : Int) (a2 : Int) (a3 : Int) (a4 : Int) (K : AV → Heap → Option R) :
    fnK (cx20 k) 6 20 [.agg [.i .u64 a1, .i .u64 a2], .agg [.i .u64 a3, .i .u64 a4]] ⟨0, []⟩ K = plumblineref01_Add k a1 a2 a3 a4 (fun q1 q2 q3 => K (.tup [.agg [.i .u64 q1, .i .u64 q2], .b q3]) ⟨0, []⟩) := plumblineref01_Add_gen plumblineref01_Bits plumblineref01_From plumblineref01_add k a1 a2 a3 a4 K
noncomputable def S20G {R : Type} (plumblineref01_Add : Nat → Int → Int → Int → Int → (Int → Int → Bool → Option R) → Option R) (k : Nat) : Sum R := fun args H K => match args, H with
  | [.agg [.i .u64 a1, .i .u64 a2], .agg [.i .u64 a3, .i .u64 a4]], ⟨0, []⟩ => plumblineref01_Add k a1 a2 a3 a4 (fun q1 q2 q3 => K (.tup [.agg [.i .u64 q1, .i .u64 q2], .b q3]) ⟨0, []⟩)
  | _, _ => none
noncomputable def S20 {R : Type} (k : Nat) : Sum R := S20G plumblineref01_Add k
theorem S20_ok0 {R : Type} (k : Nat) : SumOk Try.prog 20 false (S20 k : Sum R) := by
  intro args H K r h
  unfold S20 S20G at h
  split at h
  · exact fnK_sound (cx20_ok k) 6 20 _ _ K r (by show fnK _ _ _ _ _ _ = _; rw [plumblineref01_Add_eq]; exact h)
  · cases h
theorem S20_ok {R : Type} (k : Nat) : SumOk Try.prog 20 true (S20 k : Sum R) := by
  refine sumOk_keep (S20_ok0 k) ?_
  intro args H K r h
  unfold S20 S20G at h ⊢
  split at h
  · refine Eq.trans ?_ h
    show plumblineref01_Add k _ _ _ _ _ = plumblineref01_Add k _ _ _ _ _
    congr 1
    all_goals first | exact (funext fun q1 => funext fun q2 => funext fun q3 => if_pos (keeps_app _ _ _ [])) | skip
  · cases h
-- function 24: plumbline/plumblineref01.Mul
noncomputable def fi24 : FnI := ⟨24, Try.f24, [(100003, [0, 1, 4, 5, 6]), (3003000, [4, 5])]⟩
theorem en24 : Enters Try.prog 24 := enters_of Try.func24 (c := ((Try.f24).body.getD .skip)) (by kernel_rfl) (by kernel_rfl)
noncomputable def plumblineref01_Mul_l0B {R : Type} (k : Nat) (rec : Int → Int → Int → Int → Int → Int → Int → Option R) (x1 : Int) (x2 : Int) (x3 : Int) (x4 : Int) (x5 : Int) (x6 : Int) (x7 : Int) (K0 : Int → Int → Option R) : Option R :=
  cond (decide (x3 < 64)) (
    cond (decide (x3 < 0)) (
      none) (
      cond ((bAnd .u64 (shr .u64 x2 x3) 1) == 1) (
        plumblineref01_Shl k 0 x1 x3 (fun yr1 yr2 =>
          plumblineref01_Add k x6 x7 yr1 yr2 (fun yr3 yr4 yr5 =>
            rec x1 x2 (Wi64 (x3 + 1)) x4 x5 yr3 yr4))) (
        rec x1 x2 (Wi64 (x3 + 1)) x4 x5 x6 x7))) (
    K0 x6 x7)
noncomputable def plumblineref01_Mul_l0 {R : Type} (k : Nat) : Nat → Int → Int → Int → Int → Int → Int → Int → (Int → Int → Option R) → Option R
  | 0, _, _, _, _, _, _, _, _ => none
  | n + 1, x1, x2, x3, x4, x5, x6, x7, K0 => plumblineref01_Mul_l0B k (fun x1 x2 x3 x4 x5 x6 x7 => plumblineref01_Mul_l0 k n x1 x2 x3 x4 x5 x6 x7 K0) x1 x2 x3 x4 x5 x6 x7 K0
noncomputable def cx24_3 {R : Type} (k : Nat) : Cx R := mkCx Ty exts [(16, true, S16 k), (20, true, S20 k)] fi24 []
theorem cx24_3_ok {R : Type} (k : Nat) : CxOk Try.prog (cx24_3 k : Cx R) := mkCx_ok (c := ((Try.f24).body.getD .skip)) ty_ok mixed exts_ok (allSum_cons (S16_ok k) en16 (allSum_cons (S20_ok k) en20 allSum_nil)) Try.func24 en24 (by kernel_rfl) (by kernel_rfl) allLoop_nil
noncomputable def L24_3G {R : Type} (plumblineref01_Mul_l0 : Nat → Nat → Int → Int → Int → Int → Int → Int → Int → (Int → Int → Option R) → Option R) (k n : Nat) : LSum R := fun pin T H K => match pin, T, H with
  | 0, [(0, .i .u64 x1), (1, .i .u64 x2), (4, .ptr 0 0 0 0 0), (5, .ptr 1 0 0 0 0), (6, .i .i64 x3)], ⟨2, [(0, some ⟨0, false, .cells [.i .u64 x4, .i .u64 x5]⟩), (1, some ⟨1, false, .cells [.i .u64 x6, .i .u64 x7]⟩)]⟩ => plumblineref01_Mul_l0 k n x1 x2 x3 x4 x5 x6 x7 (fun q3 q4 => K (.exit 0) [(4, .ptr 0 0 0 0 0), (5, .ptr 1 0 0 0 0)] ⟨2, [(0, some ⟨0, false, .cells [.i .u64 x4, .i .u64 x5]⟩), (1, some ⟨1, false, .cells [.i .u64 q3, .i .u64 q4]⟩)]⟩)
  | _, _, _ => none
noncomputable def L24_3 {R : Type} (k n : Nat) : LSum R := L24_3G plumblineref01_Mul_l0 k n
theorem plumblineref01_Mul_l0_gen {R : Type} (plumblineref01_Shl : Nat → Int → Int → Int → (Int → Int → Option R) → Option R) (plumblineref01_Add : Nat → Int → Int → Int → Int → (Int → Int → Bool → Option R) → Option R) (plumblineref01_Mul_l0 : Nat → Nat → Int → Int → Int → Int → Int → Int → Int → (Int → Int → Option R) → Option R) (k n : Nat) (x1 : Int) (x2 : Int) (x3 : Int) (x4 : Int) (x5 : Int) (x6 : Int) (x7 : Int) (K : Kont R) :
    codeK (mkCx Ty exts [(16, true, S16G plumblineref01_Shl k), (20, true, S20G plumblineref01_Add k)] fi24 []) (run (mkCx Ty exts [(16, true, S16G plumblineref01_Shl k), (20, true, S20G plumblineref01_Add k)] fi24 []) 4) 0 fi24 (loopAt ((Try.f24).body.getD .skip) 3) [(0, .i .u64 x1), (1, .i .u64 x2), (4, .ptr 0 0 0 0 0), (5, .ptr 1 0 0 0 0), (6, .i .i64 x3)] ⟨2, [(0, some ⟨0, false, .cells [.i .u64 x4, .i .u64 x5]⟩), (1, some ⟨1, false, .cells [.i .u64 x6, .i .u64 x7]⟩)]⟩ (fun ex T H => match (generalizing := false) ex with
      | .normal => normAt (some [0, 1, 4, 5, 6]) 0 T H (fun T H => L24_3G plumblineref01_Mul_l0 k n 0 T H K)
      | ex => exitNorm fi24.ann 3 0 K ex T H) =
    (fun (rec : Int → Int → Int → Int → Int → Int → Int → Option R) (K0 : Int → Int → Option R) =>
    cond (decide (x3 < 64)) (
      cond (decide (x3 < 0)) (
        none) (
        cond ((bAnd .u64 (shr .u64 x2 x3) 1) == 1) (
          plumblineref01_Shl k 0 x1 x3 (fun yr1 yr2 =>
            plumblineref01_Add k x6 x7 yr1 yr2 (fun yr3 yr4 yr5 =>
              rec x1 x2 (Wi64 (x3 + 1)) x4 x5 yr3 yr4))) (
          rec x1 x2 (Wi64 (x3 + 1)) x4 x5 x6 x7))) (
      K0 x6 x7)) (fun x1 x2 x3 x4 x5 x6 x7 => plumblineref01_Mul_l0 k n x1 x2 x3 x4 x5 x6 x7 (fun q3 q4 => K (.exit 0) [(4, .ptr 0 0 0 0 0), (5, .ptr 1 0 0 0 0)] ⟨2, [(0, some ⟨0, false, .cells [.i .u64 x4, .i .u64 x5]⟩), (1, some ⟨1, false, .cells [.i .u64 q3, .i .u64 q4]⟩)]⟩)) (fun q3 q4 => K (.exit 0) [(4, .ptr 0 0 0 0 0), (5, .ptr 1 0 0 0 0)] ⟨2, [(0, some ⟨0, false, .cells [.i .u64 x4, .i .u64 x5]⟩), (1, some ⟨1, false, .cells [.i .u64 q3, .i .u64 q4]⟩)]⟩) := by kernel_rfl
theorem plumblineref01_Mul_l0_eq {R : Type} (k n : Nat) (x1 : Int) (x2 : Int) (x3 : Int) (x4 : Int) (x5 : Int) (x6 : Int) (x7 : Int) (K : Kont R) :
    codeK (cx24_3 k) (run (cx24_3 k) 4) 0 fi24 (loopAt ((Try.f24).body.getD .skip) 3) [(0, .i .u64 x1), (1, .i .u64 x2), (4, .ptr 0 0 0 0 0), (5, .ptr 1 0 0 0 0), (6, .i .i64 x3)] ⟨2, [(0, some ⟨0, false, .cells [.i .u64 x4, .i .u64 x5]⟩), (1, some ⟨1, false, .cells [.i .u64 x6, .i .u64 x7]⟩)]⟩ (fun ex T H => match (generalizing := false) ex with
      | .normal => normAt (some [0, 1, 4, 5, 6]) 0 T H (fun T H => L24_3 k n 0 T H K)
      | ex => exitNorm fi24.ann 3 0 K ex T H) =
    plumblineref01_Mul_l0 k (n + 1) x1 x2 x3 x4 x5 x6 x7 (fun q3 q4 => K (.exit 0) [(4, .ptr 0 0 0 0 0), (5, .ptr 1 0 0 0 0)] ⟨2, [(0, some ⟨0, false, .cells [.i .u64 x4, .i .u64 x5]⟩), (1, some ⟨1, false, .cells [.i .u64 q3, .i .u64 q4]⟩)]⟩) := plumblineref01_Mul_l0_gen plumblineref01_Shl plumblineref01_Add plumblineref01_Mul_l0 k n x1 x2 x3 x4 x5 x6 x7 K
theorem L24_3_cok {R : Type} (k : Nat) : CodeOk Try.prog (cx24_3 k : Cx R) fi24 (loopAt ((Try.f24).body.getD .skip) 3) := loopAt_ok (((cx24_3_ok k).fns 24 fi24 (by kernel_rfl)).2.2.2 ((Try.f24).body.getD .skip) (by kernel_rfl))
theorem L24_3_ok {R : Type} (k : Nat) : ∀ n, LoopOk Try.prog (Try.f24).ntmps (loopAt ((Try.f24).body.getD .skip) 3) (L24_3 k n : LSum R)
  | 0 => by
    intro pin T H K r h
    unfold L24_3 L24_3G at h
    split at h
    all_goals exact nomatch (show (none : Option R) = some r from h)
  | n + 1 => by
    intro pin T H K r h
    unfold L24_3 L24_3G at h
    split at h
    · rw [← plumblineref01_Mul_l0_eq] at h
      obtain ⟨ex, T1, H1, h, hb⟩ := codeK_sound (cx24_3_ok k) (run_sound (cx24_3_ok k) 4) _ fi24 _ _ _ _ _ (L24_3_cok k) h
      exact loop_step (fun T H hh => L24_3_ok k n _ T H K r hh) hb h
    · cases h
noncomputable def cx24 {R : Type} (k : Nat) : Cx R := mkCx Ty exts [(16, true, S16 k), (20, true, S20 k)] fi24 [(3, L24_3 k k)]
theorem cx24_ok {R : Type} (k : Nat) : CxOk Try.prog (cx24 k : Cx R) := mkCx_ok (c := ((Try.f24).body.getD .skip)) ty_ok mixed exts_ok (allSum_cons (S16_ok k) en16 (allSum_cons (S20_ok k) en20 allSum_nil)) Try.func24 en24 (by kernel_rfl) (by kernel_rfl) (allLoop_loop (by kernel_rfl) (L24_3_ok k k) allLoop_nil)
noncomputable def plumblineref01_Mul {R : Type} (k : Nat) (a1 : Int) (a2 : Int) (K0 : Int → Int → Option R) : Option R :=
  plumblineref01_Mul_l0 k k a1 a2 0 0 0 0 0 (fun r1 r2 =>
    K0 r1 r2)
theorem plumblineref01_Mul_gen {R : Type} (plumblineref01_Shl : Nat → Int → Int → Int → (Int → Int → Option R) → Option R) (plumblineref01_Add : Nat → Int → Int → Int → Int → (Int → Int → Bool → Option R) → Option R) (plumblineref01_Mul_l0 : Nat → Nat → Int → Int → Int → Int → Int → Int → Int → (Int → Int → Option R) → Option R) (k : Nat) (a1 : Int) (a2 : Int) (K : AV → Heap → Option R) :
    fnK (mkCx Ty exts [(16, true, S16G plumblineref01_Shl k), (20, true, S20G plumblineref01_Add k)] fi24 [(3, L24_3G plumblineref01_Mul_l0 k k)]) 6 24 [.i .u64 a1, .i .u64 a2] ⟨0, []⟩ K = (fun (K0 : Int → Int → Option R) =>
    plumblineref01_Mul_l0 k k a1 a2 0 0 0 0 0 (fun r1 r2 =>
      K0 r1 r2)) (fun q1 q2 => K (.agg [.i .u64 q1, .i .u64 q2]) ⟨0, []⟩) := by kernel_rfl
theorem plumblineref01_Mul_eq {R : Type} (k : Nat) (a1 : Int) (a2 : Int) (K : AV → Heap → Option R) :
    fnK (cx24 k) 6 24 [.i .u64 a1, .i .u64 a2] ⟨0, []⟩ K = plumblineref01_Mul k a1 a2 (fun q1 q2 => K (.agg [.i .u64 q1, .i .u64 q2]) ⟨0, []⟩) := plumblineref01_Mul_gen plumblineref01_Shl plumblineref01_Add plumblineref01_Mul_l0 k a1 a2 K
noncomputable def S24G {R : Type} (plumblineref01_Mul : Nat → Int → Int → (Int → Int → Option R) → Option R) (k : Nat) : Sum R := fun args H K => match args, H with
  | [.i .u64 a1, .i .u64 a2], ⟨0, []⟩ => plumblineref01_Mul k a1 a2 (fun q1 q2 => K (.agg [.i .u64 q1, .i .u64 q2]) ⟨0, []⟩)
  | _, _ => none
noncomputable def S24 {R : Type} (k : Nat) : Sum R := S24G plumblineref01_Mul k
theorem S24_ok0 {R : Type} (k : Nat) : SumOk Try.prog 24 false (S24 k : Sum R) := by
  intro args H K r h
  unfold S24 S24G at h
  split at h
  · exact fnK_sound (cx24_ok k) 6 24 _ _ K r (by show fnK _ _ _ _ _ _ = _; rw [plumblineref01_Mul_eq]; exact h)
  · cases h
theorem S24_ok {R : Type} (k : Nat) : SumOk Try.prog 24 true (S24 k : Sum R) := by
  refine sumOk_keep (S24_ok0 k) ?_
  intro args H K r h
  unfold S24 S24G at h ⊢
  split at h
  · refine Eq.trans ?_ h
    show plumblineref01_Mul k _ _ _ = plumblineref01_Mul k _ _ _
    congr 1
    all_goals first | exact (funext fun q1 => funext fun q2 => if_pos (keeps_app _ _ _ [])) | skip
  · cases h
-- function 26: plumbline/plumblineref01.Compare
noncomputable def fi26 : FnI := ⟨26, Try.f26, [(100003, [5, 6, 7]), (2000003, [4]), (3003000, [])]⟩
theorem en26 : Enters Try.prog 26 := enters_of Try.func26 (c := ((Try.f26).body.getD .skip)) (by kernel_rfl) (by kernel_rfl)
noncomputable def plumblineref01_Compare_l0B {R : Type} (k : Nat) (rec : Int → (List Bool) → (List Bool) → Option R) (x1 : Int) (x2 : List Bool) (x3 : List Bool) (K0 : Int → Option R) (K1 : Option R) : Option R :=
  cond (decide (x1 ≥ 0)) (
    cond (decide (0 ≤ x1)) (
      cond (decide (x1 < (((List.length x2) : Nat) : Int))) (
        Option.bind (x2[(Int.toNat x1)]?) fun ye1 =>
        cond (decide (0 ≤ x1)) (
          cond (decide (x1 < (((List.length x3) : Nat) : Int))) (
            Option.bind (x3[(Int.toNat x1)]?) fun ye2 =>
            cond (!(ye1 == ye2)) (
              cond (decide (0 ≤ x1)) (
                cond (decide (x1 < (((List.length x2) : Nat) : Int))) (
                  Option.bind (x2[(Int.toNat x1)]?) fun ye3 =>
                  cond ye3 (
                    K0 1) (
                    K0 (-1))) (
                  none)) (
                none)) (
              rec (Wi64 (x1 - 1)) x2 x3)) (
            none)) (
          none)) (
        none)) (
      none)) (
    K1)
noncomputable def plumblineref01_Compare_l0 {R : Type} (k : Nat) : Nat → Int → (List Bool) → (List Bool) → (Int → Option R) → (Option R) → Option R
  | 0, _, _, _, _, _ => none
  | n + 1, x1, x2, x3, K0, K1 => plumblineref01_Compare_l0B k (fun x1 x2 x3 => plumblineref01_Compare_l0 k n x1 x2 x3 K0 K1) x1 x2 x3 K0 K1
noncomputable def cx26_3 {R : Type} (k : Nat) : Cx R := mkCx Ty exts [(31, true, S31 k)] fi26 []
theorem cx26_3_ok {R : Type} (k : Nat) : CxOk Try.prog (cx26_3 k : Cx R) := mkCx_ok (c := ((Try.f26).body.getD .skip)) ty_ok mixed exts_ok (allSum_cons (S31_ok k) en31 allSum_nil) Try.func26 en26 (by kernel_rfl) (by kernel_rfl) allLoop_nil
noncomputable def L26_3G {R : Type} (plumblineref01_Compare_l0 : Nat → Nat → Int → (List Bool) → (List Bool) → (Int → Option R) → (Option R) → Option R) (k n : Nat) : LSum R := fun pin T H K => match pin, T, H with
  | 0, [(5, .sw 0), (6, .sw 1), (7, .i .i64 x1)], ⟨2, [(0, some ⟨0, false, .row [.b] x2⟩), (1, some ⟨1, false, .row [.b] x3⟩)]⟩ => plumblineref01_Compare_l0 k n x1 x2 x3 (fun q1 => K .ret [(4, .i .i64 q1)] ⟨0, []⟩) (K (.exit 0) [] ⟨0, []⟩)
  | _, _, _ => none
noncomputable def L26_3 {R : Type} (k n : Nat) : LSum R := L26_3G plumblineref01_Compare_l0 k n
theorem plumblineref01_Compare_l0_gen {R : Type} (plumblineref01_Bits : Nat → Int → Int → ((List Bool) → Option R) → Option R) (plumblineref01_Compare_l0 : Nat → Nat → Int → (List Bool) → (List Bool) → (Int → Option R) → (Option R) → Option R) (k n : Nat) (x1 : Int) (x2 : List Bool) (x3 : List Bool) (K : Kont R) :
    codeK (mkCx Ty exts [(31, true, S31G plumblineref01_Bits k)] fi26 []) (run (mkCx Ty exts [(31, true, S31G plumblineref01_Bits k)] fi26 []) 4) 0 fi26 (loopAt ((Try.f26).body.getD .skip) 3) [(5, .sw 0), (6, .sw 1), (7, .i .i64 x1)] ⟨2, [(0, some ⟨0, false, .row [.b] x2⟩), (1, some ⟨1, false, .row [.b] x3⟩)]⟩ (fun ex T H => match (generalizing := false) ex with
      | .normal => normAt (some [5, 6, 7]) 0 T H (fun T H => L26_3G plumblineref01_Compare_l0 k n 0 T H K)
      | ex => exitNorm fi26.ann 3 0 K ex T H) =
    (fun (rec : Int → (List Bool) → (List Bool) → Option R) (K0 : Int → Option R) (K1 : Option R) =>
    cond (decide (x1 ≥ 0)) (
      cond (decide (0 ≤ x1)) (
        cond (decide (x1 < (((List.length x2) : Nat) : Int))) (
          Option.bind (x2[(Int.toNat x1)]?) fun ye1 =>
          cond (decide (0 ≤ x1)) (
            cond (decide (x1 < (((List.length x3) : Nat) : Int))) (
              Option.bind (x3[(Int.toNat x1)]?) fun ye2 =>
              cond (!(ye1 == ye2)) (
                cond (decide (0 ≤ x1)) (
                  cond (decide (x1 < (((List.length x2) : Nat) : Int))) (
                    Option.bind (x2[(Int.toNat x1)]?) fun ye3 =>
                    cond ye3 (
                      K0 1) (
                      K0 (-1))) (
                    none)) (
                  none)) (
                rec (Wi64 (x1 - 1)) x2 x3)) (
              none)) (
            none)) (
          none)) (
        none)) (
      K1)) (fun x1 x2 x3 => plumblineref01_Compare_l0 k n x1 x2 x3 (fun q1 => K .ret [(4, .i .i64 q1)] ⟨0, []⟩) (K (.exit 0) [] ⟨0, []⟩)) (fun q1 => K .ret [(4, .i .i64 q1)] ⟨0, []⟩) (K (.exit 0) [] ⟨0, []⟩) := by kernel_rfl
theorem plumblineref01_Compare_l0_eq {R : Type} (k n : Nat) (x1 : Int) (x2 : List Bool) (x3 : List Bool) (K : Kont R) :
    codeK (cx26_3 k) (run (cx26_3 k) 4) 0 fi26 (loopAt ((Try.f26).body.getD .skip) 3) [(5, .sw 0), (6, .sw 1), (7, .i .i64 x1)] ⟨2, [(0, some ⟨0, false, .row [.b] x2⟩), (1, some ⟨1, false, .row [.b] x3⟩)]⟩ (fun ex T H => match (generalizing := false) ex with
      | .normal => normAt (some [5, 6, 7]) 0 T H (fun T H => L26_3 k n 0 T H K)
      | ex => exitNorm fi26.ann 3 0 K ex T H) =
    plumblineref01_Compare_l0 k (n + 1) x1 x2 x3 (fun q1 => K .ret [(4, .i .i64 q1)] ⟨0, []⟩) (K (.exit 0) [] ⟨0, []⟩) := plumblineref01_Compare_l0_gen plumblineref01_Bits plumblineref01_Compare_l0 k n x1 x2 x3 K
theorem L26_3_cok {R : Type} (k : Nat) : CodeOk Try.prog (cx26_3 k : Cx R) fi26 (loopAt ((Try.f26).body.getD .skip) 3) := loopAt_ok (((cx26_3_ok k).fns 26 fi26 (by kernel_rfl)).2.2.2 ((Try.f26).body.getD .skip) (by kernel_rfl))
theorem L26_3_ok {R : Type} (k : Nat) : ∀ n, LoopOk Try.prog (Try.f26).ntmps (loopAt ((Try.f26).body.getD .skip) 3) (L26_3 k n : LSum R)
  | 0 => by
    intro pin T H K r h
    unfold L26_3 L26_3G at h
    split at h
    all_goals exact nomatch (show (none : Option R) = some r from h)
  | n + 1 => by
    intro pin T H K r h
    unfold L26_3 L26_3G at h
    split at h
    · rw [← plumblineref01_Compare_l0_eq] at h
      obtain ⟨ex, T1, H1, h, hb⟩ := codeK_sound (cx26_3_ok k) (run_sound (cx26_3_ok k) 4) _ fi26 _ _ _ _ _ (L26_3_cok k) h
      exact loop_step (fun T H hh => L26_3_ok k n _ T H K r hh) hb h
    · cases h
noncomputable def cx26 {R : Type} (k : Nat) : Cx R := mkCx Ty exts [(31, true, S31 k)] fi26 [(3, L26_3 k k)]
theorem cx26_ok {R : Type} (k : Nat) : CxOk Try.prog (cx26 k : Cx R) := mkCx_ok (c := ((Try.f26).body.getD .skip)) ty_ok mixed exts_ok (allSum_cons (S31_ok k) en31 allSum_nil) Try.func26 en26 (by kernel_rfl) (by kernel_rfl) (allLoop_loop (by kernel_rfl) (L26_3_ok k k) allLoop_nil)
noncomputable def plumblineref01_Compare {R : Type} (k : Nat) (a1 : Int) (a2 : Int) (a3 : Int) (a4 : Int) (K0 : Int → Option R) : Option R :=
  plumblineref01_Bits k a1 a2 (fun r1 =>
    plumblineref01_Bits k a3 a4 (fun r2 =>
      plumblineref01_Compare_l0 k k 127 r1 r2 (fun r3 =>
        K0 r3) (
        K0 0)))
theorem plumblineref01_Compare_gen {R : Type} (plumblineref01_Bits : Nat → Int → Int → ((List Bool) → Option R) → Option R) (plumblineref01_Compare_l0 : Nat → Nat → Int → (List Bool) → (List Bool) → (Int → Option R) → (Option R) → Option R) (k : Nat) (a1 : Int) (a2 : Int) (a3 : Int) (a4 : Int) (K : AV → Heap → Option R) :
    fnK (mkCx Ty exts [(31, true, S31G plumblineref01_Bits k)] fi26 [(3, L26_3G plumblineref01_Compare_l0 k k)]) 6 26 [.agg [.i .u64 a1, .i .u64 a2], .agg [.i .u64 a3, .i .u64 a4]] ⟨0, []⟩ K = (fun (K0 : Int → Option R) =>
    plumblineref01_Bits k a1 a2 (fun r1 =>
      plumblineref01_Bits k a3 a4 (fun r2 =>
        plumblineref01_Compare_l0 k k 127 r1 r2 (fun r3 =>
          K0 r3) (
          K0 0)))) (fun q1 => K (.i .i64 q1) ⟨0, []⟩) := by kernel_rfl
theorem plumblineref01_Compare_eq {R : Type} (k : Nat) (a1 : Int) (a2 : Int) (a3 : Int) (a4 : Int) (K : AV → Heap → Option R) :
    fnK (cx26 k) 6 26 [.agg [.i .u64 a1, .i .u64 a2], .agg [.i .u64 a3, .i .u64 a4]] ⟨0, []⟩ K = plumblineref01_Compare k a1 a2 a3 a4 (fun q1 => K (.i .i64 q1) ⟨0, []⟩) := plumblineref01_Compare_gen plumblineref01_Bits plumblineref01_Compare_l0 k a1 a2 a3 a4 K
noncomputable def S26G {R : Type} (plumblineref01_Compare : Nat → Int → Int → Int → Int → (Int → Option R) → Option R) (k : Nat) : Sum R := fun args H K => match args, H with
  | [.agg [.i .u64 a1, .i .u64 a2], .agg [.i .u64 a3, .i .u64 a4]], ⟨0, []⟩ => plumblineref01_Compare k a1 a2 a3 a4 (fun q1 => K (.i .i64 q1) ⟨0, []⟩)
  | _, _ => none
noncomputable def S26 {R : Type} (k : Nat) : Sum R := S26G plumblineref01_Compare k
theorem S26_ok0 {R : Type} (k : Nat) : SumOk Try.prog 26 false (S26 k : Sum R) := by
  intro args H K r h
  unfold S26 S26G at h
  split at h
  · exact fnK_sound (cx26_ok k) 6 26 _ _ K r (by show fnK _ _ _ _ _ _ = _; rw [plumblineref01_Compare_eq]; exact h)
  · cases h
theorem S26_ok {R : Type} (k : Nat) : SumOk Try.prog 26 true (S26 k : Sum R) := by
  refine sumOk_keep (S26_ok0 k) ?_
  intro args H K r h
  unfold S26 S26G at h ⊢
  split at h
  · refine Eq.trans ?_ h
    show plumblineref01_Compare k _ _ _ _ _ = plumblineref01_Compare k _ _ _ _ _
    congr 1
    all_goals first | exact (funext fun q1 => if_pos (keeps_app _ _ _ [])) | skip
  · cases h
-- function 22: plumbline/plumblineref01.Sub
noncomputable def fi22 : FnI := ⟨22, Try.f22, [(100003, [2, 4, 6, 7]), (3003000, [2, 4, 6])]⟩
theorem en22 : Enters Try.prog 22 := enters_of Try.func22 (c := ((Try.f22).body.getD .skip)) (by kernel_rfl) (by kernel_rfl)
noncomputable def plumblineref01_Sub_l0B {R : Type} (k : Nat) (rec : Int → Int → Int → Int → Int → (List Bool) → Option R) (x1 : Int) (x2 : Int) (x3 : Int) (x4 : Int) (x5 : Int) (x6 : List Bool) (K0 : (List Bool) → Option R) : Option R :=
  cond (decide (x1 < 128)) (
    cond (decide (0 ≤ x1)) (
      cond (decide (x1 < (((List.length x6) : Nat) : Int))) (
        Option.bind (x6[(Int.toNat x1)]?) fun ye1 =>
        cond (decide (0 ≤ x1)) (
          cond (decide (x1 < (((List.length x6) : Nat) : Int))) (
            Option.bind (x6[(Int.toNat x1)]?) fun ye2 =>
            rec (Wi64 (x1 + 1)) x2 x3 x4 x5 (List.set x6 (Int.toNat x1) (!ye1))) (
            none)) (
          none)) (
        none)) (
      none)) (
    K0 x6)
noncomputable def plumblineref01_Sub_l0 {R : Type} (k : Nat) : Nat → Int → Int → Int → Int → Int → (List Bool) → ((List Bool) → Option R) → Option R
  | 0, _, _, _, _, _, _, _ => none
  | n + 1, x1, x2, x3, x4, x5, x6, K0 => plumblineref01_Sub_l0B k (fun x1 x2 x3 x4 x5 x6 => plumblineref01_Sub_l0 k n x1 x2 x3 x4 x5 x6 K0) x1 x2 x3 x4 x5 x6 K0
noncomputable def cx22_3 {R : Type} (k : Nat) : Cx R := mkCx Ty exts [(31, true, S31 k), (32, true, S32 k), (34, true, S34 k)] fi22 []
theorem cx22_3_ok {R : Type} (k : Nat) : CxOk Try.prog (cx22_3 k : Cx R) := mkCx_ok (c := ((Try.f22).body.getD .skip)) ty_ok mixed exts_ok (allSum_cons (S31_ok k) en31 (allSum_cons (S32_ok k) en32 (allSum_cons (S34_ok k) en34 allSum_nil))) Try.func22 en22 (by kernel_rfl) (by kernel_rfl) allLoop_nil
noncomputable def L22_3G {R : Type} (plumblineref01_Sub_l0 : Nat → Nat → Int → Int → Int → Int → Int → (List Bool) → ((List Bool) → Option R) → Option R) (k n : Nat) : LSum R := fun pin T H K => match pin, T, H with
  | 0, [(2, .ptr 0 0 0 0 0), (4, .ptr 1 0 0 0 0), (6, .sw 2), (7, .i .i64 x1)], ⟨3, [(0, some ⟨0, false, .cells [.i .u64 x2, .i .u64 x3]⟩), (1, some ⟨1, false, .cells [.i .u64 x4, .i .u64 x5]⟩), (2, some ⟨2, false, .row [.b] x6⟩)]⟩ => plumblineref01_Sub_l0 k n x1 x2 x3 x4 x5 x6 (fun q5 => K (.exit 0) [(2, .ptr 0 0 0 0 0), (4, .ptr 1 0 0 0 0), (6, .sw 2)] ⟨3, [(0, some ⟨0, false, .cells [.i .u64 x2, .i .u64 x3]⟩), (1, some ⟨1, false, .cells [.i .u64 x4, .i .u64 x5]⟩), (2, some ⟨2, false, .row [.b] q5⟩)]⟩)
  | _, _, _ => none
noncomputable def L22_3 {R : Type} (k n : Nat) : LSum R := L22_3G plumblineref01_Sub_l0 k n
theorem plumblineref01_Sub_l0_gen {R : Type} (plumblineref01_Bits : Nat → Int → Int → ((List Bool) → Option R) → Option R) (plumblineref01_From : Nat → (List Bool) → (Int → Int → Option R) → Option R) (plumblineref01_add : Nat → Bool → (List Bool) → (List Bool) → ((List Bool) → Option R) → Option R) (plumblineref01_Sub_l0 : Nat → Nat → Int → Int → Int → Int → Int → (List Bool) → ((List Bool) → Option R) → Option R) (k n : Nat) (x1 : Int) (x2 : Int) (x3 : Int) (x4 : Int) (x5 : Int) (x6 : List Bool) (K : Kont R) :
    codeK (mkCx Ty exts [(31, true, S31G plumblineref01_Bits k), (32, true, S32G plumblineref01_From k), (34, true, S34G plumblineref01_add k)] fi22 []) (run (mkCx Ty exts [(31, true, S31G plumblineref01_Bits k), (32, true, S32G plumblineref01_From k), (34, true, S34G plumblineref01_add k)] fi22 []) 4) 0 fi22 (loopAt ((Try.f22).body.getD .skip) 3) [(2, .ptr 0 0 0 0 0), (4, .ptr 1 0 0 0 0), (6, .sw 2), (7, .i .i64 x1)] ⟨3, [(0, some ⟨0, false, .cells [.i .u64 x2, .i .u64 x3]⟩), (1, some ⟨1, false, .cells [.i .u64 x4, .i .u64 x5]⟩), (2, some ⟨2, false, .row [.b] x6⟩)]⟩ (fun ex T H => match (generalizing := false) ex with
      | .normal => normAt (some [2, 4, 6, 7]) 0 T H (fun T H => L22_3G plumblineref01_Sub_l0 k n 0 T H K)
      | ex => exitNorm fi22.ann 3 0 K ex T H) =
    (fun (rec : Int → Int → Int → Int → Int → (List Bool) → Option R) (K0 : (List Bool) → Option R) =>
    cond (decide (x1 < 128)) (
      cond (decide (0 ≤ x1)) (
        cond (decide (x1 < (((List.length x6) : Nat) : Int))) (
          Option.bind (x6[(Int.toNat x1)]?) fun ye1 =>
          cond (decide (0 ≤ x1)) (
            cond (decide (x1 < (((List.length x6) : Nat) : Int))) (
              Option.bind (x6[(Int.toNat x1)]?) fun ye2 =>
              rec (Wi64 (x1 + 1)) x2 x3 x4 x5 (List.set x6 (Int.toNat x1) (!ye1))) (
              none)) (
            none)) (
          none)) (
        none)) (
      K0 x6)) (fun x1 x2 x3 x4 x5 x6 => plumblineref01_Sub_l0 k n x1 x2 x3 x4 x5 x6 (fun q5 => K (.exit 0) [(2, .ptr 0 0 0 0 0), (4, .ptr 1 0 0 0 0), (6, .sw 2)] ⟨3, [(0, some ⟨0, false, .cells [.i .u64 x2, .i .u64 x3]⟩), (1, some ⟨1, false, .cells [.i .u64 x4, .i .u64 x5]⟩), (2, some ⟨2, false, .row [.b] q5⟩)]⟩)) (fun q5 => K (.exit 0) [(2, .ptr 0 0 0 0 0), (4, .ptr 1 0 0 0 0), (6, .sw 2)] ⟨3, [(0, some ⟨0, false, .cells [.i .u64 x2, .i .u64 x3]⟩), (1, some ⟨1, false, .cells [.i .u64 x4, .i .u64 x5]⟩), (2, some ⟨2, false, .row [.b] q5⟩)]⟩) := by kernel_rfl
theorem plumblineref01_Sub_l0_eq {R : Type} (k n : Nat) (x1 : Int) (x2 : Int) (x3 : Int) (x4 : Int) (x5 : Int) (x6 : List Bool) (K : Kont R) :
    codeK (cx22_3 k) (run (cx22_3 k) 4) 0 fi22 (loopAt ((Try.f22).body.getD .skip) 3) [(2, .ptr 0 0 0 0 0), (4, .ptr 1 0 0 0 0), (6, .sw 2), (7, .i .i64 x1)] ⟨3, [(0, some ⟨0, false, .cells [.i .u64 x2, .i .u64 x3]⟩), (1, some ⟨1, false, .cells [.i .u64 x4, .i .u64 x5]⟩), (2, some ⟨2, false, .row [.b] x6⟩)]⟩ (fun ex T H => match (generalizing := false) ex with
      | .normal => normAt (some [2, 4, 6, 7]) 0 T H (fun T H => L22_3 k n 0 T H K)
      | ex => exitNorm fi22.ann 3 0 K ex T H) =
    plumblineref01_Sub_l0 k (n + 1) x1 x2 x3 x4 x5 x6 (fun q5 => K (.exit 0) [(2, .ptr 0 0 0 0 0), (4, .ptr 1 0 0 0 0), (6, .sw 2)] ⟨3, [(0, some ⟨0, false, .cells [.i .u64 x2, .i .u64 x3]⟩), (1, some ⟨1, false, .cells [.i .u64 x4, .i .u64 x5]⟩), (2, some ⟨2, false, .row [.b] q5⟩)]⟩) := plumblineref01_Sub_l0_gen plumblineref01_Bits plumblineref01_From plumblineref01_add plumblineref01_Sub_l0 k n x1 x2 x3 x4 x5 x6 K
theorem L22_3_cok {R : Type} (k : Nat) : CodeOk Try.prog (cx22_3 k : Cx R) fi22 (loopAt ((Try.f22).body.getD .skip) 3) := loopAt_ok (((cx22_3_ok k).fns 22 fi22 (by kernel_rfl)).2.2.2 ((Try.f22).body.getD .skip) (by kernel_rfl))
theorem L22_3_ok {R : Type} (k : Nat) : ∀ n, LoopOk Try.prog (Try.f22).ntmps (loopAt ((Try.f22).body.getD .skip) 3) (L22_3 k n : LSum R)
  | 0 => by
    intro pin T H K r h
    unfold L22_3 L22_3G at h
    split at h
    all_goals exact nomatch (show (none : Option R) = some r from h)
  | n + 1 => by
    intro pin T H K r h
    unfold L22_3 L22_3G at h
    split at h
    · rw [← plumblineref01_Sub_l0_eq] at h
      obtain ⟨ex, T1, H1, h, hb⟩ := codeK_sound (cx22_3_ok k) (run_sound (cx22_3_ok k) 4) _ fi22 _ _ _ _ _ (L22_3_cok k) h
      exact loop_step (fun T H hh => L22_3_ok k n _ T H K r hh) hb h
    · cases h
noncomputable def cx22 {R : Type} (k : Nat) : Cx R := mkCx Ty exts [(31, true, S31 k), (32, true, S32 k), (34, true, S34 k)] fi22 [(3, L22_3 k k)]
theorem cx22_ok {R : Type} (k : Nat) : CxOk Try.prog (cx22 k : Cx R) := mkCx_ok (c := ((Try.f22).body.getD .skip)) ty_ok mixed exts_ok (allSum_cons (S31_ok k) en31 (allSum_cons (S32_ok k) en32 (allSum_cons (S34_ok k) en34 allSum_nil))) Try.func22 en22 (by kernel_rfl) (by kernel_rfl) (allLoop_loop (by kernel_rfl) (L22_3_ok k k) allLoop_nil)
noncomputable def plumblineref01_Sub {R : Type} (k : Nat) (a1 : Int) (a2 : Int) (a3 : Int) (a4 : Int) (K0 : Int → Int → Bool → Option R) : Option R :=
  plumblineref01_Bits k a3 a4 (fun r1 =>
    plumblineref01_Sub_l0 k k 0 a1 a2 0 0 r1 (fun r2 =>
      plumblineref01_Bits k a1 a2 (fun r3 =>
        plumblineref01_add k true r3 r2 (fun r4 =>
          plumblineref01_From k r4 (fun r5 r6 =>
            cond (decide (128 < (((List.length r4) : Nat) : Int))) (
              Option.bind (r4[128]?) fun e7 =>
              K0 r5 r6 (!e7)) (
              none))))))
theorem plumblineref01_Sub_gen {R : Type} (plumblineref01_Bits : Nat → Int → Int → ((List Bool) → Option R) → Option R) (plumblineref01_From : Nat → (List Bool) → (Int → Int → Option R) → Option R) (plumblineref01_add : Nat → Bool → (List Bool) → (List Bool) → ((List Bool) → Option R) → Option R) (plumblineref01_Sub_l0 : Nat → Nat → Int → Int → Int → Int → Int → (List Bool) → ((List Bool) → Option R) → Option R) (k : Nat) (a1 : Int) (a2 : Int) (a3 : Int) (a4 : Int) (K : AV → Heap → Option R) :
    fnK (mkCx Ty exts [(31, true, S31G plumblineref01_Bits k), (32, true, S32G plumblineref01_From k), (34, true, S34G plumblineref01_add k)] fi22 [(3, L22_3G plumblineref01_Sub_l0 k k)]) 6 22 [.agg [.i .u64 a1, .i .u64 a2], .agg [.i .u64 a3, .i .u64 a4]] ⟨0, []⟩ K = (fun (K0 : Int → Int → Bool → Option R) =>
    plumblineref01_Bits k a3 a4 (fun r1 =>
      plumblineref01_Sub_l0 k k 0 a1 a2 0 0 r1 (fun r2 =>
        plumblineref01_Bits k a1 a2 (fun r3 =>
          plumblineref01_add k true r3 r2 (fun r4 =>
            plumblineref01_From k r4 (fun r5 r6 =>
              cond (decide (128 < (((List.length r4) : Nat) : Int))) (
                Option.bind (r4[128]?) fun e7 =>
                K0 r5 r6 (!e7)) (
                none))))))) (fun q1 q2 q3 => K (.tup [.agg [.i .u64 q1, .i .u64 q2], .b q3]) ⟨0, []⟩) := by kernel_rfl
theorem plumblineref01_Sub_eq {R : Type} (k : Nat) (a1 : Int) (a2 : Int) (a3 : Int) (a4 : Int) (K : AV → Heap → Option R) :
    fnK (cx22 k) 6 22 [.agg [.i .u64 a1, .i .u64 a2], .agg [.i .u64 a3, .i .u64 a4]] ⟨0, []⟩ K = plumblineref01_Sub k a1 a2 a3 a4 (fun q1 q2 q3 => K (.tup [.agg [.i .u64 q1, .i .u64 q2], .b q3]) ⟨0, []⟩) := plumblineref01_Sub_gen plumblineref01_Bits plumblineref01_From plumblineref01_add plumblineref01_Sub_l0 k a1 a2 a3 a4 K
noncomputable def S22G {R : Type} (plumblineref01_Sub : Nat → Int → Int → Int → Int → (Int → Int → Bool → Option R) → Option R) (k : Nat) : Sum R := fun args H K => match args, H with
  | [.agg [.i .u64 a1, .i .u64 a2], .agg [.i .u64 a3, .i .u64 a4]], ⟨0, []⟩ => plumblineref01_Sub k a1 a2 a3 a4 (fun q1 q2 q3 => K (.tup [.agg [.i .u64 q1, .i .u64 q2], .b q3]) ⟨0, []⟩)
  | _, _ => none
noncomputable def S22 {R : Type} (k : Nat) : Sum R := S22G plumblineref01_Sub k
theorem S22_ok0 {R : Type} (k : Nat) : SumOk Try.prog 22 false (S22 k : Sum R) := by
  intro args H K r h
  unfold S22 S22G at h
  split at h
  · exact fnK_sound (cx22_ok k) 6 22 _ _ K r (by show fnK _ _ _ _ _ _ = _; rw [plumblineref01_Sub_eq]; exact h)
  · cases h
theorem S22_ok {R : Type} (k : Nat) : SumOk Try.prog 22 true (S22 k : Sum R) := by
  refine sumOk_keep (S22_ok0 k) ?_
  intro args H K r h
  unfold S22 S22G at h ⊢
  split at h
  · refine Eq.trans ?_ h
    show plumblineref01_Sub k _ _ _ _ _ = plumblineref01_Sub k _ _ _ _ _
    congr 1
    all_goals first | exact (funext fun q1 => funext fun q2 => funext fun q3 => if_pos (keeps_app _ _ _ [])) | skip
  · cases h
-- function 18: plumbline/plumblineref01.Sqrt
noncomputable def fi18 : FnI := ⟨18, Try.f18, [(100003, [1, 3, 4, 5]), (3003000, [1, 3, 4])]⟩
theorem en18 : Enters Try.prog 18 := enters_of Try.func18 (c := ((Try.f18).body.getD .skip)) (by kernel_rfl) (by kernel_rfl)
noncomputable def plumblineref01_Sqrt_l0B {R : Type} (k : Nat) (rec : Int → Int → Int → Int → Int → Int → Option R) (x1 : Int) (x2 : Int) (x3 : Int) (x4 : Int) (x5 : Int) (x6 : Int) (K0 : Int → Option R) : Option R :=
  cond (decide (x2 ≥ 0)) (
    cond (decide (x2 < 0)) (
      none) (
      plumblineref01_Mul k (bOr .u64 x1 (shl .u64 1 x2)) (bOr .u64 x1 (shl .u64 1 x2)) (fun yr1 yr2 =>
        plumblineref01_Compare k yr1 yr2 x3 x4 (fun yr3 =>
          cond (decide (yr3 ≤ 0)) (
            rec (bOr .u64 x1 (shl .u64 1 x2)) (Wi64 (x2 - 1)) x3 x4 x5 x6) (
            rec x1 (Wi64 (x2 - 1)) x3 x4 x5 x6))))) (
    K0 x1)
noncomputable def plumblineref01_Sqrt_l0 {R : Type} (k : Nat) : Nat → Int → Int → Int → Int → Int → Int → (Int → Option R) → Option R
  | 0, _, _, _, _, _, _, _ => none
  | n + 1, x1, x2, x3, x4, x5, x6, K0 => plumblineref01_Sqrt_l0B k (fun x1 x2 x3 x4 x5 x6 => plumblineref01_Sqrt_l0 k n x1 x2 x3 x4 x5 x6 K0) x1 x2 x3 x4 x5 x6 K0
noncomputable def cx18_3 {R : Type} (k : Nat) : Cx R := mkCx Ty exts [(22, true, S22 k), (24, true, S24 k), (26, true, S26 k)] fi18 []
theorem cx18_3_ok {R : Type} (k : Nat) : CxOk Try.prog (cx18_3 k : Cx R) := mkCx_ok (c := ((Try.f18).body.getD .skip)) ty_ok mixed exts_ok (allSum_cons (S22_ok k) en22 (allSum_cons (S24_ok k) en24 (allSum_cons (S26_ok k) en26 allSum_nil))) Try.func18 en18 (by kernel_rfl) (by kernel_rfl) allLoop_nil
noncomputable def L18_3G {R : Type} (plumblineref01_Sqrt_l0 : Nat → Nat → Int → Int → Int → Int → Int → Int → (Int → Option R) → Option R) (k n : Nat) : LSum R := fun pin T H K => match pin, T, H with
  | 0, [(1, .ptr 0 0 0 0 0), (3, .ptr 1 0 0 0 0), (4, .i .u64 x1), (5, .i .i64 x2)], ⟨2, [(0, some ⟨0, false, .cells [.i .u64 x3, .i .u64 x4]⟩), (1, some ⟨1, false, .cells [.i .u64 x5, .i .u64 x6]⟩)]⟩ => plumblineref01_Sqrt_l0 k n x1 x2 x3 x4 x5 x6 (fun q1 => K (.exit 0) [(1, .ptr 0 0 0 0 0), (3, .ptr 1 0 0 0 0), (4, .i .u64 q1)] ⟨2, [(0, some ⟨0, false, .cells [.i .u64 x3, .i .u64 x4]⟩), (1, some ⟨1, false, .cells [.i .u64 x5, .i .u64 x6]⟩)]⟩)
  | _, _, _ => none
noncomputable def L18_3 {R : Type} (k n : Nat) : LSum R := L18_3G plumblineref01_Sqrt_l0 k n
theorem plumblineref01_Sqrt_l0_gen {R : Type} (plumblineref01_Sub : Nat → Int → Int → Int → Int → (Int → Int → Bool → Option R) → Option R) (plumblineref01_Mul : Nat → Int → Int → (Int → Int → Option R) → Option R) (plumblineref01_Compare : Nat → Int → Int → Int → Int → (Int → Option R) → Option R) (plumblineref01_Sqrt_l0 : Nat → Nat → Int → Int → Int → Int → Int → Int → (Int → Option R) → Option R) (k n : Nat) (x1 : Int) (x2 : Int) (x3 : Int) (x4 : Int) (x5 : Int) (x6 : Int) (K : Kont R) :
    codeK (mkCx Ty exts [(22, true, S22G plumblineref01_Sub k), (24, true, S24G plumblineref01_Mul k), (26, true, S26G plumblineref01_Compare k)] fi18 []) (run (mkCx Ty exts [(22, true, S22G plumblineref01_Sub k), (24, true, S24G plumblineref01_Mul k), (26, true, S26G plumblineref01_Compare k)] fi18 []) 4) 0 fi18 (loopAt ((Try.f18).body.getD .skip) 3) [(1, .ptr 0 0 0 0 0), (3, .ptr 1 0 0 0 0), (4, .i .u64 x1), (5, .i .i64 x2)] ⟨2, [(0, some ⟨0, false, .cells [.i .u64 x3, .i .u64 x4]⟩), (1, some ⟨1, false, .cells [.i .u64 x5, .i .u64 x6]⟩)]⟩ (fun ex T H => match (generalizing := false) ex with
      | .normal => normAt (some [1, 3, 4, 5]) 0 T H (fun T H => L18_3G plumblineref01_Sqrt_l0 k n 0 T H K)
      | ex => exitNorm fi18.ann 3 0 K ex T H) =
    (fun (rec : Int → Int → Int → Int → Int → Int → Option R) (K0 : Int → Option R) =>
    cond (decide (x2 ≥ 0)) (
      cond (decide (x2 < 0)) (
        none) (
        plumblineref01_Mul k (bOr .u64 x1 (shl .u64 1 x2)) (bOr .u64 x1 (shl .u64 1 x2)) (fun yr1 yr2 =>
          plumblineref01_Compare k yr1 yr2 x3 x4 (fun yr3 =>
            cond (decide (yr3 ≤ 0)) (
              rec (bOr .u64 x1 (shl .u64 1 x2)) (Wi64 (x2 - 1)) x3 x4 x5 x6) (
              rec x1 (Wi64 (x2 - 1)) x3 x4 x5 x6))))) (
      K0 x1)) (fun x1 x2 x3 x4 x5 x6 => plumblineref01_Sqrt_l0 k n x1 x2 x3 x4 x5 x6 (fun q1 => K (.exit 0) [(1, .ptr 0 0 0 0 0), (3, .ptr 1 0 0 0 0), (4, .i .u64 q1)] ⟨2, [(0, some ⟨0, false, .cells [.i .u64 x3, .i .u64 x4]⟩), (1, some ⟨1, false, .cells [.i .u64 x5, .i .u64 x6]⟩)]⟩)) (fun q1 => K (.exit 0) [(1, .ptr 0 0 0 0 0), (3, .ptr 1 0 0 0 0), (4, .i .u64 q1)] ⟨2, [(0, some ⟨0, false, .cells [.i .u64 x3, .i .u64 x4]⟩), (1, some ⟨1, false, .cells [.i .u64 x5, .i .u64 x6]⟩)]⟩) := by kernel_rfl
theorem plumblineref01_Sqrt_l0_eq {R : Type} (k n : Nat) (x1 : Int) (x2 : Int) (x3 : Int) (x4 : Int) (x5 : Int) (x6 : Int) (K : Kont R) :
    codeK (cx18_3 k) (run (cx18_3 k) 4) 0 fi18 (loopAt ((Try.f18).body.getD .skip) 3) [(1, .ptr 0 0 0 0 0), (3, .ptr 1 0 0 0 0), (4, .i .u64 x1), (5, .i .i64 x2)] ⟨2, [(0, some ⟨0, false, .cells [.i .u64 x3, .i .u64 x4]⟩), (1, some ⟨1, false, .cells [.i .u64 x5, .i .u64 x6]⟩)]⟩ (fun ex T H => match (generalizing := false) ex with
      | .normal => normAt (some [1, 3, 4, 5]) 0 T H (fun T H => L18_3 k n 0 T H K)
      | ex => exitNorm fi18.ann 3 0 K ex T H) =
    plumblineref01_Sqrt_l0 k (n + 1) x1 x2 x3 x4 x5 x6 (fun q1 => K (.exit 0) [(1, .ptr 0 0 0 0 0), (3, .ptr 1 0 0 0 0), (4, .i .u64 q1)] ⟨2, [(0, some ⟨0, false, .cells [.i .u64 x3, .i .u64 x4]⟩), (1, some ⟨1, false, .cells [.i .u64 x5, .i .u64 x6]⟩)]⟩) := plumblineref01_Sqrt_l0_gen plumblineref01_Sub plumblineref01_Mul plumblineref01_Compare plumblineref01_Sqrt_l0 k n x1 x2 x3 x4 x5 x6 K
theorem L18_3_cok {R : Type} (k : Nat) : CodeOk Try.prog (cx18_3 k : Cx R) fi18 (loopAt ((Try.f18).body.getD .skip) 3) := loopAt_ok (((cx18_3_ok k).fns 18 fi18 (by kernel_rfl)).2.2.2 ((Try.f18).body.getD .skip) (by kernel_rfl))
theorem L18_3_ok {R : Type} (k : Nat) : ∀ n, LoopOk Try.prog (Try.f18).ntmps (loopAt ((Try.f18).body.getD .skip) 3) (L18_3 k n : LSum R)
  | 0 => by
    intro pin T H K r h
    unfold L18_3 L18_3G at h
    split at h
    all_goals exact nomatch (show (none : Option R) = some r from h)
  | n + 1 => by
    intro pin T H K r h
    unfold L18_3 L18_3G at h
    split at h
    · rw [← plumblineref01_Sqrt_l0_eq] at h
      obtain ⟨ex, T1, H1, h, hb⟩ := codeK_sound (cx18_3_ok k) (run_sound (cx18_3_ok k) 4) _ fi18 _ _ _ _ _ (L18_3_cok k) h
      exact loop_step (fun T H hh => L18_3_ok k n _ T H K r hh) hb h
    · cases h
noncomputable def cx18 {R : Type} (k : Nat) : Cx R := mkCx Ty exts [(22, true, S22 k), (24, true, S24 k), (26, true, S26 k)] fi18 [(3, L18_3 k k)]
theorem cx18_ok {R : Type} (k : Nat) : CxOk Try.prog (cx18 k : Cx R) := mkCx_ok (c := ((Try.f18).body.getD .skip)) ty_ok mixed exts_ok (allSum_cons (S22_ok k) en22 (allSum_cons (S24_ok k) en24 (allSum_cons (S26_ok k) en26 allSum_nil))) Try.func18 en18 (by kernel_rfl) (by kernel_rfl) (allLoop_loop (by kernel_rfl) (L18_3_ok k k) allLoop_nil)
noncomputable def plumblineref01_Sqrt {R : Type} (k : Nat) (a1 : Int) (a2 : Int) (K0 : Int → Int → Int → Option R) : Option R :=
  plumblineref01_Sqrt_l0 k k 0 63 a1 a2 0 0 (fun r1 =>
    plumblineref01_Mul k r1 r1 (fun r2 r3 =>
      plumblineref01_Sub k a1 a2 r2 r3 (fun r4 r5 r6 =>
        K0 r1 r4 r5)))
theorem plumblineref01_Sqrt_gen {R : Type} (plumblineref01_Sub : Nat → Int → Int → Int → Int → (Int → Int → Bool → Option R) → Option R) (plumblineref01_Mul : Nat → Int → Int → (Int → Int → Option R) → Option R) (plumblineref01_Compare : Nat → Int → Int → Int → Int → (Int → Option R) → Option R) (plumblineref01_Sqrt_l0 : Nat → Nat → Int → Int → Int → Int → Int → Int → (Int → Option R) → Option R) (k : Nat) (a1 : Int) (a2 : Int) (K : AV → Heap → Option R) :
    fnK (mkCx Ty exts [(22, true, S22G plumblineref01_Sub k), (24, true, S24G plumblineref01_Mul k), (26, true, S26G plumblineref01_Compare k)] fi18 [(3, L18_3G plumblineref01_Sqrt_l0 k k)]) 6 18 [.agg [.i .u64 a1, .i .u64 a2]] ⟨0, []⟩ K = (fun (K0 : Int → Int → Int → Option R) =>
    plumblineref01_Sqrt_l0 k k 0 63 a1 a2 0 0 (fun r1 =>
      plumblineref01_Mul k r1 r1 (fun r2 r3 =>
        plumblineref01_Sub k a1 a2 r2 r3 (fun r4 r5 r6 =>
          K0 r1 r4 r5)))) (fun q1 q2 q3 => K (.tup [.i .u64 q1, .agg [.i .u64 q2, .i .u64 q3]]) ⟨0, []⟩) := by kernel_rfl
theorem plumblineref01_Sqrt_eq {R : Type} (k : Nat) (a1 : Int) (a2 : Int) (K : AV → Heap → Option R) :
    fnK (cx18 k) 6 18 [.agg [.i .u64 a1, .i .u64 a2]] ⟨0, []⟩ K = plumblineref01_Sqrt k a1 a2 (fun q1 q2 q3 => K (.tup [.i .u64 q1, .agg [.i .u64 q2, .i .u64 q3]]) ⟨0, []⟩) := plumblineref01_Sqrt_gen plumblineref01_Sub plumblineref01_Mul plumblineref01_Compare plumblineref01_Sqrt_l0 k a1 a2 K
noncomputable def S18G {R : Type} (plumblineref01_Sqrt : Nat → Int → Int → (Int → Int → Int → Option R) → Option R) (k : Nat) : Sum R := fun args H K => match args, H with
  | [.agg [.i .u64 a1, .i .u64 a2]], ⟨0, []⟩ => plumblineref01_Sqrt k a1 a2 (fun q1 q2 q3 => K (.tup [.i .u64 q1, .agg [.i .u64 q2, .i .u64 q3]]) ⟨0, []⟩)
  | _, _ => none
noncomputable def S18 {R : Type} (k : Nat) : Sum R := S18G plumblineref01_Sqrt k
theorem S18_ok0 {R : Type} (k : Nat) : SumOk Try.prog 18 false (S18 k : Sum R) := by
  intro args H K r h
  unfold S18 S18G at h
  split at h
  · exact fnK_sound (cx18_ok k) 6 18 _ _ K r (by show fnK _ _ _ _ _ _ = _; rw [plumblineref01_Sqrt_eq]; exact h)
  · cases h
theorem S18_ok {R : Type} (k : Nat) : SumOk Try.prog 18 true (S18 k : Sum R) := by
  refine sumOk_keep (S18_ok0 k) ?_
  intro args H K r h
  unfold S18 S18G at h ⊢
  split at h
  · refine Eq.trans ?_ h
    show plumblineref01_Sqrt k _ _ _ = plumblineref01_Sqrt k _ _ _
    congr 1
    all_goals first | exact (funext fun q1 => funext fun q2 => funext fun q3 => if_pos (keeps_app _ _ _ [])) | skip
  · cases h
-- function 4: plumbline/plumblinelaw01.WideRoots
noncomputable def fi4 : FnI := ⟨4, Try.f4, []⟩
theorem en4 : Enters Try.prog 4 := enters_of Try.func4 (c := ((Try.f4).body.getD .skip)) (by kernel_rfl) (by kernel_rfl)
noncomputable def cx4 {R : Type} (k : Nat) : Cx R := mkCx Ty exts [(14, true, S14 k), (17, true, S17 k), (18, true, S18 k)] fi4 []
theorem cx4_ok {R : Type} (k : Nat) : CxOk Try.prog (cx4 k : Cx R) := mkCx_ok (c := ((Try.f4).body.getD .skip)) ty_ok mixed exts_ok (allSum_cons (S14_ok k) en14 (allSum_cons (S17_ok k) en17 (allSum_cons (S18_ok k) en18 allSum_nil))) Try.func4 en4 (by kernel_rfl) (by kernel_rfl) allLoop_nil
noncomputable def plumblinelaw01_WideRoots {R : Type} (k : Nat) (a1 : Int) (a2 : Int) (K0 : Bool → Option R) : Option R :=
  wide_Sqrt k a1 a2 (fun r1 r2 r3 =>
    plumblineref01_Sqrt k a1 a2 (fun r4 r5 r6 =>
      plumblinelaw01_live k (fun r7 =>
        cond r7 (
          cond (r1 == r4) (
            K0 ((r2 == r5) && (r3 == r6))) (
            K0 false)) (
          K0 false))))
theorem plumblinelaw01_WideRoots_gen {R : Type} (plumblinelaw01_live : Nat → (Bool → Option R) → Option R) (wide_Sqrt : Nat → Int → Int → (Int → Int → Int → Option R) → Option R) (plumblineref01_Sqrt : Nat → Int → Int → (Int → Int → Int → Option R) → Option R) (k : Nat) (a1 : Int) (a2 : Int) (K : AV → Heap → Option R) :
    fnK (mkCx Ty exts [(14, true, S14G plumblinelaw01_live k), (17, true, S17G wide_Sqrt k), (18, true, S18G plumblineref01_Sqrt k)] fi4 []) 6 4 [.agg [.i .u64 a1, .i .u64 a2]] ⟨0, []⟩ K = (fun (K0 : Bool → Option R) =>
    wide_Sqrt k a1 a2 (fun r1 r2 r3 =>
      plumblineref01_Sqrt k a1 a2 (fun r4 r5 r6 =>
        plumblinelaw01_live k (fun r7 =>
          cond r7 (
            cond (r1 == r4) (
              K0 ((r2 == r5) && (r3 == r6))) (
              K0 false)) (
            K0 false))))) (fun q1 => K (.b q1) ⟨0, []⟩) := by kernel_rfl
theorem plumblinelaw01_WideRoots_eq {R : Type} (k : Nat) (a1 : Int) (a2 : Int) (K : AV → Heap → Option R) :
    fnK (cx4 k) 6 4 [.agg [.i .u64 a1, .i .u64 a2]] ⟨0, []⟩ K = plumblinelaw01_WideRoots k a1 a2 (fun q1 => K (.b q1) ⟨0, []⟩) := plumblinelaw01_WideRoots_gen plumblinelaw01_live wide_Sqrt plumblineref01_Sqrt k a1 a2 K
noncomputable def S4G {R : Type} (plumblinelaw01_WideRoots : Nat → Int → Int → (Bool → Option R) → Option R) (k : Nat) : Sum R := fun args H K => match args, H with
  | [.agg [.i .u64 a1, .i .u64 a2]], ⟨0, []⟩ => plumblinelaw01_WideRoots k a1 a2 (fun q1 => K (.b q1) ⟨0, []⟩)
  | _, _ => none
noncomputable def S4 {R : Type} (k : Nat) : Sum R := S4G plumblinelaw01_WideRoots k
theorem S4_ok0 {R : Type} (k : Nat) : SumOk Try.prog 4 false (S4 k : Sum R) := by
  intro args H K r h
  unfold S4 S4G at h
  split at h
  · exact fnK_sound (cx4_ok k) 6 4 _ _ K r (by show fnK _ _ _ _ _ _ = _; rw [plumblinelaw01_WideRoots_eq]; exact h)
  · cases h
theorem S4_ok {R : Type} (k : Nat) : SumOk Try.prog 4 true (S4 k : Sum R) := by
  refine sumOk_keep (S4_ok0 k) ?_
  intro args H K r h
  unfold S4 S4G at h ⊢
  split at h
  · refine Eq.trans ?_ h
    show plumblinelaw01_WideRoots k _ _ _ = plumblinelaw01_WideRoots k _ _ _
    congr 1
    all_goals first | exact (funext fun q1 => if_pos (keeps_app _ _ _ [])) | skip
  · cases h
-- function 19: plumbline/wide.Add
noncomputable def fi19 : FnI := ⟨19, Try.f19, []⟩
theorem en19 : Enters Try.prog 19 := enters_of Try.func19 (c := ((Try.f19).body.getD .skip)) (by kernel_rfl) (by kernel_rfl)
noncomputable def cx19 {R : Type} (k : Nat) : Cx R := mkCx Ty exts [] fi19 []
theorem cx19_ok {R : Type} (k : Nat) : CxOk Try.prog (cx19 k : Cx R) := mkCx_ok (c := ((Try.f19).body.getD .skip)) ty_ok mixed exts_ok allSum_nil Try.func19 en19 (by kernel_rfl) (by kernel_rfl) allLoop_nil
noncomputable def wide_Add {R : Type} (k : Nat) (a1 : Int) (a2 : Int) (a3 : Int) (a4 : Int) (K0 : Int → Int → Bool → Option R) : Option R :=
  cond (decide ((carry64 a2 a4 0) ≤ 1)) (
    K0 (add64 a1 a3 (carry64 a2 a4 0)) (add64 a2 a4 0) ((carry64 a1 a3 (carry64 a2 a4 0)) == 1)) (
    none)
theorem wide_Add_gen {R : Type} (k : Nat) (a1 : Int) (a2 : Int) (a3 : Int) (a4 : Int) (K : AV → Heap → Option R) :
    fnK (mkCx Ty exts [] fi19 []) 6 19 [.agg [.i .u64 a1, .i .u64 a2], .agg [.i .u64 a3, .i .u64 a4]] ⟨0, []⟩ K = (fun (K0 : Int → Int → Bool → Option R) =>
    cond (decide ((carry64 a2 a4 0) ≤ 1)) (
      K0 (add64 a1 a3 (carry64 a2 a4 0)) (add64 a2 a4 0) ((carry64 a1 a3 (carry64 a2 a4 0)) == 1)) (
      none)) (fun q1 q2 q3 => K (.tup [.agg [.i .u64 q1, .i .u64 q2], .b q3]) ⟨0, []⟩) := by kernel_rfl
theorem wide_Add_eq {R : Type} (k : Nat) (a1 : Int) (a2 : Int) (a3 : Int) (a4 : Int) (K : AV → Heap → Option R) :
    fnK (cx19 k) 6 19 [.agg [.i .u64 a1, .i .u64 a2], .agg [.i .u64 a3, .i .u64 a4]] ⟨0, []⟩ K = wide_Add k a1 a2 a3 a4 (fun q1 q2 q3 => K (.tup [.agg [.i .u64 q1, .i .u64 q2], .b q3]) ⟨0, []⟩) := wide_Add_gen k a1 a2 a3 a4 K
noncomputable def S19G {R : Type} (wide_Add : Nat → Int → Int → Int → Int → (Int → Int → Bool → Option R) → Option R) (k : Nat) : Sum R := fun args H K => match args, H with
  | [.agg [.i .u64 a1, .i .u64 a2], .agg [.i .u64 a3, .i .u64 a4]], ⟨0, []⟩ => wide_Add k a1 a2 a3 a4 (fun q1 q2 q3 => K (.tup [.agg [.i .u64 q1, .i .u64 q2], .b q3]) ⟨0, []⟩)
  | _, _ => none
noncomputable def S19 {R : Type} (k : Nat) : Sum R := S19G wide_Add k
theorem S19_ok0 {R : Type} (k : Nat) : SumOk Try.prog 19 false (S19 k : Sum R) := by
  intro args H K r h
  unfold S19 S19G at h
  split at h
  · exact fnK_sound (cx19_ok k) 6 19 _ _ K r (by show fnK _ _ _ _ _ _ = _; rw [wide_Add_eq]; exact h)
  · cases h
theorem S19_ok {R : Type} (k : Nat) : SumOk Try.prog 19 true (S19 k : Sum R) := by
  refine sumOk_keep (S19_ok0 k) ?_
  intro args H K r h
  unfold S19 S19G at h ⊢
  split at h
  · refine Eq.trans ?_ h
    show wide_Add k _ _ _ _ _ = wide_Add k _ _ _ _ _
    congr 1
    all_goals first | exact (funext fun q1 => funext fun q2 => funext fun q3 => if_pos (keeps_app _ _ _ [])) | skip
  · cases h
-- function 5: plumbline/plumblinelaw01.WideSums
noncomputable def fi5 : FnI := ⟨5, Try.f5, []⟩
theorem en5 : Enters Try.prog 5 := enters_of Try.func5 (c := ((Try.f5).body.getD .skip)) (by kernel_rfl) (by kernel_rfl)
noncomputable def cx5 {R : Type} (k : Nat) : Cx R := mkCx Ty exts [(14, true, S14 k), (19, true, S19 k), (20, true, S20 k), (21, true, S21 k), (22, true, S22 k)] fi5 []
theorem cx5_ok {R : Type} (k : Nat) : CxOk Try.prog (cx5 k : Cx R) := mkCx_ok (c := ((Try.f5).body.getD .skip)) ty_ok mixed exts_ok (allSum_cons (S14_ok k) en14 (allSum_cons (S19_ok k) en19 (allSum_cons (S20_ok k) en20 (allSum_cons (S21_ok k) en21 (allSum_cons (S22_ok k) en22 allSum_nil))))) Try.func5 en5 (by kernel_rfl) (by kernel_rfl) allLoop_nil
noncomputable def plumblinelaw01_WideSums {R : Type} (k : Nat) (a1 : Int) (a2 : Int) (a3 : Int) (a4 : Int) (K0 : Bool → Option R) : Option R :=
  wide_Add k a1 a2 a3 a4 (fun r1 r2 r3 =>
    plumblineref01_Add k a1 a2 a3 a4 (fun r4 r5 r6 =>
      wide_Sub k a1 a2 a3 a4 (fun r7 r8 r9 =>
        plumblineref01_Sub k a1 a2 a3 a4 (fun r10 r11 r12 =>
          plumblinelaw01_live k (fun r13 =>
            cond r13 (
              cond ((r1 == r4) && (r2 == r5)) (
                cond (r3 == r6) (
                  cond ((r7 == r10) && (r8 == r11)) (
                    K0 (r9 == r12)) (
                    K0 false)) (
                  K0 false)) (
                K0 false)) (
              K0 false))))))
theorem plumblinelaw01_WideSums_gen {R : Type} (plumblinelaw01_live : Nat → (Bool → Option R) → Option R) (wide_Add : Nat → Int → Int → Int → Int → (Int → Int → Bool → Option R) → Option R) (plumblineref01_Add : Nat → Int → Int → Int → Int → (Int → Int → Bool → Option R) → Option R) (wide_Sub : Nat → Int → Int → Int → Int → (Int → Int → Bool → Option R) → Option R) (plumblineref01_Sub : Nat → Int → Int → Int → Int → (Int → Int → Bool → Option R) → Option R) (k : Nat) (a1 : Int) (a2 : Int) (a3 : Int) (a4 : Int) (K : AV → Heap → Option R) :
    fnK (mkCx Ty exts [(14, true, S14G plumblinelaw01_live k), (19, true, S19G wide_Add k), (20, true, S20G plumblineref01_Add k), (21, true, S21G wide_Sub k), (22, true, S22G plumblineref01_Sub k)] fi5 []) 6 5 [.agg [.i .u64 a1, .i .u64 a2], .agg [.i .u64 a3, .i .u64 a4]] ⟨0, []⟩ K = (fun (K0 : Bool → Option R) =>
    wide_Add k a1 a2 a3 a4 (fun r1 r2 r3 =>
      plumblineref01_Add k a1 a2 a3 a4 (fun r4 r5 r6 =>
        wide_Sub k a1 a2 a3 a4 (fun r7 r8 r9 =>
          plumblineref01_Sub k a1 a2 a3 a4 (fun r10 r11 r12 =>
            plumblinelaw01_live k (fun r13 =>
              cond r13 (
                cond ((r1 == r4) && (r2 == r5)) (
                  cond (r3 == r6) (
                    cond ((r7 == r10) && (r8 == r11)) (
                      K0 (r9 == r12)) (
                      K0 false)) (
                    K0 false)) (
                  K0 false)) (
                K0 false))))))) (fun q1 => K (.b q1) ⟨0, []⟩) := by kernel_rfl
theorem plumblinelaw01_WideSums_eq {R : Type} (k : Nat) (a1 : Int) (a2 : Int) (a3 : Int) (a4 : Int) (K : AV → Heap → Option R) :
    fnK (cx5 k) 6 5 [.agg [.i .u64 a1, .i .u64 a2], .agg [.i .u64 a3, .i .u64 a4]] ⟨0, []⟩ K = plumblinelaw01_WideSums k a1 a2 a3 a4 (fun q1 => K (.b q1) ⟨0, []⟩) := plumblinelaw01_WideSums_gen plumblinelaw01_live wide_Add plumblineref01_Add wide_Sub plumblineref01_Sub k a1 a2 a3 a4 K
noncomputable def S5G {R : Type} (plumblinelaw01_WideSums : Nat → Int → Int → Int → Int → (Bool → Option R) → Option R) (k : Nat) : Sum R := fun args H K => match args, H with
  | [.agg [.i .u64 a1, .i .u64 a2], .agg [.i .u64 a3, .i .u64 a4]], ⟨0, []⟩ => plumblinelaw01_WideSums k a1 a2 a3 a4 (fun q1 => K (.b q1) ⟨0, []⟩)
  | _, _ => none
noncomputable def S5 {R : Type} (k : Nat) : Sum R := S5G plumblinelaw01_WideSums k
theorem S5_ok0 {R : Type} (k : Nat) : SumOk Try.prog 5 false (S5 k : Sum R) := by
  intro args H K r h
  unfold S5 S5G at h
  split at h
  · exact fnK_sound (cx5_ok k) 6 5 _ _ K r (by show fnK _ _ _ _ _ _ = _; rw [plumblinelaw01_WideSums_eq]; exact h)
  · cases h
theorem S5_ok {R : Type} (k : Nat) : SumOk Try.prog 5 true (S5 k : Sum R) := by
  refine sumOk_keep (S5_ok0 k) ?_
  intro args H K r h
  unfold S5 S5G at h ⊢
  split at h
  · refine Eq.trans ?_ h
    show plumblinelaw01_WideSums k _ _ _ _ _ = plumblinelaw01_WideSums k _ _ _ _ _
    congr 1
    all_goals first | exact (funext fun q1 => if_pos (keeps_app _ _ _ [])) | skip
  · cases h
-- function 36: math/bits.Mul64
noncomputable def fi36 : FnI := ⟨36, Try.f36, []⟩
theorem en36 : Enters Try.prog 36 := enters_of Try.func36 (c := ((Try.f36).body.getD .skip)) (by kernel_rfl) (by kernel_rfl)
noncomputable def cx36 {R : Type} (k : Nat) : Cx R := mkCx Ty exts [] fi36 []
theorem cx36_ok {R : Type} (k : Nat) : CxOk Try.prog (cx36 k : Cx R) := mkCx_ok (c := ((Try.f36).body.getD .skip)) ty_ok mixed exts_ok allSum_nil Try.func36 en36 (by kernel_rfl) (by kernel_rfl) allLoop_nil
noncomputable def bits_Mul64 {R : Type} (k : Nat) (a1 : Int) (a2 : Int) (K0 : Int → Int → Option R) : Option R :=
  K0 (Wu64 ((Wu64 ((Wu64 ((shr .u64 a1 32) * (shr .u64 a2 32))) + (shr .u64 (Wu64 ((Wu64 ((shr .u64 a1 32) * (bAnd .u64 a2 4294967295))) + (shr .u64 (Wu64 ((bAnd .u64 a1 4294967295) * (bAnd .u64 a2 4294967295))) 32))) 32))) + (shr .u64 (Wu64 ((bAnd .u64 (Wu64 ((Wu64 ((shr .u64 a1 32) * (bAnd .u64 a2 4294967295))) + (shr .u64 (Wu64 ((bAnd .u64 a1 4294967295) * (bAnd .u64 a2 4294967295))) 32))) 4294967295) + (Wu64 ((bAnd .u64 a1 4294967295) * (shr .u64 a2 32))))) 32))) (Wu64 (a1 * a2))
theorem bits_Mul64_gen {R : Type} (k : Nat) (a1 : Int) (a2 : Int) (K : AV → Heap → Option R) :
    fnK (mkCx Ty exts [] fi36 []) 6 36 [.i .u64 a1, .i .u64 a2] ⟨0, []⟩ K = (fun (K0 : Int → Int → Option R) =>
    K0 (Wu64 ((Wu64 ((Wu64 ((shr .u64 a1 32) * (shr .u64 a2 32))) + (shr .u64 (Wu64 ((Wu64 ((shr .u64 a1 32) * (bAnd .u64 a2 4294967295))) + (shr .u64 (Wu64 ((bAnd .u64 a1 4294967295) * (bAnd .u64 a2 4294967295))) 32))) 32))) + (shr .u64 (Wu64 ((bAnd .u64 (Wu64 ((Wu64 ((shr .u64 a1 32) * (bAnd .u64 a2 4294967295))) + (shr .u64 (Wu64 ((bAnd .u64 a1 4294967295) * (bAnd .u64 a2 4294967295))) 32))) 4294967295) + (Wu64 ((bAnd .u64 a1 4294967295) * (shr .u64 a2 32))))) 32))) (Wu64 (a1 * a2))) (fun q1 q2 => K (.tup [.i .u64 q1, .i .u64 q2]) ⟨0, []⟩) := by kernel_rfl
theorem bits_Mul64_eq {R : Type} (k : Nat) (a1 : Int) (a2 : Int) (K : AV → Heap → Option R) :
    fnK (cx36 k) 6 36 [.i .u64 a1, .i .u64 a2] ⟨0, []⟩ K = bits_Mul64 k a1 a2 (fun q1 q2 => K (.tup [.i .u64 q1, .i .u64 q2]) ⟨0, []⟩) := bits_Mul64_gen k a1 a2 K
noncomputable def S36G {R : Type} (bits_Mul64 : Nat → Int → Int → (Int → Int → Option R) → Option R) (k : Nat) : Sum R := fun args H K => match args, H with
  | [.i .u64 a1, .i .u64 a2], ⟨0, []⟩ => bits_Mul64 k a1 a2 (fun q1 q2 => K (.tup [.i .u64 q1, .i .u64 q2]) ⟨0, []⟩)
  | _, _ => none
noncomputable def S36 {R : Type} (k : Nat) : Sum R := S36G bits_Mul64 k
theorem S36_ok0 {R : Type} (k : Nat) : SumOk Try.prog 36 false (S36 k : Sum R) := by
  intro args H K r h
  unfold S36 S36G at h
  split at h
  · exact fnK_sound (cx36_ok k) 6 36 _ _ K r (by show fnK _ _ _ _ _ _ = _; rw [bits_Mul64_eq]; exact h)
  · cases h
theorem S36_ok {R : Type} (k : Nat) : SumOk Try.prog 36 true (S36 k : Sum R) := by
  refine sumOk_keep (S36_ok0 k) ?_
  intro args H K r h
  unfold S36 S36G at h ⊢
  split at h
  · refine Eq.trans ?_ h
    show bits_Mul64 k _ _ _ = bits_Mul64 k _ _ _
    congr 1
    all_goals first | exact (funext fun q1 => funext fun q2 => if_pos (keeps_app _ _ _ [])) | skip
  · cases h
end Go.Proofs.Ytnbmconaglehbaa.N
