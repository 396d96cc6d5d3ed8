/- Printed by wip/gen/emit.py: functions of the program as plain Lean functions, tied to the model by the evaluator. Conditions: none. -/
import Derived.Test.YtnbmconaglehbaaN1
namespace Go.Proofs.Ytnbmconaglehbaa.N
set_option linter.unusedVariables false
set_option maxRecDepth 100000
open Go Go.Ab
-- function 17: plumbline/wide.Sqrt
noncomputable def fi17 : FnI := ⟨17, Try.f17, [(200000, [1, 3, 4, 5, 6]), (3000000, [2, 3])]⟩
theorem en17 : Enters Try.prog 17 := enters_of Try.func17 (c := ((Try.f17).body.getD .skip)) (by kernel_rfl) (by kernel_rfl)
noncomputable def wide_Sqrt_l0B {R : Type} (k : Nat) (rec : Int → Int → Int → Int → Int → Int → Int → Int → Option R) (x1 : Int) (x2 : Int) (x3 : Int) (x4 : Int) (x5 : Int) (x6 : Int) (x7 : Int) (x8 : Int) (K0 : Int → Int → Int → Option R) : Option R :=
  wide_Shr k x3 x4 x2 (fun yr1 yr2 yr3 =>
    wide_Shl k x7 x8 2 (fun yr4 yr5 =>
      wide_Compare k yr4 (bOr .u64 yr5 (bAnd .u64 yr2 3)) (shr .u64 x1 62) (bOr .u64 (shl .u64 x1 2) 1) (fun yr6 =>
        cond (decide (yr6 ≥ 0)) (
          wide_Sub k yr4 (bOr .u64 yr5 (bAnd .u64 yr2 3)) (shr .u64 x1 62) (bOr .u64 (shl .u64 x1 2) 1) (fun yr7 yr8 yr9 =>
            cond (decide ((Wi64 (x2 - 2)) ≥ 0)) (
              rec (bOr .u64 (shl .u64 x1 1) 1) (Wi64 (x2 - 2)) x3 x4 x5 x6 yr7 yr8) (
              K0 (bOr .u64 (shl .u64 x1 1) 1) yr7 yr8))) (
          cond (decide ((Wi64 (x2 - 2)) ≥ 0)) (
            rec (shl .u64 x1 1) (Wi64 (x2 - 2)) x3 x4 x5 x6 yr4 (bOr .u64 yr5 (bAnd .u64 yr2 3))) (
            K0 (shl .u64 x1 1) yr4 (bOr .u64 yr5 (bAnd .u64 yr2 3)))))))
noncomputable def wide_Sqrt_l0 {R : Type} (k : Nat) : Nat → Int → Int → Int → Int → Int → Int → Int → Int → (Int → Int → Int → Option R) → Option R
  | 0, _, _, _, _, _, _, _, _, _ => none
  | n + 1, x1, x2, x3, x4, x5, x6, x7, x8, K0 => wide_Sqrt_l0B k (fun x1 x2 x3 x4 x5 x6 x7 x8 => wide_Sqrt_l0 k n x1 x2 x3 x4 x5 x6 x7 x8 K0) x1 x2 x3 x4 x5 x6 x7 x8 K0
noncomputable def cx17_1000000 {R : Type} (k : Nat) : Cx R := mkCx Ty exts [(12, true, S12 k), (15, true, S15 k), (21, true, S21 k), (25, true, S25 k)] fi17 []
theorem cx17_1000000_ok {R : Type} (k : Nat) : CxOk Try.prog (cx17_1000000 k : Cx R) := mkCx_ok (c := ((Try.f17).body.getD .skip)) ty_ok mixed exts_ok (allSum_cons (S12_ok k) en12 (allSum_cons (S15_ok k) en15 (allSum_cons (S21_ok k) en21 (allSum_cons (S25_ok k) en25 allSum_nil)))) Try.func17 en17 (by kernel_rfl) (by kernel_rfl) allLoop_nil
noncomputable def L17_1000000G {R : Type} (wide_Sqrt_l0 : Nat → Nat → Int → Int → Int → Int → Int → Int → Int → Int → (Int → Int → Int → Option R) → Option R) (k n : Nat) : LSum R := fun pin T H K => match pin, T, H with
  | 0, [(1, .ptr 0 0 0 0 0), (3, .ptr 1 0 0 0 0), (4, .i .u64 x1), (5, .ptr 2 0 0 0 0), (6, .i .i64 x2)], ⟨3, [(0, some ⟨0, false, .cells [.i .u64 x3, .i .u64 x4]⟩), (1, some ⟨1, false, .cells [.i .u64 x5, .i .u64 x6]⟩), (2, some ⟨2, false, .cells [.i .u64 x7, .i .u64 x8]⟩)]⟩ => wide_Sqrt_l0 k n x1 x2 x3 x4 x5 x6 x7 x8 (fun q1 q2 q3 => K .ret [(2, .i .u64 q1), (3, .ptr 0 0 0 0 0)] ⟨1, [(0, some ⟨0, false, .cells [.i .u64 q2, .i .u64 q3]⟩)]⟩)
  | _, _, _ => none
noncomputable def L17_1000000 {R : Type} (k n : Nat) : LSum R := L17_1000000G wide_Sqrt_l0 k n
theorem wide_Sqrt_l0_gen {R : Type} (wide_Shr : Nat → Int → Int → Int → (Int → Int → Bool → Option R) → Option R) (wide_Shl : Nat → Int → Int → Int → (Int → Int → Option R) → Option R) (wide_Sub : Nat → Int → Int → Int → Int → (Int → Int → Bool → Option R) → Option R) (wide_Compare : Nat → Int → Int → Int → Int → (Int → Option R) → Option R) (wide_Sqrt_l0 : Nat → Nat → Int → Int → Int → Int → Int → Int → Int → Int → (Int → Int → Int → Option R) → Option R) (k n : Nat) (x1 : Int) (x2 : Int) (x3 : Int) (x4 : Int) (x5 : Int) (x6 : Int) (x7 : Int) (x8 : Int) (K : Kont R) :
    codeK (mkCx Ty exts [(12, true, S12G wide_Shr k), (15, true, S15G wide_Shl k), (21, true, S21G wide_Sub k), (25, true, S25G wide_Compare k)] fi17 []) (run (mkCx Ty exts [(12, true, S12G wide_Shr k), (15, true, S15G wide_Shl k), (21, true, S21G wide_Sub k), (25, true, S25G wide_Compare k)] fi17 []) 4) 0 fi17 (restAt ((Try.f17).body.getD .skip) 0) [(1, .ptr 0 0 0 0 0), (3, .ptr 1 0 0 0 0), (4, .i .u64 x1), (5, .ptr 2 0 0 0 0), (6, .i .i64 x2)] ⟨3, [(0, some ⟨0, false, .cells [.i .u64 x3, .i .u64 x4]⟩), (1, some ⟨1, false, .cells [.i .u64 x5, .i .u64 x6]⟩), (2, some ⟨2, false, .cells [.i .u64 x7, .i .u64 x8]⟩)]⟩ (fun ex T H => match (generalizing := false) ex with
      | .goto l' => cond (Nat.beq l' 0) (normAt (some [1, 3, 4, 5, 6]) 0 T H (fun T H => L17_1000000G wide_Sqrt_l0 k n 0 T H K)) (match findLabel (scopeAt ((Try.f17).body.getD .skip) 0) l' with | some _ => none | none => exitNorm fi17.ann 1000000 0 K (.goto l') T H)
      | ex => exitNorm fi17.ann 1000000 0 K ex T H) =
    (fun (rec : Int → Int → Int → Int → Int → Int → Int → Int → Option R) (K0 : Int → Int → Int → Option R) =>
    wide_Shr k x3 x4 x2 (fun yr1 yr2 yr3 =>
      wide_Shl k x7 x8 2 (fun yr4 yr5 =>
        wide_Compare k yr4 (bOr .u64 yr5 (bAnd .u64 yr2 3)) (shr .u64 x1 62) (bOr .u64 (shl .u64 x1 2) 1) (fun yr6 =>
          cond (decide (yr6 ≥ 0)) (
            wide_Sub k yr4 (bOr .u64 yr5 (bAnd .u64 yr2 3)) (shr .u64 x1 62) (bOr .u64 (shl .u64 x1 2) 1) (fun yr7 yr8 yr9 =>
              cond (decide ((Wi64 (x2 - 2)) ≥ 0)) (
                rec (bOr .u64 (shl .u64 x1 1) 1) (Wi64 (x2 - 2)) x3 x4 x5 x6 yr7 yr8) (
                K0 (bOr .u64 (shl .u64 x1 1) 1) yr7 yr8))) (
            cond (decide ((Wi64 (x2 - 2)) ≥ 0)) (
              rec (shl .u64 x1 1) (Wi64 (x2 - 2)) x3 x4 x5 x6 yr4 (bOr .u64 yr5 (bAnd .u64 yr2 3))) (
              K0 (shl .u64 x1 1) yr4 (bOr .u64 yr5 (bAnd .u64 yr2 3)))))))) (fun x1 x2 x3 x4 x5 x6 x7 x8 => wide_Sqrt_l0 k n x1 x2 x3 x4 x5 x6 x7 x8 (fun q1 q2 q3 => K .ret [(2, .i .u64 q1), (3, .ptr 0 0 0 0 0)] ⟨1, [(0, some ⟨0, false, .cells [.i .u64 q2, .i .u64 q3]⟩)]⟩)) (fun q1 q2 q3 => K .ret [(2, .i .u64 q1), (3, .ptr 0 0 0 0 0)] ⟨1, [(0, some ⟨0, false, .cells [.i .u64 q2, .i .u64 q3]⟩)]⟩) := by kernel_rfl
theorem wide_Sqrt_l0_eq {R : Type} (k n : Nat) (x1 : Int) (x2 : Int) (x3 : Int) (x4 : Int) (x5 : Int) (x6 : Int) (x7 : Int) (x8 : Int) (K : Kont R) :
    codeK (cx17_1000000 k) (run (cx17_1000000 k) 4) 0 fi17 (restAt ((Try.f17).body.getD .skip) 0) [(1, .ptr 0 0 0 0 0), (3, .ptr 1 0 0 0 0), (4, .i .u64 x1), (5, .ptr 2 0 0 0 0), (6, .i .i64 x2)] ⟨3, [(0, some ⟨0, false, .cells [.i .u64 x3, .i .u64 x4]⟩), (1, some ⟨1, false, .cells [.i .u64 x5, .i .u64 x6]⟩), (2, some ⟨2, false, .cells [.i .u64 x7, .i .u64 x8]⟩)]⟩ (fun ex T H => match (generalizing := false) ex with
      | .goto l' => cond (Nat.beq l' 0) (normAt (some [1, 3, 4, 5, 6]) 0 T H (fun T H => L17_1000000 k n 0 T H K)) (match findLabel (scopeAt ((Try.f17).body.getD .skip) 0) l' with | some _ => none | none => exitNorm fi17.ann 1000000 0 K (.goto l') T H)
      | ex => exitNorm fi17.ann 1000000 0 K ex T H) =
    wide_Sqrt_l0 k (n + 1) x1 x2 x3 x4 x5 x6 x7 x8 (fun q1 q2 q3 => K .ret [(2, .i .u64 q1), (3, .ptr 0 0 0 0 0)] ⟨1, [(0, some ⟨0, false, .cells [.i .u64 q2, .i .u64 q3]⟩)]⟩) := wide_Sqrt_l0_gen wide_Shr wide_Shl wide_Sub wide_Compare wide_Sqrt_l0 k n x1 x2 x3 x4 x5 x6 x7 x8 K
theorem L17_1000000_cok {R : Type} (k : Nat) : CodeOk Try.prog (cx17_1000000 k : Cx R) fi17 (restAt ((Try.f17).body.getD .skip) 0) := restAt_ok (((cx17_1000000_ok k).fns 17 fi17 (by kernel_rfl)).2.2.2 ((Try.f17).body.getD .skip) (by kernel_rfl))
theorem L17_1000000_ok {R : Type} (k : Nat) : ∀ n, JumpOk Try.prog (Try.f17).ntmps (scopeAt ((Try.f17).body.getD .skip) 0) (restAt ((Try.f17).body.getD .skip) 0) (L17_1000000 k n : LSum R)
  | 0 => by
    intro pin T H K r h
    unfold L17_1000000 L17_1000000G at h
    split at h
    all_goals exact nomatch (show (none : Option R) = some r from h)
  | n + 1 => by
    intro pin T H K r h
    unfold L17_1000000 L17_1000000G at h
    split at h
    · rw [← wide_Sqrt_l0_eq] at h
      obtain ⟨ex, T1, H1, h, hb⟩ := codeK_sound (cx17_1000000_ok k) (run_sound (cx17_1000000_ok k) 4) _ fi17 _ _ _ _ _ (L17_1000000_cok k) h
      exact jump_step (by kernel_rfl) (fun T H hh => L17_1000000_ok k n _ T H K r hh) hb h
    · cases h
noncomputable def cx17 {R : Type} (k : Nat) : Cx R := mkCx Ty exts [(12, true, S12 k), (15, true, S15 k), (21, true, S21 k), (25, true, S25 k)] fi17 [(1000000, L17_1000000 k k)]
theorem cx17_ok {R : Type} (k : Nat) : CxOk Try.prog (cx17 k : Cx R) := mkCx_ok (c := ((Try.f17).body.getD .skip)) ty_ok mixed exts_ok (allSum_cons (S12_ok k) en12 (allSum_cons (S15_ok k) en15 (allSum_cons (S21_ok k) en21 (allSum_cons (S25_ok k) en25 allSum_nil)))) Try.func17 en17 (by kernel_rfl) (by kernel_rfl) (allLoop_jump (by kernel_rfl) (L17_1000000_ok k k) (by kernel_rfl) allLoop_nil)
noncomputable def wide_Sqrt {R : Type} (k : Nat) (a1 : Int) (a2 : Int) (K0 : Int → Int → Int → Option R) : Option R :=
  wide_Shr k a1 a2 126 (fun r1 r2 r3 =>
    wide_Shl k 0 0 2 (fun r4 r5 =>
      wide_Compare k r4 (bOr .u64 r5 (bAnd .u64 r2 3)) 0 1 (fun r6 =>
        cond (decide (r6 ≥ 0)) (
          wide_Sub k r4 (bOr .u64 r5 (bAnd .u64 r2 3)) 0 1 (fun r7 r8 r9 =>
            wide_Sqrt_l0 k k 1 124 a1 a2 0 0 r7 r8 (fun r10 r11 r12 =>
              K0 r10 r11 r12))) (
          wide_Sqrt_l0 k k 0 124 a1 a2 0 0 r4 (bOr .u64 r5 (bAnd .u64 r2 3)) (fun r13 r14 r15 =>
            K0 r13 r14 r15)))))
theorem wide_Sqrt_gen {R : Type} (wide_Shr : Nat → Int → Int → Int → (Int → Int → Bool → Option R) → Option R) (wide_Shl : Nat → Int → Int → Int → (Int → Int → Option R) → Option R) (wide_Sub : Nat → Int → Int → Int → Int → (Int → Int → Bool → Option R) → Option R) (wide_Compare : Nat → Int → Int → Int → Int → (Int → Option R) → Option R) (wide_Sqrt_l0 : Nat → Nat → Int → Int → Int → Int → Int → Int → Int → Int → (Int → Int → Int → Option R) → Option R) (k : Nat) (a1 : Int) (a2 : Int) (K : AV → Heap → Option R) :
    fnK (mkCx Ty exts [(12, true, S12G wide_Shr k), (15, true, S15G wide_Shl k), (21, true, S21G wide_Sub k), (25, true, S25G wide_Compare k)] fi17 [(1000000, L17_1000000G wide_Sqrt_l0 k k)]) 6 17 [.agg [.i .u64 a1, .i .u64 a2]] ⟨0, []⟩ K = (fun (K0 : Int → Int → Int → Option R) =>
    wide_Shr k a1 a2 126 (fun r1 r2 r3 =>
      wide_Shl k 0 0 2 (fun r4 r5 =>
        wide_Compare k r4 (bOr .u64 r5 (bAnd .u64 r2 3)) 0 1 (fun r6 =>
          cond (decide (r6 ≥ 0)) (
            wide_Sub k r4 (bOr .u64 r5 (bAnd .u64 r2 3)) 0 1 (fun r7 r8 r9 =>
              wide_Sqrt_l0 k k 1 124 a1 a2 0 0 r7 r8 (fun r10 r11 r12 =>
                K0 r10 r11 r12))) (
            wide_Sqrt_l0 k k 0 124 a1 a2 0 0 r4 (bOr .u64 r5 (bAnd .u64 r2 3)) (fun r13 r14 r15 =>
              K0 r13 r14 r15)))))) (fun q1 q2 q3 => K (.tup [.i .u64 q1, .agg [.i .u64 q2, .i .u64 q3]]) ⟨0, []⟩) := by kernel_rfl
theorem wide_Sqrt_eq {R : Type} (k : Nat) (a1 : Int) (a2 : Int) (K : AV → Heap → Option R) :
    fnK (cx17 k) 6 17 [.agg [.i .u64 a1, .i .u64 a2]] ⟨0, []⟩ K = wide_Sqrt k a1 a2 (fun q1 q2 q3 => K (.tup [.i .u64 q1, .agg [.i .u64 q2, .i .u64 q3]]) ⟨0, []⟩) := wide_Sqrt_gen wide_Shr wide_Shl wide_Sub wide_Compare wide_Sqrt_l0 k a1 a2 K
noncomputable def S17G {R : Type} (wide_Sqrt : Nat → Int → Int → (Int → Int → Int → Option R) → Option R) (k : Nat) : Sum R := fun args H K => match args, H with
  | [.agg [.i .u64 a1, .i .u64 a2]], ⟨0, []⟩ => wide_Sqrt k a1 a2 (fun q1 q2 q3 => K (.tup [.i .u64 q1, .agg [.i .u64 q2, .i .u64 q3]]) ⟨0, []⟩)
  | _, _ => none
noncomputable def S17 {R : Type} (k : Nat) : Sum R := S17G wide_Sqrt k
theorem S17_ok0 {R : Type} (k : Nat) : SumOk Try.prog 17 false (S17 k : Sum R) := by
  intro args H K r h
  unfold S17 S17G at h
  split at h
  · exact fnK_sound (cx17_ok k) 6 17 _ _ K r (by show fnK _ _ _ _ _ _ = _; rw [wide_Sqrt_eq]; exact h)
  · cases h
theorem S17_ok {R : Type} (k : Nat) : SumOk Try.prog 17 true (S17 k : Sum R) := by
  refine sumOk_keep (S17_ok0 k) ?_
  intro args H K r h
  unfold S17 S17G at h ⊢
  split at h
  · refine Eq.trans ?_ h
    show wide_Sqrt k _ _ _ = wide_Sqrt k _ _ _
    congr 1
    all_goals first | exact (funext fun q1 => funext fun q2 => funext fun q3 => if_pos (keeps_app _ _ _ [])) | skip
  · cases h
-- function 14: plumbline/plumblinelaw01.live
noncomputable def fi14 : FnI := ⟨14, Try.f14, []⟩
theorem en14 : Enters Try.prog 14 := enters_of Try.func14 (c := ((Try.f14).body.getD .skip)) (by kernel_rfl) (by kernel_rfl)
noncomputable def cx14 {R : Type} (k : Nat) : Cx R := mkCx Ty exts [(12, true, S12 k), (17, true, S17 k)] fi14 []
theorem cx14_ok {R : Type} (k : Nat) : CxOk Try.prog (cx14 k : Cx R) := mkCx_ok (c := ((Try.f14).body.getD .skip)) ty_ok mixed exts_ok (allSum_cons (S12_ok k) en12 (allSum_cons (S17_ok k) en17 allSum_nil)) Try.func14 en14 (by kernel_rfl) (by kernel_rfl) allLoop_nil
noncomputable def plumblinelaw01_live {R : Type} (k : Nat) (K0 : Bool → Option R) : Option R :=
  wide_Sqrt k 0 10 (fun r1 r2 r3 =>
    wide_Shr k 0 5 1 (fun r4 r5 r6 =>
      cond (r1 == 3) (
        cond ((r2 == 0) && (r3 == 1)) (
          cond ((r4 == 0) && (r5 == 2)) (
            K0 r6) (
            K0 false)) (
          K0 false)) (
        K0 false)))
theorem plumblinelaw01_live_gen {R : Type} (wide_Shr : Nat → Int → Int → Int → (Int → Int → Bool → Option R) → Option R) (wide_Sqrt : Nat → Int → Int → (Int → Int → Int → Option R) → Option R) (k : Nat) (K : AV → Heap → Option R) :
    fnK (mkCx Ty exts [(12, true, S12G wide_Shr k), (17, true, S17G wide_Sqrt k)] fi14 []) 6 14 [] ⟨0, []⟩ K = (fun (K0 : Bool → Option R) =>
    wide_Sqrt k 0 10 (fun r1 r2 r3 =>
      wide_Shr k 0 5 1 (fun r4 r5 r6 =>
        cond (r1 == 3) (
          cond ((r2 == 0) && (r3 == 1)) (
            cond ((r4 == 0) && (r5 == 2)) (
              K0 r6) (
              K0 false)) (
            K0 false)) (
          K0 false)))) (fun q1 => K (.b q1) ⟨0, []⟩) := by kernel_rfl
theorem plumblinelaw01_live_eq {R : Type} (k : Nat) (K : AV → Heap → Option R) :
    fnK (cx14 k) 6 14 [] ⟨0, []⟩ K = plumblinelaw01_live k (fun q1 => K (.b q1) ⟨0, []⟩) := plumblinelaw01_live_gen wide_Shr wide_Sqrt k K
noncomputable def S14G {R : Type} (plumblinelaw01_live : Nat → (Bool → Option R) → Option R) (k : Nat) : Sum R := fun args H K => match args, H with
  | [], ⟨0, []⟩ => plumblinelaw01_live k (fun q1 => K (.b q1) ⟨0, []⟩)
  | _, _ => none
noncomputable def S14 {R : Type} (k : Nat) : Sum R := S14G plumblinelaw01_live k
theorem S14_ok0 {R : Type} (k : Nat) : SumOk Try.prog 14 false (S14 k : Sum R) := by
  intro args H K r h
  unfold S14 S14G at h
  split at h
  · exact fnK_sound (cx14_ok k) 6 14 _ _ K r (by show fnK _ _ _ _ _ _ = _; rw [plumblinelaw01_live_eq]; exact h)
  · cases h
theorem S14_ok {R : Type} (k : Nat) : SumOk Try.prog 14 true (S14 k : Sum R) := by
  refine sumOk_keep (S14_ok0 k) ?_
  intro args H K r h
  unfold S14 S14G at h ⊢
  split at h
  · refine Eq.trans ?_ h
    show plumblinelaw01_live k _ = plumblinelaw01_live k _
    congr 1
    all_goals first | exact (funext fun q1 => if_pos (keeps_app _ _ _ [])) | skip
  · cases h
-- function 16: plumbline/plumblineref01.Shl
noncomputable def fi16 : FnI := ⟨16, Try.f16, [(100006, [1, 4, 5, 6, 7]), (3006000, [4, 6])]⟩
theorem en16 : Enters Try.prog 16 := enters_of Try.func16 (c := ((Try.f16).body.getD .skip)) (by kernel_rfl) (by kernel_rfl)
noncomputable def plumblineref01_Shl_l0B {R : Type} (k : Nat) (rec : Int → Int → Int → Int → (List Bool) → (List Bool) → Option R) (x1 : Int) (x2 : Int) (x3 : Int) (x4 : Int) (x5 : List Bool) (x6 : List Bool) (K0 : (List Bool) → Option R) : Option R :=
  cond (decide (x2 ≥ 0)) (
    cond (decide (x2 ≥ x1)) (
      cond (decide (0 ≤ (Wi64 (x2 - x1)))) (
        cond (decide ((Wi64 (x2 - x1)) < (((List.length x5) : Nat) : Int))) (
          Option.bind (x5[(Int.toNat (Wi64 (x2 - x1)))]?) fun ye1 =>
          cond (decide (0 ≤ x2)) (
            cond (decide (x2 < (((List.length x6) : Nat) : Int))) (
              Option.bind (x6[(Int.toNat x2)]?) fun ye2 =>
              rec x1 (Wi64 (x2 - 1)) x3 x4 x5 (List.set x6 (Int.toNat x2) ye1)) (
              none)) (
            none)) (
          none)) (
        none)) (
      K0 x6)) (
    K0 x6)
noncomputable def plumblineref01_Shl_l0 {R : Type} (k : Nat) : Nat → Int → Int → Int → Int → (List Bool) → (List Bool) → ((List Bool) → Option R) → Option R
  | 0, _, _, _, _, _, _, _ => none
  | n + 1, x1, x2, x3, x4, x5, x6, K0 => plumblineref01_Shl_l0B k (fun x1 x2 x3 x4 x5 x6 => plumblineref01_Shl_l0 k n x1 x2 x3 x4 x5 x6 K0) x1 x2 x3 x4 x5 x6 K0
noncomputable def cx16_6 {R : Type} (k : Nat) : Cx R := mkCx Ty exts [(31, true, S31 k), (32, true, S32 k)] fi16 []
theorem cx16_6_ok {R : Type} (k : Nat) : CxOk Try.prog (cx16_6 k : Cx R) := mkCx_ok (c := ((Try.f16).body.getD .skip)) ty_ok mixed exts_ok (allSum_cons (S31_ok k) en31 (allSum_cons (S32_ok k) en32 allSum_nil)) Try.func16 en16 (by kernel_rfl) (by kernel_rfl) allLoop_nil
noncomputable def L16_6G {R : Type} (plumblineref01_Shl_l0 : Nat → Nat → Int → Int → Int → Int → (List Bool) → (List Bool) → ((List Bool) → Option R) → Option R) (k n : Nat) : LSum R := fun pin T H K => match pin, T, H with
  | 0, [(1, .i .i64 x1), (4, .ptr 0 0 0 0 0), (5, .sw 1), (6, .sw 2), (7, .i .i64 x2)], ⟨3, [(0, some ⟨0, false, .cells [.i .u64 x3, .i .u64 x4]⟩), (1, some ⟨1, false, .row [.b] x5⟩), (2, some ⟨2, false, .row [.b] x6⟩)]⟩ => plumblineref01_Shl_l0 k n x1 x2 x3 x4 x5 x6 (fun q3 => K (.exit 0) [(4, .ptr 0 0 0 0 0), (6, .sw 1)] ⟨2, [(0, some ⟨0, false, .cells [.i .u64 x3, .i .u64 x4]⟩), (1, some ⟨1, false, .row [.b] q3⟩)]⟩)
  | _, _, _ => none
noncomputable def L16_6 {R : Type} (k n : Nat) : LSum R := L16_6G plumblineref01_Shl_l0 k n
theorem plumblineref01_Shl_l0_gen {R : Type} (plumblineref01_Bits : Nat → Int → Int → ((List Bool) → Option R) → Option R) (plumblineref01_From : Nat → (List Bool) → (Int → Int → Option R) → Option R) (plumblineref01_Shl_l0 : Nat → Nat → Int → Int → Int → Int → (List Bool) → (List Bool) → ((List Bool) → Option R) → Option R) (k n : Nat) (x1 : Int) (x2 : Int) (x3 : Int) (x4 : Int) (x5 : List Bool) (x6 : List Bool) (K : Kont R) :
    codeK (mkCx Ty exts [(31, true, S31G plumblineref01_Bits k), (32, true, S32G plumblineref01_From k)] fi16 []) (run (mkCx Ty exts [(31, true, S31G plumblineref01_Bits k), (32, true, S32G plumblineref01_From k)] fi16 []) 4) 0 fi16 (loopAt ((Try.f16).body.getD .skip) 6) [(1, .i .i64 x1), (4, .ptr 0 0 0 0 0), (5, .sw 1), (6, .sw 2), (7, .i .i64 x2)] ⟨3, [(0, some ⟨0, false, .cells [.i .u64 x3, .i .u64 x4]⟩), (1, some ⟨1, false, .row [.b] x5⟩), (2, some ⟨2, false, .row [.b] x6⟩)]⟩ (fun ex T H => match (generalizing := false) ex with
      | .normal => normAt (some [1, 4, 5, 6, 7]) 0 T H (fun T H => L16_6G plumblineref01_Shl_l0 k n 0 T H K)
      | ex => exitNorm fi16.ann 6 0 K ex T H) =
    (fun (rec : Int → Int → Int → Int → (List Bool) → (List Bool) → Option R) (K0 : (List Bool) → Option R) =>
    cond (decide (x2 ≥ 0)) (
      cond (decide (x2 ≥ x1)) (
        cond (decide (0 ≤ (Wi64 (x2 - x1)))) (
          cond (decide ((Wi64 (x2 - x1)) < (((List.length x5) : Nat) : Int))) (
            Option.bind (x5[(Int.toNat (Wi64 (x2 - x1)))]?) fun ye1 =>
            cond (decide (0 ≤ x2)) (
              cond (decide (x2 < (((List.length x6) : Nat) : Int))) (
                Option.bind (x6[(Int.toNat x2)]?) fun ye2 =>
                rec x1 (Wi64 (x2 - 1)) x3 x4 x5 (List.set x6 (Int.toNat x2) ye1)) (
                none)) (
              none)) (
            none)) (
          none)) (
        K0 x6)) (
      K0 x6)) (fun x1 x2 x3 x4 x5 x6 => plumblineref01_Shl_l0 k n x1 x2 x3 x4 x5 x6 (fun q3 => K (.exit 0) [(4, .ptr 0 0 0 0 0), (6, .sw 1)] ⟨2, [(0, some ⟨0, false, .cells [.i .u64 x3, .i .u64 x4]⟩), (1, some ⟨1, false, .row [.b] q3⟩)]⟩)) (fun q3 => K (.exit 0) [(4, .ptr 0 0 0 0 0), (6, .sw 1)] ⟨2, [(0, some ⟨0, false, .cells [.i .u64 x3, .i .u64 x4]⟩), (1, some ⟨1, false, .row [.b] q3⟩)]⟩) := by kernel_rfl
theorem plumblineref01_Shl_l0_eq {R : Type} (k n : Nat) (x1 : Int) (x2 : Int) (x3 : Int) (x4 : Int) (x5 : List Bool) (x6 : List Bool) (K : Kont R) :
    codeK (cx16_6 k) (run (cx16_6 k) 4) 0 fi16 (loopAt ((Try.f16).body.getD .skip) 6) [(1, .i .i64 x1), (4, .ptr 0 0 0 0 0), (5, .sw 1), (6, .sw 2), (7, .i .i64 x2)] ⟨3, [(0, some ⟨0, false, .cells [.i .u64 x3, .i .u64 x4]⟩), (1, some ⟨1, false, .row [.b] x5⟩), (2, some ⟨2, false, .row [.b] x6⟩)]⟩ (fun ex T H => match (generalizing := false) ex with
      | .normal => normAt (some [1, 4, 5, 6, 7]) 0 T H (fun T H => L16_6 k n 0 T H K)
      | ex => exitNorm fi16.ann 6 0 K ex T H) =
    plumblineref01_Shl_l0 k (n + 1) x1 x2 x3 x4 x5 x6 (fun q3 => K (.exit 0) [(4, .ptr 0 0 0 0 0), (6, .sw 1)] ⟨2, [(0, some ⟨0, false, .cells [.i .u64 x3, .i .u64 x4]⟩), (1, some ⟨1, false, .row [.b] q3⟩)]⟩) := plumblineref01_Shl_l0_gen plumblineref01_Bits plumblineref01_From plumblineref01_Shl_l0 k n x1 x2 x3 x4 x5 x6 K
theorem L16_6_cok {R : Type} (k : Nat) : CodeOk Try.prog (cx16_6 k : Cx R) fi16 (loopAt ((Try.f16).body.getD .skip) 6) := loopAt_ok (((cx16_6_ok k).fns 16 fi16 (by kernel_rfl)).2.2.2 ((Try.f16).body.getD .skip) (by kernel_rfl))
theorem L16_6_ok {R : Type} (k : Nat) : ∀ n, LoopOk Try.prog (Try.f16).ntmps (loopAt ((Try.f16).body.getD .skip) 6) (L16_6 k n : LSum R)
  | 0 => by
    intro pin T H K r h
    unfold L16_6 L16_6G at h
    split at h
    all_goals exact nomatch (show (none : Option R) = some r from h)
  | n + 1 => by
    intro pin T H K r h
    unfold L16_6 L16_6G at h
    split at h
    · rw [← plumblineref01_Shl_l0_eq] at h
      obtain ⟨ex, T1, H1, h, hb⟩ := codeK_sound (cx16_6_ok k) (run_sound (cx16_6_ok k) 4) _ fi16 _ _ _ _ _ (L16_6_cok k) h
      exact loop_step (fun T H hh => L16_6_ok k n _ T H K r hh) hb h
    · cases h
noncomputable def cx16 {R : Type} (k : Nat) : Cx R := mkCx Ty exts [(31, true, S31 k), (32, true, S32 k)] fi16 [(6, L16_6 k k)]
theorem cx16_ok {R : Type} (k : Nat) : CxOk Try.prog (cx16 k : Cx R) := mkCx_ok (c := ((Try.f16).body.getD .skip)) ty_ok mixed exts_ok (allSum_cons (S31_ok k) en31 (allSum_cons (S32_ok k) en32 allSum_nil)) Try.func16 en16 (by kernel_rfl) (by kernel_rfl) (allLoop_loop (by kernel_rfl) (L16_6_ok k k) allLoop_nil)
noncomputable def plumblineref01_Shl {R : Type} (k : Nat) (a1 : Int) (a2 : Int) (a3 : Int) (K0 : Int → Int → Option R) : Option R :=
  cond (decide (a3 < 0)) (
    plumblineref01_Bits k a1 a2 (fun r1 =>
      plumblineref01_Shl_l0 k k 0 127 0 0 r1 (List.replicate 128 false) (fun r2 =>
        plumblineref01_From k r2 (fun r3 r4 =>
          K0 r3 r4)))) (
    plumblineref01_Bits k a1 a2 (fun r5 =>
      plumblineref01_Shl_l0 k k a3 127 0 0 r5 (List.replicate 128 false) (fun r6 =>
        plumblineref01_From k r6 (fun r7 r8 =>
          K0 r7 r8))))
theorem plumblineref01_Shl_gen {R : Type} (plumblineref01_Bits : Nat → Int → Int → ((List Bool) → Option R) → Option R) (plumblineref01_From : Nat → (List Bool) → (Int → Int → Option R) → Option R) (plumblineref01_Shl_l0 : Nat → Nat → Int → Int → Int → Int → (List Bool) → (List Bool) → ((List Bool) → Option R) → Option R) (k : Nat) (a1 : Int) (a2 : Int) (a3 : Int) (K : AV → Heap → Option R) :
    fnK (mkCx Ty exts [(31, true, S31G plumblineref01_Bits k), (32, true, S32G plumblineref01_From k)] fi16 [(6, L16_6G plumblineref01_Shl_l0 k k)]) 6 16 [.agg [.i .u64 a1, .i .u64 a2], .i .i64 a3] ⟨0, []⟩ K = (fun (K0 : Int → Int → Option R) =>
    cond (decide (a3 < 0)) (
      plumblineref01_Bits k a1 a2 (fun r1 =>
        plumblineref01_Shl_l0 k k 0 127 0 0 r1 (List.replicate 128 false) (fun r2 =>
          plumblineref01_From k r2 (fun r3 r4 =>
            K0 r3 r4)))) (
      plumblineref01_Bits k a1 a2 (fun r5 =>
        plumblineref01_Shl_l0 k k a3 127 0 0 r5 (List.replicate 128 false) (fun r6 =>
          plumblineref01_From k r6 (fun r7 r8 =>
            K0 r7 r8))))) (fun q1 q2 => K (.agg [.i .u64 q1, .i .u64 q2]) ⟨0, []⟩) := by kernel_rfl
theorem plumblineref01_Shl_eq {R : Type} (k : Nat) (a1 : Int) (a2 : Int) (a3 : Int) (K : AV → Heap → Option R) :
    fnK (cx16 k) 6 16 [.agg [.i .u64 a1, .i .u64 a2], .i .i64 a3] ⟨0, []⟩ K = plumblineref01_Shl k a1 a2 a3 (fun q1 q2 => K (.agg [.i .u64 q1, .i .u64 q2]) ⟨0, []⟩) := plumblineref01_Shl_gen plumblineref01_Bits plumblineref01_From plumblineref01_Shl_l0 k a1 a2 a3 K
noncomputable def S16G {R : Type} (plumblineref01_Shl : Nat → Int → Int → Int → (Int → Int → Option R) → Option R) (k : Nat) : Sum R := fun args H K => match args, H with
  | [.agg [.i .u64 a1, .i .u64 a2], .i .i64 a3], ⟨0, []⟩ => plumblineref01_Shl k a1 a2 a3 (fun q1 q2 => K (.agg [.i .u64 q1, .i .u64 q2]) ⟨0, []⟩)
  | _, _ => none
noncomputable def S16 {R : Type} (k : Nat) : Sum R := S16G plumblineref01_Shl k
theorem S16_ok0 {R : Type} (k : Nat) : SumOk Try.prog 16 false (S16 k : Sum R) := by
  intro args H K r h
  unfold S16 S16G at h
  split at h
  · exact fnK_sound (cx16_ok k) 6 16 _ _ K r (by show fnK _ _ _ _ _ _ = _; rw [plumblineref01_Shl_eq]; exact h)
  · cases h
theorem S16_ok {R : Type} (k : Nat) : SumOk Try.prog 16 true (S16 k : Sum R) := by
  refine sumOk_keep (S16_ok0 k) ?_
  intro args H K r h
  unfold S16 S16G at h ⊢
  split at h
  · refine Eq.trans ?_ h
    show plumblineref01_Shl k _ _ _ _ = plumblineref01_Shl k _ _ _ _
    congr 1
    all_goals first | exact (funext fun q1 => funext fun q2 => if_pos (keeps_app _ _ _ [])) | skip
  · cases h
-- function 3: plumbline/plumblinelaw01.WideMoves
noncomputable def fi3 : FnI := ⟨3, Try.f3, []⟩
theorem en3 : Enters Try.prog 3 := enters_of Try.func3 (c := ((Try.f3).body.getD .skip)) (by kernel_rfl) (by kernel_rfl)
noncomputable def cx3 {R : Type} (k : Nat) : Cx R := mkCx Ty exts [(12, true, S12 k), (13, true, S13 k), (14, true, S14 k), (15, true, S15 k), (16, true, S16 k)] fi3 []
theorem cx3_ok {R : Type} (k : Nat) : CxOk Try.prog (cx3 k : Cx R) := mkCx_ok (c := ((Try.f3).body.getD .skip)) ty_ok mixed exts_ok (allSum_cons (S12_ok k) en12 (allSum_cons (S13_ok k) en13 (allSum_cons (S14_ok k) en14 (allSum_cons (S15_ok k) en15 (allSum_cons (S16_ok k) en16 allSum_nil))))) Try.func3 en3 (by kernel_rfl) (by kernel_rfl) allLoop_nil
noncomputable def plumblinelaw01_WideMoves {R : Type} (k : Nat) (a1 : Int) (a2 : Int) (a3 : Int) (K0 : Bool → Option R) : Option R :=
  wide_Shr k a1 a2 a3 (fun r1 r2 r3 =>
    plumblineref01_Shr k a1 a2 a3 (fun r4 r5 r6 =>
      plumblinelaw01_live k (fun r7 =>
        cond r7 (
          cond ((r1 == r4) && (r2 == r5)) (
            cond (r3 == r6) (
              wide_Shl k a1 a2 a3 (fun r8 r9 =>
                plumblineref01_Shl k a1 a2 a3 (fun r10 r11 =>
                  K0 ((r8 == r10) && (r9 == r11))))) (
              K0 false)) (
            K0 false)) (
          K0 false))))
theorem plumblinelaw01_WideMoves_gen {R : Type} (wide_Shr : Nat → Int → Int → Int → (Int → Int → Bool → Option R) → Option R) (plumblineref01_Shr : Nat → Int → Int → Int → (Int → Int → Bool → Option R) → Option R) (plumblinelaw01_live : Nat → (Bool → Option R) → Option R) (wide_Shl : Nat → Int → Int → Int → (Int → Int → Option R) → Option R) (plumblineref01_Shl : Nat → Int → Int → Int → (Int → Int → Option R) → Option R) (k : Nat) (a1 : Int) (a2 : Int) (a3 : Int) (K : AV → Heap → Option R) :
    fnK (mkCx Ty exts [(12, true, S12G wide_Shr k), (13, true, S13G plumblineref01_Shr k), (14, true, S14G plumblinelaw01_live k), (15, true, S15G wide_Shl k), (16, true, S16G plumblineref01_Shl k)] fi3 []) 6 3 [.agg [.i .u64 a1, .i .u64 a2], .i .i64 a3] ⟨0, []⟩ K = (fun (K0 : Bool → Option R) =>
    wide_Shr k a1 a2 a3 (fun r1 r2 r3 =>
      plumblineref01_Shr k a1 a2 a3 (fun r4 r5 r6 =>
        plumblinelaw01_live k (fun r7 =>
          cond r7 (
            cond ((r1 == r4) && (r2 == r5)) (
              cond (r3 == r6) (
                wide_Shl k a1 a2 a3 (fun r8 r9 =>
                  plumblineref01_Shl k a1 a2 a3 (fun r10 r11 =>
                    K0 ((r8 == r10) && (r9 == r11))))) (
                K0 false)) (
              K0 false)) (
            K0 false))))) (fun q1 => K (.b q1) ⟨0, []⟩) := by kernel_rfl
theorem plumblinelaw01_WideMoves_eq {R : Type} (k : Nat) (a1 : Int) (a2 : Int) (a3 : Int) (K : AV → Heap → Option R) :
    fnK (cx3 k) 6 3 [.agg [.i .u64 a1, .i .u64 a2], .i .i64 a3] ⟨0, []⟩ K = plumblinelaw01_WideMoves k a1 a2 a3 (fun q1 => K (.b q1) ⟨0, []⟩) := plumblinelaw01_WideMoves_gen wide_Shr plumblineref01_Shr plumblinelaw01_live wide_Shl plumblineref01_Shl k a1 a2 a3 K
noncomputable def S3G {R : Type} (plumblinelaw01_WideMoves : Nat → Int → Int → Int → (Bool → Option R) → Option R) (k : Nat) : Sum R := fun args H K => match args, H with
  | [.agg [.i .u64 a1, .i .u64 a2], .i .i64 a3], ⟨0, []⟩ => plumblinelaw01_WideMoves k a1 a2 a3 (fun q1 => K (.b q1) ⟨0, []⟩)
  | _, _ => none
noncomputable def S3 {R : Type} (k : Nat) : Sum R := S3G plumblinelaw01_WideMoves k
theorem S3_ok0 {R : Type} (k : Nat) : SumOk Try.prog 3 false (S3 k : Sum R) := by
  intro args H K r h
  unfold S3 S3G at h
  split at h
  · exact fnK_sound (cx3_ok k) 6 3 _ _ K r (by show fnK _ _ _ _ _ _ = _; rw [plumblinelaw01_WideMoves_eq]; exact h)
  · cases h
theorem S3_ok {R : Type} (k : Nat) : SumOk Try.prog 3 true (S3 k : Sum R) := by
  refine sumOk_keep (S3_ok0 k) ?_
  intro args H K r h
  unfold S3 S3G at h ⊢
  split at h
  · refine Eq.trans ?_ h
    show plumblinelaw01_WideMoves k _ _ _ _ = plumblinelaw01_WideMoves k _ _ _ _
    congr 1
    all_goals first | exact (funext fun q1 => if_pos (keeps_app _ _ _ [])) | skip
  · cases h
-- function 34: plumbline/plumblineref01.add
noncomputable def fi34 : FnI := ⟨34, Try.f34, [(100006, [0, 1, 2, 7, 8, 9]), (3006000, [2, 7, 8])]⟩
theorem en34 : Enters Try.prog 34 := enters_of Try.func34 (c := ((Try.f34).body.getD .skip)) (by kernel_rfl) (by kernel_rfl)
noncomputable def plumblineref01_add_l0B {R : Type} (k : Nat) (rec : Bool → Int → Int → (List Bool) → (List Bool) → (List Bool) → Option R) (x1 : Bool) (x2 : Int) (x3 : Int) (x4 : List Bool) (x5 : List Bool) (x6 : List Bool) (K0 : Bool → (List Bool) → Option R) : Option R :=
  cond (decide (x3 < x2)) (
    cond (decide (x3 < (((List.length x4) : Nat) : Int))) (
      cond (decide (0 ≤ x3)) (
        cond (decide (x3 < (((List.length x4) : Nat) : Int))) (
          Option.bind (x4[(Int.toNat x3)]?) fun ye1 =>
          cond ye1 (
            cond (decide (x3 < (((List.length x5) : Nat) : Int))) (
              cond (decide (0 ≤ x3)) (
                cond (decide (x3 < (((List.length x5) : Nat) : Int))) (
                  Option.bind (x5[(Int.toNat x3)]?) fun ye2 =>
                  cond ye2 (
                    cond x1 (
                      cond (decide (0 ≤ x3)) (
                        cond (decide (x3 < (((List.length x6) : Nat) : Int))) (
                          Option.bind (x6[(Int.toNat x3)]?) fun ye3 =>
                          rec true x2 (Wi64 (x3 + 1)) x4 x5 (List.set x6 (Int.toNat x3) true)) (
                          none)) (
                        none)) (
                      cond (decide (0 ≤ x3)) (
                        cond (decide (x3 < (((List.length x6) : Nat) : Int))) (
                          Option.bind (x6[(Int.toNat x3)]?) fun ye4 =>
                          rec true x2 (Wi64 (x3 + 1)) x4 x5 (List.set x6 (Int.toNat x3) false)) (
                          none)) (
                        none))) (
                    cond x1 (
                      cond (decide (0 ≤ x3)) (
                        cond (decide (x3 < (((List.length x6) : Nat) : Int))) (
                          Option.bind (x6[(Int.toNat x3)]?) fun ye5 =>
                          rec true x2 (Wi64 (x3 + 1)) x4 x5 (List.set x6 (Int.toNat x3) false)) (
                          none)) (
                        none)) (
                      cond (decide (0 ≤ x3)) (
                        cond (decide (x3 < (((List.length x6) : Nat) : Int))) (
                          Option.bind (x6[(Int.toNat x3)]?) fun ye6 =>
                          rec false x2 (Wi64 (x3 + 1)) x4 x5 (List.set x6 (Int.toNat x3) true)) (
                          none)) (
                        none)))) (
                  none)) (
                none)) (
              cond x1 (
                cond (decide (0 ≤ x3)) (
                  cond (decide (x3 < (((List.length x6) : Nat) : Int))) (
                    Option.bind (x6[(Int.toNat x3)]?) fun ye7 =>
                    rec true x2 (Wi64 (x3 + 1)) x4 x5 (List.set x6 (Int.toNat x3) false)) (
                    none)) (
                  none)) (
                cond (decide (0 ≤ x3)) (
                  cond (decide (x3 < (((List.length x6) : Nat) : Int))) (
                    Option.bind (x6[(Int.toNat x3)]?) fun ye8 =>
                    rec false x2 (Wi64 (x3 + 1)) x4 x5 (List.set x6 (Int.toNat x3) true)) (
                    none)) (
                  none)))) (
            cond (decide (x3 < (((List.length x5) : Nat) : Int))) (
              cond (decide (0 ≤ x3)) (
                cond (decide (x3 < (((List.length x5) : Nat) : Int))) (
                  Option.bind (x5[(Int.toNat x3)]?) fun ye9 =>
                  cond ye9 (
                    cond x1 (
                      cond (decide (0 ≤ x3)) (
                        cond (decide (x3 < (((List.length x6) : Nat) : Int))) (
                          Option.bind (x6[(Int.toNat x3)]?) fun ye10 =>
                          rec true x2 (Wi64 (x3 + 1)) x4 x5 (List.set x6 (Int.toNat x3) false)) (
                          none)) (
                        none)) (
                      cond (decide (0 ≤ x3)) (
                        cond (decide (x3 < (((List.length x6) : Nat) : Int))) (
                          Option.bind (x6[(Int.toNat x3)]?) fun ye11 =>
                          rec false x2 (Wi64 (x3 + 1)) x4 x5 (List.set x6 (Int.toNat x3) true)) (
                          none)) (
                        none))) (
                    cond x1 (
                      cond (decide (0 ≤ x3)) (
                        cond (decide (x3 < (((List.length x6) : Nat) : Int))) (
                          Option.bind (x6[(Int.toNat x3)]?) fun ye12 =>
                          rec false x2 (Wi64 (x3 + 1)) x4 x5 (List.set x6 (Int.toNat x3) true)) (
                          none)) (
                        none)) (
                      cond (decide (0 ≤ x3)) (
                        cond (decide (x3 < (((List.length x6) : Nat) : Int))) (
                          Option.bind (x6[(Int.toNat x3)]?) fun ye13 =>
                          rec false x2 (Wi64 (x3 + 1)) x4 x5 (List.set x6 (Int.toNat x3) false)) (
                          none)) (
                        none)))) (
                  none)) (
                none)) (
              cond x1 (
                cond (decide (0 ≤ x3)) (
                  cond (decide (x3 < (((List.length x6) : Nat) : Int))) (
                    Option.bind (x6[(Int.toNat x3)]?) fun ye14 =>
                    rec false x2 (Wi64 (x3 + 1)) x4 x5 (List.set x6 (Int.toNat x3) true)) (
                    none)) (
                  none)) (
                cond (decide (0 ≤ x3)) (
                  cond (decide (x3 < (((List.length x6) : Nat) : Int))) (
                    Option.bind (x6[(Int.toNat x3)]?) fun ye15 =>
                    rec false x2 (Wi64 (x3 + 1)) x4 x5 (List.set x6 (Int.toNat x3) false)) (
                    none)) (
                  none))))) (
          none)) (
        none)) (
      cond (decide (x3 < (((List.length x5) : Nat) : Int))) (
        cond (decide (0 ≤ x3)) (
          cond (decide (x3 < (((List.length x5) : Nat) : Int))) (
            Option.bind (x5[(Int.toNat x3)]?) fun ye16 =>
            cond ye16 (
              cond x1 (
                cond (decide (0 ≤ x3)) (
                  cond (decide (x3 < (((List.length x6) : Nat) : Int))) (
                    Option.bind (x6[(Int.toNat x3)]?) fun ye17 =>
                    rec true x2 (Wi64 (x3 + 1)) x4 x5 (List.set x6 (Int.toNat x3) false)) (
                    none)) (
                  none)) (
                cond (decide (0 ≤ x3)) (
                  cond (decide (x3 < (((List.length x6) : Nat) : Int))) (
                    Option.bind (x6[(Int.toNat x3)]?) fun ye18 =>
                    rec false x2 (Wi64 (x3 + 1)) x4 x5 (List.set x6 (Int.toNat x3) true)) (
                    none)) (
                  none))) (
              cond x1 (
                cond (decide (0 ≤ x3)) (
                  cond (decide (x3 < (((List.length x6) : Nat) : Int))) (
                    Option.bind (x6[(Int.toNat x3)]?) fun ye19 =>
                    rec false x2 (Wi64 (x3 + 1)) x4 x5 (List.set x6 (Int.toNat x3) true)) (
                    none)) (
                  none)) (
                cond (decide (0 ≤ x3)) (
                  cond (decide (x3 < (((List.length x6) : Nat) : Int))) (
                    Option.bind (x6[(Int.toNat x3)]?) fun ye20 =>
                    rec false x2 (Wi64 (x3 + 1)) x4 x5 (List.set x6 (Int.toNat x3) false)) (
                    none)) (
                  none)))) (
            none)) (
          none)) (
        cond x1 (
          cond (decide (0 ≤ x3)) (
            cond (decide (x3 < (((List.length x6) : Nat) : Int))) (
              Option.bind (x6[(Int.toNat x3)]?) fun ye21 =>
              rec false x2 (Wi64 (x3 + 1)) x4 x5 (List.set x6 (Int.toNat x3) true)) (
              none)) (
            none)) (
          cond (decide (0 ≤ x3)) (
            cond (decide (x3 < (((List.length x6) : Nat) : Int))) (
              Option.bind (x6[(Int.toNat x3)]?) fun ye22 =>
              rec false x2 (Wi64 (x3 + 1)) x4 x5 (List.set x6 (Int.toNat x3) false)) (
              none)) (
            none))))) (
    K0 x1 x6)
noncomputable def plumblineref01_add_l0 {R : Type} (k : Nat) : Nat → Bool → Int → Int → (List Bool) → (List Bool) → (List Bool) → (Bool → (List Bool) → Option R) → Option R
  | 0, _, _, _, _, _, _, _ => none
  | n + 1, x1, x2, x3, x4, x5, x6, K0 => plumblineref01_add_l0B k (fun x1 x2 x3 x4 x5 x6 => plumblineref01_add_l0 k n x1 x2 x3 x4 x5 x6 K0) x1 x2 x3 x4 x5 x6 K0
noncomputable def cx34_6 {R : Type} (k : Nat) : Cx R := mkCx Ty exts [] fi34 []
theorem cx34_6_ok {R : Type} (k : Nat) : CxOk Try.prog (cx34_6 k : Cx R) := mkCx_ok (c := ((Try.f34).body.getD .skip)) ty_ok mixed exts_ok allSum_nil Try.func34 en34 (by kernel_rfl) (by kernel_rfl) allLoop_nil
noncomputable def L34_6G {R : Type} (plumblineref01_add_l0 : Nat → Nat → Bool → Int → Int → (List Bool) → (List Bool) → (List Bool) → (Bool → (List Bool) → Option R) → Option R) (k n : Nat) : LSum R := fun pin T H K => match pin, T, H with
  | 2, [(0, .sw 0), (1, .sw 1), (2, .b x1), (7, .i .i64 x2), (8, .sw 2), (9, .i .i64 x3)], ⟨3, [(0, some ⟨0, false, .row [.b] x4⟩), (1, some ⟨1, false, .row [.b] x5⟩), (2, some ⟨2, false, .row [.b] x6⟩)]⟩ => plumblineref01_add_l0 k n x1 x2 x3 x4 x5 x6 (fun q1 q5 => K (.exit 0) [(2, .b q1), (7, .i .i64 x2), (8, .sw 2)] ⟨3, [(0, some ⟨0, false, .row [.b] x4⟩), (1, some ⟨1, false, .row [.b] x5⟩), (2, some ⟨2, false, .row [.b] q5⟩)]⟩)
  | _, _, _ => none
noncomputable def L34_6 {R : Type} (k n : Nat) : LSum R := L34_6G plumblineref01_add_l0 k n
theorem plumblineref01_add_l0_gen {R : Type} (plumblineref01_add_l0 : Nat → Nat → Bool → Int → Int → (List Bool) → (List Bool) → (List Bool) → (Bool → (List Bool) → Option R) → Option R) (k n : Nat) (x1 : Bool) (x2 : Int) (x3 : Int) (x4 : List Bool) (x5 : List Bool) (x6 : List Bool) (K : Kont R) :
    codeK (mkCx Ty exts [] fi34 []) (run (mkCx Ty exts [] fi34 []) 4) 2 fi34 (loopAt ((Try.f34).body.getD .skip) 6) [(0, .sw 0), (1, .sw 1), (2, .b x1), (7, .i .i64 x2), (8, .sw 2), (9, .i .i64 x3)] ⟨3, [(0, some ⟨0, false, .row [.b] x4⟩), (1, some ⟨1, false, .row [.b] x5⟩), (2, some ⟨2, false, .row [.b] x6⟩)]⟩ (fun ex T H => match (generalizing := false) ex with
      | .normal => normAt (some [0, 1, 2, 7, 8, 9]) 2 T H (fun T H => L34_6G plumblineref01_add_l0 k n 2 T H K)
      | ex => exitNorm fi34.ann 6 2 K ex T H) =
    (fun (rec : Bool → Int → Int → (List Bool) → (List Bool) → (List Bool) → Option R) (K0 : Bool → (List Bool) → Option R) =>
    cond (decide (x3 < x2)) (
      cond (decide (x3 < (((List.length x4) : Nat) : Int))) (
        cond (decide (0 ≤ x3)) (
          cond (decide (x3 < (((List.length x4) : Nat) : Int))) (
            Option.bind (x4[(Int.toNat x3)]?) fun ye1 =>
            cond ye1 (
              cond (decide (x3 < (((List.length x5) : Nat) : Int))) (
                cond (decide (0 ≤ x3)) (
                  cond (decide (x3 < (((List.length x5) : Nat) : Int))) (
                    Option.bind (x5[(Int.toNat x3)]?) fun ye2 =>
                    cond ye2 (
                      cond x1 (
                        cond (decide (0 ≤ x3)) (
                          cond (decide (x3 < (((List.length x6) : Nat) : Int))) (
                            Option.bind (x6[(Int.toNat x3)]?) fun ye3 =>
                            rec true x2 (Wi64 (x3 + 1)) x4 x5 (List.set x6 (Int.toNat x3) true)) (
                            none)) (
                          none)) (
                        cond (decide (0 ≤ x3)) (
                          cond (decide (x3 < (((List.length x6) : Nat) : Int))) (
                            Option.bind (x6[(Int.toNat x3)]?) fun ye4 =>
                            rec true x2 (Wi64 (x3 + 1)) x4 x5 (List.set x6 (Int.toNat x3) false)) (
                            none)) (
                          none))) (
                      cond x1 (
                        cond (decide (0 ≤ x3)) (
                          cond (decide (x3 < (((List.length x6) : Nat) : Int))) (
                            Option.bind (x6[(Int.toNat x3)]?) fun ye5 =>
                            rec true x2 (Wi64 (x3 + 1)) x4 x5 (List.set x6 (Int.toNat x3) false)) (
                            none)) (
                          none)) (
                        cond (decide (0 ≤ x3)) (
                          cond (decide (x3 < (((List.length x6) : Nat) : Int))) (
                            Option.bind (x6[(Int.toNat x3)]?) fun ye6 =>
                            rec false x2 (Wi64 (x3 + 1)) x4 x5 (List.set x6 (Int.toNat x3) true)) (
                            none)) (
                          none)))) (
                    none)) (
                  none)) (
                cond x1 (
                  cond (decide (0 ≤ x3)) (
                    cond (decide (x3 < (((List.length x6) : Nat) : Int))) (
                      Option.bind (x6[(Int.toNat x3)]?) fun ye7 =>
                      rec true x2 (Wi64 (x3 + 1)) x4 x5 (List.set x6 (Int.toNat x3) false)) (
                      none)) (
                    none)) (
                  cond (decide (0 ≤ x3)) (
                    cond (decide (x3 < (((List.length x6) : Nat) : Int))) (
                      Option.bind (x6[(Int.toNat x3)]?) fun ye8 =>
                      rec false x2 (Wi64 (x3 + 1)) x4 x5 (List.set x6 (Int.toNat x3) true)) (
                      none)) (
                    none)))) (
              cond (decide (x3 < (((List.length x5) : Nat) : Int))) (
                cond (decide (0 ≤ x3)) (
                  cond (decide (x3 < (((List.length x5) : Nat) : Int))) (
                    Option.bind (x5[(Int.toNat x3)]?) fun ye9 =>
                    cond ye9 (
                      cond x1 (
                        cond (decide (0 ≤ x3)) (
                          cond (decide (x3 < (((List.length x6) : Nat) : Int))) (
                            Option.bind (x6[(Int.toNat x3)]?) fun ye10 =>
                            rec true x2 (Wi64 (x3 + 1)) x4 x5 (List.set x6 (Int.toNat x3) false)) (
                            none)) (
                          none)) (
                        cond (decide (0 ≤ x3)) (
                          cond (decide (x3 < (((List.length x6) : Nat) : Int))) (
                            Option.bind (x6[(Int.toNat x3)]?) fun ye11 =>
                            rec false x2 (Wi64 (x3 + 1)) x4 x5 (List.set x6 (Int.toNat x3) true)) (
                            none)) (
                          none))) (
                      cond x1 (
                        cond (decide (0 ≤ x3)) (
                          cond (decide (x3 < (((List.length x6) : Nat) : Int))) (
                            Option.bind (x6[(Int.toNat x3)]?) fun ye12 =>
                            rec false x2 (Wi64 (x3 + 1)) x4 x5 (List.set x6 (Int.toNat x3) true)) (
                            none)) (
                          none)) (
                        cond (decide (0 ≤ x3)) (
                          cond (decide (x3 < (((List.length x6) : Nat) : Int))) (
                            Option.bind (x6[(Int.toNat x3)]?) fun ye13 =>
                            rec false x2 (Wi64 (x3 + 1)) x4 x5 (List.set x6 (Int.toNat x3) false)) (
                            none)) (
                          none)))) (
                    none)) (
                  none)) (
                cond x1 (
                  cond (decide (0 ≤ x3)) (
                    cond (decide (x3 < (((List.length x6) : Nat) : Int))) (
                      Option.bind (x6[(Int.toNat x3)]?) fun ye14 =>
                      rec false x2 (Wi64 (x3 + 1)) x4 x5 (List.set x6 (Int.toNat x3) true)) (
                      none)) (
                    none)) (
                  cond (decide (0 ≤ x3)) (
                    cond (decide (x3 < (((List.length x6) : Nat) : Int))) (
                      Option.bind (x6[(Int.toNat x3)]?) fun ye15 =>
                      rec false x2 (Wi64 (x3 + 1)) x4 x5 (List.set x6 (Int.toNat x3) false)) (
                      none)) (
                    none))))) (
            none)) (
          none)) (
        cond (decide (x3 < (((List.length x5) : Nat) : Int))) (
          cond (decide (0 ≤ x3)) (
            cond (decide (x3 < (((List.length x5) : Nat) : Int))) (
              Option.bind (x5[(Int.toNat x3)]?) fun ye16 =>
              cond ye16 (
                cond x1 (
                  cond (decide (0 ≤ x3)) (
                    cond (decide (x3 < (((List.length x6) : Nat) : Int))) (
                      Option.bind (x6[(Int.toNat x3)]?) fun ye17 =>
                      rec true x2 (Wi64 (x3 + 1)) x4 x5 (List.set x6 (Int.toNat x3) false)) (
                      none)) (
                    none)) (
                  cond (decide (0 ≤ x3)) (
                    cond (decide (x3 < (((List.length x6) : Nat) : Int))) (
                      Option.bind (x6[(Int.toNat x3)]?) fun ye18 =>
                      rec false x2 (Wi64 (x3 + 1)) x4 x5 (List.set x6 (Int.toNat x3) true)) (
                      none)) (
                    none))) (
                cond x1 (
                  cond (decide (0 ≤ x3)) (
                    cond (decide (x3 < (((List.length x6) : Nat) : Int))) (
                      Option.bind (x6[(Int.toNat x3)]?) fun ye19 =>
                      rec false x2 (Wi64 (x3 + 1)) x4 x5 (List.set x6 (Int.toNat x3) true)) (
                      none)) (
                    none)) (
                  cond (decide (0 ≤ x3)) (
                    cond (decide (x3 < (((List.length x6) : Nat) : Int))) (
                      Option.bind (x6[(Int.toNat x3)]?) fun ye20 =>
                      rec false x2 (Wi64 (x3 + 1)) x4 x5 (List.set x6 (Int.toNat x3) false)) (
                      none)) (
                    none)))) (
              none)) (
            none)) (
          cond x1 (
            cond (decide (0 ≤ x3)) (
              cond (decide (x3 < (((List.length x6) : Nat) : Int))) (
                Option.bind (x6[(Int.toNat x3)]?) fun ye21 =>
                rec false x2 (Wi64 (x3 + 1)) x4 x5 (List.set x6 (Int.toNat x3) true)) (
                none)) (
              none)) (
            cond (decide (0 ≤ x3)) (
              cond (decide (x3 < (((List.length x6) : Nat) : Int))) (
                Option.bind (x6[(Int.toNat x3)]?) fun ye22 =>
                rec false x2 (Wi64 (x3 + 1)) x4 x5 (List.set x6 (Int.toNat x3) false)) (
                none)) (
              none))))) (
      K0 x1 x6)) (fun x1 x2 x3 x4 x5 x6 => plumblineref01_add_l0 k n x1 x2 x3 x4 x5 x6 (fun q1 q5 => K (.exit 0) [(2, .b q1), (7, .i .i64 x2), (8, .sw 2)] ⟨3, [(0, some ⟨0, false, .row [.b] x4⟩), (1, some ⟨1, false, .row [.b] x5⟩), (2, some ⟨2, false, .row [.b] q5⟩)]⟩)) (fun q1 q5 => K (.exit 0) [(2, .b q1), (7, .i .i64 x2), (8, .sw 2)] ⟨3, [(0, some ⟨0, false, .row [.b] x4⟩), (1, some ⟨1, false, .row [.b] x5⟩), (2, some ⟨2, false, .row [.b] q5⟩)]⟩) := by kernel_rfl
theorem plumblineref01_add_l0_eq {R : Type} (k n : Nat) (x1 : Bool) (x2 : Int) (x3 : Int) (x4 : List Bool) (x5 : List Bool) (x6 : List Bool) (K : Kont R) :
    codeK (cx34_6 k) (run (cx34_6 k) 4) 2 fi34 (loopAt ((Try.f34).body.getD .skip) 6) [(0, .sw 0), (1, .sw 1), (2, .b x1), (7, .i .i64 x2), (8, .sw 2), (9, .i .i64 x3)] ⟨3, [(0, some ⟨0, false, .row [.b] x4⟩), (1, some ⟨1, false, .row [.b] x5⟩), (2, some ⟨2, false, .row [.b] x6⟩)]⟩ (fun ex T H => match (generalizing := false) ex with
      | .normal => normAt (some [0, 1, 2, 7, 8, 9]) 2 T H (fun T H => L34_6 k n 2 T H K)
      | ex => exitNorm fi34.ann 6 2 K ex T H) =
    plumblineref01_add_l0 k (n + 1) x1 x2 x3 x4 x5 x6 (fun q1 q5 => K (.exit 0) [(2, .b q1), (7, .i .i64 x2), (8, .sw 2)] ⟨3, [(0, some ⟨0, false, .row [.b] x4⟩), (1, some ⟨1, false, .row [.b] x5⟩), (2, some ⟨2, false, .row [.b] q5⟩)]⟩) := plumblineref01_add_l0_gen plumblineref01_add_l0 k n x1 x2 x3 x4 x5 x6 K
theorem L34_6_cok {R : Type} (k : Nat) : CodeOk Try.prog (cx34_6 k : Cx R) fi34 (loopAt ((Try.f34).body.getD .skip) 6) := loopAt_ok (((cx34_6_ok k).fns 34 fi34 (by kernel_rfl)).2.2.2 ((Try.f34).body.getD .skip) (by kernel_rfl))
theorem L34_6_ok {R : Type} (k : Nat) : ∀ n, LoopOk Try.prog (Try.f34).ntmps (loopAt ((Try.f34).body.getD .skip) 6) (L34_6 k n : LSum R)
  | 0 => by
    intro pin T H K r h
    unfold L34_6 L34_6G at h
    split at h
    all_goals exact nomatch (show (none : Option R) = some r from h)
  | n + 1 => by
    intro pin T H K r h
    unfold L34_6 L34_6G at h
    split at h
    · rw [← plumblineref01_add_l0_eq] at h
      obtain ⟨ex, T1, H1, h, hb⟩ := codeK_sound (cx34_6_ok k) (run_sound (cx34_6_ok k) 4) _ fi34 _ _ _ _ _ (L34_6_cok k) h
      exact loop_step (fun T H hh => L34_6_ok k n _ T H K r hh) hb h
    · cases h
noncomputable def cx34 {R : Type} (k : Nat) : Cx R := mkCx Ty exts [] fi34 [(6, L34_6 k k)]
theorem cx34_ok {R : Type} (k : Nat) : CxOk Try.prog (cx34 k : Cx R) := mkCx_ok (c := ((Try.f34).body.getD .skip)) ty_ok mixed exts_ok allSum_nil Try.func34 en34 (by kernel_rfl) (by kernel_rfl) (allLoop_loop (by kernel_rfl) (L34_6_ok k k) allLoop_nil)
noncomputable def plumblineref01_add {R : Type} (k : Nat) (a1 : Bool) (a2 : List Bool) (a3 : List Bool) (K0 : (List Bool) → Option R) : Option R :=
  cond (decide ((((List.length a3) : Nat) : Int) > (((List.length a2) : Nat) : Int))) (
    cond (decide (0 ≤ (Wi64 ((((List.length a3) : Nat) : Int) + 1)))) (
      cond (decide ((Wi64 ((((List.length a3) : Nat) : Int) + 1)) ≤ (Wi64 ((((List.length a3) : Nat) : Int) + 1)))) (
        cond (decide (((Wi64 ((((List.length a3) : Nat) : Int) + 1)) * 1) ≤ 140737488355328)) (
          plumblineref01_add_l0 k k a1 (((List.length a3) : Nat) : Int) 0 a2 a3 (List.replicate (Int.toNat (Wi64 ((((List.length a3) : Nat) : Int) + 1))) false) (fun r1 r2 =>
            cond (decide (0 ≤ (((List.length a3) : Nat) : Int))) (
              cond (decide ((((List.length a3) : Nat) : Int) < (((List.length r2) : Nat) : Int))) (
                Option.bind (r2[(Int.toNat (((List.length a3) : Nat) : Int))]?) fun e3 =>
                K0 (List.set r2 (Int.toNat (((List.length a3) : Nat) : Int)) r1)) (
                none)) (
              none))) (
          none)) (
        none)) (
      none)) (
    cond (decide (0 ≤ (Wi64 ((((List.length a2) : Nat) : Int) + 1)))) (
      cond (decide ((Wi64 ((((List.length a2) : Nat) : Int) + 1)) ≤ (Wi64 ((((List.length a2) : Nat) : Int) + 1)))) (
        cond (decide (((Wi64 ((((List.length a2) : Nat) : Int) + 1)) * 1) ≤ 140737488355328)) (
          plumblineref01_add_l0 k k a1 (((List.length a2) : Nat) : Int) 0 a2 a3 (List.replicate (Int.toNat (Wi64 ((((List.length a2) : Nat) : Int) + 1))) false) (fun r4 r5 =>
            cond (decide (0 ≤ (((List.length a2) : Nat) : Int))) (
              cond (decide ((((List.length a2) : Nat) : Int) < (((List.length r5) : Nat) : Int))) (
                Option.bind (r5[(Int.toNat (((List.length a2) : Nat) : Int))]?) fun e6 =>
                K0 (List.set r5 (Int.toNat (((List.length a2) : Nat) : Int)) r4)) (
                none)) (
              none))) (
          none)) (
        none)) (
      none))
theorem plumblineref01_add_gen {R : Type} (plumblineref01_add_l0 : Nat → Nat → Bool → Int → Int → (List Bool) → (List Bool) → (List Bool) → (Bool → (List Bool) → Option R) → Option R) (k : Nat) (a1 : Bool) (a2 : List Bool) (a3 : List Bool) (K : AV → Heap → Option R) :
    fnK (mkCx Ty exts [] fi34 [(6, L34_6G plumblineref01_add_l0 k k)]) 6 34 [.sw 0, .sw 1, .b a1] ⟨2, [(0, some ⟨0, false, .row [.b] a2⟩), (1, some ⟨1, false, .row [.b] a3⟩)]⟩ K = (fun (K0 : (List Bool) → Option R) =>
    cond (decide ((((List.length a3) : Nat) : Int) > (((List.length a2) : Nat) : Int))) (
      cond (decide (0 ≤ (Wi64 ((((List.length a3) : Nat) : Int) + 1)))) (
        cond (decide ((Wi64 ((((List.length a3) : Nat) : Int) + 1)) ≤ (Wi64 ((((List.length a3) : Nat) : Int) + 1)))) (
          cond (decide (((Wi64 ((((List.length a3) : Nat) : Int) + 1)) * 1) ≤ 140737488355328)) (
            plumblineref01_add_l0 k k a1 (((List.length a3) : Nat) : Int) 0 a2 a3 (List.replicate (Int.toNat (Wi64 ((((List.length a3) : Nat) : Int) + 1))) false) (fun r1 r2 =>
              cond (decide (0 ≤ (((List.length a3) : Nat) : Int))) (
                cond (decide ((((List.length a3) : Nat) : Int) < (((List.length r2) : Nat) : Int))) (
                  Option.bind (r2[(Int.toNat (((List.length a3) : Nat) : Int))]?) fun e3 =>
                  K0 (List.set r2 (Int.toNat (((List.length a3) : Nat) : Int)) r1)) (
                  none)) (
                none))) (
            none)) (
          none)) (
        none)) (
      cond (decide (0 ≤ (Wi64 ((((List.length a2) : Nat) : Int) + 1)))) (
        cond (decide ((Wi64 ((((List.length a2) : Nat) : Int) + 1)) ≤ (Wi64 ((((List.length a2) : Nat) : Int) + 1)))) (
          cond (decide (((Wi64 ((((List.length a2) : Nat) : Int) + 1)) * 1) ≤ 140737488355328)) (
            plumblineref01_add_l0 k k a1 (((List.length a2) : Nat) : Int) 0 a2 a3 (List.replicate (Int.toNat (Wi64 ((((List.length a2) : Nat) : Int) + 1))) false) (fun r4 r5 =>
              cond (decide (0 ≤ (((List.length a2) : Nat) : Int))) (
                cond (decide ((((List.length a2) : Nat) : Int) < (((List.length r5) : Nat) : Int))) (
                  Option.bind (r5[(Int.toNat (((List.length a2) : Nat) : Int))]?) fun e6 =>
                  K0 (List.set r5 (Int.toNat (((List.length a2) : Nat) : Int)) r4)) (
                  none)) (
                none))) (
            none)) (
          none)) (
        none))) (fun q3 => K (.sw 2) ⟨3, [(0, some ⟨0, false, .row [.b] a2⟩), (1, some ⟨1, false, .row [.b] a3⟩), (2, some ⟨2, false, .row [.b] q3⟩)]⟩) := by kernel_rfl
theorem plumblineref01_add_eq {R : Type} (k : Nat) (a1 : Bool) (a2 : List Bool) (a3 : List Bool) (K : AV → Heap → Option R) :
    fnK (cx34 k) 6 34 [.sw 0, .sw 1, .b a1] ⟨2, [(0, some ⟨0, false, .row [.b] a2⟩), (1, some ⟨1, false, .row [.b] a3⟩)]⟩ K = plumblineref01_add k a1 a2 a3 (fun q3 => K (.sw 2) ⟨3, [(0, some ⟨0, false, .row [.b] a2⟩), (1, some ⟨1, false, .row [.b] a3⟩), (2, some ⟨2, false, .row [.b] q3⟩)]⟩) := plumblineref01_add_gen plumblineref01_add_l0 k a1 a2 a3 K
noncomputable def S34G {R : Type} (plumblineref01_add : Nat → Bool → (List Bool) → (List Bool) → ((List Bool) → Option R) → Option R) (k : Nat) : Sum R := fun args H K => match args, H with
  | [.sw 0, .sw 1, .b a1], ⟨2, [(0, some ⟨0, false, .row [.b] a2⟩), (1, some ⟨1, false, .row [.b] a3⟩)]⟩ => plumblineref01_add k a1 a2 a3 (fun q3 => K (.sw 2) ⟨3, [(0, some ⟨0, false, .row [.b] a2⟩), (1, some ⟨1, false, .row [.b] a3⟩), (2, some ⟨2, false, .row [.b] q3⟩)]⟩)
  | _, _ => none
noncomputable def S34 {R : Type} (k : Nat) : Sum R := S34G plumblineref01_add k
theorem S34_ok0 {R : Type} (k : Nat) : SumOk Try.prog 34 false (S34 k : Sum R) := by
  intro args H K r h
  unfold S34 S34G at h
  split at h
  · exact fnK_sound (cx34_ok k) 6 34 _ _ K r (by show fnK _ _ _ _ _ _ = _; rw [plumblineref01_add_eq]; exact h)
  · cases h
theorem S34_ok {R : Type} (k : Nat) : SumOk Try.prog 34 true (S34 k : Sum R) := by
  refine sumOk_keep (S34_ok0 k) ?_
  intro args H K r h
  unfold S34 S34G at h ⊢
  split at h
  · refine Eq.trans ?_ h
    show plumblineref01_add k _ _ _ _ = plumblineref01_add k _ _ _ _
    congr 1
    all_goals first | exact (funext fun q3 => if_pos (keeps_app _ _ _ [(2, some ⟨2, false, .row [.b] q3⟩)])) | skip
  · cases h
end Go.Proofs.Ytnbmconaglehbaa.N
