/- Printed by wip/gen/emit.py: functions of the program as plain Lean functions, tied to the model by the evaluator. Conditions: none. -/
import Derived.Test.YtnbmconaglehbaaN0
namespace Go.Proofs.Ytnbmconaglehbaa.N
set_option linter.unusedVariables false
set_option maxRecDepth 100000
open Go Go.Ab
-- function 15: plumbline/wide.Shl
noncomputable def fi15 : FnI := ⟨15, Try.f15, []⟩
theorem en15 : Enters Try.prog 15 := enters_of Try.func15 (c := ((Try.f15).body.getD .skip)) (by kernel_rfl) (by kernel_rfl)
noncomputable def cx15 {R : Type} (k : Nat) : Cx R := mkCx Ty exts [] fi15 []
theorem cx15_ok {R : Type} (k : Nat) : CxOk Try.prog (cx15 k : Cx R) := mkCx_ok (c := ((Try.f15).body.getD .skip)) ty_ok mixed exts_ok allSum_nil Try.func15 en15 (by kernel_rfl) (by kernel_rfl) allLoop_nil
noncomputable def wide_Shl {R : Type} (k : Nat) (a1 : Int) (a2 : Int) (a3 : Int) (K0 : Int → Int → Option R) : Option R :=
  cond (decide (a3 ≤ 0)) (
    K0 a1 a2) (
    cond (decide (a3 ≥ 64)) (
      cond (decide ((Wi64 (a3 - 64)) < 0)) (
        none) (
        K0 (shl .u64 a2 (Wi64 (a3 - 64))) 0)) (
      cond (decide (a3 < 0)) (
        none) (
        cond (decide ((Wi64 (64 - a3)) < 0)) (
          none) (
          cond (decide (a3 < 0)) (
            none) (
            K0 (bOr .u64 (shl .u64 a1 a3) (shr .u64 a2 (Wi64 (64 - a3)))) (shl .u64 a2 a3))))))
theorem wide_Shl_gen {R : Type} (k : Nat) (a1 : Int) (a2 : Int) (a3 : Int) (K : AV → Heap → Option R) :
    fnK (mkCx Ty exts [] fi15 []) 6 15 [.agg [.i .u64 a1, .i .u64 a2], .i .i64 a3] ⟨0, []⟩ K = (fun (K0 : Int → Int → Option R) =>
    cond (decide (a3 ≤ 0)) (
      K0 a1 a2) (
      cond (decide (a3 ≥ 64)) (
        cond (decide ((Wi64 (a3 - 64)) < 0)) (
          none) (
          K0 (shl .u64 a2 (Wi64 (a3 - 64))) 0)) (
        cond (decide (a3 < 0)) (
          none) (
          cond (decide ((Wi64 (64 - a3)) < 0)) (
            none) (
            cond (decide (a3 < 0)) (
              none) (
              K0 (bOr .u64 (shl .u64 a1 a3) (shr .u64 a2 (Wi64 (64 - a3)))) (shl .u64 a2 a3))))))) (fun q1 q2 => K (.agg [.i .u64 q1, .i .u64 q2]) ⟨0, []⟩) := by kernel_rfl
theorem wide_Shl_eq {R : Type} (k : Nat) (a1 : Int) (a2 : Int) (a3 : Int) (K : AV → Heap → Option R) :
    fnK (cx15 k) 6 15 [.agg [.i .u64 a1, .i .u64 a2], .i .i64 a3] ⟨0, []⟩ K = wide_Shl k a1 a2 a3 (fun q1 q2 => K (.agg [.i .u64 q1, .i .u64 q2]) ⟨0, []⟩) := wide_Shl_gen k a1 a2 a3 K
noncomputable def S15G {R : Type} (wide_Shl : Nat → Int → Int → Int → (Int → Int → Option R) → Option R) (k : Nat) : Sum R := fun args H K => match args, H with
  | [.agg [.i .u64 a1, .i .u64 a2], .i .i64 a3], ⟨0, []⟩ => wide_Shl k a1 a2 a3 (fun q1 q2 => K (.agg [.i .u64 q1, .i .u64 q2]) ⟨0, []⟩)
  | _, _ => none
noncomputable def S15 {R : Type} (k : Nat) : Sum R := S15G wide_Shl k
theorem S15_ok0 {R : Type} (k : Nat) : SumOk Try.prog 15 false (S15 k : Sum R) := by
  intro args H K r h
  unfold S15 S15G at h
  split at h
  · exact fnK_sound (cx15_ok k) 6 15 _ _ K r (by show fnK _ _ _ _ _ _ = _; rw [wide_Shl_eq]; exact h)
  · cases h
theorem S15_ok {R : Type} (k : Nat) : SumOk Try.prog 15 true (S15 k : Sum R) := by
  refine sumOk_keep (S15_ok0 k) ?_
  intro args H K r h
  unfold S15 S15G at h ⊢
  split at h
  · refine Eq.trans ?_ h
    show wide_Shl k _ _ _ _ = wide_Shl k _ _ _ _
    congr 1
    all_goals first | exact (funext fun q1 => funext fun q2 => if_pos (keeps_app _ _ _ [])) | skip
  · cases h
-- function 12: plumbline/wide.Shr
noncomputable def fi12 : FnI := ⟨12, Try.f12, []⟩
theorem en12 : Enters Try.prog 12 := enters_of Try.func12 (c := ((Try.f12).body.getD .skip)) (by kernel_rfl) (by kernel_rfl)
noncomputable def cx12 {R : Type} (k : Nat) : Cx R := mkCx Ty exts [(15, true, S15 k)] fi12 []
theorem cx12_ok {R : Type} (k : Nat) : CxOk Try.prog (cx12 k : Cx R) := mkCx_ok (c := ((Try.f12).body.getD .skip)) ty_ok mixed exts_ok (allSum_cons (S15_ok k) en15 allSum_nil) Try.func12 en12 (by kernel_rfl) (by kernel_rfl) allLoop_nil
noncomputable def wide_Shr {R : Type} (k : Nat) (a1 : Int) (a2 : Int) (a3 : Int) (K0 : Int → Int → Bool → Option R) : Option R :=
  cond (decide (a3 ≤ 0)) (
    K0 a1 a2 false) (
    cond (decide (a3 ≥ 128)) (
      wide_Shl k 0 0 a3 (fun r1 r2 =>
        K0 0 0 (!((r1 == a1) && (r2 == a2))))) (
      cond (decide (a3 ≥ 64)) (
        cond (decide ((Wi64 (a3 - 64)) < 0)) (
          none) (
          wide_Shl k 0 (shr .u64 a1 (Wi64 (a3 - 64))) a3 (fun r3 r4 =>
            K0 0 (shr .u64 a1 (Wi64 (a3 - 64))) (!((r3 == a1) && (r4 == a2)))))) (
        cond (decide (a3 < 0)) (
          none) (
          cond (decide (a3 < 0)) (
            none) (
            cond (decide ((Wi64 (64 - a3)) < 0)) (
              none) (
              wide_Shl k (shr .u64 a1 a3) (bOr .u64 (shr .u64 a2 a3) (shl .u64 a1 (Wi64 (64 - a3)))) a3 (fun r5 r6 =>
                K0 (shr .u64 a1 a3) (bOr .u64 (shr .u64 a2 a3) (shl .u64 a1 (Wi64 (64 - a3)))) (!((r5 == a1) && (r6 == a2))))))))))
theorem wide_Shr_gen {R : Type} (wide_Shl : Nat → Int → Int → Int → (Int → Int → Option R) → Option R) (k : Nat) (a1 : Int) (a2 : Int) (a3 : Int) (K : AV → Heap → Option R) :
    fnK (mkCx Ty exts [(15, true, S15G wide_Shl k)] fi12 []) 6 12 [.agg [.i .u64 a1, .i .u64 a2], .i .i64 a3] ⟨0, []⟩ K = (fun (K0 : Int → Int → Bool → Option R) =>
    cond (decide (a3 ≤ 0)) (
      K0 a1 a2 false) (
      cond (decide (a3 ≥ 128)) (
        wide_Shl k 0 0 a3 (fun r1 r2 =>
          K0 0 0 (!((r1 == a1) && (r2 == a2))))) (
        cond (decide (a3 ≥ 64)) (
          cond (decide ((Wi64 (a3 - 64)) < 0)) (
            none) (
            wide_Shl k 0 (shr .u64 a1 (Wi64 (a3 - 64))) a3 (fun r3 r4 =>
              K0 0 (shr .u64 a1 (Wi64 (a3 - 64))) (!((r3 == a1) && (r4 == a2)))))) (
          cond (decide (a3 < 0)) (
            none) (
            cond (decide (a3 < 0)) (
              none) (
              cond (decide ((Wi64 (64 - a3)) < 0)) (
                none) (
                wide_Shl k (shr .u64 a1 a3) (bOr .u64 (shr .u64 a2 a3) (shl .u64 a1 (Wi64 (64 - a3)))) a3 (fun r5 r6 =>
                  K0 (shr .u64 a1 a3) (bOr .u64 (shr .u64 a2 a3) (shl .u64 a1 (Wi64 (64 - a3)))) (!((r5 == a1) && (r6 == a2))))))))))) (fun q1 q2 q3 => K (.tup [.agg [.i .u64 q1, .i .u64 q2], .b q3]) ⟨0, []⟩) := by kernel_rfl
theorem wide_Shr_eq {R : Type} (k : Nat) (a1 : Int) (a2 : Int) (a3 : Int) (K : AV → Heap → Option R) :
    fnK (cx12 k) 6 12 [.agg [.i .u64 a1, .i .u64 a2], .i .i64 a3] ⟨0, []⟩ K = wide_Shr k a1 a2 a3 (fun q1 q2 q3 => K (.tup [.agg [.i .u64 q1, .i .u64 q2], .b q3]) ⟨0, []⟩) := wide_Shr_gen wide_Shl k a1 a2 a3 K
noncomputable def S12G {R : Type} (wide_Shr : Nat → Int → Int → Int → (Int → Int → Bool → Option R) → Option R) (k : Nat) : Sum R := fun args H K => match args, H with
  | [.agg [.i .u64 a1, .i .u64 a2], .i .i64 a3], ⟨0, []⟩ => wide_Shr k a1 a2 a3 (fun q1 q2 q3 => K (.tup [.agg [.i .u64 q1, .i .u64 q2], .b q3]) ⟨0, []⟩)
  | _, _ => none
noncomputable def S12 {R : Type} (k : Nat) : Sum R := S12G wide_Shr k
theorem S12_ok0 {R : Type} (k : Nat) : SumOk Try.prog 12 false (S12 k : Sum R) := by
  intro args H K r h
  unfold S12 S12G at h
  split at h
  · exact fnK_sound (cx12_ok k) 6 12 _ _ K r (by show fnK _ _ _ _ _ _ = _; rw [wide_Shr_eq]; exact h)
  · cases h
theorem S12_ok {R : Type} (k : Nat) : SumOk Try.prog 12 true (S12 k : Sum R) := by
  refine sumOk_keep (S12_ok0 k) ?_
  intro args H K r h
  unfold S12 S12G at h ⊢
  split at h
  · refine Eq.trans ?_ h
    show wide_Shr k _ _ _ _ = wide_Shr k _ _ _ _
    congr 1
    all_goals first | exact (funext fun q1 => funext fun q2 => funext fun q3 => if_pos (keeps_app _ _ _ [])) | skip
  · cases h
-- function 31: plumbline/plumblineref01.Bits
noncomputable def fi31 : FnI := ⟨31, Try.f31, [(100003, [1, 3, 4]), (3003000, [3])]⟩
theorem en31 : Enters Try.prog 31 := enters_of Try.func31 (c := ((Try.f31).body.getD .skip)) (by kernel_rfl) (by kernel_rfl)
noncomputable def plumblineref01_Bits_l0B {R : Type} (k : Nat) (rec : Int → Int → Int → (List Bool) → Option R) (x1 : Int) (x2 : Int) (x3 : Int) (x4 : List Bool) (K0 : (List Bool) → Option R) : Option R :=
  cond (decide (x1 < 64)) (
    cond (decide (x1 < 0)) (
      none) (
      cond (decide (0 ≤ x1)) (
        cond (decide (x1 < (((List.length x4) : Nat) : Int))) (
          Option.bind (x4[(Int.toNat x1)]?) fun ye1 =>
          cond (decide (x1 < 0)) (
            none) (
            cond (decide (0 ≤ (Wi64 (64 + x1)))) (
              cond (decide ((Wi64 (64 + x1)) < (((List.length (List.set x4 (Int.toNat x1) ((bAnd .u64 (shr .u64 x3 x1) 1) == 1))) : Nat) : Int))) (
                Option.bind ((List.set x4 (Int.toNat x1) ((bAnd .u64 (shr .u64 x3 x1) 1) == 1))[(Int.toNat (Wi64 (64 + x1)))]?) fun ye2 =>
                rec (Wi64 (x1 + 1)) x2 x3 (List.set (List.set x4 (Int.toNat x1) ((bAnd .u64 (shr .u64 x3 x1) 1) == 1)) (Int.toNat (Wi64 (64 + x1))) ((bAnd .u64 (shr .u64 x2 x1) 1) == 1))) (
                none)) (
              none))) (
          none)) (
        none))) (
    K0 x4)
noncomputable def plumblineref01_Bits_l0 {R : Type} (k : Nat) : Nat → Int → Int → Int → (List Bool) → ((List Bool) → Option R) → Option R
  | 0, _, _, _, _, _ => none
  | n + 1, x1, x2, x3, x4, K0 => plumblineref01_Bits_l0B k (fun x1 x2 x3 x4 => plumblineref01_Bits_l0 k n x1 x2 x3 x4 K0) x1 x2 x3 x4 K0
noncomputable def cx31_3 {R : Type} (k : Nat) : Cx R := mkCx Ty exts [] fi31 []
theorem cx31_3_ok {R : Type} (k : Nat) : CxOk Try.prog (cx31_3 k : Cx R) := mkCx_ok (c := ((Try.f31).body.getD .skip)) ty_ok mixed exts_ok allSum_nil Try.func31 en31 (by kernel_rfl) (by kernel_rfl) allLoop_nil
noncomputable def L31_3G {R : Type} (plumblineref01_Bits_l0 : Nat → Nat → Int → Int → Int → (List Bool) → ((List Bool) → Option R) → Option R) (k n : Nat) : LSum R := fun pin T H K => match pin, T, H with
  | 0, [(1, .ptr 0 0 0 0 0), (3, .sw 1), (4, .i .i64 x1)], ⟨2, [(0, some ⟨0, false, .cells [.i .u64 x2, .i .u64 x3]⟩), (1, some ⟨1, false, .row [.b] x4⟩)]⟩ => plumblineref01_Bits_l0 k n x1 x2 x3 x4 (fun q1 => K (.exit 0) [(3, .sw 0)] ⟨1, [(0, some ⟨0, false, .row [.b] q1⟩)]⟩)
  | _, _, _ => none
noncomputable def L31_3 {R : Type} (k n : Nat) : LSum R := L31_3G plumblineref01_Bits_l0 k n
theorem plumblineref01_Bits_l0_gen {R : Type} (plumblineref01_Bits_l0 : Nat → Nat → Int → Int → Int → (List Bool) → ((List Bool) → Option R) → Option R) (k n : Nat) (x1 : Int) (x2 : Int) (x3 : Int) (x4 : List Bool) (K : Kont R) :
    codeK (mkCx Ty exts [] fi31 []) (run (mkCx Ty exts [] fi31 []) 4) 0 fi31 (loopAt ((Try.f31).body.getD .skip) 3) [(1, .ptr 0 0 0 0 0), (3, .sw 1), (4, .i .i64 x1)] ⟨2, [(0, some ⟨0, false, .cells [.i .u64 x2, .i .u64 x3]⟩), (1, some ⟨1, false, .row [.b] x4⟩)]⟩ (fun ex T H => match (generalizing := false) ex with
      | .normal => normAt (some [1, 3, 4]) 0 T H (fun T H => L31_3G plumblineref01_Bits_l0 k n 0 T H K)
      | ex => exitNorm fi31.ann 3 0 K ex T H) =
    (fun (rec : Int → Int → Int → (List Bool) → Option R) (K0 : (List Bool) → Option R) =>
    cond (decide (x1 < 64)) (
      cond (decide (x1 < 0)) (
        none) (
        cond (decide (0 ≤ x1)) (
          cond (decide (x1 < (((List.length x4) : Nat) : Int))) (
            Option.bind (x4[(Int.toNat x1)]?) fun ye1 =>
            cond (decide (x1 < 0)) (
              none) (
              cond (decide (0 ≤ (Wi64 (64 + x1)))) (
                cond (decide ((Wi64 (64 + x1)) < (((List.length (List.set x4 (Int.toNat x1) ((bAnd .u64 (shr .u64 x3 x1) 1) == 1))) : Nat) : Int))) (
                  Option.bind ((List.set x4 (Int.toNat x1) ((bAnd .u64 (shr .u64 x3 x1) 1) == 1))[(Int.toNat (Wi64 (64 + x1)))]?) fun ye2 =>
                  rec (Wi64 (x1 + 1)) x2 x3 (List.set (List.set x4 (Int.toNat x1) ((bAnd .u64 (shr .u64 x3 x1) 1) == 1)) (Int.toNat (Wi64 (64 + x1))) ((bAnd .u64 (shr .u64 x2 x1) 1) == 1))) (
                  none)) (
                none))) (
            none)) (
          none))) (
      K0 x4)) (fun x1 x2 x3 x4 => plumblineref01_Bits_l0 k n x1 x2 x3 x4 (fun q1 => K (.exit 0) [(3, .sw 0)] ⟨1, [(0, some ⟨0, false, .row [.b] q1⟩)]⟩)) (fun q1 => K (.exit 0) [(3, .sw 0)] ⟨1, [(0, some ⟨0, false, .row [.b] q1⟩)]⟩) := by kernel_rfl
theorem plumblineref01_Bits_l0_eq {R : Type} (k n : Nat) (x1 : Int) (x2 : Int) (x3 : Int) (x4 : List Bool) (K : Kont R) :
    codeK (cx31_3 k) (run (cx31_3 k) 4) 0 fi31 (loopAt ((Try.f31).body.getD .skip) 3) [(1, .ptr 0 0 0 0 0), (3, .sw 1), (4, .i .i64 x1)] ⟨2, [(0, some ⟨0, false, .cells [.i .u64 x2, .i .u64 x3]⟩), (1, some ⟨1, false, .row [.b] x4⟩)]⟩ (fun ex T H => match (generalizing := false) ex with
      | .normal => normAt (some [1, 3, 4]) 0 T H (fun T H => L31_3 k n 0 T H K)
      | ex => exitNorm fi31.ann 3 0 K ex T H) =
    plumblineref01_Bits_l0 k (n + 1) x1 x2 x3 x4 (fun q1 => K (.exit 0) [(3, .sw 0)] ⟨1, [(0, some ⟨0, false, .row [.b] q1⟩)]⟩) := plumblineref01_Bits_l0_gen plumblineref01_Bits_l0 k n x1 x2 x3 x4 K
theorem L31_3_cok {R : Type} (k : Nat) : CodeOk Try.prog (cx31_3 k : Cx R) fi31 (loopAt ((Try.f31).body.getD .skip) 3) := loopAt_ok (((cx31_3_ok k).fns 31 fi31 (by kernel_rfl)).2.2.2 ((Try.f31).body.getD .skip) (by kernel_rfl))
theorem L31_3_ok {R : Type} (k : Nat) : ∀ n, LoopOk Try.prog (Try.f31).ntmps (loopAt ((Try.f31).body.getD .skip) 3) (L31_3 k n : LSum R)
  | 0 => by
    intro pin T H K r h
    unfold L31_3 L31_3G at h
    split at h
    all_goals exact nomatch (show (none : Option R) = some r from h)
  | n + 1 => by
    intro pin T H K r h
    unfold L31_3 L31_3G at h
    split at h
    · rw [← plumblineref01_Bits_l0_eq] at h
      obtain ⟨ex, T1, H1, h, hb⟩ := codeK_sound (cx31_3_ok k) (run_sound (cx31_3_ok k) 4) _ fi31 _ _ _ _ _ (L31_3_cok k) h
      exact loop_step (fun T H hh => L31_3_ok k n _ T H K r hh) hb h
    · cases h
noncomputable def cx31 {R : Type} (k : Nat) : Cx R := mkCx Ty exts [] fi31 [(3, L31_3 k k)]
theorem cx31_ok {R : Type} (k : Nat) : CxOk Try.prog (cx31 k : Cx R) := mkCx_ok (c := ((Try.f31).body.getD .skip)) ty_ok mixed exts_ok allSum_nil Try.func31 en31 (by kernel_rfl) (by kernel_rfl) (allLoop_loop (by kernel_rfl) (L31_3_ok k k) allLoop_nil)
noncomputable def plumblineref01_Bits {R : Type} (k : Nat) (a1 : Int) (a2 : Int) (K0 : (List Bool) → Option R) : Option R :=
  plumblineref01_Bits_l0 k k 0 a1 a2 (List.replicate 128 false) (fun r1 =>
    K0 r1)
theorem plumblineref01_Bits_gen {R : Type} (plumblineref01_Bits_l0 : Nat → Nat → Int → Int → Int → (List Bool) → ((List Bool) → Option R) → Option R) (k : Nat) (a1 : Int) (a2 : Int) (K : AV → Heap → Option R) :
    fnK (mkCx Ty exts [] fi31 [(3, L31_3G plumblineref01_Bits_l0 k k)]) 6 31 [.agg [.i .u64 a1, .i .u64 a2]] ⟨0, []⟩ K = (fun (K0 : (List Bool) → Option R) =>
    plumblineref01_Bits_l0 k k 0 a1 a2 (List.replicate 128 false) (fun r1 =>
      K0 r1)) (fun q1 => K (.sw 0) ⟨1, [(0, some ⟨0, false, .row [.b] q1⟩)]⟩) := by kernel_rfl
theorem plumblineref01_Bits_eq {R : Type} (k : Nat) (a1 : Int) (a2 : Int) (K : AV → Heap → Option R) :
    fnK (cx31 k) 6 31 [.agg [.i .u64 a1, .i .u64 a2]] ⟨0, []⟩ K = plumblineref01_Bits k a1 a2 (fun q1 => K (.sw 0) ⟨1, [(0, some ⟨0, false, .row [.b] q1⟩)]⟩) := plumblineref01_Bits_gen plumblineref01_Bits_l0 k a1 a2 K
noncomputable def S31G {R : Type} (plumblineref01_Bits : Nat → Int → Int → ((List Bool) → Option R) → Option R) (k : Nat) : Sum R := fun args H K => match args, H with
  | [.agg [.i .u64 a1, .i .u64 a2]], ⟨0, []⟩ => plumblineref01_Bits k a1 a2 (fun q1 => K (.sw 0) ⟨1, [(0, some ⟨0, false, .row [.b] q1⟩)]⟩)
  | _, _ => none
noncomputable def S31 {R : Type} (k : Nat) : Sum R := S31G plumblineref01_Bits k
theorem S31_ok0 {R : Type} (k : Nat) : SumOk Try.prog 31 false (S31 k : Sum R) := by
  intro args H K r h
  unfold S31 S31G at h
  split at h
  · exact fnK_sound (cx31_ok k) 6 31 _ _ K r (by show fnK _ _ _ _ _ _ = _; rw [plumblineref01_Bits_eq]; exact h)
  · cases h
theorem S31_ok {R : Type} (k : Nat) : SumOk Try.prog 31 true (S31 k : Sum R) := by
  refine sumOk_keep (S31_ok0 k) ?_
  intro args H K r h
  unfold S31 S31G at h ⊢
  split at h
  · refine Eq.trans ?_ h
    show plumblineref01_Bits k _ _ _ = plumblineref01_Bits k _ _ _
    congr 1
    all_goals first | exact (funext fun q1 => if_pos (keeps_app _ _ _ [(0, some ⟨0, false, .row [.b] q1⟩)])) | skip
  · cases h
-- function 32: plumbline/plumblineref01.From
noncomputable def fi32 : FnI := ⟨32, Try.f32, [(100003, [0, 2, 3, 4]), (3003000, [2, 3])]⟩
theorem en32 : Enters Try.prog 32 := enters_of Try.func32 (c := ((Try.f32).body.getD .skip)) (by kernel_rfl) (by kernel_rfl)
noncomputable def plumblineref01_From_l0B {R : Type} (k : Nat) (rec : Int → (List Bool) → Int → Int → Int → Int → Option R) (x1 : Int) (x2 : List Bool) (x3 : Int) (x4 : Int) (x5 : Int) (x6 : Int) (K0 : Int → Int → Option R) : Option R :=
  cond (decide (x1 < (((List.length x2) : Nat) : Int))) (
    cond (decide (x1 < 128)) (
      cond (decide (0 ≤ x1)) (
        cond (decide (x1 < (((List.length x2) : Nat) : Int))) (
          Option.bind (x2[(Int.toNat x1)]?) fun ye1 =>
          cond (!ye1) (
            rec (Wi64 (x1 + 1)) x2 x3 x4 x5 x6) (
            cond (decide (x1 < 64)) (
              cond (decide (x1 < 0)) (
                none) (
                rec (Wi64 (x1 + 1)) x2 x3 x4 x5 (bOr .u64 x6 (shl .u64 1 x1)))) (
              cond (decide ((Wi64 (x1 - 64)) < 0)) (
                none) (
                rec (Wi64 (x1 + 1)) x2 x3 x4 (bOr .u64 x5 (shl .u64 1 (Wi64 (x1 - 64)))) x6)))) (
          none)) (
        none)) (
      K0 x5 x6)) (
    K0 x5 x6)
noncomputable def plumblineref01_From_l0 {R : Type} (k : Nat) : Nat → Int → (List Bool) → Int → Int → Int → Int → (Int → Int → Option R) → Option R
  | 0, _, _, _, _, _, _, _ => none
  | n + 1, x1, x2, x3, x4, x5, x6, K0 => plumblineref01_From_l0B k (fun x1 x2 x3 x4 x5 x6 => plumblineref01_From_l0 k n x1 x2 x3 x4 x5 x6 K0) x1 x2 x3 x4 x5 x6 K0
noncomputable def cx32_3 {R : Type} (k : Nat) : Cx R := mkCx Ty exts [] fi32 []
theorem cx32_3_ok {R : Type} (k : Nat) : CxOk Try.prog (cx32_3 k : Cx R) := mkCx_ok (c := ((Try.f32).body.getD .skip)) ty_ok mixed exts_ok allSum_nil Try.func32 en32 (by kernel_rfl) (by kernel_rfl) allLoop_nil
noncomputable def L32_3G {R : Type} (plumblineref01_From_l0 : Nat → Nat → Int → (List Bool) → Int → Int → Int → Int → (Int → Int → Option R) → Option R) (k n : Nat) : LSum R := fun pin T H K => match pin, T, H with
  | 1, [(0, .sw 0), (2, .ptr 1 0 0 0 0), (3, .ptr 2 0 0 0 0), (4, .i .i64 x1)], ⟨3, [(0, some ⟨0, false, .row [.b] x2⟩), (1, some ⟨1, false, .cells [.i .u64 x3, .i .u64 x4]⟩), (2, some ⟨2, false, .cells [.i .u64 x5, .i .u64 x6]⟩)]⟩ => plumblineref01_From_l0 k n x1 x2 x3 x4 x5 x6 (fun q4 q5 => K (.exit 0) [(2, .ptr 1 0 0 0 0), (3, .ptr 2 0 0 0 0)] ⟨3, [(0, some ⟨0, false, .row [.b] x2⟩), (1, some ⟨1, false, .cells [.i .u64 x3, .i .u64 x4]⟩), (2, some ⟨2, false, .cells [.i .u64 q4, .i .u64 q5]⟩)]⟩)
  | _, _, _ => none
noncomputable def L32_3 {R : Type} (k n : Nat) : LSum R := L32_3G plumblineref01_From_l0 k n
theorem plumblineref01_From_l0_gen {R : Type} (plumblineref01_From_l0 : Nat → Nat → Int → (List Bool) → Int → Int → Int → Int → (Int → Int → Option R) → Option R) (k n : Nat) (x1 : Int) (x2 : List Bool) (x3 : Int) (x4 : Int) (x5 : Int) (x6 : Int) (K : Kont R) :
    codeK (mkCx Ty exts [] fi32 []) (run (mkCx Ty exts [] fi32 []) 4) 1 fi32 (loopAt ((Try.f32).body.getD .skip) 3) [(0, .sw 0), (2, .ptr 1 0 0 0 0), (3, .ptr 2 0 0 0 0), (4, .i .i64 x1)] ⟨3, [(0, some ⟨0, false, .row [.b] x2⟩), (1, some ⟨1, false, .cells [.i .u64 x3, .i .u64 x4]⟩), (2, some ⟨2, false, .cells [.i .u64 x5, .i .u64 x6]⟩)]⟩ (fun ex T H => match (generalizing := false) ex with
      | .normal => normAt (some [0, 2, 3, 4]) 1 T H (fun T H => L32_3G plumblineref01_From_l0 k n 1 T H K)
      | ex => exitNorm fi32.ann 3 1 K ex T H) =
    (fun (rec : Int → (List Bool) → Int → Int → Int → Int → Option R) (K0 : Int → Int → Option R) =>
    cond (decide (x1 < (((List.length x2) : Nat) : Int))) (
      cond (decide (x1 < 128)) (
        cond (decide (0 ≤ x1)) (
          cond (decide (x1 < (((List.length x2) : Nat) : Int))) (
            Option.bind (x2[(Int.toNat x1)]?) fun ye1 =>
            cond (!ye1) (
              rec (Wi64 (x1 + 1)) x2 x3 x4 x5 x6) (
              cond (decide (x1 < 64)) (
                cond (decide (x1 < 0)) (
                  none) (
                  rec (Wi64 (x1 + 1)) x2 x3 x4 x5 (bOr .u64 x6 (shl .u64 1 x1)))) (
                cond (decide ((Wi64 (x1 - 64)) < 0)) (
                  none) (
                  rec (Wi64 (x1 + 1)) x2 x3 x4 (bOr .u64 x5 (shl .u64 1 (Wi64 (x1 - 64)))) x6)))) (
            none)) (
          none)) (
        K0 x5 x6)) (
      K0 x5 x6)) (fun x1 x2 x3 x4 x5 x6 => plumblineref01_From_l0 k n x1 x2 x3 x4 x5 x6 (fun q4 q5 => K (.exit 0) [(2, .ptr 1 0 0 0 0), (3, .ptr 2 0 0 0 0)] ⟨3, [(0, some ⟨0, false, .row [.b] x2⟩), (1, some ⟨1, false, .cells [.i .u64 x3, .i .u64 x4]⟩), (2, some ⟨2, false, .cells [.i .u64 q4, .i .u64 q5]⟩)]⟩)) (fun q4 q5 => K (.exit 0) [(2, .ptr 1 0 0 0 0), (3, .ptr 2 0 0 0 0)] ⟨3, [(0, some ⟨0, false, .row [.b] x2⟩), (1, some ⟨1, false, .cells [.i .u64 x3, .i .u64 x4]⟩), (2, some ⟨2, false, .cells [.i .u64 q4, .i .u64 q5]⟩)]⟩) := by kernel_rfl
theorem plumblineref01_From_l0_eq {R : Type} (k n : Nat) (x1 : Int) (x2 : List Bool) (x3 : Int) (x4 : Int) (x5 : Int) (x6 : Int) (K : Kont R) :
    codeK (cx32_3 k) (run (cx32_3 k) 4) 1 fi32 (loopAt ((Try.f32).body.getD .skip) 3) [(0, .sw 0), (2, .ptr 1 0 0 0 0), (3, .ptr 2 0 0 0 0), (4, .i .i64 x1)] ⟨3, [(0, some ⟨0, false, .row [.b] x2⟩), (1, some ⟨1, false, .cells [.i .u64 x3, .i .u64 x4]⟩), (2, some ⟨2, false, .cells [.i .u64 x5, .i .u64 x6]⟩)]⟩ (fun ex T H => match (generalizing := false) ex with
      | .normal => normAt (some [0, 2, 3, 4]) 1 T H (fun T H => L32_3 k n 1 T H K)
      | ex => exitNorm fi32.ann 3 1 K ex T H) =
    plumblineref01_From_l0 k (n + 1) x1 x2 x3 x4 x5 x6 (fun q4 q5 => K (.exit 0) [(2, .ptr 1 0 0 0 0), (3, .ptr 2 0 0 0 0)] ⟨3, [(0, some ⟨0, false, .row [.b] x2⟩), (1, some ⟨1, false, .cells [.i .u64 x3, .i .u64 x4]⟩), (2, some ⟨2, false, .cells [.i .u64 q4, .i .u64 q5]⟩)]⟩) := plumblineref01_From_l0_gen plumblineref01_From_l0 k n x1 x2 x3 x4 x5 x6 K
theorem L32_3_cok {R : Type} (k : Nat) : CodeOk Try.prog (cx32_3 k : Cx R) fi32 (loopAt ((Try.f32).body.getD .skip) 3) := loopAt_ok (((cx32_3_ok k).fns 32 fi32 (by kernel_rfl)).2.2.2 ((Try.f32).body.getD .skip) (by kernel_rfl))
theorem L32_3_ok {R : Type} (k : Nat) : ∀ n, LoopOk Try.prog (Try.f32).ntmps (loopAt ((Try.f32).body.getD .skip) 3) (L32_3 k n : LSum R)
  | 0 => by
    intro pin T H K r h
    unfold L32_3 L32_3G at h
    split at h
    all_goals exact nomatch (show (none : Option R) = some r from h)
  | n + 1 => by
    intro pin T H K r h
    unfold L32_3 L32_3G at h
    split at h
    · rw [← plumblineref01_From_l0_eq] at h
      obtain ⟨ex, T1, H1, h, hb⟩ := codeK_sound (cx32_3_ok k) (run_sound (cx32_3_ok k) 4) _ fi32 _ _ _ _ _ (L32_3_cok k) h
      exact loop_step (fun T H hh => L32_3_ok k n _ T H K r hh) hb h
    · cases h
noncomputable def cx32 {R : Type} (k : Nat) : Cx R := mkCx Ty exts [] fi32 [(3, L32_3 k k)]
theorem cx32_ok {R : Type} (k : Nat) : CxOk Try.prog (cx32 k : Cx R) := mkCx_ok (c := ((Try.f32).body.getD .skip)) ty_ok mixed exts_ok allSum_nil Try.func32 en32 (by kernel_rfl) (by kernel_rfl) (allLoop_loop (by kernel_rfl) (L32_3_ok k k) allLoop_nil)
noncomputable def plumblineref01_From {R : Type} (k : Nat) (a1 : List Bool) (K0 : Int → Int → Option R) : Option R :=
  plumblineref01_From_l0 k k 0 a1 0 0 0 0 (fun r1 r2 =>
    K0 r1 r2)
theorem plumblineref01_From_gen {R : Type} (plumblineref01_From_l0 : Nat → Nat → Int → (List Bool) → Int → Int → Int → Int → (Int → Int → Option R) → Option R) (k : Nat) (a1 : List Bool) (K : AV → Heap → Option R) :
    fnK (mkCx Ty exts [] fi32 [(3, L32_3G plumblineref01_From_l0 k k)]) 6 32 [.sw 0] ⟨1, [(0, some ⟨0, false, .row [.b] a1⟩)]⟩ K = (fun (K0 : Int → Int → Option R) =>
    plumblineref01_From_l0 k k 0 a1 0 0 0 0 (fun r1 r2 =>
      K0 r1 r2)) (fun q1 q2 => K (.agg [.i .u64 q1, .i .u64 q2]) ⟨1, [(0, some ⟨0, false, .row [.b] a1⟩)]⟩) := by kernel_rfl
theorem plumblineref01_From_eq {R : Type} (k : Nat) (a1 : List Bool) (K : AV → Heap → Option R) :
    fnK (cx32 k) 6 32 [.sw 0] ⟨1, [(0, some ⟨0, false, .row [.b] a1⟩)]⟩ K = plumblineref01_From k a1 (fun q1 q2 => K (.agg [.i .u64 q1, .i .u64 q2]) ⟨1, [(0, some ⟨0, false, .row [.b] a1⟩)]⟩) := plumblineref01_From_gen plumblineref01_From_l0 k a1 K
noncomputable def S32G {R : Type} (plumblineref01_From : Nat → (List Bool) → (Int → Int → Option R) → Option R) (k : Nat) : Sum R := fun args H K => match args, H with
  | [.sw 0], ⟨1, [(0, some ⟨0, false, .row [.b] a1⟩)]⟩ => plumblineref01_From k a1 (fun q1 q2 => K (.agg [.i .u64 q1, .i .u64 q2]) ⟨1, [(0, some ⟨0, false, .row [.b] a1⟩)]⟩)
  | _, _ => none
noncomputable def S32 {R : Type} (k : Nat) : Sum R := S32G plumblineref01_From k
theorem S32_ok0 {R : Type} (k : Nat) : SumOk Try.prog 32 false (S32 k : Sum R) := by
  intro args H K r h
  unfold S32 S32G at h
  split at h
  · exact fnK_sound (cx32_ok k) 6 32 _ _ K r (by show fnK _ _ _ _ _ _ = _; rw [plumblineref01_From_eq]; exact h)
  · cases h
theorem S32_ok {R : Type} (k : Nat) : SumOk Try.prog 32 true (S32 k : Sum R) := by
  refine sumOk_keep (S32_ok0 k) ?_
  intro args H K r h
  unfold S32 S32G at h ⊢
  split at h
  · refine Eq.trans ?_ h
    show plumblineref01_From k _ _ = plumblineref01_From k _ _
    congr 1
    all_goals first | exact (funext fun q1 => funext fun q2 => if_pos (keeps_app _ _ _ [])) | skip
  · cases h
-- function 13: plumbline/plumblineref01.Shr
noncomputable def fi13 : FnI := ⟨13, Try.f13, [(100007, [1, 4, 6, 7, 8, 9]), (3007000, [4, 7, 8])]⟩
theorem en13 : Enters Try.prog 13 := enters_of Try.func13 (c := ((Try.f13).body.getD .skip)) (by kernel_rfl) (by kernel_rfl)
noncomputable def plumblineref01_Shr_l0B {R : Type} (k : Nat) (rec : Int → Bool → Int → Int → Int → (List Bool) → (List Bool) → Option R) (x1 : Int) (x2 : Bool) (x3 : Int) (x4 : Int) (x5 : Int) (x6 : List Bool) (x7 : List Bool) (K0 : Bool → (List Bool) → Option R) : Option R :=
  cond (decide (x3 < 128)) (
    cond (decide (x3 < x1)) (
      cond x2 (
        rec x1 true (Wi64 (x3 + 1)) x4 x5 x6 x7) (
        cond (decide (0 ≤ x3)) (
          cond (decide (x3 < (((List.length x6) : Nat) : Int))) (
            Option.bind (x6[(Int.toNat x3)]?) fun ye1 =>
            rec x1 ye1 (Wi64 (x3 + 1)) x4 x5 x6 x7) (
            none)) (
          none))) (
      cond (decide (0 ≤ x3)) (
        cond (decide (x3 < (((List.length x6) : Nat) : Int))) (
          Option.bind (x6[(Int.toNat x3)]?) fun ye2 =>
          cond (decide (0 ≤ (Wi64 (x3 - x1)))) (
            cond (decide ((Wi64 (x3 - x1)) < (((List.length x7) : Nat) : Int))) (
              Option.bind (x7[(Int.toNat (Wi64 (x3 - x1)))]?) fun ye3 =>
              rec x1 x2 (Wi64 (x3 + 1)) x4 x5 x6 (List.set x7 (Int.toNat (Wi64 (x3 - x1))) ye2)) (
              none)) (
            none)) (
          none)) (
        none))) (
    K0 x2 x7)
noncomputable def plumblineref01_Shr_l0 {R : Type} (k : Nat) : Nat → Int → Bool → Int → Int → Int → (List Bool) → (List Bool) → (Bool → (List Bool) → Option R) → Option R
  | 0, _, _, _, _, _, _, _, _ => none
  | n + 1, x1, x2, x3, x4, x5, x6, x7, K0 => plumblineref01_Shr_l0B k (fun x1 x2 x3 x4 x5 x6 x7 => plumblineref01_Shr_l0 k n x1 x2 x3 x4 x5 x6 x7 K0) x1 x2 x3 x4 x5 x6 x7 K0
noncomputable def cx13_7 {R : Type} (k : Nat) : Cx R := mkCx Ty exts [(31, true, S31 k), (32, true, S32 k)] fi13 []
theorem cx13_7_ok {R : Type} (k : Nat) : CxOk Try.prog (cx13_7 k : Cx R) := mkCx_ok (c := ((Try.f13).body.getD .skip)) ty_ok mixed exts_ok (allSum_cons (S31_ok k) en31 (allSum_cons (S32_ok k) en32 allSum_nil)) Try.func13 en13 (by kernel_rfl) (by kernel_rfl) allLoop_nil
noncomputable def L13_7G {R : Type} (plumblineref01_Shr_l0 : Nat → Nat → Int → Bool → Int → Int → Int → (List Bool) → (List Bool) → (Bool → (List Bool) → Option R) → Option R) (k n : Nat) : LSum R := fun pin T H K => match pin, T, H with
  | 0, [(1, .i .i64 x1), (4, .ptr 0 0 0 0 0), (6, .sw 1), (7, .sw 2), (8, .b x2), (9, .i .i64 x3)], ⟨3, [(0, some ⟨0, false, .cells [.i .u64 x4, .i .u64 x5]⟩), (1, some ⟨1, false, .row [.b] x6⟩), (2, some ⟨2, false, .row [.b] x7⟩)]⟩ => plumblineref01_Shr_l0 k n x1 x2 x3 x4 x5 x6 x7 (fun q1 q4 => K (.exit 0) [(4, .ptr 0 0 0 0 0), (7, .sw 1), (8, .b q1)] ⟨2, [(0, some ⟨0, false, .cells [.i .u64 x4, .i .u64 x5]⟩), (1, some ⟨1, false, .row [.b] q4⟩)]⟩)
  | _, _, _ => none
noncomputable def L13_7 {R : Type} (k n : Nat) : LSum R := L13_7G plumblineref01_Shr_l0 k n
theorem plumblineref01_Shr_l0_gen {R : Type} (plumblineref01_Bits : Nat → Int → Int → ((List Bool) → Option R) → Option R) (plumblineref01_From : Nat → (List Bool) → (Int → Int → Option R) → Option R) (plumblineref01_Shr_l0 : Nat → Nat → Int → Bool → Int → Int → Int → (List Bool) → (List Bool) → (Bool → (List Bool) → Option R) → Option R) (k n : Nat) (x1 : Int) (x2 : Bool) (x3 : Int) (x4 : Int) (x5 : Int) (x6 : List Bool) (x7 : List Bool) (K : Kont R) :
    codeK (mkCx Ty exts [(31, true, S31G plumblineref01_Bits k), (32, true, S32G plumblineref01_From k)] fi13 []) (run (mkCx Ty exts [(31, true, S31G plumblineref01_Bits k), (32, true, S32G plumblineref01_From k)] fi13 []) 4) 0 fi13 (loopAt ((Try.f13).body.getD .skip) 7) [(1, .i .i64 x1), (4, .ptr 0 0 0 0 0), (6, .sw 1), (7, .sw 2), (8, .b x2), (9, .i .i64 x3)] ⟨3, [(0, some ⟨0, false, .cells [.i .u64 x4, .i .u64 x5]⟩), (1, some ⟨1, false, .row [.b] x6⟩), (2, some ⟨2, false, .row [.b] x7⟩)]⟩ (fun ex T H => match (generalizing := false) ex with
      | .normal => normAt (some [1, 4, 6, 7, 8, 9]) 0 T H (fun T H => L13_7G plumblineref01_Shr_l0 k n 0 T H K)
      | ex => exitNorm fi13.ann 7 0 K ex T H) =
    (fun (rec : Int → Bool → Int → Int → Int → (List Bool) → (List Bool) → Option R) (K0 : Bool → (List Bool) → Option R) =>
    cond (decide (x3 < 128)) (
      cond (decide (x3 < x1)) (
        cond x2 (
          rec x1 true (Wi64 (x3 + 1)) x4 x5 x6 x7) (
          cond (decide (0 ≤ x3)) (
            cond (decide (x3 < (((List.length x6) : Nat) : Int))) (
              Option.bind (x6[(Int.toNat x3)]?) fun ye1 =>
              rec x1 ye1 (Wi64 (x3 + 1)) x4 x5 x6 x7) (
              none)) (
            none))) (
        cond (decide (0 ≤ x3)) (
          cond (decide (x3 < (((List.length x6) : Nat) : Int))) (
            Option.bind (x6[(Int.toNat x3)]?) fun ye2 =>
            cond (decide (0 ≤ (Wi64 (x3 - x1)))) (
              cond (decide ((Wi64 (x3 - x1)) < (((List.length x7) : Nat) : Int))) (
                Option.bind (x7[(Int.toNat (Wi64 (x3 - x1)))]?) fun ye3 =>
                rec x1 x2 (Wi64 (x3 + 1)) x4 x5 x6 (List.set x7 (Int.toNat (Wi64 (x3 - x1))) ye2)) (
                none)) (
              none)) (
            none)) (
          none))) (
      K0 x2 x7)) (fun x1 x2 x3 x4 x5 x6 x7 => plumblineref01_Shr_l0 k n x1 x2 x3 x4 x5 x6 x7 (fun q1 q4 => K (.exit 0) [(4, .ptr 0 0 0 0 0), (7, .sw 1), (8, .b q1)] ⟨2, [(0, some ⟨0, false, .cells [.i .u64 x4, .i .u64 x5]⟩), (1, some ⟨1, false, .row [.b] q4⟩)]⟩)) (fun q1 q4 => K (.exit 0) [(4, .ptr 0 0 0 0 0), (7, .sw 1), (8, .b q1)] ⟨2, [(0, some ⟨0, false, .cells [.i .u64 x4, .i .u64 x5]⟩), (1, some ⟨1, false, .row [.b] q4⟩)]⟩) := by kernel_rfl
theorem plumblineref01_Shr_l0_eq {R : Type} (k n : Nat) (x1 : Int) (x2 : Bool) (x3 : Int) (x4 : Int) (x5 : Int) (x6 : List Bool) (x7 : List Bool) (K : Kont R) :
    codeK (cx13_7 k) (run (cx13_7 k) 4) 0 fi13 (loopAt ((Try.f13).body.getD .skip) 7) [(1, .i .i64 x1), (4, .ptr 0 0 0 0 0), (6, .sw 1), (7, .sw 2), (8, .b x2), (9, .i .i64 x3)] ⟨3, [(0, some ⟨0, false, .cells [.i .u64 x4, .i .u64 x5]⟩), (1, some ⟨1, false, .row [.b] x6⟩), (2, some ⟨2, false, .row [.b] x7⟩)]⟩ (fun ex T H => match (generalizing := false) ex with
      | .normal => normAt (some [1, 4, 6, 7, 8, 9]) 0 T H (fun T H => L13_7 k n 0 T H K)
      | ex => exitNorm fi13.ann 7 0 K ex T H) =
    plumblineref01_Shr_l0 k (n + 1) x1 x2 x3 x4 x5 x6 x7 (fun q1 q4 => K (.exit 0) [(4, .ptr 0 0 0 0 0), (7, .sw 1), (8, .b q1)] ⟨2, [(0, some ⟨0, false, .cells [.i .u64 x4, .i .u64 x5]⟩), (1, some ⟨1, false, .row [.b] q4⟩)]⟩) := plumblineref01_Shr_l0_gen plumblineref01_Bits plumblineref01_From plumblineref01_Shr_l0 k n x1 x2 x3 x4 x5 x6 x7 K
theorem L13_7_cok {R : Type} (k : Nat) : CodeOk Try.prog (cx13_7 k : Cx R) fi13 (loopAt ((Try.f13).body.getD .skip) 7) := loopAt_ok (((cx13_7_ok k).fns 13 fi13 (by kernel_rfl)).2.2.2 ((Try.f13).body.getD .skip) (by kernel_rfl))
theorem L13_7_ok {R : Type} (k : Nat) : ∀ n, LoopOk Try.prog (Try.f13).ntmps (loopAt ((Try.f13).body.getD .skip) 7) (L13_7 k n : LSum R)
  | 0 => by
    intro pin T H K r h
    unfold L13_7 L13_7G at h
    split at h
    all_goals exact nomatch (show (none : Option R) = some r from h)
  | n + 1 => by
    intro pin T H K r h
    unfold L13_7 L13_7G at h
    split at h
    · rw [← plumblineref01_Shr_l0_eq] at h
      obtain ⟨ex, T1, H1, h, hb⟩ := codeK_sound (cx13_7_ok k) (run_sound (cx13_7_ok k) 4) _ fi13 _ _ _ _ _ (L13_7_cok k) h
      exact loop_step (fun T H hh => L13_7_ok k n _ T H K r hh) hb h
    · cases h
noncomputable def cx13 {R : Type} (k : Nat) : Cx R := mkCx Ty exts [(31, true, S31 k), (32, true, S32 k)] fi13 [(7, L13_7 k k)]
theorem cx13_ok {R : Type} (k : Nat) : CxOk Try.prog (cx13 k : Cx R) := mkCx_ok (c := ((Try.f13).body.getD .skip)) ty_ok mixed exts_ok (allSum_cons (S31_ok k) en31 (allSum_cons (S32_ok k) en32 allSum_nil)) Try.func13 en13 (by kernel_rfl) (by kernel_rfl) (allLoop_loop (by kernel_rfl) (L13_7_ok k k) allLoop_nil)
noncomputable def plumblineref01_Shr {R : Type} (k : Nat) (a1 : Int) (a2 : Int) (a3 : Int) (K0 : Int → Int → Bool → Option R) : Option R :=
  cond (decide (a3 < 0)) (
    plumblineref01_Bits k a1 a2 (fun r1 =>
      plumblineref01_Shr_l0 k k 0 false 0 0 0 r1 (List.replicate 128 false) (fun r2 r3 =>
        plumblineref01_From k r3 (fun r4 r5 =>
          K0 r4 r5 r2)))) (
    plumblineref01_Bits k a1 a2 (fun r6 =>
      plumblineref01_Shr_l0 k k a3 false 0 0 0 r6 (List.replicate 128 false) (fun r7 r8 =>
        plumblineref01_From k r8 (fun r9 r10 =>
          K0 r9 r10 r7))))
theorem plumblineref01_Shr_gen {R : Type} (plumblineref01_Bits : Nat → Int → Int → ((List Bool) → Option R) → Option R) (plumblineref01_From : Nat → (List Bool) → (Int → Int → Option R) → Option R) (plumblineref01_Shr_l0 : Nat → Nat → Int → Bool → Int → Int → Int → (List Bool) → (List Bool) → (Bool → (List Bool) → Option R) → Option R) (k : Nat) (a1 : Int) (a2 : Int) (a3 : Int) (K : AV → Heap → Option R) :
    fnK (mkCx Ty exts [(31, true, S31G plumblineref01_Bits k), (32, true, S32G plumblineref01_From k)] fi13 [(7, L13_7G plumblineref01_Shr_l0 k k)]) 6 13 [.agg [.i .u64 a1, .i .u64 a2], .i .i64 a3] ⟨0, []⟩ K = (fun (K0 : Int → Int → Bool → Option R) =>
    cond (decide (a3 < 0)) (
      plumblineref01_Bits k a1 a2 (fun r1 =>
        plumblineref01_Shr_l0 k k 0 false 0 0 0 r1 (List.replicate 128 false) (fun r2 r3 =>
          plumblineref01_From k r3 (fun r4 r5 =>
            K0 r4 r5 r2)))) (
      plumblineref01_Bits k a1 a2 (fun r6 =>
        plumblineref01_Shr_l0 k k a3 false 0 0 0 r6 (List.replicate 128 false) (fun r7 r8 =>
          plumblineref01_From k r8 (fun r9 r10 =>
            K0 r9 r10 r7))))) (fun q1 q2 q3 => K (.tup [.agg [.i .u64 q1, .i .u64 q2], .b q3]) ⟨0, []⟩) := by kernel_rfl
theorem plumblineref01_Shr_eq {R : Type} (k : Nat) (a1 : Int) (a2 : Int) (a3 : Int) (K : AV → Heap → Option R) :
    fnK (cx13 k) 6 13 [.agg [.i .u64 a1, .i .u64 a2], .i .i64 a3] ⟨0, []⟩ K = plumblineref01_Shr k a1 a2 a3 (fun q1 q2 q3 => K (.tup [.agg [.i .u64 q1, .i .u64 q2], .b q3]) ⟨0, []⟩) := plumblineref01_Shr_gen plumblineref01_Bits plumblineref01_From plumblineref01_Shr_l0 k a1 a2 a3 K
noncomputable def S13G {R : Type} (plumblineref01_Shr : Nat → Int → Int → Int → (Int → Int → Bool → Option R) → Option R) (k : Nat) : Sum R := fun args H K => match args, H with
  | [.agg [.i .u64 a1, .i .u64 a2], .i .i64 a3], ⟨0, []⟩ => plumblineref01_Shr k a1 a2 a3 (fun q1 q2 q3 => K (.tup [.agg [.i .u64 q1, .i .u64 q2], .b q3]) ⟨0, []⟩)
  | _, _ => none
noncomputable def S13 {R : Type} (k : Nat) : Sum R := S13G plumblineref01_Shr k
theorem S13_ok0 {R : Type} (k : Nat) : SumOk Try.prog 13 false (S13 k : Sum R) := by
  intro args H K r h
  unfold S13 S13G at h
  split at h
  · exact fnK_sound (cx13_ok k) 6 13 _ _ K r (by show fnK _ _ _ _ _ _ = _; rw [plumblineref01_Shr_eq]; exact h)
  · cases h
theorem S13_ok {R : Type} (k : Nat) : SumOk Try.prog 13 true (S13 k : Sum R) := by
  refine sumOk_keep (S13_ok0 k) ?_
  intro args H K r h
  unfold S13 S13G at h ⊢
  split at h
  · refine Eq.trans ?_ h
    show plumblineref01_Shr k _ _ _ _ = plumblineref01_Shr k _ _ _ _
    congr 1
    all_goals first | exact (funext fun q1 => funext fun q2 => funext fun q3 => if_pos (keeps_app _ _ _ [])) | skip
  · cases h
-- function 37: plumbline/wide.words
noncomputable def fi37 : FnI := ⟨37, Try.f37, []⟩
theorem en37 : Enters Try.prog 37 := enters_of Try.func37 (c := ((Try.f37).body.getD .skip)) (by kernel_rfl) (by kernel_rfl)
noncomputable def cx37 {R : Type} (k : Nat) : Cx R := mkCx Ty exts [] fi37 []
theorem cx37_ok {R : Type} (k : Nat) : CxOk Try.prog (cx37 k : Cx R) := mkCx_ok (c := ((Try.f37).body.getD .skip)) ty_ok mixed exts_ok allSum_nil Try.func37 en37 (by kernel_rfl) (by kernel_rfl) allLoop_nil
noncomputable def wide_words {R : Type} (k : Nat) (a1 : Int) (a2 : Int) (K0 : Option R) : Option R :=
  K0
theorem wide_words_gen {R : Type} (k : Nat) (a1 : Int) (a2 : Int) (K : AV → Heap → Option R) :
    fnK (mkCx Ty exts [] fi37 []) 6 37 [.agg [.i .u64 a1, .i .u64 a2]] ⟨0, []⟩ K = (fun (K0 : Option R) =>
    K0) (K (.agg [.i .u64 a1, .i .u64 a2]) ⟨0, []⟩) := by kernel_rfl
theorem wide_words_eq {R : Type} (k : Nat) (a1 : Int) (a2 : Int) (K : AV → Heap → Option R) :
    fnK (cx37 k) 6 37 [.agg [.i .u64 a1, .i .u64 a2]] ⟨0, []⟩ K = wide_words k a1 a2 (K (.agg [.i .u64 a1, .i .u64 a2]) ⟨0, []⟩) := wide_words_gen k a1 a2 K
noncomputable def S37G {R : Type} (wide_words : Nat → Int → Int → (Option R) → Option R) (k : Nat) : Sum R := fun args H K => match args, H with
  | [.agg [.i .u64 a1, .i .u64 a2]], ⟨0, []⟩ => wide_words k a1 a2 (K (.agg [.i .u64 a1, .i .u64 a2]) ⟨0, []⟩)
  | _, _ => none
noncomputable def S37 {R : Type} (k : Nat) : Sum R := S37G wide_words k
theorem S37_ok0 {R : Type} (k : Nat) : SumOk Try.prog 37 false (S37 k : Sum R) := by
  intro args H K r h
  unfold S37 S37G at h
  split at h
  · exact fnK_sound (cx37_ok k) 6 37 _ _ K r (by show fnK _ _ _ _ _ _ = _; rw [wide_words_eq]; exact h)
  · cases h
theorem S37_ok {R : Type} (k : Nat) : SumOk Try.prog 37 true (S37 k : Sum R) := by
  refine sumOk_keep (S37_ok0 k) ?_
  intro args H K r h
  unfold S37 S37G at h ⊢
  split at h
  · refine Eq.trans ?_ h
    show wide_words k _ _ _ = wide_words k _ _ _
    congr 1
    all_goals first | exact (if_pos (keeps_app _ _ _ [])) | skip
  · cases h
-- function 42: cmp.isNaN[uint64]
noncomputable def fi42 : FnI := ⟨42, Try.f42, []⟩
theorem en42 : Enters Try.prog 42 := enters_of Try.func42 (c := ((Try.f42).body.getD .skip)) (by kernel_rfl) (by kernel_rfl)
noncomputable def cx42 {R : Type} (k : Nat) : Cx R := mkCx Ty exts [] fi42 []
theorem cx42_ok {R : Type} (k : Nat) : CxOk Try.prog (cx42 k : Cx R) := mkCx_ok (c := ((Try.f42).body.getD .skip)) ty_ok mixed exts_ok allSum_nil Try.func42 en42 (by kernel_rfl) (by kernel_rfl) allLoop_nil
noncomputable def cmp_isNaN_uint64 {R : Type} (k : Nat) (a1 : Int) (K0 : Bool → Option R) : Option R :=
  K0 (a1 != a1)
theorem cmp_isNaN_uint64_gen {R : Type} (k : Nat) (a1 : Int) (K : AV → Heap → Option R) :
    fnK (mkCx Ty exts [] fi42 []) 6 42 [.i .u64 a1] ⟨0, []⟩ K = (fun (K0 : Bool → Option R) =>
    K0 (a1 != a1)) (fun q1 => K (.b q1) ⟨0, []⟩) := by kernel_rfl
theorem cmp_isNaN_uint64_eq {R : Type} (k : Nat) (a1 : Int) (K : AV → Heap → Option R) :
    fnK (cx42 k) 6 42 [.i .u64 a1] ⟨0, []⟩ K = cmp_isNaN_uint64 k a1 (fun q1 => K (.b q1) ⟨0, []⟩) := cmp_isNaN_uint64_gen k a1 K
noncomputable def S42G {R : Type} (cmp_isNaN_uint64 : Nat → Int → (Bool → Option R) → Option R) (k : Nat) : Sum R := fun args H K => match args, H with
  | [.i .u64 a1], ⟨0, []⟩ => cmp_isNaN_uint64 k a1 (fun q1 => K (.b q1) ⟨0, []⟩)
  | _, _ => none
noncomputable def S42 {R : Type} (k : Nat) : Sum R := S42G cmp_isNaN_uint64 k
theorem S42_ok0 {R : Type} (k : Nat) : SumOk Try.prog 42 false (S42 k : Sum R) := by
  intro args H K r h
  unfold S42 S42G at h
  split at h
  · exact fnK_sound (cx42_ok k) 6 42 _ _ K r (by show fnK _ _ _ _ _ _ = _; rw [cmp_isNaN_uint64_eq]; exact h)
  · cases h
theorem S42_ok {R : Type} (k : Nat) : SumOk Try.prog 42 true (S42 k : Sum R) := by
  refine sumOk_keep (S42_ok0 k) ?_
  intro args H K r h
  unfold S42 S42G at h ⊢
  split at h
  · refine Eq.trans ?_ h
    show cmp_isNaN_uint64 k _ _ = cmp_isNaN_uint64 k _ _
    congr 1
    all_goals first | exact (funext fun q1 => if_pos (keeps_app _ _ _ [])) | skip
  · cases h
-- function 39: cmp.Compare[uint64]
noncomputable def fi39 : FnI := ⟨39, Try.f39, []⟩
theorem en39 : Enters Try.prog 39 := enters_of Try.func39 (c := ((Try.f39).body.getD .skip)) (by kernel_rfl) (by kernel_rfl)
noncomputable def cx39 {R : Type} (k : Nat) : Cx R := mkCx Ty exts [(42, true, S42 k)] fi39 []
theorem cx39_ok {R : Type} (k : Nat) : CxOk Try.prog (cx39 k : Cx R) := mkCx_ok (c := ((Try.f39).body.getD .skip)) ty_ok mixed exts_ok (allSum_cons (S42_ok k) en42 allSum_nil) Try.func39 en39 (by kernel_rfl) (by kernel_rfl) allLoop_nil
noncomputable def cmp_Compare_uint64 {R : Type} (k : Nat) (a1 : Int) (a2 : Int) (K0 : Int → Option R) : Option R :=
  cmp_isNaN_uint64 k a1 (fun r1 =>
    cmp_isNaN_uint64 k a2 (fun r2 =>
      cond r1 (
        cond r2 (
          K0 0) (
          K0 (-1))) (
        cond r2 (
          K0 1) (
          cond (decide (a1 < a2)) (
            K0 (-1)) (
            cond (decide (a1 > a2)) (
              K0 1) (
              K0 0))))))
theorem cmp_Compare_uint64_gen {R : Type} (cmp_isNaN_uint64 : Nat → Int → (Bool → Option R) → Option R) (k : Nat) (a1 : Int) (a2 : Int) (K : AV → Heap → Option R) :
    fnK (mkCx Ty exts [(42, true, S42G cmp_isNaN_uint64 k)] fi39 []) 6 39 [.i .u64 a1, .i .u64 a2] ⟨0, []⟩ K = (fun (K0 : Int → Option R) =>
    cmp_isNaN_uint64 k a1 (fun r1 =>
      cmp_isNaN_uint64 k a2 (fun r2 =>
        cond r1 (
          cond r2 (
            K0 0) (
            K0 (-1))) (
          cond r2 (
            K0 1) (
            cond (decide (a1 < a2)) (
              K0 (-1)) (
              cond (decide (a1 > a2)) (
                K0 1) (
                K0 0))))))) (fun q1 => K (.i .i64 q1) ⟨0, []⟩) := by kernel_rfl
theorem cmp_Compare_uint64_eq {R : Type} (k : Nat) (a1 : Int) (a2 : Int) (K : AV → Heap → Option R) :
    fnK (cx39 k) 6 39 [.i .u64 a1, .i .u64 a2] ⟨0, []⟩ K = cmp_Compare_uint64 k a1 a2 (fun q1 => K (.i .i64 q1) ⟨0, []⟩) := cmp_Compare_uint64_gen cmp_isNaN_uint64 k a1 a2 K
noncomputable def S39G {R : Type} (cmp_Compare_uint64 : Nat → Int → Int → (Int → Option R) → Option R) (k : Nat) : Sum R := fun args H K => match args, H with
  | [.i .u64 a1, .i .u64 a2], ⟨0, []⟩ => cmp_Compare_uint64 k a1 a2 (fun q1 => K (.i .i64 q1) ⟨0, []⟩)
  | _, _ => none
noncomputable def S39 {R : Type} (k : Nat) : Sum R := S39G cmp_Compare_uint64 k
theorem S39_ok0 {R : Type} (k : Nat) : SumOk Try.prog 39 false (S39 k : Sum R) := by
  intro args H K r h
  unfold S39 S39G at h
  split at h
  · exact fnK_sound (cx39_ok k) 6 39 _ _ K r (by show fnK _ _ _ _ _ _ = _; rw [cmp_Compare_uint64_eq]; exact h)
  · cases h
theorem S39_ok {R : Type} (k : Nat) : SumOk Try.prog 39 true (S39 k : Sum R) := by
  refine sumOk_keep (S39_ok0 k) ?_
  intro args H K r h
  unfold S39 S39G at h ⊢
  split at h
  · refine Eq.trans ?_ h
    show cmp_Compare_uint64 k _ _ _ = cmp_Compare_uint64 k _ _ _
    congr 1
    all_goals first | exact (funext fun q1 => if_pos (keeps_app _ _ _ [])) | skip
  · cases h
-- function 38: cmp.Or[int]
noncomputable def fi38 : FnI := ⟨38, Try.f38, [(100003, [3, 6, 7, 8]), (2000003, [2]), (3003000, [3])]⟩
theorem en38 : Enters Try.prog 38 := enters_of Try.func38 (c := ((Try.f38).body.getD .skip)) (by kernel_rfl) (by kernel_rfl)
noncomputable def cmp_Or_int_l0B {R : Type} (k : Nat) (rec : Int → Int → Int → (List Int) → Option R) (x1 : Int) (x2 : Int) (x3 : Int) (x4 : List Int) (K0 : Int → Option R) (K1 : Option R) : Option R :=
  cond (decide (x3 < x2)) (
    cond (decide (0 ≤ x3)) (
      cond (decide (x3 < (((List.length x4) : Nat) : Int))) (
        Option.bind (x4[(Int.toNat x3)]?) fun ye1 =>
        cond (ye1 != x1) (
          K0 ye1) (
          rec x1 x2 (Wi64 (x3 + 1)) x4)) (
        none)) (
      none)) (
    K1)
noncomputable def cmp_Or_int_l0 {R : Type} (k : Nat) : Nat → Int → Int → Int → (List Int) → (Int → Option R) → (Option R) → Option R
  | 0, _, _, _, _, _, _ => none
  | n + 1, x1, x2, x3, x4, K0, K1 => cmp_Or_int_l0B k (fun x1 x2 x3 x4 => cmp_Or_int_l0 k n x1 x2 x3 x4 K0 K1) x1 x2 x3 x4 K0 K1
noncomputable def cx38_3 {R : Type} (k : Nat) : Cx R := mkCx Ty exts [] fi38 []
theorem cx38_3_ok {R : Type} (k : Nat) : CxOk Try.prog (cx38_3 k : Cx R) := mkCx_ok (c := ((Try.f38).body.getD .skip)) ty_ok mixed exts_ok allSum_nil Try.func38 en38 (by kernel_rfl) (by kernel_rfl) allLoop_nil
noncomputable def L38_3G {R : Type} (cmp_Or_int_l0 : Nat → Nat → Int → Int → Int → (List Int) → (Int → Option R) → (Option R) → Option R) (k n : Nat) : LSum R := fun pin T H K => match pin, T, H with
  | 1, [(3, .i .i64 x1), (6, .sw 0), (7, .i .i64 x2), (8, .i .i64 x3)], ⟨1, [(0, some ⟨0, false, .row [.i .i64] x4⟩)]⟩ => cmp_Or_int_l0 k n x1 x2 x3 x4 (fun q1 => K .ret [(2, .i .i64 q1)] ⟨1, [(0, some ⟨0, false, .row [.i .i64] x4⟩)]⟩) (K (.exit 0) [(3, .i .i64 x1)] ⟨1, [(0, some ⟨0, false, .row [.i .i64] x4⟩)]⟩)
  | _, _, _ => none
noncomputable def L38_3 {R : Type} (k n : Nat) : LSum R := L38_3G cmp_Or_int_l0 k n
theorem cmp_Or_int_l0_gen {R : Type} (cmp_Or_int_l0 : Nat → Nat → Int → Int → Int → (List Int) → (Int → Option R) → (Option R) → Option R) (k n : Nat) (x1 : Int) (x2 : Int) (x3 : Int) (x4 : List Int) (K : Kont R) :
    codeK (mkCx Ty exts [] fi38 []) (run (mkCx Ty exts [] fi38 []) 4) 1 fi38 (loopAt ((Try.f38).body.getD .skip) 3) [(3, .i .i64 x1), (6, .sw 0), (7, .i .i64 x2), (8, .i .i64 x3)] ⟨1, [(0, some ⟨0, false, .row [.i .i64] x4⟩)]⟩ (fun ex T H => match (generalizing := false) ex with
      | .normal => normAt (some [3, 6, 7, 8]) 1 T H (fun T H => L38_3G cmp_Or_int_l0 k n 1 T H K)
      | ex => exitNorm fi38.ann 3 1 K ex T H) =
    (fun (rec : Int → Int → Int → (List Int) → Option R) (K0 : Int → Option R) (K1 : Option R) =>
    cond (decide (x3 < x2)) (
      cond (decide (0 ≤ x3)) (
        cond (decide (x3 < (((List.length x4) : Nat) : Int))) (
          Option.bind (x4[(Int.toNat x3)]?) fun ye1 =>
          cond (ye1 != x1) (
            K0 ye1) (
            rec x1 x2 (Wi64 (x3 + 1)) x4)) (
          none)) (
        none)) (
      K1)) (fun x1 x2 x3 x4 => cmp_Or_int_l0 k n x1 x2 x3 x4 (fun q1 => K .ret [(2, .i .i64 q1)] ⟨1, [(0, some ⟨0, false, .row [.i .i64] x4⟩)]⟩) (K (.exit 0) [(3, .i .i64 x1)] ⟨1, [(0, some ⟨0, false, .row [.i .i64] x4⟩)]⟩)) (fun q1 => K .ret [(2, .i .i64 q1)] ⟨1, [(0, some ⟨0, false, .row [.i .i64] x4⟩)]⟩) (K (.exit 0) [(3, .i .i64 x1)] ⟨1, [(0, some ⟨0, false, .row [.i .i64] x4⟩)]⟩) := by kernel_rfl
theorem cmp_Or_int_l0_eq {R : Type} (k n : Nat) (x1 : Int) (x2 : Int) (x3 : Int) (x4 : List Int) (K : Kont R) :
    codeK (cx38_3 k) (run (cx38_3 k) 4) 1 fi38 (loopAt ((Try.f38).body.getD .skip) 3) [(3, .i .i64 x1), (6, .sw 0), (7, .i .i64 x2), (8, .i .i64 x3)] ⟨1, [(0, some ⟨0, false, .row [.i .i64] x4⟩)]⟩ (fun ex T H => match (generalizing := false) ex with
      | .normal => normAt (some [3, 6, 7, 8]) 1 T H (fun T H => L38_3 k n 1 T H K)
      | ex => exitNorm fi38.ann 3 1 K ex T H) =
    cmp_Or_int_l0 k (n + 1) x1 x2 x3 x4 (fun q1 => K .ret [(2, .i .i64 q1)] ⟨1, [(0, some ⟨0, false, .row [.i .i64] x4⟩)]⟩) (K (.exit 0) [(3, .i .i64 x1)] ⟨1, [(0, some ⟨0, false, .row [.i .i64] x4⟩)]⟩) := cmp_Or_int_l0_gen cmp_Or_int_l0 k n x1 x2 x3 x4 K
theorem L38_3_cok {R : Type} (k : Nat) : CodeOk Try.prog (cx38_3 k : Cx R) fi38 (loopAt ((Try.f38).body.getD .skip) 3) := loopAt_ok (((cx38_3_ok k).fns 38 fi38 (by kernel_rfl)).2.2.2 ((Try.f38).body.getD .skip) (by kernel_rfl))
theorem L38_3_ok {R : Type} (k : Nat) : ∀ n, LoopOk Try.prog (Try.f38).ntmps (loopAt ((Try.f38).body.getD .skip) 3) (L38_3 k n : LSum R)
  | 0 => by
    intro pin T H K r h
    unfold L38_3 L38_3G at h
    split at h
    all_goals exact nomatch (show (none : Option R) = some r from h)
  | n + 1 => by
    intro pin T H K r h
    unfold L38_3 L38_3G at h
    split at h
    · rw [← cmp_Or_int_l0_eq] at h
      obtain ⟨ex, T1, H1, h, hb⟩ := codeK_sound (cx38_3_ok k) (run_sound (cx38_3_ok k) 4) _ fi38 _ _ _ _ _ (L38_3_cok k) h
      exact loop_step (fun T H hh => L38_3_ok k n _ T H K r hh) hb h
    · cases h
noncomputable def cx38 {R : Type} (k : Nat) : Cx R := mkCx Ty exts [] fi38 [(3, L38_3 k k)]
theorem cx38_ok {R : Type} (k : Nat) : CxOk Try.prog (cx38 k : Cx R) := mkCx_ok (c := ((Try.f38).body.getD .skip)) ty_ok mixed exts_ok allSum_nil Try.func38 en38 (by kernel_rfl) (by kernel_rfl) (allLoop_loop (by kernel_rfl) (L38_3_ok k k) allLoop_nil)
noncomputable def cmp_Or_int {R : Type} (k : Nat) (a1 : List Int) (K0 : Int → Option R) : Option R :=
  cmp_Or_int_l0 k k 0 (((List.length a1) : Nat) : Int) 0 a1 (fun r1 =>
    K0 r1) (
    K0 0)
theorem cmp_Or_int_gen {R : Type} (cmp_Or_int_l0 : Nat → Nat → Int → Int → Int → (List Int) → (Int → Option R) → (Option R) → Option R) (k : Nat) (a1 : List Int) (K : AV → Heap → Option R) :
    fnK (mkCx Ty exts [] fi38 [(3, L38_3G cmp_Or_int_l0 k k)]) 6 38 [.sw 0] ⟨1, [(0, some ⟨0, false, .row [.i .i64] a1⟩)]⟩ K = (fun (K0 : Int → Option R) =>
    cmp_Or_int_l0 k k 0 (((List.length a1) : Nat) : Int) 0 a1 (fun r1 =>
      K0 r1) (
      K0 0)) (fun q1 => K (.i .i64 q1) ⟨1, [(0, some ⟨0, false, .row [.i .i64] a1⟩)]⟩) := by kernel_rfl
theorem cmp_Or_int_eq {R : Type} (k : Nat) (a1 : List Int) (K : AV → Heap → Option R) :
    fnK (cx38 k) 6 38 [.sw 0] ⟨1, [(0, some ⟨0, false, .row [.i .i64] a1⟩)]⟩ K = cmp_Or_int k a1 (fun q1 => K (.i .i64 q1) ⟨1, [(0, some ⟨0, false, .row [.i .i64] a1⟩)]⟩) := cmp_Or_int_gen cmp_Or_int_l0 k a1 K
noncomputable def S38G {R : Type} (cmp_Or_int : Nat → (List Int) → (Int → Option R) → Option R) (k : Nat) : Sum R := fun args H K => match args, H with
  | [.sw 0], ⟨1, [(0, some ⟨0, false, .row [.i .i64] a1⟩)]⟩ => cmp_Or_int k a1 (fun q1 => K (.i .i64 q1) ⟨1, [(0, some ⟨0, false, .row [.i .i64] a1⟩)]⟩)
  | _, _ => none
noncomputable def S38 {R : Type} (k : Nat) : Sum R := S38G cmp_Or_int k
theorem S38_ok0 {R : Type} (k : Nat) : SumOk Try.prog 38 false (S38 k : Sum R) := by
  intro args H K r h
  unfold S38 S38G at h
  split at h
  · exact fnK_sound (cx38_ok k) 6 38 _ _ K r (by show fnK _ _ _ _ _ _ = _; rw [cmp_Or_int_eq]; exact h)
  · cases h
theorem S38_ok {R : Type} (k : Nat) : SumOk Try.prog 38 true (S38 k : Sum R) := by
  refine sumOk_keep (S38_ok0 k) ?_
  intro args H K r h
  unfold S38 S38G at h ⊢
  split at h
  · refine Eq.trans ?_ h
    show cmp_Or_int k _ _ = cmp_Or_int k _ _
    congr 1
    all_goals first | exact (funext fun q1 => if_pos (keeps_app _ _ _ [])) | skip
  · cases h
-- function 25: plumbline/wide.Compare
noncomputable def fi25 : FnI := ⟨25, Try.f25, []⟩
theorem en25 : Enters Try.prog 25 := enters_of Try.func25 (c := ((Try.f25).body.getD .skip)) (by kernel_rfl) (by kernel_rfl)
noncomputable def cx25 {R : Type} (k : Nat) : Cx R := mkCx Ty exts [(37, true, S37 k), (38, true, S38 k), (39, true, S39 k)] fi25 []
theorem cx25_ok {R : Type} (k : Nat) : CxOk Try.prog (cx25 k : Cx R) := mkCx_ok (c := ((Try.f25).body.getD .skip)) ty_ok mixed exts_ok (allSum_cons (S37_ok k) en37 (allSum_cons (S38_ok k) en38 (allSum_cons (S39_ok k) en39 allSum_nil))) Try.func25 en25 (by kernel_rfl) (by kernel_rfl) allLoop_nil
noncomputable def wide_Compare {R : Type} (k : Nat) (a1 : Int) (a2 : Int) (a3 : Int) (a4 : Int) (K0 : Int → Option R) : Option R :=
  wide_words k a1 a2 (
    wide_words k a3 a4 (
      cmp_Compare_uint64 k a1 a3 (fun r1 =>
        cmp_Compare_uint64 k a2 a4 (fun r2 =>
          cmp_Or_int k [r1, r2] (fun r3 =>
            K0 r3)))))
theorem wide_Compare_gen {R : Type} (wide_words : Nat → Int → Int → (Option R) → Option R) (cmp_Or_int : Nat → (List Int) → (Int → Option R) → Option R) (cmp_Compare_uint64 : Nat → Int → Int → (Int → Option R) → Option R) (k : Nat) (a1 : Int) (a2 : Int) (a3 : Int) (a4 : Int) (K : AV → Heap → Option R) :
    fnK (mkCx Ty exts [(37, true, S37G wide_words k), (38, true, S38G cmp_Or_int k), (39, true, S39G cmp_Compare_uint64 k)] fi25 []) 6 25 [.agg [.i .u64 a1, .i .u64 a2], .agg [.i .u64 a3, .i .u64 a4]] ⟨0, []⟩ K = (fun (K0 : Int → Option R) =>
    wide_words k a1 a2 (
      wide_words k a3 a4 (
        cmp_Compare_uint64 k a1 a3 (fun r1 =>
          cmp_Compare_uint64 k a2 a4 (fun r2 =>
            cmp_Or_int k [r1, r2] (fun r3 =>
              K0 r3)))))) (fun q1 => K (.i .i64 q1) ⟨0, []⟩) := by kernel_rfl
theorem wide_Compare_eq {R : Type} (k : Nat) (a1 : Int) (a2 : Int) (a3 : Int) (a4 : Int) (K : AV → Heap → Option R) :
    fnK (cx25 k) 6 25 [.agg [.i .u64 a1, .i .u64 a2], .agg [.i .u64 a3, .i .u64 a4]] ⟨0, []⟩ K = wide_Compare k a1 a2 a3 a4 (fun q1 => K (.i .i64 q1) ⟨0, []⟩) := wide_Compare_gen wide_words cmp_Or_int cmp_Compare_uint64 k a1 a2 a3 a4 K
noncomputable def S25G {R : Type} (wide_Compare : Nat → Int → Int → Int → Int → (Int → Option R) → Option R) (k : Nat) : Sum R := fun args H K => match args, H with
  | [.agg [.i .u64 a1, .i .u64 a2], .agg [.i .u64 a3, .i .u64 a4]], ⟨0, []⟩ => wide_Compare k a1 a2 a3 a4 (fun q1 => K (.i .i64 q1) ⟨0, []⟩)
  | _, _ => none
noncomputable def S25 {R : Type} (k : Nat) : Sum R := S25G wide_Compare k
theorem S25_ok0 {R : Type} (k : Nat) : SumOk Try.prog 25 false (S25 k : Sum R) := by
  intro args H K r h
  unfold S25 S25G at h
  split at h
  · exact fnK_sound (cx25_ok k) 6 25 _ _ K r (by show fnK _ _ _ _ _ _ = _; rw [wide_Compare_eq]; exact h)
  · cases h
theorem S25_ok {R : Type} (k : Nat) : SumOk Try.prog 25 true (S25 k : Sum R) := by
  refine sumOk_keep (S25_ok0 k) ?_
  intro args H K r h
  unfold S25 S25G at h ⊢
  split at h
  · refine Eq.trans ?_ h
    show wide_Compare k _ _ _ _ _ = wide_Compare k _ _ _ _ _
    congr 1
    all_goals first | exact (funext fun q1 => if_pos (keeps_app _ _ _ [])) | skip
  · cases h
-- function 21: plumbline/wide.Sub
noncomputable def fi21 : FnI := ⟨21, Try.f21, []⟩
theorem en21 : Enters Try.prog 21 := enters_of Try.func21 (c := ((Try.f21).body.getD .skip)) (by kernel_rfl) (by kernel_rfl)
noncomputable def cx21 {R : Type} (k : Nat) : Cx R := mkCx Ty exts [] fi21 []
theorem cx21_ok {R : Type} (k : Nat) : CxOk Try.prog (cx21 k : Cx R) := mkCx_ok (c := ((Try.f21).body.getD .skip)) ty_ok mixed exts_ok allSum_nil Try.func21 en21 (by kernel_rfl) (by kernel_rfl) allLoop_nil
noncomputable def wide_Sub {R : Type} (k : Nat) (a1 : Int) (a2 : Int) (a3 : Int) (a4 : Int) (K0 : Int → Int → Bool → Option R) : Option R :=
  cond (decide ((borrow64 a2 a4 0) ≤ 1)) (
    K0 (sub64 a1 a3 (borrow64 a2 a4 0)) (sub64 a2 a4 0) ((borrow64 a1 a3 (borrow64 a2 a4 0)) == 1)) (
    none)
theorem wide_Sub_gen {R : Type} (k : Nat) (a1 : Int) (a2 : Int) (a3 : Int) (a4 : Int) (K : AV → Heap → Option R) :
    fnK (mkCx Ty exts [] fi21 []) 6 21 [.agg [.i .u64 a1, .i .u64 a2], .agg [.i .u64 a3, .i .u64 a4]] ⟨0, []⟩ K = (fun (K0 : Int → Int → Bool → Option R) =>
    cond (decide ((borrow64 a2 a4 0) ≤ 1)) (
      K0 (sub64 a1 a3 (borrow64 a2 a4 0)) (sub64 a2 a4 0) ((borrow64 a1 a3 (borrow64 a2 a4 0)) == 1)) (
      none)) (fun q1 q2 q3 => K (.tup [.agg [.i .u64 q1, .i .u64 q2], .b q3]) ⟨0, []⟩) := by kernel_rfl
theorem wide_Sub_eq {R : Type} (k : Nat) (a1 : Int) (a2 : Int) (a3 : Int) (a4 : Int) (K : AV → Heap → Option R) :
    fnK (cx21 k) 6 21 [.agg [.i .u64 a1, .i .u64 a2], .agg [.i .u64 a3, .i .u64 a4]] ⟨0, []⟩ K = wide_Sub k a1 a2 a3 a4 (fun q1 q2 q3 => K (.tup [.agg [.i .u64 q1, .i .u64 q2], .b q3]) ⟨0, []⟩) := wide_Sub_gen k a1 a2 a3 a4 K
noncomputable def S21G {R : Type} (wide_Sub : Nat → Int → Int → Int → Int → (Int → Int → Bool → Option R) → Option R) (k : Nat) : Sum R := fun args H K => match args, H with
  | [.agg [.i .u64 a1, .i .u64 a2], .agg [.i .u64 a3, .i .u64 a4]], ⟨0, []⟩ => wide_Sub k a1 a2 a3 a4 (fun q1 q2 q3 => K (.tup [.agg [.i .u64 q1, .i .u64 q2], .b q3]) ⟨0, []⟩)
  | _, _ => none
noncomputable def S21 {R : Type} (k : Nat) : Sum R := S21G wide_Sub k
theorem S21_ok0 {R : Type} (k : Nat) : SumOk Try.prog 21 false (S21 k : Sum R) := by
  intro args H K r h
  unfold S21 S21G at h
  split at h
  · exact fnK_sound (cx21_ok k) 6 21 _ _ K r (by show fnK _ _ _ _ _ _ = _; rw [wide_Sub_eq]; exact h)
  · cases h
theorem S21_ok {R : Type} (k : Nat) : SumOk Try.prog 21 true (S21 k : Sum R) := by
  refine sumOk_keep (S21_ok0 k) ?_
  intro args H K r h
  unfold S21 S21G at h ⊢
  split at h
  · refine Eq.trans ?_ h
    show wide_Sub k _ _ _ _ _ = wide_Sub k _ _ _ _ _
    congr 1
    all_goals first | exact (funext fun q1 => funext fun q2 => funext fun q3 => if_pos (keeps_app _ _ _ [])) | skip
  · cases h
end Go.Proofs.Ytnbmconaglehbaa.N
