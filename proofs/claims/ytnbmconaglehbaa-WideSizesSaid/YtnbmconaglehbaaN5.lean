/- Printed by wip/gen/emit.py: functions of the program as plain Lean functions, tied to the model by the evaluator. Conditions: none. -/
import Derived.Test.YtnbmconaglehbaaN4
namespace Go.Proofs.Ytnbmconaglehbaa.N
set_option linter.unusedVariables false
set_option maxRecDepth 100000
open Go Go.Ab
-- function 29: plumbline/wide.Div
noncomputable def fi29 : FnI := ⟨29, Try.f29, []⟩
theorem en29 : Enters Try.prog 29 := enters_of Try.func29 (c := ((Try.f29).body.getD .skip)) (by kernel_rfl) (by kernel_rfl)
noncomputable def cx29 {R : Type} (k : Nat) : Cx R := mkCx Ty exts [(41, true, S41 k)] fi29 []
theorem cx29_ok {R : Type} (k : Nat) : CxOk Try.prog (cx29 k : Cx R) := mkCx_ok (c := ((Try.f29).body.getD .skip)) ty_ok mixed exts_ok (allSum_cons (S41_ok k) en41 allSum_nil) Try.func29 en29 (by kernel_rfl) (by kernel_rfl) allLoop_nil
noncomputable def wide_Div {R : Type} (k : Nat) (a1 : Int) (a2 : Int) (a3 : Int) (K0 : Int → Int → Int → Option R) : Option R :=
  cond (a3 == 0) (
    K0 0 0 0) (
    cond (decide (a3 = 0)) (
      none) (
      cond (decide (a3 = 0)) (
        none) (
        bits_Div64 k (Int.tmod a1 a3) a2 a3 (fun r1 r2 =>
          K0 (Wu64 (Int.tdiv a1 a3)) r1 r2))))
theorem wide_Div_gen {R : Type} (bits_Div64 : Nat → Int → Int → Int → (Int → Int → Option R) → Option R) (k : Nat) (a1 : Int) (a2 : Int) (a3 : Int) (K : AV → Heap → Option R) :
    fnK (mkCx Ty exts [(41, true, S41G bits_Div64 k)] fi29 []) 6 29 [.agg [.i .u64 a1, .i .u64 a2], .i .u64 a3] ⟨0, []⟩ K = (fun (K0 : Int → Int → Int → Option R) =>
    cond (a3 == 0) (
      K0 0 0 0) (
      cond (decide (a3 = 0)) (
        none) (
        cond (decide (a3 = 0)) (
          none) (
          bits_Div64 k (Int.tmod a1 a3) a2 a3 (fun r1 r2 =>
            K0 (Wu64 (Int.tdiv a1 a3)) r1 r2))))) (fun q1 q2 q3 => K (.tup [.agg [.i .u64 q1, .i .u64 q2], .i .u64 q3]) ⟨0, []⟩) := by kernel_rfl
theorem wide_Div_eq {R : Type} (k : Nat) (a1 : Int) (a2 : Int) (a3 : Int) (K : AV → Heap → Option R) :
    fnK (cx29 k) 6 29 [.agg [.i .u64 a1, .i .u64 a2], .i .u64 a3] ⟨0, []⟩ K = wide_Div k a1 a2 a3 (fun q1 q2 q3 => K (.tup [.agg [.i .u64 q1, .i .u64 q2], .i .u64 q3]) ⟨0, []⟩) := wide_Div_gen bits_Div64 k a1 a2 a3 K
noncomputable def S29G {R : Type} (wide_Div : Nat → Int → Int → Int → (Int → Int → Int → Option R) → Option R) (k : Nat) : Sum R := fun args H K => match args, H with
  | [.agg [.i .u64 a1, .i .u64 a2], .i .u64 a3], ⟨0, []⟩ => wide_Div k a1 a2 a3 (fun q1 q2 q3 => K (.tup [.agg [.i .u64 q1, .i .u64 q2], .i .u64 q3]) ⟨0, []⟩)
  | _, _ => none
noncomputable def S29 {R : Type} (k : Nat) : Sum R := S29G wide_Div k
theorem S29_ok0 {R : Type} (k : Nat) : SumOk Try.prog 29 false (S29 k : Sum R) := by
  intro args H K r h
  unfold S29 S29G at h
  split at h
  · exact fnK_sound (cx29_ok k) 6 29 _ _ K r (by show fnK _ _ _ _ _ _ = _; rw [wide_Div_eq]; exact h)
  · cases h
theorem S29_ok {R : Type} (k : Nat) : SumOk Try.prog 29 true (S29 k : Sum R) := by
  refine sumOk_keep (S29_ok0 k) ?_
  intro args H K r h
  unfold S29 S29G at h ⊢
  split at h
  · refine Eq.trans ?_ h
    show wide_Div k _ _ _ _ = wide_Div k _ _ _ _
    congr 1
    all_goals first | exact (funext fun q1 => funext fun q2 => funext fun q3 => if_pos (keeps_app _ _ _ [])) | skip
  · cases h
-- function 30: plumbline/plumblineref01.Div
noncomputable def fi30 : FnI := ⟨30, Try.f30, [(100007, [1, 4, 6, 7, 8, 9]), (3007000, [4, 7, 8])]⟩
theorem en30 : Enters Try.prog 30 := enters_of Try.func30 (c := ((Try.f30).body.getD .skip)) (by kernel_rfl) (by kernel_rfl)
noncomputable def plumblineref01_Div_l0B {R : Type} (k : Nat) (rec : Int → Int → Int → Int → (List Bool) → (List Bool) → Int → Int → Option R) (x1 : Int) (x2 : Int) (x3 : Int) (x4 : Int) (x5 : List Bool) (x6 : List Bool) (x7 : Int) (x8 : Int) (K0 : (List Bool) → Int → Int → Option R) : Option R :=
  cond (decide (x2 ≥ 0)) (
    plumblineref01_Shl k x7 x8 1 (fun yr1 yr2 =>
      cond (decide (0 ≤ x2)) (
        cond (decide (x2 < (((List.length x5) : Nat) : Int))) (
          Option.bind (x5[(Int.toNat x2)]?) fun ye3 =>
          cond ye3 (
            plumblineref01_Compare k yr1 (bOr .u64 yr2 1) 0 x1 (fun yr4 =>
              cond (decide (yr4 ≥ 0)) (
                plumblineref01_Sub k yr1 (bOr .u64 yr2 1) 0 x1 (fun yr5 yr6 yr7 =>
                  cond (decide (0 ≤ x2)) (
                    cond (decide (x2 < (((List.length x6) : Nat) : Int))) (
                      Option.bind (x6[(Int.toNat x2)]?) fun ye8 =>
                      rec x1 (Wi64 (x2 - 1)) x3 x4 x5 (List.set x6 (Int.toNat x2) true) yr5 yr6) (
                      none)) (
                    none))) (
                rec x1 (Wi64 (x2 - 1)) x3 x4 x5 x6 yr1 (bOr .u64 yr2 1)))) (
            plumblineref01_Compare k yr1 yr2 0 x1 (fun yr9 =>
              cond (decide (yr9 ≥ 0)) (
                plumblineref01_Sub k yr1 yr2 0 x1 (fun yr10 yr11 yr12 =>
                  cond (decide (0 ≤ x2)) (
                    cond (decide (x2 < (((List.length x6) : Nat) : Int))) (
                      Option.bind (x6[(Int.toNat x2)]?) fun ye13 =>
                      rec x1 (Wi64 (x2 - 1)) x3 x4 x5 (List.set x6 (Int.toNat x2) true) yr10 yr11) (
                      none)) (
                    none))) (
                rec x1 (Wi64 (x2 - 1)) x3 x4 x5 x6 yr1 yr2)))) (
          none)) (
        none))) (
    K0 x6 x7 x8)
noncomputable def plumblineref01_Div_l0 {R : Type} (k : Nat) : Nat → Int → Int → Int → Int → (List Bool) → (List Bool) → Int → Int → ((List Bool) → Int → Int → Option R) → Option R
  | 0, _, _, _, _, _, _, _, _, _ => none
  | n + 1, x1, x2, x3, x4, x5, x6, x7, x8, K0 => plumblineref01_Div_l0B k (fun x1 x2 x3 x4 x5 x6 x7 x8 => plumblineref01_Div_l0 k n x1 x2 x3 x4 x5 x6 x7 x8 K0) x1 x2 x3 x4 x5 x6 x7 x8 K0
noncomputable def cx30_7 {R : Type} (k : Nat) : Cx R := mkCx Ty exts [(16, true, S16 k), (22, true, S22 k), (26, true, S26 k), (31, true, S31 k), (32, true, S32 k)] fi30 []
theorem cx30_7_ok {R : Type} (k : Nat) : CxOk Try.prog (cx30_7 k : Cx R) := mkCx_ok (c := ((Try.f30).body.getD .skip)) ty_ok mixed exts_ok (allSum_cons (S16_ok k) en16 (allSum_cons (S22_ok k) en22 (allSum_cons (S26_ok k) en26 (allSum_cons (S31_ok k) en31 (allSum_cons (S32_ok k) en32 allSum_nil))))) Try.func30 en30 (by kernel_rfl) (by kernel_rfl) allLoop_nil
noncomputable def L30_7G {R : Type} (plumblineref01_Div_l0 : Nat → Nat → Int → Int → Int → Int → (List Bool) → (List Bool) → Int → Int → ((List Bool) → Int → Int → Option R) → Option R) (k n : Nat) : LSum R := fun pin T H K => match pin, T, H with
  | 0, [(1, .i .u64 x1), (4, .ptr 0 0 0 0 0), (6, .sw 1), (7, .sw 2), (8, .ptr 3 0 0 0 0), (9, .i .i64 x2)], ⟨4, [(0, some ⟨0, false, .cells [.i .u64 x3, .i .u64 x4]⟩), (1, some ⟨1, false, .row [.b] x5⟩), (2, some ⟨2, false, .row [.b] x6⟩), (3, some ⟨3, false, .cells [.i .u64 x7, .i .u64 x8]⟩)]⟩ => plumblineref01_Div_l0 k n x1 x2 x3 x4 x5 x6 x7 x8 (fun q3 q4 q5 => K (.exit 0) [(4, .ptr 0 0 0 0 0), (7, .sw 1), (8, .ptr 2 0 0 0 0)] ⟨3, [(0, some ⟨0, false, .cells [.i .u64 x3, .i .u64 x4]⟩), (1, some ⟨1, false, .row [.b] q3⟩), (2, some ⟨2, false, .cells [.i .u64 q4, .i .u64 q5]⟩)]⟩)
  | _, _, _ => none
noncomputable def L30_7 {R : Type} (k n : Nat) : LSum R := L30_7G plumblineref01_Div_l0 k n
theorem plumblineref01_Div_l0_gen {R : Type} (plumblineref01_Shl : Nat → Int → Int → Int → (Int → Int → Option R) → Option R) (plumblineref01_Sub : Nat → Int → Int → Int → Int → (Int → Int → Bool → Option R) → Option R) (plumblineref01_Compare : Nat → Int → Int → Int → Int → (Int → Option R) → Option R) (plumblineref01_Bits : Nat → Int → Int → ((List Bool) → Option R) → Option R) (plumblineref01_From : Nat → (List Bool) → (Int → Int → Option R) → Option R) (plumblineref01_Div_l0 : Nat → Nat → Int → Int → Int → Int → (List Bool) → (List Bool) → Int → Int → ((List Bool) → Int → Int → Option R) → Option R) (k n : Nat) (x1 : Int) (x2 : Int) (x3 : Int) (x4 : Int) (x5 : List Bool) (x6 : List Bool) (x7 : Int) (x8 : Int) (K : Kont R) :
    codeK (mkCx Ty exts [(16, true, S16G plumblineref01_Shl k), (22, true, S22G plumblineref01_Sub k), (26, true, S26G plumblineref01_Compare k), (31, true, S31G plumblineref01_Bits k), (32, true, S32G plumblineref01_From k)] fi30 []) (run (mkCx Ty exts [(16, true, S16G plumblineref01_Shl k), (22, true, S22G plumblineref01_Sub k), (26, true, S26G plumblineref01_Compare k), (31, true, S31G plumblineref01_Bits k), (32, true, S32G plumblineref01_From k)] fi30 []) 4) 0 fi30 (loopAt ((Try.f30).body.getD .skip) 7) [(1, .i .u64 x1), (4, .ptr 0 0 0 0 0), (6, .sw 1), (7, .sw 2), (8, .ptr 3 0 0 0 0), (9, .i .i64 x2)] ⟨4, [(0, some ⟨0, false, .cells [.i .u64 x3, .i .u64 x4]⟩), (1, some ⟨1, false, .row [.b] x5⟩), (2, some ⟨2, false, .row [.b] x6⟩), (3, some ⟨3, false, .cells [.i .u64 x7, .i .u64 x8]⟩)]⟩ (fun ex T H => match (generalizing := false) ex with
      | .normal => normAt (some [1, 4, 6, 7, 8, 9]) 0 T H (fun T H => L30_7G plumblineref01_Div_l0 k n 0 T H K)
      | ex => exitNorm fi30.ann 7 0 K ex T H) =
    (fun (rec : Int → Int → Int → Int → (List Bool) → (List Bool) → Int → Int → Option R) (K0 : (List Bool) → Int → Int → Option R) =>
    cond (decide (x2 ≥ 0)) (
      plumblineref01_Shl k x7 x8 1 (fun yr1 yr2 =>
        cond (decide (0 ≤ x2)) (
          cond (decide (x2 < (((List.length x5) : Nat) : Int))) (
            Option.bind (x5[(Int.toNat x2)]?) fun ye3 =>
            cond ye3 (
              plumblineref01_Compare k yr1 (bOr .u64 yr2 1) 0 x1 (fun yr4 =>
                cond (decide (yr4 ≥ 0)) (
                  plumblineref01_Sub k yr1 (bOr .u64 yr2 1) 0 x1 (fun yr5 yr6 yr7 =>
                    cond (decide (0 ≤ x2)) (
                      cond (decide (x2 < (((List.length x6) : Nat) : Int))) (
                        Option.bind (x6[(Int.toNat x2)]?) fun ye8 =>
                        rec x1 (Wi64 (x2 - 1)) x3 x4 x5 (List.set x6 (Int.toNat x2) true) yr5 yr6) (
                        none)) (
                      none))) (
                  rec x1 (Wi64 (x2 - 1)) x3 x4 x5 x6 yr1 (bOr .u64 yr2 1)))) (
              plumblineref01_Compare k yr1 yr2 0 x1 (fun yr9 =>
                cond (decide (yr9 ≥ 0)) (
                  plumblineref01_Sub k yr1 yr2 0 x1 (fun yr10 yr11 yr12 =>
                    cond (decide (0 ≤ x2)) (
                      cond (decide (x2 < (((List.length x6) : Nat) : Int))) (
                        Option.bind (x6[(Int.toNat x2)]?) fun ye13 =>
                        rec x1 (Wi64 (x2 - 1)) x3 x4 x5 (List.set x6 (Int.toNat x2) true) yr10 yr11) (
                        none)) (
                      none))) (
                  rec x1 (Wi64 (x2 - 1)) x3 x4 x5 x6 yr1 yr2)))) (
            none)) (
          none))) (
      K0 x6 x7 x8)) (fun x1 x2 x3 x4 x5 x6 x7 x8 => plumblineref01_Div_l0 k n x1 x2 x3 x4 x5 x6 x7 x8 (fun q3 q4 q5 => K (.exit 0) [(4, .ptr 0 0 0 0 0), (7, .sw 1), (8, .ptr 2 0 0 0 0)] ⟨3, [(0, some ⟨0, false, .cells [.i .u64 x3, .i .u64 x4]⟩), (1, some ⟨1, false, .row [.b] q3⟩), (2, some ⟨2, false, .cells [.i .u64 q4, .i .u64 q5]⟩)]⟩)) (fun q3 q4 q5 => K (.exit 0) [(4, .ptr 0 0 0 0 0), (7, .sw 1), (8, .ptr 2 0 0 0 0)] ⟨3, [(0, some ⟨0, false, .cells [.i .u64 x3, .i .u64 x4]⟩), (1, some ⟨1, false, .row [.b] q3⟩), (2, some ⟨2, false, .cells [.i .u64 q4, .i .u64 q5]⟩)]⟩) := by kernel_rfl
theorem plumblineref01_Div_l0_eq {R : Type} (k n : Nat) (x1 : Int) (x2 : Int) (x3 : Int) (x4 : Int) (x5 : List Bool) (x6 : List Bool) (x7 : Int) (x8 : Int) (K : Kont R) :
    codeK (cx30_7 k) (run (cx30_7 k) 4) 0 fi30 (loopAt ((Try.f30).body.getD .skip) 7) [(1, .i .u64 x1), (4, .ptr 0 0 0 0 0), (6, .sw 1), (7, .sw 2), (8, .ptr 3 0 0 0 0), (9, .i .i64 x2)] ⟨4, [(0, some ⟨0, false, .cells [.i .u64 x3, .i .u64 x4]⟩), (1, some ⟨1, false, .row [.b] x5⟩), (2, some ⟨2, false, .row [.b] x6⟩), (3, some ⟨3, false, .cells [.i .u64 x7, .i .u64 x8]⟩)]⟩ (fun ex T H => match (generalizing := false) ex with
      | .normal => normAt (some [1, 4, 6, 7, 8, 9]) 0 T H (fun T H => L30_7 k n 0 T H K)
      | ex => exitNorm fi30.ann 7 0 K ex T H) =
    plumblineref01_Div_l0 k (n + 1) x1 x2 x3 x4 x5 x6 x7 x8 (fun q3 q4 q5 => K (.exit 0) [(4, .ptr 0 0 0 0 0), (7, .sw 1), (8, .ptr 2 0 0 0 0)] ⟨3, [(0, some ⟨0, false, .cells [.i .u64 x3, .i .u64 x4]⟩), (1, some ⟨1, false, .row [.b] q3⟩), (2, some ⟨2, false, .cells [.i .u64 q4, .i .u64 q5]⟩)]⟩) := plumblineref01_Div_l0_gen plumblineref01_Shl plumblineref01_Sub plumblineref01_Compare plumblineref01_Bits plumblineref01_From plumblineref01_Div_l0 k n x1 x2 x3 x4 x5 x6 x7 x8 K
theorem L30_7_cok {R : Type} (k : Nat) : CodeOk Try.prog (cx30_7 k : Cx R) fi30 (loopAt ((Try.f30).body.getD .skip) 7) := loopAt_ok (((cx30_7_ok k).fns 30 fi30 (by kernel_rfl)).2.2.2 ((Try.f30).body.getD .skip) (by kernel_rfl))
theorem L30_7_ok {R : Type} (k : Nat) : ∀ n, LoopOk Try.prog (Try.f30).ntmps (loopAt ((Try.f30).body.getD .skip) 7) (L30_7 k n : LSum R)
  | 0 => by
    intro pin T H K r h
    unfold L30_7 L30_7G at h
    split at h
    all_goals exact nomatch (show (none : Option R) = some r from h)
  | n + 1 => by
    intro pin T H K r h
    unfold L30_7 L30_7G at h
    split at h
    · rw [← plumblineref01_Div_l0_eq] at h
      obtain ⟨ex, T1, H1, h, hb⟩ := codeK_sound (cx30_7_ok k) (run_sound (cx30_7_ok k) 4) _ fi30 _ _ _ _ _ (L30_7_cok k) h
      exact loop_step (fun T H hh => L30_7_ok k n _ T H K r hh) hb h
    · cases h
noncomputable def cx30 {R : Type} (k : Nat) : Cx R := mkCx Ty exts [(16, true, S16 k), (22, true, S22 k), (26, true, S26 k), (31, true, S31 k), (32, true, S32 k)] fi30 [(7, L30_7 k k)]
theorem cx30_ok {R : Type} (k : Nat) : CxOk Try.prog (cx30 k : Cx R) := mkCx_ok (c := ((Try.f30).body.getD .skip)) ty_ok mixed exts_ok (allSum_cons (S16_ok k) en16 (allSum_cons (S22_ok k) en22 (allSum_cons (S26_ok k) en26 (allSum_cons (S31_ok k) en31 (allSum_cons (S32_ok k) en32 allSum_nil))))) Try.func30 en30 (by kernel_rfl) (by kernel_rfl) (allLoop_loop (by kernel_rfl) (L30_7_ok k k) allLoop_nil)
noncomputable def plumblineref01_Div {R : Type} (k : Nat) (a1 : Int) (a2 : Int) (a3 : Int) (K0 : Int → Int → Int → Option R) : Option R :=
  cond (a3 == 0) (
    K0 0 0 0) (
    plumblineref01_Bits k a1 a2 (fun r1 =>
      plumblineref01_Div_l0 k k a3 127 0 0 r1 (List.replicate 128 false) 0 0 (fun r2 r3 r4 =>
        plumblineref01_From k r2 (fun r5 r6 =>
          K0 r5 r6 r4))))
theorem plumblineref01_Div_gen {R : Type} (plumblineref01_Shl : Nat → Int → Int → Int → (Int → Int → Option R) → Option R) (plumblineref01_Sub : Nat → Int → Int → Int → Int → (Int → Int → Bool → Option R) → Option R) (plumblineref01_Compare : Nat → Int → Int → Int → Int → (Int → Option R) → Option R) (plumblineref01_Bits : Nat → Int → Int → ((List Bool) → Option R) → Option R) (plumblineref01_From : Nat → (List Bool) → (Int → Int → Option R) → Option R) (plumblineref01_Div_l0 : Nat → Nat → Int → Int → Int → Int → (List Bool) → (List Bool) → Int → Int → ((List Bool) → Int → Int → Option R) → Option R) (k : Nat) (a1 : Int) (a2 : Int) (a3 : Int) (K : AV → Heap → Option R) :
    fnK (mkCx Ty exts [(16, true, S16G plumblineref01_Shl k), (22, true, S22G plumblineref01_Sub k), (26, true, S26G plumblineref01_Compare k), (31, true, S31G plumblineref01_Bits k), (32, true, S32G plumblineref01_From k)] fi30 [(7, L30_7G plumblineref01_Div_l0 k k)]) 6 30 [.agg [.i .u64 a1, .i .u64 a2], .i .u64 a3] ⟨0, []⟩ K = (fun (K0 : Int → Int → Int → Option R) =>
    cond (a3 == 0) (
      K0 0 0 0) (
      plumblineref01_Bits k a1 a2 (fun r1 =>
        plumblineref01_Div_l0 k k a3 127 0 0 r1 (List.replicate 128 false) 0 0 (fun r2 r3 r4 =>
          plumblineref01_From k r2 (fun r5 r6 =>
            K0 r5 r6 r4))))) (fun q1 q2 q3 => K (.tup [.agg [.i .u64 q1, .i .u64 q2], .i .u64 q3]) ⟨0, []⟩) := by kernel_rfl
theorem plumblineref01_Div_eq {R : Type} (k : Nat) (a1 : Int) (a2 : Int) (a3 : Int) (K : AV → Heap → Option R) :
    fnK (cx30 k) 6 30 [.agg [.i .u64 a1, .i .u64 a2], .i .u64 a3] ⟨0, []⟩ K = plumblineref01_Div k a1 a2 a3 (fun q1 q2 q3 => K (.tup [.agg [.i .u64 q1, .i .u64 q2], .i .u64 q3]) ⟨0, []⟩) := plumblineref01_Div_gen plumblineref01_Shl plumblineref01_Sub plumblineref01_Compare plumblineref01_Bits plumblineref01_From plumblineref01_Div_l0 k a1 a2 a3 K
noncomputable def S30G {R : Type} (plumblineref01_Div : Nat → Int → Int → Int → (Int → Int → Int → Option R) → Option R) (k : Nat) : Sum R := fun args H K => match args, H with
  | [.agg [.i .u64 a1, .i .u64 a2], .i .u64 a3], ⟨0, []⟩ => plumblineref01_Div k a1 a2 a3 (fun q1 q2 q3 => K (.tup [.agg [.i .u64 q1, .i .u64 q2], .i .u64 q3]) ⟨0, []⟩)
  | _, _ => none
noncomputable def S30 {R : Type} (k : Nat) : Sum R := S30G plumblineref01_Div k
theorem S30_ok0 {R : Type} (k : Nat) : SumOk Try.prog 30 false (S30 k : Sum R) := by
  intro args H K r h
  unfold S30 S30G at h
  split at h
  · exact fnK_sound (cx30_ok k) 6 30 _ _ K r (by show fnK _ _ _ _ _ _ = _; rw [plumblineref01_Div_eq]; exact h)
  · cases h
theorem S30_ok {R : Type} (k : Nat) : SumOk Try.prog 30 true (S30 k : Sum R) := by
  refine sumOk_keep (S30_ok0 k) ?_
  intro args H K r h
  unfold S30 S30G at h ⊢
  split at h
  · refine Eq.trans ?_ h
    show plumblineref01_Div k _ _ _ _ = plumblineref01_Div k _ _ _ _
    congr 1
    all_goals first | exact (funext fun q1 => funext fun q2 => funext fun q3 => if_pos (keeps_app _ _ _ [])) | skip
  · cases h
-- function 10: plumbline/plumblinelaw01.WideParts
noncomputable def fi10 : FnI := ⟨10, Try.f10, []⟩
theorem en10 : Enters Try.prog 10 := enters_of Try.func10 (c := ((Try.f10).body.getD .skip)) (by kernel_rfl) (by kernel_rfl)
noncomputable def cx10 {R : Type} (k : Nat) : Cx R := mkCx Ty exts [(14, true, S14 k), (29, true, S29 k), (30, true, S30 k)] fi10 []
theorem cx10_ok {R : Type} (k : Nat) : CxOk Try.prog (cx10 k : Cx R) := mkCx_ok (c := ((Try.f10).body.getD .skip)) ty_ok mixed exts_ok (allSum_cons (S14_ok k) en14 (allSum_cons (S29_ok k) en29 (allSum_cons (S30_ok k) en30 allSum_nil))) Try.func10 en10 (by kernel_rfl) (by kernel_rfl) allLoop_nil
noncomputable def plumblinelaw01_WideParts {R : Type} (k : Nat) (a1 : Int) (a2 : Int) (a3 : Int) (K0 : Bool → Option R) : Option R :=
  wide_Div k a1 a2 a3 (fun r1 r2 r3 =>
    plumblineref01_Div k a1 a2 a3 (fun r4 r5 r6 =>
      plumblinelaw01_live k (fun r7 =>
        cond r7 (
          cond ((r1 == r4) && (r2 == r5)) (
            K0 (r3 == r6)) (
            K0 false)) (
          K0 false))))
theorem plumblinelaw01_WideParts_gen {R : Type} (plumblinelaw01_live : Nat → (Bool → Option R) → Option R) (wide_Div : Nat → Int → Int → Int → (Int → Int → Int → Option R) → Option R) (plumblineref01_Div : Nat → Int → Int → Int → (Int → Int → Int → Option R) → Option R) (k : Nat) (a1 : Int) (a2 : Int) (a3 : Int) (K : AV → Heap → Option R) :
    fnK (mkCx Ty exts [(14, true, S14G plumblinelaw01_live k), (29, true, S29G wide_Div k), (30, true, S30G plumblineref01_Div k)] fi10 []) 6 10 [.agg [.i .u64 a1, .i .u64 a2], .i .u64 a3] ⟨0, []⟩ K = (fun (K0 : Bool → Option R) =>
    wide_Div k a1 a2 a3 (fun r1 r2 r3 =>
      plumblineref01_Div k a1 a2 a3 (fun r4 r5 r6 =>
        plumblinelaw01_live k (fun r7 =>
          cond r7 (
            cond ((r1 == r4) && (r2 == r5)) (
              K0 (r3 == r6)) (
              K0 false)) (
            K0 false))))) (fun q1 => K (.b q1) ⟨0, []⟩) := by kernel_rfl
theorem plumblinelaw01_WideParts_eq {R : Type} (k : Nat) (a1 : Int) (a2 : Int) (a3 : Int) (K : AV → Heap → Option R) :
    fnK (cx10 k) 6 10 [.agg [.i .u64 a1, .i .u64 a2], .i .u64 a3] ⟨0, []⟩ K = plumblinelaw01_WideParts k a1 a2 a3 (fun q1 => K (.b q1) ⟨0, []⟩) := plumblinelaw01_WideParts_gen plumblinelaw01_live wide_Div plumblineref01_Div k a1 a2 a3 K
noncomputable def S10G {R : Type} (plumblinelaw01_WideParts : Nat → Int → Int → Int → (Bool → Option R) → Option R) (k : Nat) : Sum R := fun args H K => match args, H with
  | [.agg [.i .u64 a1, .i .u64 a2], .i .u64 a3], ⟨0, []⟩ => plumblinelaw01_WideParts k a1 a2 a3 (fun q1 => K (.b q1) ⟨0, []⟩)
  | _, _ => none
noncomputable def S10 {R : Type} (k : Nat) : Sum R := S10G plumblinelaw01_WideParts k
theorem S10_ok0 {R : Type} (k : Nat) : SumOk Try.prog 10 false (S10 k : Sum R) := by
  intro args H K r h
  unfold S10 S10G at h
  split at h
  · exact fnK_sound (cx10_ok k) 6 10 _ _ K r (by show fnK _ _ _ _ _ _ = _; rw [plumblinelaw01_WideParts_eq]; exact h)
  · cases h
theorem S10_ok {R : Type} (k : Nat) : SumOk Try.prog 10 true (S10 k : Sum R) := by
  refine sumOk_keep (S10_ok0 k) ?_
  intro args H K r h
  unfold S10 S10G at h ⊢
  split at h
  · refine Eq.trans ?_ h
    show plumblinelaw01_WideParts k _ _ _ _ = plumblinelaw01_WideParts k _ _ _ _
    congr 1
    all_goals first | exact (funext fun q1 => if_pos (keeps_app _ _ _ [])) | skip
  · cases h
-- function 11: plumbline/plumblinelaw01.WideBack
noncomputable def fi11 : FnI := ⟨11, Try.f11, []⟩
theorem en11 : Enters Try.prog 11 := enters_of Try.func11 (c := ((Try.f11).body.getD .skip)) (by kernel_rfl) (by kernel_rfl)
noncomputable def cx11 {R : Type} (k : Nat) : Cx R := mkCx Ty exts [(14, true, S14 k), (19, true, S19 k), (21, true, S21 k), (23, true, S23 k), (29, true, S29 k)] fi11 []
theorem cx11_ok {R : Type} (k : Nat) : CxOk Try.prog (cx11 k : Cx R) := mkCx_ok (c := ((Try.f11).body.getD .skip)) ty_ok mixed exts_ok (allSum_cons (S14_ok k) en14 (allSum_cons (S19_ok k) en19 (allSum_cons (S21_ok k) en21 (allSum_cons (S23_ok k) en23 (allSum_cons (S29_ok k) en29 allSum_nil))))) Try.func11 en11 (by kernel_rfl) (by kernel_rfl) allLoop_nil
noncomputable def plumblinelaw01_WideBack {R : Type} (k : Nat) (a1 : Int) (a2 : Int) (a3 : Int) (a4 : Int) (K0 : Bool → Option R) : Option R :=
  wide_Add k a1 a2 a3 a4 (fun r1 r2 r3 =>
    wide_Sub k r1 r2 a3 a4 (fun r4 r5 r6 =>
      cond (!((r4 == a1) && (r5 == a2))) (
        plumblinelaw01_live k (fun r7 =>
          cond r7 (
            K0 ((r4 == a1) && (r5 == a2))) (
            K0 false))) (
        cond (a4 == 0) (
          plumblinelaw01_live k (fun r8 =>
            cond r8 (
              K0 ((r4 == a1) && (r5 == a2))) (
              K0 false))) (
          wide_Div k a1 a2 a4 (fun r9 r10 r11 =>
            wide_Mul k r10 a4 (fun r12 r13 =>
              wide_Mul k r9 a4 (fun r14 r15 =>
                cond (r14 != 0) (
                  K0 false) (
                  cond (decide (r11 ≥ a4)) (
                    K0 false) (
                    wide_Add k r12 r13 r15 0 (fun r16 r17 r18 =>
                      wide_Add k r16 r17 0 r11 (fun r19 r20 r21 =>
                        plumblinelaw01_live k (fun r22 =>
                          cond r22 (
                            cond (!r18) (
                              cond (!r21) (
                                K0 ((r19 == a1) && (r20 == a2))) (
                                K0 false)) (
                              K0 false)) (
                            K0 false)))))))))))))
theorem plumblinelaw01_WideBack_gen {R : Type} (plumblinelaw01_live : Nat → (Bool → Option R) → Option R) (wide_Add : Nat → Int → Int → Int → Int → (Int → Int → Bool → Option R) → Option R) (wide_Sub : Nat → Int → Int → Int → Int → (Int → Int → Bool → Option R) → Option R) (wide_Mul : Nat → Int → Int → (Int → Int → Option R) → Option R) (wide_Div : Nat → Int → Int → Int → (Int → Int → Int → Option R) → Option R) (k : Nat) (a1 : Int) (a2 : Int) (a3 : Int) (a4 : Int) (K : AV → Heap → Option R) :
    fnK (mkCx Ty exts [(14, true, S14G plumblinelaw01_live k), (19, true, S19G wide_Add k), (21, true, S21G wide_Sub k), (23, true, S23G wide_Mul k), (29, true, S29G wide_Div k)] fi11 []) 6 11 [.agg [.i .u64 a1, .i .u64 a2], .agg [.i .u64 a3, .i .u64 a4]] ⟨0, []⟩ K = (fun (K0 : Bool → Option R) =>
    wide_Add k a1 a2 a3 a4 (fun r1 r2 r3 =>
      wide_Sub k r1 r2 a3 a4 (fun r4 r5 r6 =>
        cond (!((r4 == a1) && (r5 == a2))) (
          plumblinelaw01_live k (fun r7 =>
            cond r7 (
              K0 ((r4 == a1) && (r5 == a2))) (
              K0 false))) (
          cond (a4 == 0) (
            plumblinelaw01_live k (fun r8 =>
              cond r8 (
                K0 ((r4 == a1) && (r5 == a2))) (
                K0 false))) (
            wide_Div k a1 a2 a4 (fun r9 r10 r11 =>
              wide_Mul k r10 a4 (fun r12 r13 =>
                wide_Mul k r9 a4 (fun r14 r15 =>
                  cond (r14 != 0) (
                    K0 false) (
                    cond (decide (r11 ≥ a4)) (
                      K0 false) (
                      wide_Add k r12 r13 r15 0 (fun r16 r17 r18 =>
                        wide_Add k r16 r17 0 r11 (fun r19 r20 r21 =>
                          plumblinelaw01_live k (fun r22 =>
                            cond r22 (
                              cond (!r18) (
                                cond (!r21) (
                                  K0 ((r19 == a1) && (r20 == a2))) (
                                  K0 false)) (
                                K0 false)) (
                              K0 false)))))))))))))) (fun q1 => K (.b q1) ⟨0, []⟩) := by kernel_rfl
theorem plumblinelaw01_WideBack_eq {R : Type} (k : Nat) (a1 : Int) (a2 : Int) (a3 : Int) (a4 : Int) (K : AV → Heap → Option R) :
    fnK (cx11 k) 6 11 [.agg [.i .u64 a1, .i .u64 a2], .agg [.i .u64 a3, .i .u64 a4]] ⟨0, []⟩ K = plumblinelaw01_WideBack k a1 a2 a3 a4 (fun q1 => K (.b q1) ⟨0, []⟩) := plumblinelaw01_WideBack_gen plumblinelaw01_live wide_Add wide_Sub wide_Mul wide_Div k a1 a2 a3 a4 K
noncomputable def S11G {R : Type} (plumblinelaw01_WideBack : Nat → Int → Int → Int → Int → (Bool → Option R) → Option R) (k : Nat) : Sum R := fun args H K => match args, H with
  | [.agg [.i .u64 a1, .i .u64 a2], .agg [.i .u64 a3, .i .u64 a4]], ⟨0, []⟩ => plumblinelaw01_WideBack k a1 a2 a3 a4 (fun q1 => K (.b q1) ⟨0, []⟩)
  | _, _ => none
noncomputable def S11 {R : Type} (k : Nat) : Sum R := S11G plumblinelaw01_WideBack k
theorem S11_ok0 {R : Type} (k : Nat) : SumOk Try.prog 11 false (S11 k : Sum R) := by
  intro args H K r h
  unfold S11 S11G at h
  split at h
  · exact fnK_sound (cx11_ok k) 6 11 _ _ K r (by show fnK _ _ _ _ _ _ = _; rw [plumblinelaw01_WideBack_eq]; exact h)
  · cases h
theorem S11_ok {R : Type} (k : Nat) : SumOk Try.prog 11 true (S11 k : Sum R) := by
  refine sumOk_keep (S11_ok0 k) ?_
  intro args H K r h
  unfold S11 S11G at h ⊢
  split at h
  · refine Eq.trans ?_ h
    show plumblinelaw01_WideBack k _ _ _ _ _ = plumblinelaw01_WideBack k _ _ _ _ _
    congr 1
    all_goals first | exact (funext fun q1 => if_pos (keeps_app _ _ _ [])) | skip
  · cases h
end Go.Proofs.Ytnbmconaglehbaa.N
