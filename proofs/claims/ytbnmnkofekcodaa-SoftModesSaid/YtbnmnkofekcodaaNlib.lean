/- Printed by wip/gen/emit.py: functions of the program as plain Lean functions, tied to the model by the evaluator. Conditions: none. -/
import Derived.Test.YtbnmnkofekcodaaN0
namespace Go.Proofs.Ytbnmnkofekcodaa.N
set_option linter.unusedVariables false
set_option maxRecDepth 100000
open Go Go.Ab
-- function 80: math/bits.Len64
noncomputable def fi80 : FnI := ⟨80, Try.f80, []⟩
theorem en80 : Enters Try.prog 80 := enters_of Try.func80 (c := ((Try.f80).body.getD .skip)) (by kernel_rfl) (by kernel_rfl)
noncomputable def str_bits_Len64_0 : ByteArray := strAtN (strsOf ((Try.f80).body.getD .skip)) 0
noncomputable def cx80 {R : Type} (k : Nat) : Cx R := mkCx Ty exts [] fi80 [] []
theorem cx80_ok {R : Type} (k : Nat) : CxOk Try.prog (cx80 k : Cx R) := mkCx_ok (c := ((Try.f80).body.getD .skip)) ty_ok mixed exts_ok allSum_nil Try.func80 en80 (by kernel_rfl) (by kernel_rfl) allLoop_nil allCut_nil
@[reducible] def bits_Len64Y (R : Type) : Type := Nat → Int → (Int → Option R) → Option R
noncomputable def bits_Len64T {R : Type} (k : Nat) (a1 : Int) (K0 : Int → Option R) : Option R :=
  cond (decide (a1 ≥ 4294967296)) (
    cond (decide ((shr .u64 a1 32) ≥ 65536)) (
      cond (decide ((shr .u64 (shr .u64 a1 32) 16) ≥ 256)) (
        Option.bind (strAt str_bits_Len64_0 (Wu8 (shr .u64 (shr .u64 (shr .u64 a1 32) 16) 8))) fun c1 =>
        K0 (Wi64 (56 + (Wi64 c1)))) (
        Option.bind (strAt str_bits_Len64_0 (Wu8 (shr .u64 (shr .u64 a1 32) 16))) fun c2 =>
        K0 (Wi64 (48 + (Wi64 c2))))) (
      cond (decide ((shr .u64 a1 32) ≥ 256)) (
        Option.bind (strAt str_bits_Len64_0 (Wu8 (shr .u64 (shr .u64 a1 32) 8))) fun c3 =>
        K0 (Wi64 (40 + (Wi64 c3)))) (
        Option.bind (strAt str_bits_Len64_0 (Wu8 (shr .u64 a1 32))) fun c4 =>
        K0 (Wi64 (32 + (Wi64 c4)))))) (
    cond (decide (a1 ≥ 65536)) (
      cond (decide ((shr .u64 a1 16) ≥ 256)) (
        Option.bind (strAt str_bits_Len64_0 (Wu8 (shr .u64 (shr .u64 a1 16) 8))) fun c5 =>
        K0 (Wi64 (24 + (Wi64 c5)))) (
        Option.bind (strAt str_bits_Len64_0 (Wu8 (shr .u64 a1 16))) fun c6 =>
        K0 (Wi64 (16 + (Wi64 c6))))) (
      cond (decide (a1 ≥ 256)) (
        Option.bind (strAt str_bits_Len64_0 (Wu8 (shr .u64 a1 8))) fun c7 =>
        K0 (Wi64 (8 + (Wi64 c7)))) (
        Option.bind (strAt str_bits_Len64_0 (Wu8 a1)) fun c8 =>
        K0 (Wi64 (0 + (Wi64 c8))))))
noncomputable def bits_Len64 {R : Type} (k : Nat) (a1 : Int) (K0 : Int → Option R) : Option R := bits_Len64T k a1 K0
theorem bits_Len64_gen {R : Type} (k : Nat) (a1 : Int) (K : AV → Heap → Option R) :
    fnK (mkCx Ty exts [] fi80 [] []) 6 80 [.i .u64 a1] ⟨0, []⟩ K = bits_Len64T k a1 (fun q1 => K (.i .i64 q1) ⟨0, []⟩) := by kernel_rfl
noncomputable def S80G {R : Type} (bits_Len64 : bits_Len64Y R) (k : Nat) : Sum R := fun args H K => match args, H with
  | [.i .u64 a1], ⟨0, []⟩ => bits_Len64 k a1 (fun q1 => K (.i .i64 q1) ⟨0, []⟩)
  | _, _ => none
noncomputable def S80 {R : Type} (k : Nat) : Sum R := S80G bits_Len64 k
theorem S80_ok0 {R : Type} (k : Nat) : SumOk Try.prog 80 false (S80 k : Sum R) := by
  intro args H K r h
  unfold S80 S80G at h
  split at h
  · exact fnK_sound (cx80_ok k) 6 80 _ _ K r ((bits_Len64_gen k _ K).trans h)
  · cases h
theorem S80_ok {R : Type} (k : Nat) : SumOk Try.prog 80 true (S80 k : Sum R) := by
  refine sumOk_keep (S80_ok0 k) ?_
  intro args H K r h
  unfold S80 S80G at h ⊢
  split at h
  · refine Eq.trans ?_ h
    show bits_Len64 k _ _ = bits_Len64 k _ _
    congr 1
    all_goals first | exact (funext fun q1 => if_pos (keeps_app _ _ _ [])) | skip
  · cases h
-- function 94: math/bits.LeadingZeros64
noncomputable def fi94 : FnI := ⟨94, Try.f94, []⟩
theorem en94 : Enters Try.prog 94 := enters_of Try.func94 (c := ((Try.f94).body.getD .skip)) (by kernel_rfl) (by kernel_rfl)
noncomputable def cx94 {R : Type} (k : Nat) : Cx R := mkCx Ty exts [(80, true, S80 k)] fi94 [] []
theorem cx94_ok {R : Type} (k : Nat) : CxOk Try.prog (cx94 k : Cx R) := mkCx_ok (c := ((Try.f94).body.getD .skip)) ty_ok mixed exts_ok (allSum_cons (S80_ok k) en80 allSum_nil) Try.func94 en94 (by kernel_rfl) (by kernel_rfl) allLoop_nil allCut_nil
@[reducible] def bits_LeadingZeros64Y (R : Type) : Type := Nat → Int → (Int → Option R) → Option R
noncomputable def bits_LeadingZeros64T {R : Type} (bits_Len64 : bits_Len64Y R) (k : Nat) (a1 : Int) (K0 : Int → Option R) : Option R :=
  bits_Len64 k a1 (fun r1 =>
    K0 (Wi64 (64 - r1)))
noncomputable def bits_LeadingZeros64 {R : Type} (k : Nat) (a1 : Int) (K0 : Int → Option R) : Option R := bits_LeadingZeros64T bits_Len64 k a1 K0
theorem bits_LeadingZeros64_gen {R : Type} (bits_Len64 : bits_Len64Y R) (k : Nat) (a1 : Int) (K : AV → Heap → Option R) :
    fnK (mkCx Ty exts [(80, true, S80G bits_Len64 k)] fi94 [] []) 6 94 [.i .u64 a1] ⟨0, []⟩ K = bits_LeadingZeros64T bits_Len64 k a1 (fun q1 => K (.i .i64 q1) ⟨0, []⟩) := by kernel_rfl
noncomputable def S94G {R : Type} (bits_LeadingZeros64 : bits_LeadingZeros64Y R) (k : Nat) : Sum R := fun args H K => match args, H with
  | [.i .u64 a1], ⟨0, []⟩ => bits_LeadingZeros64 k a1 (fun q1 => K (.i .i64 q1) ⟨0, []⟩)
  | _, _ => none
noncomputable def S94 {R : Type} (k : Nat) : Sum R := S94G bits_LeadingZeros64 k
theorem S94_ok0 {R : Type} (k : Nat) : SumOk Try.prog 94 false (S94 k : Sum R) := by
  intro args H K r h
  unfold S94 S94G at h
  split at h
  · exact fnK_sound (cx94_ok k) 6 94 _ _ K r ((bits_LeadingZeros64_gen bits_Len64 k _ K).trans h)
  · cases h
theorem S94_ok {R : Type} (k : Nat) : SumOk Try.prog 94 true (S94 k : Sum R) := by
  refine sumOk_keep (S94_ok0 k) ?_
  intro args H K r h
  unfold S94 S94G at h ⊢
  split at h
  · refine Eq.trans ?_ h
    show bits_LeadingZeros64 k _ _ = bits_LeadingZeros64 k _ _
    congr 1
    all_goals first | exact (funext fun q1 => if_pos (keeps_app _ _ _ [])) | skip
  · cases h
-- function 81: math/bits.Div64
noncomputable def fi81 : FnI := ⟨81, Try.f81, [(100017, [2, 8, 9, 10, 11, 13, 14, 15, 16]), (100024, [2, 8, 9, 10, 14, 15, 16, 17, 18]), (3017000, [2, 8, 9, 10, 11, 13, 14, 15]), (3024002, [2, 8, 14, 15, 17, 18])]⟩
theorem en81 : Enters Try.prog 81 := enters_of Try.func81 (c := ((Try.f81).body.getD .skip)) (by kernel_rfl) (by kernel_rfl)
@[reducible] def bits_Div64_l0Y (R : Type) : Type := Nat → Nat → Int → Int → Int → Int → Int → Int → Int → Int → Int → (Int → Option R) → Option R
noncomputable def bits_Div64_l0B {R : Type} (k : Nat) (rec : Int → Int → Int → Int → Int → Int → Int → Int → Int → Option R) (x1 : Int) (x2 : Int) (x3 : Int) (x4 : Int) (x5 : Int) (x6 : Int) (x7 : Int) (x8 : Int) (x9 : Int) (K0 : Int → Option R) : Option R :=
  cond (decide (x8 ≥ 4294967296)) (
    cond (decide ((Wu64 (x9 + x3)) ≥ 4294967296)) (
      K0 (Wu64 (x8 - 1))) (
      rec x1 x2 x3 x4 x5 x6 x7 (Wu64 (x8 - 1)) (Wu64 (x9 + x3)))) (
    cond (decide ((Wu64 (x8 * x4)) > (Wu64 ((Wu64 (4294967296 * x9)) + x6)))) (
      cond (decide ((Wu64 (x9 + x3)) ≥ 4294967296)) (
        K0 (Wu64 (x8 - 1))) (
        rec x1 x2 x3 x4 x5 x6 x7 (Wu64 (x8 - 1)) (Wu64 (x9 + x3)))) (
      K0 x8))
noncomputable def bits_Div64_l0 {R : Type} (k : Nat) : Nat → Int → Int → Int → Int → Int → Int → Int → Int → Int → (Int → Option R) → Option R
  | 0, _, _, _, _, _, _, _, _, _, _ => none
  | n + 1, x1, x2, x3, x4, x5, x6, x7, x8, x9, K0 => bits_Div64_l0B k (fun x1 x2 x3 x4 x5 x6 x7 x8 x9 => bits_Div64_l0 k n x1 x2 x3 x4 x5 x6 x7 x8 x9 K0) x1 x2 x3 x4 x5 x6 x7 x8 x9 K0
noncomputable def cx81_17 {R : Type} (k : Nat) : Cx R := mkCx Ty exts [(94, true, S94 k)] fi81 [] []
theorem cx81_17_ok {R : Type} (k : Nat) : CxOk Try.prog (cx81_17 k : Cx R) := mkCx_ok (c := ((Try.f81).body.getD .skip)) ty_ok mixed exts_ok (allSum_cons (S94_ok k) en94 allSum_nil) Try.func81 en81 (by kernel_rfl) (by kernel_rfl) allLoop_nil allCut_nil
noncomputable def L81_17G {R : Type} (bits_Div64_l0 : bits_Div64_l0Y R) (k n : Nat) : LSum R := fun pin T H K => match pin, T, H with
  | 0, [(2, .i .u64 x1), (8, .i .u64 x2), (9, .i .u64 x3), (10, .i .u64 x4), (11, .i .u64 x5), (13, .i .u64 x6), (14, .i .u64 x7), (15, .i .u64 x8), (16, .i .u64 x9)], ⟨0, []⟩ => bits_Div64_l0 k n x1 x2 x3 x4 x5 x6 x7 x8 x9 (fun q8 => K (.exit 0) [(2, .i .u64 x1), (8, .i .u64 x2), (9, .i .u64 x3), (10, .i .u64 x4), (11, .i .u64 x5), (13, .i .u64 x6), (14, .i .u64 x7), (15, .i .u64 q8)] ⟨0, []⟩)
  | _, _, _ => none
noncomputable def L81_17 {R : Type} (k n : Nat) : LSum R := L81_17G bits_Div64_l0 k n
theorem bits_Div64_l0_gen {R : Type} (bits_LeadingZeros64 : bits_LeadingZeros64Y R) (bits_Div64_l0 : bits_Div64_l0Y R) (k n : Nat) (x1 : Int) (x2 : Int) (x3 : Int) (x4 : Int) (x5 : Int) (x6 : Int) (x7 : Int) (x8 : Int) (x9 : Int) (K : Kont R) :
    (fun C => codeK C (run C 4)) (mkCx Ty exts [(94, true, S94G bits_LeadingZeros64 k)] fi81 [] []) 0 fi81 (loopAt ((Try.f81).body.getD .skip) 17) [(2, .i .u64 x1), (8, .i .u64 x2), (9, .i .u64 x3), (10, .i .u64 x4), (11, .i .u64 x5), (13, .i .u64 x6), (14, .i .u64 x7), (15, .i .u64 x8), (16, .i .u64 x9)] ⟨0, []⟩ (fun ex T H => match (generalizing := false) ex with
      | .normal => normAt (some [2, 8, 9, 10, 11, 13, 14, 15, 16]) 0 T H (fun T H => L81_17G bits_Div64_l0 k n 0 T H K)
      | ex => exitNorm fi81.ann 17 0 K ex T H) =
    bits_Div64_l0B k (fun x1 x2 x3 x4 x5 x6 x7 x8 x9 => bits_Div64_l0 k n x1 x2 x3 x4 x5 x6 x7 x8 x9 (fun q8 => K (.exit 0) [(2, .i .u64 x1), (8, .i .u64 x2), (9, .i .u64 x3), (10, .i .u64 x4), (11, .i .u64 x5), (13, .i .u64 x6), (14, .i .u64 x7), (15, .i .u64 q8)] ⟨0, []⟩)) x1 x2 x3 x4 x5 x6 x7 x8 x9 (fun q8 => K (.exit 0) [(2, .i .u64 x1), (8, .i .u64 x2), (9, .i .u64 x3), (10, .i .u64 x4), (11, .i .u64 x5), (13, .i .u64 x6), (14, .i .u64 x7), (15, .i .u64 q8)] ⟨0, []⟩) := by kernel_rfl
theorem L81_17_cok {R : Type} (k : Nat) : CodeOk Try.prog (cx81_17 k : Cx R) fi81 (loopAt ((Try.f81).body.getD .skip) 17) := loopAt_ok (((cx81_17_ok k).fns 81 fi81 (by kernel_rfl)).2.2.2 ((Try.f81).body.getD .skip) (by kernel_rfl))
theorem L81_17_ok {R : Type} (k : Nat) : ∀ n, LoopOk Try.prog (Try.f81).ntmps (loopAt ((Try.f81).body.getD .skip) 17) (L81_17 k n : LSum R)
  | 0 => by
    intro pin T H K r h
    unfold L81_17 L81_17G at h
    split at h
    all_goals exact nomatch (show (none : Option R) = some r from h)
  | n + 1 => by
    intro pin T H K r h
    unfold L81_17 L81_17G at h
    split at h
    · obtain ⟨ex, T1, H1, h, hb⟩ := codeK_sound (cx81_17_ok k) (run_sound (cx81_17_ok k) 4) _ fi81 _ _ _ _ _ (L81_17_cok k) ((bits_Div64_l0_gen bits_LeadingZeros64 bits_Div64_l0 k n _ _ _ _ _ _ _ _ _ K).trans h)
      exact loop_step (fun T H hh => L81_17_ok k n _ T H K r hh) hb h
    · cases h
@[reducible] def bits_Div64_l1Y (R : Type) : Type := Nat → Nat → Int → Int → Int → Int → Int → Int → Int → Int → Int → (Int → Option R) → Option R
noncomputable def bits_Div64_l1B {R : Type} (k : Nat) (rec : Int → Int → Int → Int → Int → Int → Int → Int → Int → Option R) (x1 : Int) (x2 : Int) (x3 : Int) (x4 : Int) (x5 : Int) (x6 : Int) (x7 : Int) (x8 : Int) (x9 : Int) (K0 : Int → Option R) : Option R :=
  cond (decide (x9 ≥ 4294967296)) (
    cond (decide ((Wu64 (x7 + x3)) ≥ 4294967296)) (
      K0 (Wu64 (x9 - 1))) (
      rec x1 x2 x3 x4 x5 x6 (Wu64 (x7 + x3)) x8 (Wu64 (x9 - 1)))) (
    cond (decide ((Wu64 (x9 * x4)) > (Wu64 ((Wu64 (4294967296 * x7)) + x5)))) (
      cond (decide ((Wu64 (x7 + x3)) ≥ 4294967296)) (
        K0 (Wu64 (x9 - 1))) (
        rec x1 x2 x3 x4 x5 x6 (Wu64 (x7 + x3)) x8 (Wu64 (x9 - 1)))) (
      K0 x9))
noncomputable def bits_Div64_l1 {R : Type} (k : Nat) : Nat → Int → Int → Int → Int → Int → Int → Int → Int → Int → (Int → Option R) → Option R
  | 0, _, _, _, _, _, _, _, _, _, _ => none
  | n + 1, x1, x2, x3, x4, x5, x6, x7, x8, x9, K0 => bits_Div64_l1B k (fun x1 x2 x3 x4 x5 x6 x7 x8 x9 => bits_Div64_l1 k n x1 x2 x3 x4 x5 x6 x7 x8 x9 K0) x1 x2 x3 x4 x5 x6 x7 x8 x9 K0
noncomputable def cx81_24 {R : Type} (k : Nat) : Cx R := mkCx Ty exts [(94, true, S94 k)] fi81 [(17, L81_17 k k)] []
theorem cx81_24_ok {R : Type} (k : Nat) : CxOk Try.prog (cx81_24 k : Cx R) := mkCx_ok (c := ((Try.f81).body.getD .skip)) ty_ok mixed exts_ok (allSum_cons (S94_ok k) en94 allSum_nil) Try.func81 en81 (by kernel_rfl) (by kernel_rfl) (allLoop_loop (by kernel_rfl) (L81_17_ok k k) allLoop_nil) allCut_nil
noncomputable def L81_24G {R : Type} (bits_Div64_l1 : bits_Div64_l1Y R) (k n : Nat) : LSum R := fun pin T H K => match pin, T, H with
  | 0, [(2, .i .u64 x1), (8, .i .u64 x2), (9, .i .u64 x3), (10, .i .u64 x4), (14, .i .u64 x5), (15, .i .u64 x6), (16, .i .u64 x7), (17, .i .u64 x8), (18, .i .u64 x9)], ⟨0, []⟩ => bits_Div64_l1 k n x1 x2 x3 x4 x5 x6 x7 x8 x9 (fun q6 => K (.exit 2) [(2, .i .u64 x1), (8, .i .u64 x2), (14, .i .u64 x5), (15, .i .u64 x6), (17, .i .u64 x8), (18, .i .u64 q6)] ⟨0, []⟩)
  | _, _, _ => none
noncomputable def L81_24 {R : Type} (k n : Nat) : LSum R := L81_24G bits_Div64_l1 k n
theorem bits_Div64_l1_gen {R : Type} (bits_LeadingZeros64 : bits_LeadingZeros64Y R) (bits_Div64_l0 : bits_Div64_l0Y R) (bits_Div64_l1 : bits_Div64_l1Y R) (k n : Nat) (x1 : Int) (x2 : Int) (x3 : Int) (x4 : Int) (x5 : Int) (x6 : Int) (x7 : Int) (x8 : Int) (x9 : Int) (K : Kont R) :
    (fun C => codeK C (run C 4)) (mkCx Ty exts [(94, true, S94G bits_LeadingZeros64 k)] fi81 [(17, L81_17G bits_Div64_l0 k k)] []) 0 fi81 (loopAt ((Try.f81).body.getD .skip) 24) [(2, .i .u64 x1), (8, .i .u64 x2), (9, .i .u64 x3), (10, .i .u64 x4), (14, .i .u64 x5), (15, .i .u64 x6), (16, .i .u64 x7), (17, .i .u64 x8), (18, .i .u64 x9)] ⟨0, []⟩ (fun ex T H => match (generalizing := false) ex with
      | .normal => normAt (some [2, 8, 9, 10, 14, 15, 16, 17, 18]) 0 T H (fun T H => L81_24G bits_Div64_l1 k n 0 T H K)
      | ex => exitNorm fi81.ann 24 0 K ex T H) =
    bits_Div64_l1B k (fun x1 x2 x3 x4 x5 x6 x7 x8 x9 => bits_Div64_l1 k n x1 x2 x3 x4 x5 x6 x7 x8 x9 (fun q6 => K (.exit 2) [(2, .i .u64 x1), (8, .i .u64 x2), (14, .i .u64 x5), (15, .i .u64 x6), (17, .i .u64 x8), (18, .i .u64 q6)] ⟨0, []⟩)) x1 x2 x3 x4 x5 x6 x7 x8 x9 (fun q6 => K (.exit 2) [(2, .i .u64 x1), (8, .i .u64 x2), (14, .i .u64 x5), (15, .i .u64 x6), (17, .i .u64 x8), (18, .i .u64 q6)] ⟨0, []⟩) := by kernel_rfl
theorem L81_24_cok {R : Type} (k : Nat) : CodeOk Try.prog (cx81_24 k : Cx R) fi81 (loopAt ((Try.f81).body.getD .skip) 24) := loopAt_ok (((cx81_24_ok k).fns 81 fi81 (by kernel_rfl)).2.2.2 ((Try.f81).body.getD .skip) (by kernel_rfl))
theorem L81_24_ok {R : Type} (k : Nat) : ∀ n, LoopOk Try.prog (Try.f81).ntmps (loopAt ((Try.f81).body.getD .skip) 24) (L81_24 k n : LSum R)
  | 0 => by
    intro pin T H K r h
    unfold L81_24 L81_24G at h
    split at h
    all_goals exact nomatch (show (none : Option R) = some r from h)
  | n + 1 => by
    intro pin T H K r h
    unfold L81_24 L81_24G at h
    split at h
    · obtain ⟨ex, T1, H1, h, hb⟩ := codeK_sound (cx81_24_ok k) (run_sound (cx81_24_ok k) 4) _ fi81 _ _ _ _ _ (L81_24_cok k) ((bits_Div64_l1_gen bits_LeadingZeros64 bits_Div64_l0 bits_Div64_l1 k n _ _ _ _ _ _ _ _ _ K).trans h)
      exact loop_step (fun T H hh => L81_24_ok k n _ T H K r hh) hb h
    · cases h
noncomputable def cx81 {R : Type} (k : Nat) : Cx R := mkCx Ty exts [(94, true, S94 k)] fi81 [(17, L81_17 k k), (24, L81_24 k k)] []
theorem cx81_ok {R : Type} (k : Nat) : CxOk Try.prog (cx81 k : Cx R) := mkCx_ok (c := ((Try.f81).body.getD .skip)) ty_ok mixed exts_ok (allSum_cons (S94_ok k) en94 allSum_nil) Try.func81 en81 (by kernel_rfl) (by kernel_rfl) (allLoop_loop (by kernel_rfl) (L81_17_ok k k) (allLoop_loop (by kernel_rfl) (L81_24_ok k k) allLoop_nil)) allCut_nil
@[reducible] def bits_Div64Y (R : Type) : Type := Nat → Int → Int → Int → (Int → Int → Option R) → Option R
noncomputable def bits_Div64T {R : Type} (bits_Div64_l0 : bits_Div64_l0Y R) (bits_Div64_l1 : bits_Div64_l1Y R) (bits_LeadingZeros64 : bits_LeadingZeros64Y R) (k : Nat) (a1 : Int) (a2 : Int) (a3 : Int) (K0 : Int → Int → Option R) : Option R :=
  cond (a3 == 0) (
    none) (
    cond (decide (a3 ≤ a1)) (
      none) (
      cond (a1 == 0) (
        cond (decide (a3 = 0)) (
          none) (
          cond (decide (a3 = 0)) (
            none) (
            K0 (Wu64 (Int.tdiv a2 a3)) (Int.tmod a2 a3)))) (
        bits_LeadingZeros64 k a3 (fun r1 =>
          cond (decide ((Wu64 r1) < 0)) (
            none) (
            cond (decide ((Wu64 r1) < 0)) (
              none) (
              cond (decide ((Wu64 (64 - (Wu64 r1))) < 0)) (
                none) (
                cond (decide ((Wu64 r1) < 0)) (
                  none) (
                  cond (decide ((shr .u64 (shl .u64 a3 (Wu64 r1)) 32) = 0)) (
                    none) (
                    bits_Div64_l0 k k (shl .u64 a3 (Wu64 r1)) (Wu64 r1) (shr .u64 (shl .u64 a3 (Wu64 r1)) 32) (bAnd .u64 (shl .u64 a3 (Wu64 r1)) 4294967295) (bOr .u64 (shl .u64 a1 (Wu64 r1)) (shr .u64 a2 (Wu64 (64 - (Wu64 r1))))) (shr .u64 (shl .u64 a2 (Wu64 r1)) 32) (bAnd .u64 (shl .u64 a2 (Wu64 r1)) 4294967295) (Wu64 (Int.tdiv (bOr .u64 (shl .u64 a1 (Wu64 r1)) (shr .u64 a2 (Wu64 (64 - (Wu64 r1))))) (shr .u64 (shl .u64 a3 (Wu64 r1)) 32))) (Wu64 ((bOr .u64 (shl .u64 a1 (Wu64 r1)) (shr .u64 a2 (Wu64 (64 - (Wu64 r1))))) - (Wu64 ((Wu64 (Int.tdiv (bOr .u64 (shl .u64 a1 (Wu64 r1)) (shr .u64 a2 (Wu64 (64 - (Wu64 r1))))) (shr .u64 (shl .u64 a3 (Wu64 r1)) 32))) * (shr .u64 (shl .u64 a3 (Wu64 r1)) 32))))) (fun r2 =>
                      cond (decide ((shr .u64 (shl .u64 a3 (Wu64 r1)) 32) = 0)) (
                        none) (
                        bits_Div64_l1 k k (shl .u64 a3 (Wu64 r1)) (Wu64 r1) (shr .u64 (shl .u64 a3 (Wu64 r1)) 32) (bAnd .u64 (shl .u64 a3 (Wu64 r1)) 4294967295) (bAnd .u64 (shl .u64 a2 (Wu64 r1)) 4294967295) r2 (Wu64 ((Wu64 ((Wu64 ((Wu64 ((bOr .u64 (shl .u64 a1 (Wu64 r1)) (shr .u64 a2 (Wu64 (64 - (Wu64 r1))))) * 4294967296)) + (shr .u64 (shl .u64 a2 (Wu64 r1)) 32))) - (Wu64 (r2 * (shl .u64 a3 (Wu64 r1)))))) - (Wu64 ((Wu64 (Int.tdiv (Wu64 ((Wu64 ((Wu64 ((bOr .u64 (shl .u64 a1 (Wu64 r1)) (shr .u64 a2 (Wu64 (64 - (Wu64 r1))))) * 4294967296)) + (shr .u64 (shl .u64 a2 (Wu64 r1)) 32))) - (Wu64 (r2 * (shl .u64 a3 (Wu64 r1)))))) (shr .u64 (shl .u64 a3 (Wu64 r1)) 32))) * (shr .u64 (shl .u64 a3 (Wu64 r1)) 32))))) (Wu64 ((Wu64 ((Wu64 ((bOr .u64 (shl .u64 a1 (Wu64 r1)) (shr .u64 a2 (Wu64 (64 - (Wu64 r1))))) * 4294967296)) + (shr .u64 (shl .u64 a2 (Wu64 r1)) 32))) - (Wu64 (r2 * (shl .u64 a3 (Wu64 r1)))))) (Wu64 (Int.tdiv (Wu64 ((Wu64 ((Wu64 ((bOr .u64 (shl .u64 a1 (Wu64 r1)) (shr .u64 a2 (Wu64 (64 - (Wu64 r1))))) * 4294967296)) + (shr .u64 (shl .u64 a2 (Wu64 r1)) 32))) - (Wu64 (r2 * (shl .u64 a3 (Wu64 r1)))))) (shr .u64 (shl .u64 a3 (Wu64 r1)) 32))) (fun r3 =>
                          cond (decide ((Wu64 r1) < 0)) (
                            none) (
                            K0 (Wu64 ((Wu64 (r2 * 4294967296)) + r3)) (shr .u64 (Wu64 ((Wu64 ((Wu64 ((Wu64 ((Wu64 ((Wu64 ((bOr .u64 (shl .u64 a1 (Wu64 r1)) (shr .u64 a2 (Wu64 (64 - (Wu64 r1))))) * 4294967296)) + (shr .u64 (shl .u64 a2 (Wu64 r1)) 32))) - (Wu64 (r2 * (shl .u64 a3 (Wu64 r1)))))) * 4294967296)) + (bAnd .u64 (shl .u64 a2 (Wu64 r1)) 4294967295))) - (Wu64 (r3 * (shl .u64 a3 (Wu64 r1)))))) (Wu64 r1)))))))))))))))
noncomputable def bits_Div64 {R : Type} (k : Nat) (a1 : Int) (a2 : Int) (a3 : Int) (K0 : Int → Int → Option R) : Option R := bits_Div64T bits_Div64_l0 bits_Div64_l1 bits_LeadingZeros64 k a1 a2 a3 K0
theorem bits_Div64_gen {R : Type} (bits_LeadingZeros64 : bits_LeadingZeros64Y R) (bits_Div64_l0 : bits_Div64_l0Y R) (bits_Div64_l1 : bits_Div64_l1Y R) (k : Nat) (a1 : Int) (a2 : Int) (a3 : Int) (K : AV → Heap → Option R) :
    fnK (mkCx Ty exts [(94, true, S94G bits_LeadingZeros64 k)] fi81 [(17, L81_17G bits_Div64_l0 k k), (24, L81_24G bits_Div64_l1 k k)] []) 6 81 [.i .u64 a1, .i .u64 a2, .i .u64 a3] ⟨0, []⟩ K = bits_Div64T bits_Div64_l0 bits_Div64_l1 bits_LeadingZeros64 k a1 a2 a3 (fun q1 q2 => K (.tup [.i .u64 q1, .i .u64 q2]) ⟨0, []⟩) := by kernel_rfl
noncomputable def S81G {R : Type} (bits_Div64 : bits_Div64Y R) (k : Nat) : Sum R := fun args H K => match args, H with
  | [.i .u64 a1, .i .u64 a2, .i .u64 a3], ⟨0, []⟩ => bits_Div64 k a1 a2 a3 (fun q1 q2 => K (.tup [.i .u64 q1, .i .u64 q2]) ⟨0, []⟩)
  | _, _ => none
noncomputable def S81 {R : Type} (k : Nat) : Sum R := S81G bits_Div64 k
theorem S81_ok0 {R : Type} (k : Nat) : SumOk Try.prog 81 false (S81 k : Sum R) := by
  intro args H K r h
  unfold S81 S81G at h
  split at h
  · exact fnK_sound (cx81_ok k) 6 81 _ _ K r ((bits_Div64_gen bits_LeadingZeros64 bits_Div64_l0 bits_Div64_l1 k _ _ _ K).trans h)
  · cases h
theorem S81_ok {R : Type} (k : Nat) : SumOk Try.prog 81 true (S81 k : Sum R) := by
  refine sumOk_keep (S81_ok0 k) ?_
  intro args H K r h
  unfold S81 S81G at h ⊢
  split at h
  · refine Eq.trans ?_ h
    show bits_Div64 k _ _ _ _ = bits_Div64 k _ _ _ _
    congr 1
    all_goals first | exact (funext fun q1 => funext fun q2 => if_pos (keeps_app _ _ _ [])) | skip
  · cases h
-- function 91: cmp.isNaN[int64]
noncomputable def fi91 : FnI := ⟨91, Try.f91, []⟩
theorem en91 : Enters Try.prog 91 := enters_of Try.func91 (c := ((Try.f91).body.getD .skip)) (by kernel_rfl) (by kernel_rfl)
noncomputable def cx91 {R : Type} (k : Nat) : Cx R := mkCx Ty exts [] fi91 [] []
theorem cx91_ok {R : Type} (k : Nat) : CxOk Try.prog (cx91 k : Cx R) := mkCx_ok (c := ((Try.f91).body.getD .skip)) ty_ok mixed exts_ok allSum_nil Try.func91 en91 (by kernel_rfl) (by kernel_rfl) allLoop_nil allCut_nil
@[reducible] def cmp_isNaN_int64Y (R : Type) : Type := Nat → Int → (Bool → Option R) → Option R
noncomputable def cmp_isNaN_int64T {R : Type} (k : Nat) (a1 : Int) (K0 : Bool → Option R) : Option R :=
  K0 (a1 != a1)
noncomputable def cmp_isNaN_int64 {R : Type} (k : Nat) (a1 : Int) (K0 : Bool → Option R) : Option R := cmp_isNaN_int64T k a1 K0
theorem cmp_isNaN_int64_gen {R : Type} (k : Nat) (a1 : Int) (K : AV → Heap → Option R) :
    fnK (mkCx Ty exts [] fi91 [] []) 6 91 [.i .i64 a1] ⟨0, []⟩ K = cmp_isNaN_int64T k a1 (fun q1 => K (.b q1) ⟨0, []⟩) := by kernel_rfl
noncomputable def S91G {R : Type} (cmp_isNaN_int64 : cmp_isNaN_int64Y R) (k : Nat) : Sum R := fun args H K => match args, H with
  | [.i .i64 a1], ⟨0, []⟩ => cmp_isNaN_int64 k a1 (fun q1 => K (.b q1) ⟨0, []⟩)
  | _, _ => none
noncomputable def S91 {R : Type} (k : Nat) : Sum R := S91G cmp_isNaN_int64 k
theorem S91_ok0 {R : Type} (k : Nat) : SumOk Try.prog 91 false (S91 k : Sum R) := by
  intro args H K r h
  unfold S91 S91G at h
  split at h
  · exact fnK_sound (cx91_ok k) 6 91 _ _ K r ((cmp_isNaN_int64_gen k _ K).trans h)
  · cases h
theorem S91_ok {R : Type} (k : Nat) : SumOk Try.prog 91 true (S91 k : Sum R) := by
  refine sumOk_keep (S91_ok0 k) ?_
  intro args H K r h
  unfold S91 S91G at h ⊢
  split at h
  · refine Eq.trans ?_ h
    show cmp_isNaN_int64 k _ _ = cmp_isNaN_int64 k _ _
    congr 1
    all_goals first | exact (funext fun q1 => if_pos (keeps_app _ _ _ [])) | skip
  · cases h
-- function 72: cmp.Compare[int64]
noncomputable def fi72 : FnI := ⟨72, Try.f72, []⟩
theorem en72 : Enters Try.prog 72 := enters_of Try.func72 (c := ((Try.f72).body.getD .skip)) (by kernel_rfl) (by kernel_rfl)
noncomputable def cx72 {R : Type} (k : Nat) : Cx R := mkCx Ty exts [(91, true, S91 k)] fi72 [] []
theorem cx72_ok {R : Type} (k : Nat) : CxOk Try.prog (cx72 k : Cx R) := mkCx_ok (c := ((Try.f72).body.getD .skip)) ty_ok mixed exts_ok (allSum_cons (S91_ok k) en91 allSum_nil) Try.func72 en72 (by kernel_rfl) (by kernel_rfl) allLoop_nil allCut_nil
@[reducible] def cmp_Compare_int64Y (R : Type) : Type := Nat → Int → Int → (Int → Option R) → Option R
noncomputable def cmp_Compare_int64T {R : Type} (cmp_isNaN_int64 : cmp_isNaN_int64Y R) (k : Nat) (a1 : Int) (a2 : Int) (K0 : Int → Option R) : Option R :=
  cmp_isNaN_int64 k a1 (fun r1 =>
    cmp_isNaN_int64 k a2 (fun r2 =>
      cond r1 (
        cond r2 (
          K0 0) (
          K0 (-1))) (
        cond r2 (
          K0 1) (
          cond (decide (a1 < a2)) (
            K0 (-1)) (
            cond (decide (a1 > a2)) (
              K0 1) (
              K0 0))))))
noncomputable def cmp_Compare_int64 {R : Type} (k : Nat) (a1 : Int) (a2 : Int) (K0 : Int → Option R) : Option R := cmp_Compare_int64T cmp_isNaN_int64 k a1 a2 K0
theorem cmp_Compare_int64_gen {R : Type} (cmp_isNaN_int64 : cmp_isNaN_int64Y R) (k : Nat) (a1 : Int) (a2 : Int) (K : AV → Heap → Option R) :
    fnK (mkCx Ty exts [(91, true, S91G cmp_isNaN_int64 k)] fi72 [] []) 6 72 [.i .i64 a1, .i .i64 a2] ⟨0, []⟩ K = cmp_Compare_int64T cmp_isNaN_int64 k a1 a2 (fun q1 => K (.i .i64 q1) ⟨0, []⟩) := by kernel_rfl
noncomputable def S72G {R : Type} (cmp_Compare_int64 : cmp_Compare_int64Y R) (k : Nat) : Sum R := fun args H K => match args, H with
  | [.i .i64 a1, .i .i64 a2], ⟨0, []⟩ => cmp_Compare_int64 k a1 a2 (fun q1 => K (.i .i64 q1) ⟨0, []⟩)
  | _, _ => none
noncomputable def S72 {R : Type} (k : Nat) : Sum R := S72G cmp_Compare_int64 k
theorem S72_ok0 {R : Type} (k : Nat) : SumOk Try.prog 72 false (S72 k : Sum R) := by
  intro args H K r h
  unfold S72 S72G at h
  split at h
  · exact fnK_sound (cx72_ok k) 6 72 _ _ K r ((cmp_Compare_int64_gen cmp_isNaN_int64 k _ _ K).trans h)
  · cases h
theorem S72_ok {R : Type} (k : Nat) : SumOk Try.prog 72 true (S72 k : Sum R) := by
  refine sumOk_keep (S72_ok0 k) ?_
  intro args H K r h
  unfold S72 S72G at h ⊢
  split at h
  · refine Eq.trans ?_ h
    show cmp_Compare_int64 k _ _ _ = cmp_Compare_int64 k _ _ _
    congr 1
    all_goals first | exact (funext fun q1 => if_pos (keeps_app _ _ _ [])) | skip
  · cases h
-- function 89: math/bits.Mul64
noncomputable def fi89 : FnI := ⟨89, Try.f89, []⟩
theorem en89 : Enters Try.prog 89 := enters_of Try.func89 (c := ((Try.f89).body.getD .skip)) (by kernel_rfl) (by kernel_rfl)
noncomputable def cx89 {R : Type} (k : Nat) : Cx R := mkCx Ty exts [] fi89 [] []
theorem cx89_ok {R : Type} (k : Nat) : CxOk Try.prog (cx89 k : Cx R) := mkCx_ok (c := ((Try.f89).body.getD .skip)) ty_ok mixed exts_ok allSum_nil Try.func89 en89 (by kernel_rfl) (by kernel_rfl) allLoop_nil allCut_nil
@[reducible] def bits_Mul64Y (R : Type) : Type := Nat → Int → Int → (Int → Int → Option R) → Option R
noncomputable def bits_Mul64T {R : Type} (k : Nat) (a1 : Int) (a2 : Int) (K0 : Int → Int → Option R) : Option R :=
  K0 (Wu64 ((Wu64 ((Wu64 ((shr .u64 a1 32) * (shr .u64 a2 32))) + (shr .u64 (Wu64 ((Wu64 ((shr .u64 a1 32) * (bAnd .u64 a2 4294967295))) + (shr .u64 (Wu64 ((bAnd .u64 a1 4294967295) * (bAnd .u64 a2 4294967295))) 32))) 32))) + (shr .u64 (Wu64 ((bAnd .u64 (Wu64 ((Wu64 ((shr .u64 a1 32) * (bAnd .u64 a2 4294967295))) + (shr .u64 (Wu64 ((bAnd .u64 a1 4294967295) * (bAnd .u64 a2 4294967295))) 32))) 4294967295) + (Wu64 ((bAnd .u64 a1 4294967295) * (shr .u64 a2 32))))) 32))) (Wu64 (a1 * a2))
noncomputable def bits_Mul64 {R : Type} (k : Nat) (a1 : Int) (a2 : Int) (K0 : Int → Int → Option R) : Option R := bits_Mul64T k a1 a2 K0
theorem bits_Mul64_gen {R : Type} (k : Nat) (a1 : Int) (a2 : Int) (K : AV → Heap → Option R) :
    fnK (mkCx Ty exts [] fi89 [] []) 6 89 [.i .u64 a1, .i .u64 a2] ⟨0, []⟩ K = bits_Mul64T k a1 a2 (fun q1 q2 => K (.tup [.i .u64 q1, .i .u64 q2]) ⟨0, []⟩) := by kernel_rfl
noncomputable def S89G {R : Type} (bits_Mul64 : bits_Mul64Y R) (k : Nat) : Sum R := fun args H K => match args, H with
  | [.i .u64 a1, .i .u64 a2], ⟨0, []⟩ => bits_Mul64 k a1 a2 (fun q1 q2 => K (.tup [.i .u64 q1, .i .u64 q2]) ⟨0, []⟩)
  | _, _ => none
noncomputable def S89 {R : Type} (k : Nat) : Sum R := S89G bits_Mul64 k
theorem S89_ok0 {R : Type} (k : Nat) : SumOk Try.prog 89 false (S89 k : Sum R) := by
  intro args H K r h
  unfold S89 S89G at h
  split at h
  · exact fnK_sound (cx89_ok k) 6 89 _ _ K r ((bits_Mul64_gen k _ _ K).trans h)
  · cases h
theorem S89_ok {R : Type} (k : Nat) : SumOk Try.prog 89 true (S89 k : Sum R) := by
  refine sumOk_keep (S89_ok0 k) ?_
  intro args H K r h
  unfold S89 S89G at h ⊢
  split at h
  · refine Eq.trans ?_ h
    show bits_Mul64 k _ _ _ = bits_Mul64 k _ _ _
    congr 1
    all_goals first | exact (funext fun q1 => funext fun q2 => if_pos (keeps_app _ _ _ [])) | skip
  · cases h
-- function 104: cmp.isNaN[uint64]
noncomputable def fi104 : FnI := ⟨104, Try.f104, []⟩
theorem en104 : Enters Try.prog 104 := enters_of Try.func104 (c := ((Try.f104).body.getD .skip)) (by kernel_rfl) (by kernel_rfl)
noncomputable def cx104 {R : Type} (k : Nat) : Cx R := mkCx Ty exts [] fi104 [] []
theorem cx104_ok {R : Type} (k : Nat) : CxOk Try.prog (cx104 k : Cx R) := mkCx_ok (c := ((Try.f104).body.getD .skip)) ty_ok mixed exts_ok allSum_nil Try.func104 en104 (by kernel_rfl) (by kernel_rfl) allLoop_nil allCut_nil
@[reducible] def cmp_isNaN_uint64Y (R : Type) : Type := Nat → Int → (Bool → Option R) → Option R
noncomputable def cmp_isNaN_uint64T {R : Type} (k : Nat) (a1 : Int) (K0 : Bool → Option R) : Option R :=
  K0 (a1 != a1)
noncomputable def cmp_isNaN_uint64 {R : Type} (k : Nat) (a1 : Int) (K0 : Bool → Option R) : Option R := cmp_isNaN_uint64T k a1 K0
theorem cmp_isNaN_uint64_gen {R : Type} (k : Nat) (a1 : Int) (K : AV → Heap → Option R) :
    fnK (mkCx Ty exts [] fi104 [] []) 6 104 [.i .u64 a1] ⟨0, []⟩ K = cmp_isNaN_uint64T k a1 (fun q1 => K (.b q1) ⟨0, []⟩) := by kernel_rfl
noncomputable def S104G {R : Type} (cmp_isNaN_uint64 : cmp_isNaN_uint64Y R) (k : Nat) : Sum R := fun args H K => match args, H with
  | [.i .u64 a1], ⟨0, []⟩ => cmp_isNaN_uint64 k a1 (fun q1 => K (.b q1) ⟨0, []⟩)
  | _, _ => none
noncomputable def S104 {R : Type} (k : Nat) : Sum R := S104G cmp_isNaN_uint64 k
theorem S104_ok0 {R : Type} (k : Nat) : SumOk Try.prog 104 false (S104 k : Sum R) := by
  intro args H K r h
  unfold S104 S104G at h
  split at h
  · exact fnK_sound (cx104_ok k) 6 104 _ _ K r ((cmp_isNaN_uint64_gen k _ K).trans h)
  · cases h
theorem S104_ok {R : Type} (k : Nat) : SumOk Try.prog 104 true (S104 k : Sum R) := by
  refine sumOk_keep (S104_ok0 k) ?_
  intro args H K r h
  unfold S104 S104G at h ⊢
  split at h
  · refine Eq.trans ?_ h
    show cmp_isNaN_uint64 k _ _ = cmp_isNaN_uint64 k _ _
    congr 1
    all_goals first | exact (funext fun q1 => if_pos (keeps_app _ _ _ [])) | skip
  · cases h
-- function 103: cmp.Compare[uint64]
noncomputable def fi103 : FnI := ⟨103, Try.f103, []⟩
theorem en103 : Enters Try.prog 103 := enters_of Try.func103 (c := ((Try.f103).body.getD .skip)) (by kernel_rfl) (by kernel_rfl)
noncomputable def cx103 {R : Type} (k : Nat) : Cx R := mkCx Ty exts [(104, true, S104 k)] fi103 [] []
theorem cx103_ok {R : Type} (k : Nat) : CxOk Try.prog (cx103 k : Cx R) := mkCx_ok (c := ((Try.f103).body.getD .skip)) ty_ok mixed exts_ok (allSum_cons (S104_ok k) en104 allSum_nil) Try.func103 en103 (by kernel_rfl) (by kernel_rfl) allLoop_nil allCut_nil
@[reducible] def cmp_Compare_uint64Y (R : Type) : Type := Nat → Int → Int → (Int → Option R) → Option R
noncomputable def cmp_Compare_uint64T {R : Type} (cmp_isNaN_uint64 : cmp_isNaN_uint64Y R) (k : Nat) (a1 : Int) (a2 : Int) (K0 : Int → Option R) : Option R :=
  cmp_isNaN_uint64 k a1 (fun r1 =>
    cmp_isNaN_uint64 k a2 (fun r2 =>
      cond r1 (
        cond r2 (
          K0 0) (
          K0 (-1))) (
        cond r2 (
          K0 1) (
          cond (decide (a1 < a2)) (
            K0 (-1)) (
            cond (decide (a1 > a2)) (
              K0 1) (
              K0 0))))))
noncomputable def cmp_Compare_uint64 {R : Type} (k : Nat) (a1 : Int) (a2 : Int) (K0 : Int → Option R) : Option R := cmp_Compare_uint64T cmp_isNaN_uint64 k a1 a2 K0
theorem cmp_Compare_uint64_gen {R : Type} (cmp_isNaN_uint64 : cmp_isNaN_uint64Y R) (k : Nat) (a1 : Int) (a2 : Int) (K : AV → Heap → Option R) :
    fnK (mkCx Ty exts [(104, true, S104G cmp_isNaN_uint64 k)] fi103 [] []) 6 103 [.i .u64 a1, .i .u64 a2] ⟨0, []⟩ K = cmp_Compare_uint64T cmp_isNaN_uint64 k a1 a2 (fun q1 => K (.i .i64 q1) ⟨0, []⟩) := by kernel_rfl
noncomputable def S103G {R : Type} (cmp_Compare_uint64 : cmp_Compare_uint64Y R) (k : Nat) : Sum R := fun args H K => match args, H with
  | [.i .u64 a1, .i .u64 a2], ⟨0, []⟩ => cmp_Compare_uint64 k a1 a2 (fun q1 => K (.i .i64 q1) ⟨0, []⟩)
  | _, _ => none
noncomputable def S103 {R : Type} (k : Nat) : Sum R := S103G cmp_Compare_uint64 k
theorem S103_ok0 {R : Type} (k : Nat) : SumOk Try.prog 103 false (S103 k : Sum R) := by
  intro args H K r h
  unfold S103 S103G at h
  split at h
  · exact fnK_sound (cx103_ok k) 6 103 _ _ K r ((cmp_Compare_uint64_gen cmp_isNaN_uint64 k _ _ K).trans h)
  · cases h
theorem S103_ok {R : Type} (k : Nat) : SumOk Try.prog 103 true (S103 k : Sum R) := by
  refine sumOk_keep (S103_ok0 k) ?_
  intro args H K r h
  unfold S103 S103G at h ⊢
  split at h
  · refine Eq.trans ?_ h
    show cmp_Compare_uint64 k _ _ _ = cmp_Compare_uint64 k _ _ _
    congr 1
    all_goals first | exact (funext fun q1 => if_pos (keeps_app _ _ _ [])) | skip
  · cases h
-- function 102: cmp.Or[int]
noncomputable def fi102 : FnI := ⟨102, Try.f102, [(100003, [3, 6, 7, 8]), (2000003, [2]), (3003000, [3])]⟩
theorem en102 : Enters Try.prog 102 := enters_of Try.func102 (c := ((Try.f102).body.getD .skip)) (by kernel_rfl) (by kernel_rfl)
@[reducible] def cmp_Or_int_l0Y (R : Type) : Type := Nat → Nat → Int → Int → Int → (List Int) → (Int → Option R) → (Option R) → Option R
noncomputable def cmp_Or_int_l0B {R : Type} (k : Nat) (rec : Int → Int → Int → (List Int) → Option R) (x1 : Int) (x2 : Int) (x3 : Int) (x4 : List Int) (K0 : Int → Option R) (K1 : Option R) : Option R :=
  cond (decide (x3 < x2)) (
    cond (decide (0 ≤ x3)) (
      cond (decide (x3 < (((List.length x4) : Nat) : Int))) (
        Option.bind (x4[(Int.toNat x3)]?) fun ye1 =>
        cond (ye1 != x1) (
          K0 ye1) (
          rec x1 x2 (Wi64 (x3 + 1)) x4)) (
        none)) (
      none)) (
    K1)
noncomputable def cmp_Or_int_l0 {R : Type} (k : Nat) : Nat → Int → Int → Int → (List Int) → (Int → Option R) → (Option R) → Option R
  | 0, _, _, _, _, _, _ => none
  | n + 1, x1, x2, x3, x4, K0, K1 => cmp_Or_int_l0B k (fun x1 x2 x3 x4 => cmp_Or_int_l0 k n x1 x2 x3 x4 K0 K1) x1 x2 x3 x4 K0 K1
noncomputable def cx102_3 {R : Type} (k : Nat) : Cx R := mkCx Ty exts [] fi102 [] []
theorem cx102_3_ok {R : Type} (k : Nat) : CxOk Try.prog (cx102_3 k : Cx R) := mkCx_ok (c := ((Try.f102).body.getD .skip)) ty_ok mixed exts_ok allSum_nil Try.func102 en102 (by kernel_rfl) (by kernel_rfl) allLoop_nil allCut_nil
noncomputable def L102_3G {R : Type} (cmp_Or_int_l0 : cmp_Or_int_l0Y R) (k n : Nat) : LSum R := fun pin T H K => match pin, T, H with
  | 1, [(3, .i .i64 x1), (6, .sw 0), (7, .i .i64 x2), (8, .i .i64 x3)], ⟨1, [(0, some ⟨0, false, .row [.i .i64] x4⟩)]⟩ => cmp_Or_int_l0 k n x1 x2 x3 x4 (fun q1 => K .ret [(2, .i .i64 q1)] ⟨1, [(0, some ⟨0, false, .row [.i .i64] x4⟩)]⟩) (K (.exit 0) [(3, .i .i64 x1)] ⟨1, [(0, some ⟨0, false, .row [.i .i64] x4⟩)]⟩)
  | _, _, _ => none
noncomputable def L102_3 {R : Type} (k n : Nat) : LSum R := L102_3G cmp_Or_int_l0 k n
theorem cmp_Or_int_l0_gen {R : Type} (cmp_Or_int_l0 : cmp_Or_int_l0Y R) (k n : Nat) (x1 : Int) (x2 : Int) (x3 : Int) (x4 : List Int) (K : Kont R) :
    (fun C => codeK C (run C 4)) (mkCx Ty exts [] fi102 [] []) 1 fi102 (loopAt ((Try.f102).body.getD .skip) 3) [(3, .i .i64 x1), (6, .sw 0), (7, .i .i64 x2), (8, .i .i64 x3)] ⟨1, [(0, some ⟨0, false, .row [.i .i64] x4⟩)]⟩ (fun ex T H => match (generalizing := false) ex with
      | .normal => normAt (some [3, 6, 7, 8]) 1 T H (fun T H => L102_3G cmp_Or_int_l0 k n 1 T H K)
      | ex => exitNorm fi102.ann 3 1 K ex T H) =
    cmp_Or_int_l0B k (fun x1 x2 x3 x4 => cmp_Or_int_l0 k n x1 x2 x3 x4 (fun q1 => K .ret [(2, .i .i64 q1)] ⟨1, [(0, some ⟨0, false, .row [.i .i64] x4⟩)]⟩) (K (.exit 0) [(3, .i .i64 x1)] ⟨1, [(0, some ⟨0, false, .row [.i .i64] x4⟩)]⟩)) x1 x2 x3 x4 (fun q1 => K .ret [(2, .i .i64 q1)] ⟨1, [(0, some ⟨0, false, .row [.i .i64] x4⟩)]⟩) (K (.exit 0) [(3, .i .i64 x1)] ⟨1, [(0, some ⟨0, false, .row [.i .i64] x4⟩)]⟩) := by kernel_rfl
theorem L102_3_cok {R : Type} (k : Nat) : CodeOk Try.prog (cx102_3 k : Cx R) fi102 (loopAt ((Try.f102).body.getD .skip) 3) := loopAt_ok (((cx102_3_ok k).fns 102 fi102 (by kernel_rfl)).2.2.2 ((Try.f102).body.getD .skip) (by kernel_rfl))
theorem L102_3_ok {R : Type} (k : Nat) : ∀ n, LoopOk Try.prog (Try.f102).ntmps (loopAt ((Try.f102).body.getD .skip) 3) (L102_3 k n : LSum R)
  | 0 => by
    intro pin T H K r h
    unfold L102_3 L102_3G at h
    split at h
    all_goals exact nomatch (show (none : Option R) = some r from h)
  | n + 1 => by
    intro pin T H K r h
    unfold L102_3 L102_3G at h
    split at h
    · obtain ⟨ex, T1, H1, h, hb⟩ := codeK_sound (cx102_3_ok k) (run_sound (cx102_3_ok k) 4) _ fi102 _ _ _ _ _ (L102_3_cok k) ((cmp_Or_int_l0_gen cmp_Or_int_l0 k n _ _ _ _ K).trans h)
      exact loop_step (fun T H hh => L102_3_ok k n _ T H K r hh) hb h
    · cases h
noncomputable def cx102 {R : Type} (k : Nat) : Cx R := mkCx Ty exts [] fi102 [(3, L102_3 k k)] []
theorem cx102_ok {R : Type} (k : Nat) : CxOk Try.prog (cx102 k : Cx R) := mkCx_ok (c := ((Try.f102).body.getD .skip)) ty_ok mixed exts_ok allSum_nil Try.func102 en102 (by kernel_rfl) (by kernel_rfl) (allLoop_loop (by kernel_rfl) (L102_3_ok k k) allLoop_nil) allCut_nil
@[reducible] def cmp_Or_intY (R : Type) : Type := Nat → (List Int) → (Int → Option R) → Option R
noncomputable def cmp_Or_intT {R : Type} (cmp_Or_int_l0 : cmp_Or_int_l0Y R) (k : Nat) (a1 : List Int) (K0 : Int → Option R) : Option R :=
  cmp_Or_int_l0 k k 0 (((List.length a1) : Nat) : Int) 0 a1 (fun r1 =>
    K0 r1) (
    K0 0)
noncomputable def cmp_Or_int {R : Type} (k : Nat) (a1 : List Int) (K0 : Int → Option R) : Option R := cmp_Or_intT cmp_Or_int_l0 k a1 K0
theorem cmp_Or_int_gen {R : Type} (cmp_Or_int_l0 : cmp_Or_int_l0Y R) (k : Nat) (a1 : List Int) (K : AV → Heap → Option R) :
    fnK (mkCx Ty exts [] fi102 [(3, L102_3G cmp_Or_int_l0 k k)] []) 6 102 [.sw 0] ⟨1, [(0, some ⟨0, false, .row [.i .i64] a1⟩)]⟩ K = cmp_Or_intT cmp_Or_int_l0 k a1 (fun q1 => K (.i .i64 q1) ⟨1, [(0, some ⟨0, false, .row [.i .i64] a1⟩)]⟩) := by kernel_rfl
noncomputable def S102G {R : Type} (cmp_Or_int : cmp_Or_intY R) (k : Nat) : Sum R := fun args H K => match args, H with
  | [.sw 0], ⟨1, [(0, some ⟨0, false, .row [.i .i64] a1⟩)]⟩ => cmp_Or_int k a1 (fun q1 => K (.i .i64 q1) ⟨1, [(0, some ⟨0, false, .row [.i .i64] a1⟩)]⟩)
  | _, _ => none
noncomputable def S102 {R : Type} (k : Nat) : Sum R := S102G cmp_Or_int k
theorem S102_ok0 {R : Type} (k : Nat) : SumOk Try.prog 102 false (S102 k : Sum R) := by
  intro args H K r h
  unfold S102 S102G at h
  split at h
  · exact fnK_sound (cx102_ok k) 6 102 _ _ K r ((cmp_Or_int_gen cmp_Or_int_l0 k _ K).trans h)
  · cases h
theorem S102_ok {R : Type} (k : Nat) : SumOk Try.prog 102 true (S102 k : Sum R) := by
  refine sumOk_keep (S102_ok0 k) ?_
  intro args H K r h
  unfold S102 S102G at h ⊢
  split at h
  · refine Eq.trans ?_ h
    show cmp_Or_int k _ _ = cmp_Or_int k _ _
    congr 1
    all_goals first | exact (funext fun q1 => if_pos (keeps_app _ _ _ [])) | skip
  · cases h
end Go.Proofs.Ytbnmnkofekcodaa.N
