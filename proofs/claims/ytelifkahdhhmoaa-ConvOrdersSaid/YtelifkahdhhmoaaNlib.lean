/- Printed by wip/gen/emit.py: functions of the program as plain Lean functions, tied to the model by the evaluator. Conditions: none. -/
import Derived.Test.YtelifkahdhhmoaaN0
namespace Go.Proofs.Ytelifkahdhhmoaa.N
set_option linter.unusedVariables false
set_option maxRecDepth 100000
open Go Go.Ab
-- function 73: math/bits.Len64
noncomputable def fi73 : FnI := ⟨73, Try.f73, []⟩
theorem en73 : Enters Try.prog 73 := enters_of Try.func73 (c := ((Try.f73).body.getD .skip)) (by kernel_rfl) (by kernel_rfl)
noncomputable def str_bits_Len64_0 : ByteArray := strAtN (strsOf ((Try.f73).body.getD .skip)) 0
noncomputable def cx73 {R : Type} (k : Nat) : Cx R := mkCx Ty exts [] fi73 [] []
theorem cx73_ok {R : Type} (k : Nat) : CxOk Try.prog (cx73 k : Cx R) := mkCx_ok (c := ((Try.f73).body.getD .skip)) ty_ok mixed exts_ok allSum_nil Try.func73 en73 (by kernel_rfl) (by kernel_rfl) allLoop_nil allCut_nil
@[reducible] def bits_Len64Y (R : Type) : Type := Nat → Int → (Int → Option R) → Option R
noncomputable def bits_Len64T {R : Type} (k : Nat) (a1 : Int) (K0 : Int → Option R) : Option R :=
  cond (decide (a1 ≥ 4294967296)) (
    cond (decide ((shr .u64 a1 32) ≥ 65536)) (
      cond (decide ((shr .u64 (shr .u64 a1 32) 16) ≥ 256)) (
        Option.bind (strAt str_bits_Len64_0 (Wu8 (shr .u64 (shr .u64 (shr .u64 a1 32) 16) 8))) fun c1 =>
        K0 (Wi64 (56 + (Wi64 c1)))) (
        Option.bind (strAt str_bits_Len64_0 (Wu8 (shr .u64 (shr .u64 a1 32) 16))) fun c2 =>
        K0 (Wi64 (48 + (Wi64 c2))))) (
      cond (decide ((shr .u64 a1 32) ≥ 256)) (
        Option.bind (strAt str_bits_Len64_0 (Wu8 (shr .u64 (shr .u64 a1 32) 8))) fun c3 =>
        K0 (Wi64 (40 + (Wi64 c3)))) (
        Option.bind (strAt str_bits_Len64_0 (Wu8 (shr .u64 a1 32))) fun c4 =>
        K0 (Wi64 (32 + (Wi64 c4)))))) (
    cond (decide (a1 ≥ 65536)) (
      cond (decide ((shr .u64 a1 16) ≥ 256)) (
        Option.bind (strAt str_bits_Len64_0 (Wu8 (shr .u64 (shr .u64 a1 16) 8))) fun c5 =>
        K0 (Wi64 (24 + (Wi64 c5)))) (
        Option.bind (strAt str_bits_Len64_0 (Wu8 (shr .u64 a1 16))) fun c6 =>
        K0 (Wi64 (16 + (Wi64 c6))))) (
      cond (decide (a1 ≥ 256)) (
        Option.bind (strAt str_bits_Len64_0 (Wu8 (shr .u64 a1 8))) fun c7 =>
        K0 (Wi64 (8 + (Wi64 c7)))) (
        Option.bind (strAt str_bits_Len64_0 (Wu8 a1)) fun c8 =>
        K0 (Wi64 (0 + (Wi64 c8))))))
noncomputable def bits_Len64 {R : Type} (k : Nat) (a1 : Int) (K0 : Int → Option R) : Option R := bits_Len64T k a1 K0
theorem bits_Len64_gen {R : Type} (k : Nat) (a1 : Int) (K : AV → Heap → Option R) :
    fnK (mkCx Ty exts [] fi73 [] []) 6 73 [.i .u64 a1] ⟨0, []⟩ K = bits_Len64T k a1 (fun q1 => K (.i .i64 q1) ⟨0, []⟩) := by kernel_rfl
noncomputable def S73G {R : Type} (bits_Len64 : bits_Len64Y R) (k : Nat) : Sum R := fun args H K => match args, H with
  | [.i .u64 a1], ⟨0, []⟩ => bits_Len64 k a1 (fun q1 => K (.i .i64 q1) ⟨0, []⟩)
  | _, _ => none
noncomputable def S73 {R : Type} (k : Nat) : Sum R := S73G bits_Len64 k
theorem S73_ok0 {R : Type} (k : Nat) : SumOk Try.prog 73 false (S73 k : Sum R) := by
  intro args H K r h
  unfold S73 S73G at h
  split at h
  · exact fnK_sound (cx73_ok k) 6 73 _ _ K r ((bits_Len64_gen k _ K).trans h)
  · cases h
theorem S73_ok {R : Type} (k : Nat) : SumOk Try.prog 73 true (S73 k : Sum R) := by
  refine sumOk_keep (S73_ok0 k) ?_
  intro args H K r h
  unfold S73 S73G at h ⊢
  split at h
  · refine Eq.trans ?_ h
    show bits_Len64 k _ _ = bits_Len64 k _ _
    congr 1
    all_goals first | exact (funext fun q1 => if_pos (keeps_app _ _ _ [])) | skip
  · cases h
-- function 86: math/bits.LeadingZeros64
noncomputable def fi86 : FnI := ⟨86, Try.f86, []⟩
theorem en86 : Enters Try.prog 86 := enters_of Try.func86 (c := ((Try.f86).body.getD .skip)) (by kernel_rfl) (by kernel_rfl)
noncomputable def cx86 {R : Type} (k : Nat) : Cx R := mkCx Ty exts [(73, true, S73 k)] fi86 [] []
theorem cx86_ok {R : Type} (k : Nat) : CxOk Try.prog (cx86 k : Cx R) := mkCx_ok (c := ((Try.f86).body.getD .skip)) ty_ok mixed exts_ok (allSum_cons (S73_ok k) en73 allSum_nil) Try.func86 en86 (by kernel_rfl) (by kernel_rfl) allLoop_nil allCut_nil
@[reducible] def bits_LeadingZeros64Y (R : Type) : Type := Nat → Int → (Int → Option R) → Option R
noncomputable def bits_LeadingZeros64T {R : Type} (bits_Len64 : bits_Len64Y R) (k : Nat) (a1 : Int) (K0 : Int → Option R) : Option R :=
  bits_Len64 k a1 (fun r1 =>
    K0 (Wi64 (64 - r1)))
noncomputable def bits_LeadingZeros64 {R : Type} (k : Nat) (a1 : Int) (K0 : Int → Option R) : Option R := bits_LeadingZeros64T bits_Len64 k a1 K0
theorem bits_LeadingZeros64_gen {R : Type} (bits_Len64 : bits_Len64Y R) (k : Nat) (a1 : Int) (K : AV → Heap → Option R) :
    fnK (mkCx Ty exts [(73, true, S73G bits_Len64 k)] fi86 [] []) 6 86 [.i .u64 a1] ⟨0, []⟩ K = bits_LeadingZeros64T bits_Len64 k a1 (fun q1 => K (.i .i64 q1) ⟨0, []⟩) := by kernel_rfl
noncomputable def S86G {R : Type} (bits_LeadingZeros64 : bits_LeadingZeros64Y R) (k : Nat) : Sum R := fun args H K => match args, H with
  | [.i .u64 a1], ⟨0, []⟩ => bits_LeadingZeros64 k a1 (fun q1 => K (.i .i64 q1) ⟨0, []⟩)
  | _, _ => none
noncomputable def S86 {R : Type} (k : Nat) : Sum R := S86G bits_LeadingZeros64 k
theorem S86_ok0 {R : Type} (k : Nat) : SumOk Try.prog 86 false (S86 k : Sum R) := by
  intro args H K r h
  unfold S86 S86G at h
  split at h
  · exact fnK_sound (cx86_ok k) 6 86 _ _ K r ((bits_LeadingZeros64_gen bits_Len64 k _ K).trans h)
  · cases h
theorem S86_ok {R : Type} (k : Nat) : SumOk Try.prog 86 true (S86 k : Sum R) := by
  refine sumOk_keep (S86_ok0 k) ?_
  intro args H K r h
  unfold S86 S86G at h ⊢
  split at h
  · refine Eq.trans ?_ h
    show bits_LeadingZeros64 k _ _ = bits_LeadingZeros64 k _ _
    congr 1
    all_goals first | exact (funext fun q1 => if_pos (keeps_app _ _ _ [])) | skip
  · cases h
-- function 74: math/bits.Div64
noncomputable def fi74 : FnI := ⟨74, Try.f74, [(100017, [2, 8, 9, 10, 11, 13, 14, 15, 16]), (100024, [2, 8, 9, 10, 14, 15, 16, 17, 18]), (3017000, [2, 8, 9, 10, 11, 13, 14, 15]), (3024002, [2, 8, 14, 15, 17, 18])]⟩
theorem en74 : Enters Try.prog 74 := enters_of Try.func74 (c := ((Try.f74).body.getD .skip)) (by kernel_rfl) (by kernel_rfl)
@[reducible] def bits_Div64_l0Y (R : Type) : Type := Nat → Nat → Int → Int → Int → Int → Int → Int → Int → Int → Int → (Int → Option R) → Option R
noncomputable def bits_Div64_l0B {R : Type} (k : Nat) (rec : Int → Int → Int → Int → Int → Int → Int → Int → Int → Option R) (x1 : Int) (x2 : Int) (x3 : Int) (x4 : Int) (x5 : Int) (x6 : Int) (x7 : Int) (x8 : Int) (x9 : Int) (K0 : Int → Option R) : Option R :=
  cond (decide (x8 ≥ 4294967296)) (
    cond (decide ((Wu64 (x9 + x3)) ≥ 4294967296)) (
      K0 (Wu64 (x8 - 1))) (
      rec x1 x2 x3 x4 x5 x6 x7 (Wu64 (x8 - 1)) (Wu64 (x9 + x3)))) (
    cond (decide ((Wu64 (x8 * x4)) > (Wu64 ((Wu64 (4294967296 * x9)) + x6)))) (
      cond (decide ((Wu64 (x9 + x3)) ≥ 4294967296)) (
        K0 (Wu64 (x8 - 1))) (
        rec x1 x2 x3 x4 x5 x6 x7 (Wu64 (x8 - 1)) (Wu64 (x9 + x3)))) (
      K0 x8))
noncomputable def bits_Div64_l0 {R : Type} (k : Nat) : Nat → Int → Int → Int → Int → Int → Int → Int → Int → Int → (Int → Option R) → Option R
  | 0, _, _, _, _, _, _, _, _, _, _ => none
  | n + 1, x1, x2, x3, x4, x5, x6, x7, x8, x9, K0 => bits_Div64_l0B k (fun x1 x2 x3 x4 x5 x6 x7 x8 x9 => bits_Div64_l0 k n x1 x2 x3 x4 x5 x6 x7 x8 x9 K0) x1 x2 x3 x4 x5 x6 x7 x8 x9 K0
noncomputable def cx74_17 {R : Type} (k : Nat) : Cx R := mkCx Ty exts [(86, true, S86 k)] fi74 [] []
theorem cx74_17_ok {R : Type} (k : Nat) : CxOk Try.prog (cx74_17 k : Cx R) := mkCx_ok (c := ((Try.f74).body.getD .skip)) ty_ok mixed exts_ok (allSum_cons (S86_ok k) en86 allSum_nil) Try.func74 en74 (by kernel_rfl) (by kernel_rfl) allLoop_nil allCut_nil
noncomputable def L74_17G {R : Type} (bits_Div64_l0 : bits_Div64_l0Y R) (k n : Nat) : LSum R := fun pin T H K => match pin, T, H with
  | 0, [(2, .i .u64 x1), (8, .i .u64 x2), (9, .i .u64 x3), (10, .i .u64 x4), (11, .i .u64 x5), (13, .i .u64 x6), (14, .i .u64 x7), (15, .i .u64 x8), (16, .i .u64 x9)], ⟨0, []⟩ => bits_Div64_l0 k n x1 x2 x3 x4 x5 x6 x7 x8 x9 (fun q8 => K (.exit 0) [(2, .i .u64 x1), (8, .i .u64 x2), (9, .i .u64 x3), (10, .i .u64 x4), (11, .i .u64 x5), (13, .i .u64 x6), (14, .i .u64 x7), (15, .i .u64 q8)] ⟨0, []⟩)
  | _, _, _ => none
noncomputable def L74_17 {R : Type} (k n : Nat) : LSum R := L74_17G bits_Div64_l0 k n
theorem bits_Div64_l0_gen {R : Type} (bits_LeadingZeros64 : bits_LeadingZeros64Y R) (bits_Div64_l0 : bits_Div64_l0Y R) (k n : Nat) (x1 : Int) (x2 : Int) (x3 : Int) (x4 : Int) (x5 : Int) (x6 : Int) (x7 : Int) (x8 : Int) (x9 : Int) (K : Kont R) :
    (fun C => codeK C (run C 4)) (mkCx Ty exts [(86, true, S86G bits_LeadingZeros64 k)] fi74 [] []) 0 fi74 (loopAt ((Try.f74).body.getD .skip) 17) [(2, .i .u64 x1), (8, .i .u64 x2), (9, .i .u64 x3), (10, .i .u64 x4), (11, .i .u64 x5), (13, .i .u64 x6), (14, .i .u64 x7), (15, .i .u64 x8), (16, .i .u64 x9)] ⟨0, []⟩ (fun ex T H => match (generalizing := false) ex with
      | .normal => normAt (some [2, 8, 9, 10, 11, 13, 14, 15, 16]) 0 T H (fun T H => L74_17G bits_Div64_l0 k n 0 T H K)
      | ex => exitNorm fi74.ann 17 0 K ex T H) =
    bits_Div64_l0B k (fun x1 x2 x3 x4 x5 x6 x7 x8 x9 => bits_Div64_l0 k n x1 x2 x3 x4 x5 x6 x7 x8 x9 (fun q8 => K (.exit 0) [(2, .i .u64 x1), (8, .i .u64 x2), (9, .i .u64 x3), (10, .i .u64 x4), (11, .i .u64 x5), (13, .i .u64 x6), (14, .i .u64 x7), (15, .i .u64 q8)] ⟨0, []⟩)) x1 x2 x3 x4 x5 x6 x7 x8 x9 (fun q8 => K (.exit 0) [(2, .i .u64 x1), (8, .i .u64 x2), (9, .i .u64 x3), (10, .i .u64 x4), (11, .i .u64 x5), (13, .i .u64 x6), (14, .i .u64 x7), (15, .i .u64 q8)] ⟨0, []⟩) := by kernel_rfl
theorem L74_17_cok {R : Type} (k : Nat) : CodeOk Try.prog (cx74_17 k : Cx R) fi74 (loopAt ((Try.f74).body.getD .skip) 17) := loopAt_ok (((cx74_17_ok k).fns 74 fi74 (by kernel_rfl)).2.2.2 ((Try.f74).body.getD .skip) (by kernel_rfl))
theorem L74_17_ok {R : Type} (k : Nat) : ∀ n, LoopOk Try.prog (Try.f74).ntmps (loopAt ((Try.f74).body.getD .skip) 17) (L74_17 k n : LSum R)
  | 0 => by
    intro pin T H K r h
    unfold L74_17 L74_17G at h
    split at h
    all_goals exact nomatch (show (none : Option R) = some r from h)
  | n + 1 => by
    intro pin T H K r h
    unfold L74_17 L74_17G at h
    split at h
    · obtain ⟨ex, T1, H1, h, hb⟩ := codeK_sound (cx74_17_ok k) (run_sound (cx74_17_ok k) 4) _ fi74 _ _ _ _ _ (L74_17_cok k) ((bits_Div64_l0_gen bits_LeadingZeros64 bits_Div64_l0 k n _ _ _ _ _ _ _ _ _ K).trans h)
      exact loop_step (fun T H hh => L74_17_ok k n _ T H K r hh) hb h
    · cases h
@[reducible] def bits_Div64_l1Y (R : Type) : Type := Nat → Nat → Int → Int → Int → Int → Int → Int → Int → Int → Int → (Int → Option R) → Option R
noncomputable def bits_Div64_l1B {R : Type} (k : Nat) (rec : Int → Int → Int → Int → Int → Int → Int → Int → Int → Option R) (x1 : Int) (x2 : Int) (x3 : Int) (x4 : Int) (x5 : Int) (x6 : Int) (x7 : Int) (x8 : Int) (x9 : Int) (K0 : Int → Option R) : Option R :=
  cond (decide (x9 ≥ 4294967296)) (
    cond (decide ((Wu64 (x7 + x3)) ≥ 4294967296)) (
      K0 (Wu64 (x9 - 1))) (
      rec x1 x2 x3 x4 x5 x6 (Wu64 (x7 + x3)) x8 (Wu64 (x9 - 1)))) (
    cond (decide ((Wu64 (x9 * x4)) > (Wu64 ((Wu64 (4294967296 * x7)) + x5)))) (
      cond (decide ((Wu64 (x7 + x3)) ≥ 4294967296)) (
        K0 (Wu64 (x9 - 1))) (
        rec x1 x2 x3 x4 x5 x6 (Wu64 (x7 + x3)) x8 (Wu64 (x9 - 1)))) (
      K0 x9))
noncomputable def bits_Div64_l1 {R : Type} (k : Nat) : Nat → Int → Int → Int → Int → Int → Int → Int → Int → Int → (Int → Option R) → Option R
  | 0, _, _, _, _, _, _, _, _, _, _ => none
  | n + 1, x1, x2, x3, x4, x5, x6, x7, x8, x9, K0 => bits_Div64_l1B k (fun x1 x2 x3 x4 x5 x6 x7 x8 x9 => bits_Div64_l1 k n x1 x2 x3 x4 x5 x6 x7 x8 x9 K0) x1 x2 x3 x4 x5 x6 x7 x8 x9 K0
noncomputable def cx74_24 {R : Type} (k : Nat) : Cx R := mkCx Ty exts [(86, true, S86 k)] fi74 [(17, L74_17 k k)] []
theorem cx74_24_ok {R : Type} (k : Nat) : CxOk Try.prog (cx74_24 k : Cx R) := mkCx_ok (c := ((Try.f74).body.getD .skip)) ty_ok mixed exts_ok (allSum_cons (S86_ok k) en86 allSum_nil) Try.func74 en74 (by kernel_rfl) (by kernel_rfl) (allLoop_loop (by kernel_rfl) (L74_17_ok k k) allLoop_nil) allCut_nil
noncomputable def L74_24G {R : Type} (bits_Div64_l1 : bits_Div64_l1Y R) (k n : Nat) : LSum R := fun pin T H K => match pin, T, H with
  | 0, [(2, .i .u64 x1), (8, .i .u64 x2), (9, .i .u64 x3), (10, .i .u64 x4), (14, .i .u64 x5), (15, .i .u64 x6), (16, .i .u64 x7), (17, .i .u64 x8), (18, .i .u64 x9)], ⟨0, []⟩ => bits_Div64_l1 k n x1 x2 x3 x4 x5 x6 x7 x8 x9 (fun q6 => K (.exit 2) [(2, .i .u64 x1), (8, .i .u64 x2), (14, .i .u64 x5), (15, .i .u64 x6), (17, .i .u64 x8), (18, .i .u64 q6)] ⟨0, []⟩)
  | _, _, _ => none
noncomputable def L74_24 {R : Type} (k n : Nat) : LSum R := L74_24G bits_Div64_l1 k n
theorem bits_Div64_l1_gen {R : Type} (bits_LeadingZeros64 : bits_LeadingZeros64Y R) (bits_Div64_l0 : bits_Div64_l0Y R) (bits_Div64_l1 : bits_Div64_l1Y R) (k n : Nat) (x1 : Int) (x2 : Int) (x3 : Int) (x4 : Int) (x5 : Int) (x6 : Int) (x7 : Int) (x8 : Int) (x9 : Int) (K : Kont R) :
    (fun C => codeK C (run C 4)) (mkCx Ty exts [(86, true, S86G bits_LeadingZeros64 k)] fi74 [(17, L74_17G bits_Div64_l0 k k)] []) 0 fi74 (loopAt ((Try.f74).body.getD .skip) 24) [(2, .i .u64 x1), (8, .i .u64 x2), (9, .i .u64 x3), (10, .i .u64 x4), (14, .i .u64 x5), (15, .i .u64 x6), (16, .i .u64 x7), (17, .i .u64 x8), (18, .i .u64 x9)] ⟨0, []⟩ (fun ex T H => match (generalizing := false) ex with
      | .normal => normAt (some [2, 8, 9, 10, 14, 15, 16, 17, 18]) 0 T H (fun T H => L74_24G bits_Div64_l1 k n 0 T H K)
      | ex => exitNorm fi74.ann 24 0 K ex T H) =
    bits_Div64_l1B k (fun x1 x2 x3 x4 x5 x6 x7 x8 x9 => bits_Div64_l1 k n x1 x2 x3 x4 x5 x6 x7 x8 x9 (fun q6 => K (.exit 2) [(2, .i .u64 x1), (8, .i .u64 x2), (14, .i .u64 x5), (15, .i .u64 x6), (17, .i .u64 x8), (18, .i .u64 q6)] ⟨0, []⟩)) x1 x2 x3 x4 x5 x6 x7 x8 x9 (fun q6 => K (.exit 2) [(2, .i .u64 x1), (8, .i .u64 x2), (14, .i .u64 x5), (15, .i .u64 x6), (17, .i .u64 x8), (18, .i .u64 q6)] ⟨0, []⟩) := by kernel_rfl
theorem L74_24_cok {R : Type} (k : Nat) : CodeOk Try.prog (cx74_24 k : Cx R) fi74 (loopAt ((Try.f74).body.getD .skip) 24) := loopAt_ok (((cx74_24_ok k).fns 74 fi74 (by kernel_rfl)).2.2.2 ((Try.f74).body.getD .skip) (by kernel_rfl))
theorem L74_24_ok {R : Type} (k : Nat) : ∀ n, LoopOk Try.prog (Try.f74).ntmps (loopAt ((Try.f74).body.getD .skip) 24) (L74_24 k n : LSum R)
  | 0 => by
    intro pin T H K r h
    unfold L74_24 L74_24G at h
    split at h
    all_goals exact nomatch (show (none : Option R) = some r from h)
  | n + 1 => by
    intro pin T H K r h
    unfold L74_24 L74_24G at h
    split at h
    · obtain ⟨ex, T1, H1, h, hb⟩ := codeK_sound (cx74_24_ok k) (run_sound (cx74_24_ok k) 4) _ fi74 _ _ _ _ _ (L74_24_cok k) ((bits_Div64_l1_gen bits_LeadingZeros64 bits_Div64_l0 bits_Div64_l1 k n _ _ _ _ _ _ _ _ _ K).trans h)
      exact loop_step (fun T H hh => L74_24_ok k n _ T H K r hh) hb h
    · cases h
noncomputable def cx74 {R : Type} (k : Nat) : Cx R := mkCx Ty exts [(86, true, S86 k)] fi74 [(17, L74_17 k k), (24, L74_24 k k)] []
theorem cx74_ok {R : Type} (k : Nat) : CxOk Try.prog (cx74 k : Cx R) := mkCx_ok (c := ((Try.f74).body.getD .skip)) ty_ok mixed exts_ok (allSum_cons (S86_ok k) en86 allSum_nil) Try.func74 en74 (by kernel_rfl) (by kernel_rfl) (allLoop_loop (by kernel_rfl) (L74_17_ok k k) (allLoop_loop (by kernel_rfl) (L74_24_ok k k) allLoop_nil)) allCut_nil
@[reducible] def bits_Div64Y (R : Type) : Type := Nat → Int → Int → Int → (Int → Int → Option R) → Option R
noncomputable def bits_Div64T {R : Type} (bits_Div64_l0 : bits_Div64_l0Y R) (bits_Div64_l1 : bits_Div64_l1Y R) (bits_LeadingZeros64 : bits_LeadingZeros64Y R) (k : Nat) (a1 : Int) (a2 : Int) (a3 : Int) (K0 : Int → Int → Option R) : Option R :=
  cond (a3 == 0) (
    none) (
    cond (decide (a3 ≤ a1)) (
      none) (
      cond (a1 == 0) (
        cond (decide (a3 = 0)) (
          none) (
          cond (decide (a3 = 0)) (
            none) (
            K0 (Wu64 (Int.tdiv a2 a3)) (Int.tmod a2 a3)))) (
        bits_LeadingZeros64 k a3 (fun r1 =>
          cond (decide ((Wu64 r1) < 0)) (
            none) (
            cond (decide ((Wu64 r1) < 0)) (
              none) (
              cond (decide ((Wu64 (64 - (Wu64 r1))) < 0)) (
                none) (
                cond (decide ((Wu64 r1) < 0)) (
                  none) (
                  cond (decide ((shr .u64 (shl .u64 a3 (Wu64 r1)) 32) = 0)) (
                    none) (
                    bits_Div64_l0 k k (shl .u64 a3 (Wu64 r1)) (Wu64 r1) (shr .u64 (shl .u64 a3 (Wu64 r1)) 32) (bAnd .u64 (shl .u64 a3 (Wu64 r1)) 4294967295) (bOr .u64 (shl .u64 a1 (Wu64 r1)) (shr .u64 a2 (Wu64 (64 - (Wu64 r1))))) (shr .u64 (shl .u64 a2 (Wu64 r1)) 32) (bAnd .u64 (shl .u64 a2 (Wu64 r1)) 4294967295) (Wu64 (Int.tdiv (bOr .u64 (shl .u64 a1 (Wu64 r1)) (shr .u64 a2 (Wu64 (64 - (Wu64 r1))))) (shr .u64 (shl .u64 a3 (Wu64 r1)) 32))) (Wu64 ((bOr .u64 (shl .u64 a1 (Wu64 r1)) (shr .u64 a2 (Wu64 (64 - (Wu64 r1))))) - (Wu64 ((Wu64 (Int.tdiv (bOr .u64 (shl .u64 a1 (Wu64 r1)) (shr .u64 a2 (Wu64 (64 - (Wu64 r1))))) (shr .u64 (shl .u64 a3 (Wu64 r1)) 32))) * (shr .u64 (shl .u64 a3 (Wu64 r1)) 32))))) (fun r2 =>
                      cond (decide ((shr .u64 (shl .u64 a3 (Wu64 r1)) 32) = 0)) (
                        none) (
                        bits_Div64_l1 k k (shl .u64 a3 (Wu64 r1)) (Wu64 r1) (shr .u64 (shl .u64 a3 (Wu64 r1)) 32) (bAnd .u64 (shl .u64 a3 (Wu64 r1)) 4294967295) (bAnd .u64 (shl .u64 a2 (Wu64 r1)) 4294967295) r2 (Wu64 ((Wu64 ((Wu64 ((Wu64 ((bOr .u64 (shl .u64 a1 (Wu64 r1)) (shr .u64 a2 (Wu64 (64 - (Wu64 r1))))) * 4294967296)) + (shr .u64 (shl .u64 a2 (Wu64 r1)) 32))) - (Wu64 (r2 * (shl .u64 a3 (Wu64 r1)))))) - (Wu64 ((Wu64 (Int.tdiv (Wu64 ((Wu64 ((Wu64 ((bOr .u64 (shl .u64 a1 (Wu64 r1)) (shr .u64 a2 (Wu64 (64 - (Wu64 r1))))) * 4294967296)) + (shr .u64 (shl .u64 a2 (Wu64 r1)) 32))) - (Wu64 (r2 * (shl .u64 a3 (Wu64 r1)))))) (shr .u64 (shl .u64 a3 (Wu64 r1)) 32))) * (shr .u64 (shl .u64 a3 (Wu64 r1)) 32))))) (Wu64 ((Wu64 ((Wu64 ((bOr .u64 (shl .u64 a1 (Wu64 r1)) (shr .u64 a2 (Wu64 (64 - (Wu64 r1))))) * 4294967296)) + (shr .u64 (shl .u64 a2 (Wu64 r1)) 32))) - (Wu64 (r2 * (shl .u64 a3 (Wu64 r1)))))) (Wu64 (Int.tdiv (Wu64 ((Wu64 ((Wu64 ((bOr .u64 (shl .u64 a1 (Wu64 r1)) (shr .u64 a2 (Wu64 (64 - (Wu64 r1))))) * 4294967296)) + (shr .u64 (shl .u64 a2 (Wu64 r1)) 32))) - (Wu64 (r2 * (shl .u64 a3 (Wu64 r1)))))) (shr .u64 (shl .u64 a3 (Wu64 r1)) 32))) (fun r3 =>
                          cond (decide ((Wu64 r1) < 0)) (
                            none) (
                            K0 (Wu64 ((Wu64 (r2 * 4294967296)) + r3)) (shr .u64 (Wu64 ((Wu64 ((Wu64 ((Wu64 ((Wu64 ((Wu64 ((bOr .u64 (shl .u64 a1 (Wu64 r1)) (shr .u64 a2 (Wu64 (64 - (Wu64 r1))))) * 4294967296)) + (shr .u64 (shl .u64 a2 (Wu64 r1)) 32))) - (Wu64 (r2 * (shl .u64 a3 (Wu64 r1)))))) * 4294967296)) + (bAnd .u64 (shl .u64 a2 (Wu64 r1)) 4294967295))) - (Wu64 (r3 * (shl .u64 a3 (Wu64 r1)))))) (Wu64 r1)))))))))))))))
noncomputable def bits_Div64 {R : Type} (k : Nat) (a1 : Int) (a2 : Int) (a3 : Int) (K0 : Int → Int → Option R) : Option R := bits_Div64T bits_Div64_l0 bits_Div64_l1 bits_LeadingZeros64 k a1 a2 a3 K0
theorem bits_Div64_gen {R : Type} (bits_LeadingZeros64 : bits_LeadingZeros64Y R) (bits_Div64_l0 : bits_Div64_l0Y R) (bits_Div64_l1 : bits_Div64_l1Y R) (k : Nat) (a1 : Int) (a2 : Int) (a3 : Int) (K : AV → Heap → Option R) :
    fnK (mkCx Ty exts [(86, true, S86G bits_LeadingZeros64 k)] fi74 [(17, L74_17G bits_Div64_l0 k k), (24, L74_24G bits_Div64_l1 k k)] []) 6 74 [.i .u64 a1, .i .u64 a2, .i .u64 a3] ⟨0, []⟩ K = bits_Div64T bits_Div64_l0 bits_Div64_l1 bits_LeadingZeros64 k a1 a2 a3 (fun q1 q2 => K (.tup [.i .u64 q1, .i .u64 q2]) ⟨0, []⟩) := by kernel_rfl
noncomputable def S74G {R : Type} (bits_Div64 : bits_Div64Y R) (k : Nat) : Sum R := fun args H K => match args, H with
  | [.i .u64 a1, .i .u64 a2, .i .u64 a3], ⟨0, []⟩ => bits_Div64 k a1 a2 a3 (fun q1 q2 => K (.tup [.i .u64 q1, .i .u64 q2]) ⟨0, []⟩)
  | _, _ => none
noncomputable def S74 {R : Type} (k : Nat) : Sum R := S74G bits_Div64 k
theorem S74_ok0 {R : Type} (k : Nat) : SumOk Try.prog 74 false (S74 k : Sum R) := by
  intro args H K r h
  unfold S74 S74G at h
  split at h
  · exact fnK_sound (cx74_ok k) 6 74 _ _ K r ((bits_Div64_gen bits_LeadingZeros64 bits_Div64_l0 bits_Div64_l1 k _ _ _ K).trans h)
  · cases h
theorem S74_ok {R : Type} (k : Nat) : SumOk Try.prog 74 true (S74 k : Sum R) := by
  refine sumOk_keep (S74_ok0 k) ?_
  intro args H K r h
  unfold S74 S74G at h ⊢
  split at h
  · refine Eq.trans ?_ h
    show bits_Div64 k _ _ _ _ = bits_Div64 k _ _ _ _
    congr 1
    all_goals first | exact (funext fun q1 => funext fun q2 => if_pos (keeps_app _ _ _ [])) | skip
  · cases h
-- function 82: cmp.isNaN[int64]
noncomputable def fi82 : FnI := ⟨82, Try.f82, []⟩
theorem en82 : Enters Try.prog 82 := enters_of Try.func82 (c := ((Try.f82).body.getD .skip)) (by kernel_rfl) (by kernel_rfl)
noncomputable def cx82 {R : Type} (k : Nat) : Cx R := mkCx Ty exts [] fi82 [] []
theorem cx82_ok {R : Type} (k : Nat) : CxOk Try.prog (cx82 k : Cx R) := mkCx_ok (c := ((Try.f82).body.getD .skip)) ty_ok mixed exts_ok allSum_nil Try.func82 en82 (by kernel_rfl) (by kernel_rfl) allLoop_nil allCut_nil
@[reducible] def cmp_isNaN_int64Y (R : Type) : Type := Nat → Int → (Bool → Option R) → Option R
noncomputable def cmp_isNaN_int64T {R : Type} (k : Nat) (a1 : Int) (K0 : Bool → Option R) : Option R :=
  K0 (a1 != a1)
noncomputable def cmp_isNaN_int64 {R : Type} (k : Nat) (a1 : Int) (K0 : Bool → Option R) : Option R := cmp_isNaN_int64T k a1 K0
theorem cmp_isNaN_int64_gen {R : Type} (k : Nat) (a1 : Int) (K : AV → Heap → Option R) :
    fnK (mkCx Ty exts [] fi82 [] []) 6 82 [.i .i64 a1] ⟨0, []⟩ K = cmp_isNaN_int64T k a1 (fun q1 => K (.b q1) ⟨0, []⟩) := by kernel_rfl
noncomputable def S82G {R : Type} (cmp_isNaN_int64 : cmp_isNaN_int64Y R) (k : Nat) : Sum R := fun args H K => match args, H with
  | [.i .i64 a1], ⟨0, []⟩ => cmp_isNaN_int64 k a1 (fun q1 => K (.b q1) ⟨0, []⟩)
  | _, _ => none
noncomputable def S82 {R : Type} (k : Nat) : Sum R := S82G cmp_isNaN_int64 k
theorem S82_ok0 {R : Type} (k : Nat) : SumOk Try.prog 82 false (S82 k : Sum R) := by
  intro args H K r h
  unfold S82 S82G at h
  split at h
  · exact fnK_sound (cx82_ok k) 6 82 _ _ K r ((cmp_isNaN_int64_gen k _ K).trans h)
  · cases h
theorem S82_ok {R : Type} (k : Nat) : SumOk Try.prog 82 true (S82 k : Sum R) := by
  refine sumOk_keep (S82_ok0 k) ?_
  intro args H K r h
  unfold S82 S82G at h ⊢
  split at h
  · refine Eq.trans ?_ h
    show cmp_isNaN_int64 k _ _ = cmp_isNaN_int64 k _ _
    congr 1
    all_goals first | exact (funext fun q1 => if_pos (keeps_app _ _ _ [])) | skip
  · cases h
-- function 61: cmp.Compare[int64]
noncomputable def fi61 : FnI := ⟨61, Try.f61, []⟩
theorem en61 : Enters Try.prog 61 := enters_of Try.func61 (c := ((Try.f61).body.getD .skip)) (by kernel_rfl) (by kernel_rfl)
noncomputable def cx61 {R : Type} (k : Nat) : Cx R := mkCx Ty exts [(82, true, S82 k)] fi61 [] []
theorem cx61_ok {R : Type} (k : Nat) : CxOk Try.prog (cx61 k : Cx R) := mkCx_ok (c := ((Try.f61).body.getD .skip)) ty_ok mixed exts_ok (allSum_cons (S82_ok k) en82 allSum_nil) Try.func61 en61 (by kernel_rfl) (by kernel_rfl) allLoop_nil allCut_nil
@[reducible] def cmp_Compare_int64Y (R : Type) : Type := Nat → Int → Int → (Int → Option R) → Option R
noncomputable def cmp_Compare_int64T {R : Type} (cmp_isNaN_int64 : cmp_isNaN_int64Y R) (k : Nat) (a1 : Int) (a2 : Int) (K0 : Int → Option R) : Option R :=
  cmp_isNaN_int64 k a1 (fun r1 =>
    cmp_isNaN_int64 k a2 (fun r2 =>
      cond r1 (
        cond r2 (
          K0 0) (
          K0 (-1))) (
        cond r2 (
          K0 1) (
          cond (decide (a1 < a2)) (
            K0 (-1)) (
            cond (decide (a1 > a2)) (
              K0 1) (
              K0 0))))))
noncomputable def cmp_Compare_int64 {R : Type} (k : Nat) (a1 : Int) (a2 : Int) (K0 : Int → Option R) : Option R := cmp_Compare_int64T cmp_isNaN_int64 k a1 a2 K0
theorem cmp_Compare_int64_gen {R : Type} (cmp_isNaN_int64 : cmp_isNaN_int64Y R) (k : Nat) (a1 : Int) (a2 : Int) (K : AV → Heap → Option R) :
    fnK (mkCx Ty exts [(82, true, S82G cmp_isNaN_int64 k)] fi61 [] []) 6 61 [.i .i64 a1, .i .i64 a2] ⟨0, []⟩ K = cmp_Compare_int64T cmp_isNaN_int64 k a1 a2 (fun q1 => K (.i .i64 q1) ⟨0, []⟩) := by kernel_rfl
noncomputable def S61G {R : Type} (cmp_Compare_int64 : cmp_Compare_int64Y R) (k : Nat) : Sum R := fun args H K => match args, H with
  | [.i .i64 a1, .i .i64 a2], ⟨0, []⟩ => cmp_Compare_int64 k a1 a2 (fun q1 => K (.i .i64 q1) ⟨0, []⟩)
  | _, _ => none
noncomputable def S61 {R : Type} (k : Nat) : Sum R := S61G cmp_Compare_int64 k
theorem S61_ok0 {R : Type} (k : Nat) : SumOk Try.prog 61 false (S61 k : Sum R) := by
  intro args H K r h
  unfold S61 S61G at h
  split at h
  · exact fnK_sound (cx61_ok k) 6 61 _ _ K r ((cmp_Compare_int64_gen cmp_isNaN_int64 k _ _ K).trans h)
  · cases h
theorem S61_ok {R : Type} (k : Nat) : SumOk Try.prog 61 true (S61 k : Sum R) := by
  refine sumOk_keep (S61_ok0 k) ?_
  intro args H K r h
  unfold S61 S61G at h ⊢
  split at h
  · refine Eq.trans ?_ h
    show cmp_Compare_int64 k _ _ _ = cmp_Compare_int64 k _ _ _
    congr 1
    all_goals first | exact (funext fun q1 => if_pos (keeps_app _ _ _ [])) | skip
  · cases h
end Go.Proofs.Ytelifkahdhhmoaa.N
