/- Printed by wip/gen/emit.py: functions of the program as plain Lean functions, tied to the model by the evaluator. Conditions: none. -/
import Derived.Test.YtnbmconaglehbaaN3
namespace Go.Proofs.Ytnbmconaglehbaa.N
set_option linter.unusedVariables false
set_option maxRecDepth 100000
open Go Go.Ab
-- function 23: plumbline/wide.Mul
noncomputable def fi23 : FnI := ⟨23, Try.f23, []⟩
theorem en23 : Enters Try.prog 23 := enters_of Try.func23 (c := ((Try.f23).body.getD .skip)) (by kernel_rfl) (by kernel_rfl)
noncomputable def cx23 {R : Type} (k : Nat) : Cx R := mkCx Ty exts [(36, true, S36 k)] fi23 []
theorem cx23_ok {R : Type} (k : Nat) : CxOk Try.prog (cx23 k : Cx R) := mkCx_ok (c := ((Try.f23).body.getD .skip)) ty_ok mixed exts_ok (allSum_cons (S36_ok k) en36 allSum_nil) Try.func23 en23 (by kernel_rfl) (by kernel_rfl) allLoop_nil
noncomputable def wide_Mul {R : Type} (k : Nat) (a1 : Int) (a2 : Int) (K0 : Int → Int → Option R) : Option R :=
  bits_Mul64 k a1 a2 (fun r1 r2 =>
    K0 r1 r2)
theorem wide_Mul_gen {R : Type} (bits_Mul64 : Nat → Int → Int → (Int → Int → Option R) → Option R) (k : Nat) (a1 : Int) (a2 : Int) (K : AV → Heap → Option R) :
    fnK (mkCx Ty exts [(36, true, S36G bits_Mul64 k)] fi23 []) 6 23 [.i .u64 a1, .i .u64 a2] ⟨0, []⟩ K = (fun (K0 : Int → Int → Option R) =>
    bits_Mul64 k a1 a2 (fun r1 r2 =>
      K0 r1 r2)) (fun q1 q2 => K (.agg [.i .u64 q1, .i .u64 q2]) ⟨0, []⟩) := by kernel_rfl
theorem wide_Mul_eq {R : Type} (k : Nat) (a1 : Int) (a2 : Int) (K : AV → Heap → Option R) :
    fnK (cx23 k) 6 23 [.i .u64 a1, .i .u64 a2] ⟨0, []⟩ K = wide_Mul k a1 a2 (fun q1 q2 => K (.agg [.i .u64 q1, .i .u64 q2]) ⟨0, []⟩) := wide_Mul_gen bits_Mul64 k a1 a2 K
noncomputable def S23G {R : Type} (wide_Mul : Nat → Int → Int → (Int → Int → Option R) → Option R) (k : Nat) : Sum R := fun args H K => match args, H with
  | [.i .u64 a1, .i .u64 a2], ⟨0, []⟩ => wide_Mul k a1 a2 (fun q1 q2 => K (.agg [.i .u64 q1, .i .u64 q2]) ⟨0, []⟩)
  | _, _ => none
noncomputable def S23 {R : Type} (k : Nat) : Sum R := S23G wide_Mul k
theorem S23_ok0 {R : Type} (k : Nat) : SumOk Try.prog 23 false (S23 k : Sum R) := by
  intro args H K r h
  unfold S23 S23G at h
  split at h
  · exact fnK_sound (cx23_ok k) 6 23 _ _ K r (by show fnK _ _ _ _ _ _ = _; rw [wide_Mul_eq]; exact h)
  · cases h
theorem S23_ok {R : Type} (k : Nat) : SumOk Try.prog 23 true (S23 k : Sum R) := by
  refine sumOk_keep (S23_ok0 k) ?_
  intro args H K r h
  unfold S23 S23G at h ⊢
  split at h
  · refine Eq.trans ?_ h
    show wide_Mul k _ _ _ = wide_Mul k _ _ _
    congr 1
    all_goals first | exact (funext fun q1 => funext fun q2 => if_pos (keeps_app _ _ _ [])) | skip
  · cases h
-- function 6: plumbline/plumblinelaw01.WideProducts
noncomputable def fi6 : FnI := ⟨6, Try.f6, []⟩
theorem en6 : Enters Try.prog 6 := enters_of Try.func6 (c := ((Try.f6).body.getD .skip)) (by kernel_rfl) (by kernel_rfl)
noncomputable def cx6 {R : Type} (k : Nat) : Cx R := mkCx Ty exts [(14, true, S14 k), (23, true, S23 k), (24, true, S24 k)] fi6 []
theorem cx6_ok {R : Type} (k : Nat) : CxOk Try.prog (cx6 k : Cx R) := mkCx_ok (c := ((Try.f6).body.getD .skip)) ty_ok mixed exts_ok (allSum_cons (S14_ok k) en14 (allSum_cons (S23_ok k) en23 (allSum_cons (S24_ok k) en24 allSum_nil))) Try.func6 en6 (by kernel_rfl) (by kernel_rfl) allLoop_nil
noncomputable def plumblinelaw01_WideProducts {R : Type} (k : Nat) (a1 : Int) (a2 : Int) (K0 : Bool → Option R) : Option R :=
  plumblinelaw01_live k (fun r1 =>
    cond r1 (
      wide_Mul k a1 a2 (fun r2 r3 =>
        plumblineref01_Mul k a1 a2 (fun r4 r5 =>
          cond ((r2 == r4) && (r3 == r5)) (
            wide_Mul k a1 a2 (fun r6 r7 =>
              wide_Mul k a2 a1 (fun r8 r9 =>
                K0 ((r6 == r8) && (r7 == r9))))) (
            K0 false)))) (
      K0 false))
theorem plumblinelaw01_WideProducts_gen {R : Type} (plumblinelaw01_live : Nat → (Bool → Option R) → Option R) (wide_Mul : Nat → Int → Int → (Int → Int → Option R) → Option R) (plumblineref01_Mul : Nat → Int → Int → (Int → Int → Option R) → Option R) (k : Nat) (a1 : Int) (a2 : Int) (K : AV → Heap → Option R) :
    fnK (mkCx Ty exts [(14, true, S14G plumblinelaw01_live k), (23, true, S23G wide_Mul k), (24, true, S24G plumblineref01_Mul k)] fi6 []) 6 6 [.i .u64 a1, .i .u64 a2] ⟨0, []⟩ K = (fun (K0 : Bool → Option R) =>
    plumblinelaw01_live k (fun r1 =>
      cond r1 (
        wide_Mul k a1 a2 (fun r2 r3 =>
          plumblineref01_Mul k a1 a2 (fun r4 r5 =>
            cond ((r2 == r4) && (r3 == r5)) (
              wide_Mul k a1 a2 (fun r6 r7 =>
                wide_Mul k a2 a1 (fun r8 r9 =>
                  K0 ((r6 == r8) && (r7 == r9))))) (
              K0 false)))) (
        K0 false))) (fun q1 => K (.b q1) ⟨0, []⟩) := by kernel_rfl
theorem plumblinelaw01_WideProducts_eq {R : Type} (k : Nat) (a1 : Int) (a2 : Int) (K : AV → Heap → Option R) :
    fnK (cx6 k) 6 6 [.i .u64 a1, .i .u64 a2] ⟨0, []⟩ K = plumblinelaw01_WideProducts k a1 a2 (fun q1 => K (.b q1) ⟨0, []⟩) := plumblinelaw01_WideProducts_gen plumblinelaw01_live wide_Mul plumblineref01_Mul k a1 a2 K
noncomputable def S6G {R : Type} (plumblinelaw01_WideProducts : Nat → Int → Int → (Bool → Option R) → Option R) (k : Nat) : Sum R := fun args H K => match args, H with
  | [.i .u64 a1, .i .u64 a2], ⟨0, []⟩ => plumblinelaw01_WideProducts k a1 a2 (fun q1 => K (.b q1) ⟨0, []⟩)
  | _, _ => none
noncomputable def S6 {R : Type} (k : Nat) : Sum R := S6G plumblinelaw01_WideProducts k
theorem S6_ok0 {R : Type} (k : Nat) : SumOk Try.prog 6 false (S6 k : Sum R) := by
  intro args H K r h
  unfold S6 S6G at h
  split at h
  · exact fnK_sound (cx6_ok k) 6 6 _ _ K r (by show fnK _ _ _ _ _ _ = _; rw [plumblinelaw01_WideProducts_eq]; exact h)
  · cases h
theorem S6_ok {R : Type} (k : Nat) : SumOk Try.prog 6 true (S6 k : Sum R) := by
  refine sumOk_keep (S6_ok0 k) ?_
  intro args H K r h
  unfold S6 S6G at h ⊢
  split at h
  · refine Eq.trans ?_ h
    show plumblinelaw01_WideProducts k _ _ _ = plumblinelaw01_WideProducts k _ _ _
    congr 1
    all_goals first | exact (funext fun q1 => if_pos (keeps_app _ _ _ [])) | skip
  · cases h
-- function 40: math/bits.Len64
noncomputable def fi40 : FnI := ⟨40, Try.f40, []⟩
theorem en40 : Enters Try.prog 40 := enters_of Try.func40 (c := ((Try.f40).body.getD .skip)) (by kernel_rfl) (by kernel_rfl)
noncomputable def str_bits_Len64_0 : ByteArray := strAtN (strsOf ((Try.f40).body.getD .skip)) 0
noncomputable def cx40 {R : Type} (k : Nat) : Cx R := mkCx Ty exts [] fi40 []
theorem cx40_ok {R : Type} (k : Nat) : CxOk Try.prog (cx40 k : Cx R) := mkCx_ok (c := ((Try.f40).body.getD .skip)) ty_ok mixed exts_ok allSum_nil Try.func40 en40 (by kernel_rfl) (by kernel_rfl) allLoop_nil
noncomputable def bits_Len64 {R : Type} (k : Nat) (a1 : Int) (K0 : Int → Option R) : Option R :=
  cond (decide (a1 ≥ 4294967296)) (
    cond (decide ((shr .u64 a1 32) ≥ 65536)) (
      cond (decide ((shr .u64 (shr .u64 a1 32) 16) ≥ 256)) (
        Option.bind (strAt str_bits_Len64_0 (Wu8 (shr .u64 (shr .u64 (shr .u64 a1 32) 16) 8))) fun c1 =>
        K0 (Wi64 (56 + (Wi64 c1)))) (
        Option.bind (strAt str_bits_Len64_0 (Wu8 (shr .u64 (shr .u64 a1 32) 16))) fun c2 =>
        K0 (Wi64 (48 + (Wi64 c2))))) (
      cond (decide ((shr .u64 a1 32) ≥ 256)) (
        Option.bind (strAt str_bits_Len64_0 (Wu8 (shr .u64 (shr .u64 a1 32) 8))) fun c3 =>
        K0 (Wi64 (40 + (Wi64 c3)))) (
        Option.bind (strAt str_bits_Len64_0 (Wu8 (shr .u64 a1 32))) fun c4 =>
        K0 (Wi64 (32 + (Wi64 c4)))))) (
    cond (decide (a1 ≥ 65536)) (
      cond (decide ((shr .u64 a1 16) ≥ 256)) (
        Option.bind (strAt str_bits_Len64_0 (Wu8 (shr .u64 (shr .u64 a1 16) 8))) fun c5 =>
        K0 (Wi64 (24 + (Wi64 c5)))) (
        Option.bind (strAt str_bits_Len64_0 (Wu8 (shr .u64 a1 16))) fun c6 =>
        K0 (Wi64 (16 + (Wi64 c6))))) (
      cond (decide (a1 ≥ 256)) (
        Option.bind (strAt str_bits_Len64_0 (Wu8 (shr .u64 a1 8))) fun c7 =>
        K0 (Wi64 (8 + (Wi64 c7)))) (
        Option.bind (strAt str_bits_Len64_0 (Wu8 a1)) fun c8 =>
        K0 (Wi64 (0 + (Wi64 c8))))))
theorem bits_Len64_gen {R : Type} (k : Nat) (a1 : Int) (K : AV → Heap → Option R) :
    fnK (mkCx Ty exts [] fi40 []) 6 40 [.i .u64 a1] ⟨0, []⟩ K = (fun (K0 : Int → Option R) =>
    cond (decide (a1 ≥ 4294967296)) (
      cond (decide ((shr .u64 a1 32) ≥ 65536)) (
        cond (decide ((shr .u64 (shr .u64 a1 32) 16) ≥ 256)) (
          Option.bind (strAt str_bits_Len64_0 (Wu8 (shr .u64 (shr .u64 (shr .u64 a1 32) 16) 8))) fun c1 =>
          K0 (Wi64 (56 + (Wi64 c1)))) (
          Option.bind (strAt str_bits_Len64_0 (Wu8 (shr .u64 (shr .u64 a1 32) 16))) fun c2 =>
          K0 (Wi64 (48 + (Wi64 c2))))) (
        cond (decide ((shr .u64 a1 32) ≥ 256)) (
          Option.bind (strAt str_bits_Len64_0 (Wu8 (shr .u64 (shr .u64 a1 32) 8))) fun c3 =>
          K0 (Wi64 (40 + (Wi64 c3)))) (
          Option.bind (strAt str_bits_Len64_0 (Wu8 (shr .u64 a1 32))) fun c4 =>
          K0 (Wi64 (32 + (Wi64 c4)))))) (
      cond (decide (a1 ≥ 65536)) (
        cond (decide ((shr .u64 a1 16) ≥ 256)) (
          Option.bind (strAt str_bits_Len64_0 (Wu8 (shr .u64 (shr .u64 a1 16) 8))) fun c5 =>
          K0 (Wi64 (24 + (Wi64 c5)))) (
          Option.bind (strAt str_bits_Len64_0 (Wu8 (shr .u64 a1 16))) fun c6 =>
          K0 (Wi64 (16 + (Wi64 c6))))) (
        cond (decide (a1 ≥ 256)) (
          Option.bind (strAt str_bits_Len64_0 (Wu8 (shr .u64 a1 8))) fun c7 =>
          K0 (Wi64 (8 + (Wi64 c7)))) (
          Option.bind (strAt str_bits_Len64_0 (Wu8 a1)) fun c8 =>
          K0 (Wi64 (0 + (Wi64 c8))))))) (fun q1 => K (.i .i64 q1) ⟨0, []⟩) := by kernel_rfl
theorem bits_Len64_eq {R : Type} (k : Nat) (a1 : Int) (K : AV → Heap → Option R) :
    fnK (cx40 k) 6 40 [.i .u64 a1] ⟨0, []⟩ K = bits_Len64 k a1 (fun q1 => K (.i .i64 q1) ⟨0, []⟩) := bits_Len64_gen k a1 K
noncomputable def S40G {R : Type} (bits_Len64 : Nat → Int → (Int → Option R) → Option R) (k : Nat) : Sum R := fun args H K => match args, H with
  | [.i .u64 a1], ⟨0, []⟩ => bits_Len64 k a1 (fun q1 => K (.i .i64 q1) ⟨0, []⟩)
  | _, _ => none
noncomputable def S40 {R : Type} (k : Nat) : Sum R := S40G bits_Len64 k
theorem S40_ok0 {R : Type} (k : Nat) : SumOk Try.prog 40 false (S40 k : Sum R) := by
  intro args H K r h
  unfold S40 S40G at h
  split at h
  · exact fnK_sound (cx40_ok k) 6 40 _ _ K r (by show fnK _ _ _ _ _ _ = _; rw [bits_Len64_eq]; exact h)
  · cases h
theorem S40_ok {R : Type} (k : Nat) : SumOk Try.prog 40 true (S40 k : Sum R) := by
  refine sumOk_keep (S40_ok0 k) ?_
  intro args H K r h
  unfold S40 S40G at h ⊢
  split at h
  · refine Eq.trans ?_ h
    show bits_Len64 k _ _ = bits_Len64 k _ _
    congr 1
    all_goals first | exact (funext fun q1 => if_pos (keeps_app _ _ _ [])) | skip
  · cases h
-- function 27: plumbline/wide.Len
noncomputable def fi27 : FnI := ⟨27, Try.f27, []⟩
theorem en27 : Enters Try.prog 27 := enters_of Try.func27 (c := ((Try.f27).body.getD .skip)) (by kernel_rfl) (by kernel_rfl)
noncomputable def cx27 {R : Type} (k : Nat) : Cx R := mkCx Ty exts [(40, true, S40 k)] fi27 []
theorem cx27_ok {R : Type} (k : Nat) : CxOk Try.prog (cx27 k : Cx R) := mkCx_ok (c := ((Try.f27).body.getD .skip)) ty_ok mixed exts_ok (allSum_cons (S40_ok k) en40 allSum_nil) Try.func27 en27 (by kernel_rfl) (by kernel_rfl) allLoop_nil
noncomputable def wide_Len {R : Type} (k : Nat) (a1 : Int) (a2 : Int) (K0 : Int → Option R) : Option R :=
  cond (a1 != 0) (
    bits_Len64 k a1 (fun r1 =>
      K0 (Wi64 (64 + r1)))) (
    bits_Len64 k a2 (fun r2 =>
      K0 r2))
theorem wide_Len_gen {R : Type} (bits_Len64 : Nat → Int → (Int → Option R) → Option R) (k : Nat) (a1 : Int) (a2 : Int) (K : AV → Heap → Option R) :
    fnK (mkCx Ty exts [(40, true, S40G bits_Len64 k)] fi27 []) 6 27 [.agg [.i .u64 a1, .i .u64 a2]] ⟨0, []⟩ K = (fun (K0 : Int → Option R) =>
    cond (a1 != 0) (
      bits_Len64 k a1 (fun r1 =>
        K0 (Wi64 (64 + r1)))) (
      bits_Len64 k a2 (fun r2 =>
        K0 r2))) (fun q1 => K (.i .i64 q1) ⟨0, []⟩) := by kernel_rfl
theorem wide_Len_eq {R : Type} (k : Nat) (a1 : Int) (a2 : Int) (K : AV → Heap → Option R) :
    fnK (cx27 k) 6 27 [.agg [.i .u64 a1, .i .u64 a2]] ⟨0, []⟩ K = wide_Len k a1 a2 (fun q1 => K (.i .i64 q1) ⟨0, []⟩) := wide_Len_gen bits_Len64 k a1 a2 K
noncomputable def S27G {R : Type} (wide_Len : Nat → Int → Int → (Int → Option R) → Option R) (k : Nat) : Sum R := fun args H K => match args, H with
  | [.agg [.i .u64 a1, .i .u64 a2]], ⟨0, []⟩ => wide_Len k a1 a2 (fun q1 => K (.i .i64 q1) ⟨0, []⟩)
  | _, _ => none
noncomputable def S27 {R : Type} (k : Nat) : Sum R := S27G wide_Len k
theorem S27_ok0 {R : Type} (k : Nat) : SumOk Try.prog 27 false (S27 k : Sum R) := by
  intro args H K r h
  unfold S27 S27G at h
  split at h
  · exact fnK_sound (cx27_ok k) 6 27 _ _ K r (by show fnK _ _ _ _ _ _ = _; rw [wide_Len_eq]; exact h)
  · cases h
theorem S27_ok {R : Type} (k : Nat) : SumOk Try.prog 27 true (S27 k : Sum R) := by
  refine sumOk_keep (S27_ok0 k) ?_
  intro args H K r h
  unfold S27 S27G at h ⊢
  split at h
  · refine Eq.trans ?_ h
    show wide_Len k _ _ _ = wide_Len k _ _ _
    congr 1
    all_goals first | exact (funext fun q1 => if_pos (keeps_app _ _ _ [])) | skip
  · cases h
-- function 28: plumbline/plumblineref01.Len
noncomputable def fi28 : FnI := ⟨28, Try.f28, [(100004, [3, 4, 5]), (3004000, [4])]⟩
theorem en28 : Enters Try.prog 28 := enters_of Try.func28 (c := ((Try.f28).body.getD .skip)) (by kernel_rfl) (by kernel_rfl)
noncomputable def plumblineref01_Len_l0B {R : Type} (k : Nat) (rec : Int → Int → (List Bool) → Option R) (x1 : Int) (x2 : Int) (x3 : List Bool) (K0 : Int → Option R) : Option R :=
  cond (decide (x2 < 128)) (
    cond (decide (0 ≤ x2)) (
      cond (decide (x2 < (((List.length x3) : Nat) : Int))) (
        Option.bind (x3[(Int.toNat x2)]?) fun ye1 =>
        cond ye1 (
          rec (Wi64 (x2 + 1)) (Wi64 (x2 + 1)) x3) (
          rec x1 (Wi64 (x2 + 1)) x3)) (
        none)) (
      none)) (
    K0 x1)
noncomputable def plumblineref01_Len_l0 {R : Type} (k : Nat) : Nat → Int → Int → (List Bool) → (Int → Option R) → Option R
  | 0, _, _, _, _ => none
  | n + 1, x1, x2, x3, K0 => plumblineref01_Len_l0B k (fun x1 x2 x3 => plumblineref01_Len_l0 k n x1 x2 x3 K0) x1 x2 x3 K0
noncomputable def cx28_4 {R : Type} (k : Nat) : Cx R := mkCx Ty exts [(31, true, S31 k)] fi28 []
theorem cx28_4_ok {R : Type} (k : Nat) : CxOk Try.prog (cx28_4 k : Cx R) := mkCx_ok (c := ((Try.f28).body.getD .skip)) ty_ok mixed exts_ok (allSum_cons (S31_ok k) en31 allSum_nil) Try.func28 en28 (by kernel_rfl) (by kernel_rfl) allLoop_nil
noncomputable def L28_4G {R : Type} (plumblineref01_Len_l0 : Nat → Nat → Int → Int → (List Bool) → (Int → Option R) → Option R) (k n : Nat) : LSum R := fun pin T H K => match pin, T, H with
  | 0, [(3, .sw 0), (4, .i .i64 x1), (5, .i .i64 x2)], ⟨1, [(0, some ⟨0, false, .row [.b] x3⟩)]⟩ => plumblineref01_Len_l0 k n x1 x2 x3 (fun q1 => K (.exit 0) [(4, .i .i64 q1)] ⟨0, []⟩)
  | _, _, _ => none
noncomputable def L28_4 {R : Type} (k n : Nat) : LSum R := L28_4G plumblineref01_Len_l0 k n
theorem plumblineref01_Len_l0_gen {R : Type} (plumblineref01_Bits : Nat → Int → Int → ((List Bool) → Option R) → Option R) (plumblineref01_Len_l0 : Nat → Nat → Int → Int → (List Bool) → (Int → Option R) → Option R) (k n : Nat) (x1 : Int) (x2 : Int) (x3 : List Bool) (K : Kont R) :
    codeK (mkCx Ty exts [(31, true, S31G plumblineref01_Bits k)] fi28 []) (run (mkCx Ty exts [(31, true, S31G plumblineref01_Bits k)] fi28 []) 4) 0 fi28 (loopAt ((Try.f28).body.getD .skip) 4) [(3, .sw 0), (4, .i .i64 x1), (5, .i .i64 x2)] ⟨1, [(0, some ⟨0, false, .row [.b] x3⟩)]⟩ (fun ex T H => match (generalizing := false) ex with
      | .normal => normAt (some [3, 4, 5]) 0 T H (fun T H => L28_4G plumblineref01_Len_l0 k n 0 T H K)
      | ex => exitNorm fi28.ann 4 0 K ex T H) =
    (fun (rec : Int → Int → (List Bool) → Option R) (K0 : Int → Option R) =>
    cond (decide (x2 < 128)) (
      cond (decide (0 ≤ x2)) (
        cond (decide (x2 < (((List.length x3) : Nat) : Int))) (
          Option.bind (x3[(Int.toNat x2)]?) fun ye1 =>
          cond ye1 (
            rec (Wi64 (x2 + 1)) (Wi64 (x2 + 1)) x3) (
            rec x1 (Wi64 (x2 + 1)) x3)) (
          none)) (
        none)) (
      K0 x1)) (fun x1 x2 x3 => plumblineref01_Len_l0 k n x1 x2 x3 (fun q1 => K (.exit 0) [(4, .i .i64 q1)] ⟨0, []⟩)) (fun q1 => K (.exit 0) [(4, .i .i64 q1)] ⟨0, []⟩) := by kernel_rfl
theorem plumblineref01_Len_l0_eq {R : Type} (k n : Nat) (x1 : Int) (x2 : Int) (x3 : List Bool) (K : Kont R) :
    codeK (cx28_4 k) (run (cx28_4 k) 4) 0 fi28 (loopAt ((Try.f28).body.getD .skip) 4) [(3, .sw 0), (4, .i .i64 x1), (5, .i .i64 x2)] ⟨1, [(0, some ⟨0, false, .row [.b] x3⟩)]⟩ (fun ex T H => match (generalizing := false) ex with
      | .normal => normAt (some [3, 4, 5]) 0 T H (fun T H => L28_4 k n 0 T H K)
      | ex => exitNorm fi28.ann 4 0 K ex T H) =
    plumblineref01_Len_l0 k (n + 1) x1 x2 x3 (fun q1 => K (.exit 0) [(4, .i .i64 q1)] ⟨0, []⟩) := plumblineref01_Len_l0_gen plumblineref01_Bits plumblineref01_Len_l0 k n x1 x2 x3 K
theorem L28_4_cok {R : Type} (k : Nat) : CodeOk Try.prog (cx28_4 k : Cx R) fi28 (loopAt ((Try.f28).body.getD .skip) 4) := loopAt_ok (((cx28_4_ok k).fns 28 fi28 (by kernel_rfl)).2.2.2 ((Try.f28).body.getD .skip) (by kernel_rfl))
theorem L28_4_ok {R : Type} (k : Nat) : ∀ n, LoopOk Try.prog (Try.f28).ntmps (loopAt ((Try.f28).body.getD .skip) 4) (L28_4 k n : LSum R)
  | 0 => by
    intro pin T H K r h
    unfold L28_4 L28_4G at h
    split at h
    all_goals exact nomatch (show (none : Option R) = some r from h)
  | n + 1 => by
    intro pin T H K r h
    unfold L28_4 L28_4G at h
    split at h
    · rw [← plumblineref01_Len_l0_eq] at h
      obtain ⟨ex, T1, H1, h, hb⟩ := codeK_sound (cx28_4_ok k) (run_sound (cx28_4_ok k) 4) _ fi28 _ _ _ _ _ (L28_4_cok k) h
      exact loop_step (fun T H hh => L28_4_ok k n _ T H K r hh) hb h
    · cases h
noncomputable def cx28 {R : Type} (k : Nat) : Cx R := mkCx Ty exts [(31, true, S31 k)] fi28 [(4, L28_4 k k)]
theorem cx28_ok {R : Type} (k : Nat) : CxOk Try.prog (cx28 k : Cx R) := mkCx_ok (c := ((Try.f28).body.getD .skip)) ty_ok mixed exts_ok (allSum_cons (S31_ok k) en31 allSum_nil) Try.func28 en28 (by kernel_rfl) (by kernel_rfl) (allLoop_loop (by kernel_rfl) (L28_4_ok k k) allLoop_nil)
noncomputable def plumblineref01_Len {R : Type} (k : Nat) (a1 : Int) (a2 : Int) (K0 : Int → Option R) : Option R :=
  plumblineref01_Bits k a1 a2 (fun r1 =>
    plumblineref01_Len_l0 k k 0 0 r1 (fun r2 =>
      K0 r2))
theorem plumblineref01_Len_gen {R : Type} (plumblineref01_Bits : Nat → Int → Int → ((List Bool) → Option R) → Option R) (plumblineref01_Len_l0 : Nat → Nat → Int → Int → (List Bool) → (Int → Option R) → Option R) (k : Nat) (a1 : Int) (a2 : Int) (K : AV → Heap → Option R) :
    fnK (mkCx Ty exts [(31, true, S31G plumblineref01_Bits k)] fi28 [(4, L28_4G plumblineref01_Len_l0 k k)]) 6 28 [.agg [.i .u64 a1, .i .u64 a2]] ⟨0, []⟩ K = (fun (K0 : Int → Option R) =>
    plumblineref01_Bits k a1 a2 (fun r1 =>
      plumblineref01_Len_l0 k k 0 0 r1 (fun r2 =>
        K0 r2))) (fun q1 => K (.i .i64 q1) ⟨0, []⟩) := by kernel_rfl
theorem plumblineref01_Len_eq {R : Type} (k : Nat) (a1 : Int) (a2 : Int) (K : AV → Heap → Option R) :
    fnK (cx28 k) 6 28 [.agg [.i .u64 a1, .i .u64 a2]] ⟨0, []⟩ K = plumblineref01_Len k a1 a2 (fun q1 => K (.i .i64 q1) ⟨0, []⟩) := plumblineref01_Len_gen plumblineref01_Bits plumblineref01_Len_l0 k a1 a2 K
noncomputable def S28G {R : Type} (plumblineref01_Len : Nat → Int → Int → (Int → Option R) → Option R) (k : Nat) : Sum R := fun args H K => match args, H with
  | [.agg [.i .u64 a1, .i .u64 a2]], ⟨0, []⟩ => plumblineref01_Len k a1 a2 (fun q1 => K (.i .i64 q1) ⟨0, []⟩)
  | _, _ => none
noncomputable def S28 {R : Type} (k : Nat) : Sum R := S28G plumblineref01_Len k
theorem S28_ok0 {R : Type} (k : Nat) : SumOk Try.prog 28 false (S28 k : Sum R) := by
  intro args H K r h
  unfold S28 S28G at h
  split at h
  · exact fnK_sound (cx28_ok k) 6 28 _ _ K r (by show fnK _ _ _ _ _ _ = _; rw [plumblineref01_Len_eq]; exact h)
  · cases h
theorem S28_ok {R : Type} (k : Nat) : SumOk Try.prog 28 true (S28 k : Sum R) := by
  refine sumOk_keep (S28_ok0 k) ?_
  intro args H K r h
  unfold S28 S28G at h ⊢
  split at h
  · refine Eq.trans ?_ h
    show plumblineref01_Len k _ _ _ = plumblineref01_Len k _ _ _
    congr 1
    all_goals first | exact (funext fun q1 => if_pos (keeps_app _ _ _ [])) | skip
  · cases h
-- function 7: plumbline/plumblinelaw01.WideSizes
noncomputable def fi7 : FnI := ⟨7, Try.f7, []⟩
theorem en7 : Enters Try.prog 7 := enters_of Try.func7 (c := ((Try.f7).body.getD .skip)) (by kernel_rfl) (by kernel_rfl)
noncomputable def cx7 {R : Type} (k : Nat) : Cx R := mkCx Ty exts [(14, true, S14 k), (25, true, S25 k), (26, true, S26 k), (27, true, S27 k), (28, true, S28 k)] fi7 []
theorem cx7_ok {R : Type} (k : Nat) : CxOk Try.prog (cx7 k : Cx R) := mkCx_ok (c := ((Try.f7).body.getD .skip)) ty_ok mixed exts_ok (allSum_cons (S14_ok k) en14 (allSum_cons (S25_ok k) en25 (allSum_cons (S26_ok k) en26 (allSum_cons (S27_ok k) en27 (allSum_cons (S28_ok k) en28 allSum_nil))))) Try.func7 en7 (by kernel_rfl) (by kernel_rfl) allLoop_nil
noncomputable def plumblinelaw01_WideSizes {R : Type} (k : Nat) (a1 : Int) (a2 : Int) (a3 : Int) (a4 : Int) (K0 : Bool → Option R) : Option R :=
  wide_Compare k a1 a2 a3 a4 (fun r1 =>
    plumblineref01_Compare k a1 a2 a3 a4 (fun r2 =>
      plumblinelaw01_live k (fun r3 =>
        cond r3 (
          wide_Len k a1 a2 (fun r4 =>
            plumblineref01_Len k a1 a2 (fun r5 =>
              cond (r4 == r5) (
                cond ((decide (r1 < 0)) == (decide (r2 < 0))) (
                  K0 ((decide (r1 > 0)) == (decide (r2 > 0)))) (
                  K0 false)) (
                K0 false)))) (
          K0 false))))
theorem plumblinelaw01_WideSizes_gen {R : Type} (plumblinelaw01_live : Nat → (Bool → Option R) → Option R) (wide_Compare : Nat → Int → Int → Int → Int → (Int → Option R) → Option R) (plumblineref01_Compare : Nat → Int → Int → Int → Int → (Int → Option R) → Option R) (wide_Len : Nat → Int → Int → (Int → Option R) → Option R) (plumblineref01_Len : Nat → Int → Int → (Int → Option R) → Option R) (k : Nat) (a1 : Int) (a2 : Int) (a3 : Int) (a4 : Int) (K : AV → Heap → Option R) :
    fnK (mkCx Ty exts [(14, true, S14G plumblinelaw01_live k), (25, true, S25G wide_Compare k), (26, true, S26G plumblineref01_Compare k), (27, true, S27G wide_Len k), (28, true, S28G plumblineref01_Len k)] fi7 []) 6 7 [.agg [.i .u64 a1, .i .u64 a2], .agg [.i .u64 a3, .i .u64 a4]] ⟨0, []⟩ K = (fun (K0 : Bool → Option R) =>
    wide_Compare k a1 a2 a3 a4 (fun r1 =>
      plumblineref01_Compare k a1 a2 a3 a4 (fun r2 =>
        plumblinelaw01_live k (fun r3 =>
          cond r3 (
            wide_Len k a1 a2 (fun r4 =>
              plumblineref01_Len k a1 a2 (fun r5 =>
                cond (r4 == r5) (
                  cond ((decide (r1 < 0)) == (decide (r2 < 0))) (
                    K0 ((decide (r1 > 0)) == (decide (r2 > 0)))) (
                    K0 false)) (
                  K0 false)))) (
            K0 false))))) (fun q1 => K (.b q1) ⟨0, []⟩) := by kernel_rfl
theorem plumblinelaw01_WideSizes_eq {R : Type} (k : Nat) (a1 : Int) (a2 : Int) (a3 : Int) (a4 : Int) (K : AV → Heap → Option R) :
    fnK (cx7 k) 6 7 [.agg [.i .u64 a1, .i .u64 a2], .agg [.i .u64 a3, .i .u64 a4]] ⟨0, []⟩ K = plumblinelaw01_WideSizes k a1 a2 a3 a4 (fun q1 => K (.b q1) ⟨0, []⟩) := plumblinelaw01_WideSizes_gen plumblinelaw01_live wide_Compare plumblineref01_Compare wide_Len plumblineref01_Len k a1 a2 a3 a4 K
noncomputable def S7G {R : Type} (plumblinelaw01_WideSizes : Nat → Int → Int → Int → Int → (Bool → Option R) → Option R) (k : Nat) : Sum R := fun args H K => match args, H with
  | [.agg [.i .u64 a1, .i .u64 a2], .agg [.i .u64 a3, .i .u64 a4]], ⟨0, []⟩ => plumblinelaw01_WideSizes k a1 a2 a3 a4 (fun q1 => K (.b q1) ⟨0, []⟩)
  | _, _ => none
noncomputable def S7 {R : Type} (k : Nat) : Sum R := S7G plumblinelaw01_WideSizes k
theorem S7_ok0 {R : Type} (k : Nat) : SumOk Try.prog 7 false (S7 k : Sum R) := by
  intro args H K r h
  unfold S7 S7G at h
  split at h
  · exact fnK_sound (cx7_ok k) 6 7 _ _ K r (by show fnK _ _ _ _ _ _ = _; rw [plumblinelaw01_WideSizes_eq]; exact h)
  · cases h
theorem S7_ok {R : Type} (k : Nat) : SumOk Try.prog 7 true (S7 k : Sum R) := by
  refine sumOk_keep (S7_ok0 k) ?_
  intro args H K r h
  unfold S7 S7G at h ⊢
  split at h
  · refine Eq.trans ?_ h
    show plumblinelaw01_WideSizes k _ _ _ _ _ = plumblinelaw01_WideSizes k _ _ _ _ _
    congr 1
    all_goals first | exact (funext fun q1 => if_pos (keeps_app _ _ _ [])) | skip
  · cases h
-- function 8: plumbline/plumblinelaw01.WideTurns
noncomputable def fi8 : FnI := ⟨8, Try.f8, []⟩
theorem en8 : Enters Try.prog 8 := enters_of Try.func8 (c := ((Try.f8).body.getD .skip)) (by kernel_rfl) (by kernel_rfl)
noncomputable def cx8 {R : Type} (k : Nat) : Cx R := mkCx Ty exts [(12, true, S12 k), (14, true, S14 k), (15, true, S15 k), (27, true, S27 k)] fi8 []
theorem cx8_ok {R : Type} (k : Nat) : CxOk Try.prog (cx8 k : Cx R) := mkCx_ok (c := ((Try.f8).body.getD .skip)) ty_ok mixed exts_ok (allSum_cons (S12_ok k) en12 (allSum_cons (S14_ok k) en14 (allSum_cons (S15_ok k) en15 (allSum_cons (S27_ok k) en27 allSum_nil)))) Try.func8 en8 (by kernel_rfl) (by kernel_rfl) allLoop_nil
noncomputable def plumblinelaw01_WideTurns {R : Type} (k : Nat) (a1 : Int) (a2 : Int) (a3 : Int) (K0 : Bool → Option R) : Option R :=
  cond (decide (a3 < 0)) (
    plumblinelaw01_live k (fun r1 =>
      K0 r1)) (
    wide_Len k a1 a2 (fun r2 =>
      cond (decide (a3 > (Wi64 (128 - r2)))) (
        plumblinelaw01_live k (fun r3 =>
          K0 r3)) (
        wide_Shl k a1 a2 a3 (fun r4 r5 =>
          wide_Shr k r4 r5 a3 (fun r6 r7 r8 =>
            plumblinelaw01_live k (fun r9 =>
              cond r9 (
                cond ((r6 == a1) && (r7 == a2)) (
                  K0 (!r8)) (
                  K0 false)) (
                K0 false)))))))
theorem plumblinelaw01_WideTurns_gen {R : Type} (wide_Shr : Nat → Int → Int → Int → (Int → Int → Bool → Option R) → Option R) (plumblinelaw01_live : Nat → (Bool → Option R) → Option R) (wide_Shl : Nat → Int → Int → Int → (Int → Int → Option R) → Option R) (wide_Len : Nat → Int → Int → (Int → Option R) → Option R) (k : Nat) (a1 : Int) (a2 : Int) (a3 : Int) (K : AV → Heap → Option R) :
    fnK (mkCx Ty exts [(12, true, S12G wide_Shr k), (14, true, S14G plumblinelaw01_live k), (15, true, S15G wide_Shl k), (27, true, S27G wide_Len k)] fi8 []) 6 8 [.agg [.i .u64 a1, .i .u64 a2], .i .i64 a3] ⟨0, []⟩ K = (fun (K0 : Bool → Option R) =>
    cond (decide (a3 < 0)) (
      plumblinelaw01_live k (fun r1 =>
        K0 r1)) (
      wide_Len k a1 a2 (fun r2 =>
        cond (decide (a3 > (Wi64 (128 - r2)))) (
          plumblinelaw01_live k (fun r3 =>
            K0 r3)) (
          wide_Shl k a1 a2 a3 (fun r4 r5 =>
            wide_Shr k r4 r5 a3 (fun r6 r7 r8 =>
              plumblinelaw01_live k (fun r9 =>
                cond r9 (
                  cond ((r6 == a1) && (r7 == a2)) (
                    K0 (!r8)) (
                    K0 false)) (
                  K0 false)))))))) (fun q1 => K (.b q1) ⟨0, []⟩) := by kernel_rfl
theorem plumblinelaw01_WideTurns_eq {R : Type} (k : Nat) (a1 : Int) (a2 : Int) (a3 : Int) (K : AV → Heap → Option R) :
    fnK (cx8 k) 6 8 [.agg [.i .u64 a1, .i .u64 a2], .i .i64 a3] ⟨0, []⟩ K = plumblinelaw01_WideTurns k a1 a2 a3 (fun q1 => K (.b q1) ⟨0, []⟩) := plumblinelaw01_WideTurns_gen wide_Shr plumblinelaw01_live wide_Shl wide_Len k a1 a2 a3 K
noncomputable def S8G {R : Type} (plumblinelaw01_WideTurns : Nat → Int → Int → Int → (Bool → Option R) → Option R) (k : Nat) : Sum R := fun args H K => match args, H with
  | [.agg [.i .u64 a1, .i .u64 a2], .i .i64 a3], ⟨0, []⟩ => plumblinelaw01_WideTurns k a1 a2 a3 (fun q1 => K (.b q1) ⟨0, []⟩)
  | _, _ => none
noncomputable def S8 {R : Type} (k : Nat) : Sum R := S8G plumblinelaw01_WideTurns k
theorem S8_ok0 {R : Type} (k : Nat) : SumOk Try.prog 8 false (S8 k : Sum R) := by
  intro args H K r h
  unfold S8 S8G at h
  split at h
  · exact fnK_sound (cx8_ok k) 6 8 _ _ K r (by show fnK _ _ _ _ _ _ = _; rw [plumblinelaw01_WideTurns_eq]; exact h)
  · cases h
theorem S8_ok {R : Type} (k : Nat) : SumOk Try.prog 8 true (S8 k : Sum R) := by
  refine sumOk_keep (S8_ok0 k) ?_
  intro args H K r h
  unfold S8 S8G at h ⊢
  split at h
  · refine Eq.trans ?_ h
    show plumblinelaw01_WideTurns k _ _ _ _ = plumblinelaw01_WideTurns k _ _ _ _
    congr 1
    all_goals first | exact (funext fun q1 => if_pos (keeps_app _ _ _ [])) | skip
  · cases h
-- function 9: plumbline/plumblinelaw01.WideSquares
noncomputable def fi9 : FnI := ⟨9, Try.f9, []⟩
theorem en9 : Enters Try.prog 9 := enters_of Try.func9 (c := ((Try.f9).body.getD .skip)) (by kernel_rfl) (by kernel_rfl)
noncomputable def cx9 {R : Type} (k : Nat) : Cx R := mkCx Ty exts [(14, true, S14 k), (17, true, S17 k), (19, true, S19 k), (23, true, S23 k), (25, true, S25 k)] fi9 []
theorem cx9_ok {R : Type} (k : Nat) : CxOk Try.prog (cx9 k : Cx R) := mkCx_ok (c := ((Try.f9).body.getD .skip)) ty_ok mixed exts_ok (allSum_cons (S14_ok k) en14 (allSum_cons (S17_ok k) en17 (allSum_cons (S19_ok k) en19 (allSum_cons (S23_ok k) en23 (allSum_cons (S25_ok k) en25 allSum_nil))))) Try.func9 en9 (by kernel_rfl) (by kernel_rfl) allLoop_nil
noncomputable def plumblinelaw01_WideSquares {R : Type} (k : Nat) (a1 : Int) (a2 : Int) (K0 : Bool → Option R) : Option R :=
  wide_Sqrt k a1 a2 (fun r1 r2 r3 =>
    wide_Mul k r1 r1 (fun r4 r5 =>
      wide_Add k r4 r5 r2 r3 (fun r6 r7 r8 =>
        wide_Add k 0 r1 0 r1 (fun r9 r10 r11 =>
          plumblinelaw01_live k (fun r12 =>
            cond r12 (
              cond (!r8) (
                cond ((r6 == a1) && (r7 == a2)) (
                  wide_Compare k r2 r3 r9 r10 (fun r13 =>
                    K0 (decide (r13 ≤ 0)))) (
                  K0 false)) (
                K0 false)) (
              K0 false))))))
theorem plumblinelaw01_WideSquares_gen {R : Type} (plumblinelaw01_live : Nat → (Bool → Option R) → Option R) (wide_Sqrt : Nat → Int → Int → (Int → Int → Int → Option R) → Option R) (wide_Add : Nat → Int → Int → Int → Int → (Int → Int → Bool → Option R) → Option R) (wide_Mul : Nat → Int → Int → (Int → Int → Option R) → Option R) (wide_Compare : Nat → Int → Int → Int → Int → (Int → Option R) → Option R) (k : Nat) (a1 : Int) (a2 : Int) (K : AV → Heap → Option R) :
    fnK (mkCx Ty exts [(14, true, S14G plumblinelaw01_live k), (17, true, S17G wide_Sqrt k), (19, true, S19G wide_Add k), (23, true, S23G wide_Mul k), (25, true, S25G wide_Compare k)] fi9 []) 6 9 [.agg [.i .u64 a1, .i .u64 a2]] ⟨0, []⟩ K = (fun (K0 : Bool → Option R) =>
    wide_Sqrt k a1 a2 (fun r1 r2 r3 =>
      wide_Mul k r1 r1 (fun r4 r5 =>
        wide_Add k r4 r5 r2 r3 (fun r6 r7 r8 =>
          wide_Add k 0 r1 0 r1 (fun r9 r10 r11 =>
            plumblinelaw01_live k (fun r12 =>
              cond r12 (
                cond (!r8) (
                  cond ((r6 == a1) && (r7 == a2)) (
                    wide_Compare k r2 r3 r9 r10 (fun r13 =>
                      K0 (decide (r13 ≤ 0)))) (
                    K0 false)) (
                  K0 false)) (
                K0 false))))))) (fun q1 => K (.b q1) ⟨0, []⟩) := by kernel_rfl
theorem plumblinelaw01_WideSquares_eq {R : Type} (k : Nat) (a1 : Int) (a2 : Int) (K : AV → Heap → Option R) :
    fnK (cx9 k) 6 9 [.agg [.i .u64 a1, .i .u64 a2]] ⟨0, []⟩ K = plumblinelaw01_WideSquares k a1 a2 (fun q1 => K (.b q1) ⟨0, []⟩) := plumblinelaw01_WideSquares_gen plumblinelaw01_live wide_Sqrt wide_Add wide_Mul wide_Compare k a1 a2 K
noncomputable def S9G {R : Type} (plumblinelaw01_WideSquares : Nat → Int → Int → (Bool → Option R) → Option R) (k : Nat) : Sum R := fun args H K => match args, H with
  | [.agg [.i .u64 a1, .i .u64 a2]], ⟨0, []⟩ => plumblinelaw01_WideSquares k a1 a2 (fun q1 => K (.b q1) ⟨0, []⟩)
  | _, _ => none
noncomputable def S9 {R : Type} (k : Nat) : Sum R := S9G plumblinelaw01_WideSquares k
theorem S9_ok0 {R : Type} (k : Nat) : SumOk Try.prog 9 false (S9 k : Sum R) := by
  intro args H K r h
  unfold S9 S9G at h
  split at h
  · exact fnK_sound (cx9_ok k) 6 9 _ _ K r (by show fnK _ _ _ _ _ _ = _; rw [plumblinelaw01_WideSquares_eq]; exact h)
  · cases h
theorem S9_ok {R : Type} (k : Nat) : SumOk Try.prog 9 true (S9 k : Sum R) := by
  refine sumOk_keep (S9_ok0 k) ?_
  intro args H K r h
  unfold S9 S9G at h ⊢
  split at h
  · refine Eq.trans ?_ h
    show plumblinelaw01_WideSquares k _ _ _ = plumblinelaw01_WideSquares k _ _ _
    congr 1
    all_goals first | exact (funext fun q1 => if_pos (keeps_app _ _ _ [])) | skip
  · cases h
-- function 43: math/bits.LeadingZeros64
noncomputable def fi43 : FnI := ⟨43, Try.f43, []⟩
theorem en43 : Enters Try.prog 43 := enters_of Try.func43 (c := ((Try.f43).body.getD .skip)) (by kernel_rfl) (by kernel_rfl)
noncomputable def cx43 {R : Type} (k : Nat) : Cx R := mkCx Ty exts [(40, true, S40 k)] fi43 []
theorem cx43_ok {R : Type} (k : Nat) : CxOk Try.prog (cx43 k : Cx R) := mkCx_ok (c := ((Try.f43).body.getD .skip)) ty_ok mixed exts_ok (allSum_cons (S40_ok k) en40 allSum_nil) Try.func43 en43 (by kernel_rfl) (by kernel_rfl) allLoop_nil
noncomputable def bits_LeadingZeros64 {R : Type} (k : Nat) (a1 : Int) (K0 : Int → Option R) : Option R :=
  bits_Len64 k a1 (fun r1 =>
    K0 (Wi64 (64 - r1)))
theorem bits_LeadingZeros64_gen {R : Type} (bits_Len64 : Nat → Int → (Int → Option R) → Option R) (k : Nat) (a1 : Int) (K : AV → Heap → Option R) :
    fnK (mkCx Ty exts [(40, true, S40G bits_Len64 k)] fi43 []) 6 43 [.i .u64 a1] ⟨0, []⟩ K = (fun (K0 : Int → Option R) =>
    bits_Len64 k a1 (fun r1 =>
      K0 (Wi64 (64 - r1)))) (fun q1 => K (.i .i64 q1) ⟨0, []⟩) := by kernel_rfl
theorem bits_LeadingZeros64_eq {R : Type} (k : Nat) (a1 : Int) (K : AV → Heap → Option R) :
    fnK (cx43 k) 6 43 [.i .u64 a1] ⟨0, []⟩ K = bits_LeadingZeros64 k a1 (fun q1 => K (.i .i64 q1) ⟨0, []⟩) := bits_LeadingZeros64_gen bits_Len64 k a1 K
noncomputable def S43G {R : Type} (bits_LeadingZeros64 : Nat → Int → (Int → Option R) → Option R) (k : Nat) : Sum R := fun args H K => match args, H with
  | [.i .u64 a1], ⟨0, []⟩ => bits_LeadingZeros64 k a1 (fun q1 => K (.i .i64 q1) ⟨0, []⟩)
  | _, _ => none
noncomputable def S43 {R : Type} (k : Nat) : Sum R := S43G bits_LeadingZeros64 k
theorem S43_ok0 {R : Type} (k : Nat) : SumOk Try.prog 43 false (S43 k : Sum R) := by
  intro args H K r h
  unfold S43 S43G at h
  split at h
  · exact fnK_sound (cx43_ok k) 6 43 _ _ K r (by show fnK _ _ _ _ _ _ = _; rw [bits_LeadingZeros64_eq]; exact h)
  · cases h
theorem S43_ok {R : Type} (k : Nat) : SumOk Try.prog 43 true (S43 k : Sum R) := by
  refine sumOk_keep (S43_ok0 k) ?_
  intro args H K r h
  unfold S43 S43G at h ⊢
  split at h
  · refine Eq.trans ?_ h
    show bits_LeadingZeros64 k _ _ = bits_LeadingZeros64 k _ _
    congr 1
    all_goals first | exact (funext fun q1 => if_pos (keeps_app _ _ _ [])) | skip
  · cases h
-- function 41: math/bits.Div64
noncomputable def fi41 : FnI := ⟨41, Try.f41, [(100017, [2, 8, 9, 10, 11, 13, 14, 15, 16]), (100024, [2, 8, 9, 10, 14, 15, 16, 17, 18]), (3017000, [2, 8, 9, 10, 11, 13, 14, 15]), (3024002, [2, 8, 14, 15, 17, 18])]⟩
theorem en41 : Enters Try.prog 41 := enters_of Try.func41 (c := ((Try.f41).body.getD .skip)) (by kernel_rfl) (by kernel_rfl)
noncomputable def bits_Div64_l0B {R : Type} (k : Nat) (rec : Int → Int → Int → Int → Int → Int → Int → Int → Int → Option R) (x1 : Int) (x2 : Int) (x3 : Int) (x4 : Int) (x5 : Int) (x6 : Int) (x7 : Int) (x8 : Int) (x9 : Int) (K0 : Int → Option R) : Option R :=
  cond (decide (x8 ≥ 4294967296)) (
    cond (decide ((Wu64 (x9 + x3)) ≥ 4294967296)) (
      K0 (Wu64 (x8 - 1))) (
      rec x1 x2 x3 x4 x5 x6 x7 (Wu64 (x8 - 1)) (Wu64 (x9 + x3)))) (
    cond (decide ((Wu64 (x8 * x4)) > (Wu64 ((Wu64 (4294967296 * x9)) + x6)))) (
      cond (decide ((Wu64 (x9 + x3)) ≥ 4294967296)) (
        K0 (Wu64 (x8 - 1))) (
        rec x1 x2 x3 x4 x5 x6 x7 (Wu64 (x8 - 1)) (Wu64 (x9 + x3)))) (
      K0 x8))
noncomputable def bits_Div64_l0 {R : Type} (k : Nat) : Nat → Int → Int → Int → Int → Int → Int → Int → Int → Int → (Int → Option R) → Option R
  | 0, _, _, _, _, _, _, _, _, _, _ => none
  | n + 1, x1, x2, x3, x4, x5, x6, x7, x8, x9, K0 => bits_Div64_l0B k (fun x1 x2 x3 x4 x5 x6 x7 x8 x9 => bits_Div64_l0 k n x1 x2 x3 x4 x5 x6 x7 x8 x9 K0) x1 x2 x3 x4 x5 x6 x7 x8 x9 K0
noncomputable def cx41_17 {R : Type} (k : Nat) : Cx R := mkCx Ty exts [(43, true, S43 k)] fi41 []
theorem cx41_17_ok {R : Type} (k : Nat) : CxOk Try.prog (cx41_17 k : Cx R) := mkCx_ok (c := ((Try.f41).body.getD .skip)) ty_ok mixed exts_ok (allSum_cons (S43_ok k) en43 allSum_nil) Try.func41 en41 (by kernel_rfl) (by kernel_rfl) allLoop_nil
noncomputable def L41_17G {R : Type} (bits_Div64_l0 : Nat → Nat → Int → Int → Int → Int → Int → Int → Int → Int → Int → (Int → Option R) → Option R) (k n : Nat) : LSum R := fun pin T H K => match pin, T, H with
  | 0, [(2, .i .u64 x1), (8, .i .u64 x2), (9, .i .u64 x3), (10, .i .u64 x4), (11, .i .u64 x5), (13, .i .u64 x6), (14, .i .u64 x7), (15, .i .u64 x8), (16, .i .u64 x9)], ⟨0, []⟩ => bits_Div64_l0 k n x1 x2 x3 x4 x5 x6 x7 x8 x9 (fun q8 => K (.exit 0) [(2, .i .u64 x1), (8, .i .u64 x2), (9, .i .u64 x3), (10, .i .u64 x4), (11, .i .u64 x5), (13, .i .u64 x6), (14, .i .u64 x7), (15, .i .u64 q8)] ⟨0, []⟩)
  | _, _, _ => none
noncomputable def L41_17 {R : Type} (k n : Nat) : LSum R := L41_17G bits_Div64_l0 k n
theorem bits_Div64_l0_gen {R : Type} (bits_LeadingZeros64 : Nat → Int → (Int → Option R) → Option R) (bits_Div64_l0 : Nat → Nat → Int → Int → Int → Int → Int → Int → Int → Int → Int → (Int → Option R) → Option R) (k n : Nat) (x1 : Int) (x2 : Int) (x3 : Int) (x4 : Int) (x5 : Int) (x6 : Int) (x7 : Int) (x8 : Int) (x9 : Int) (K : Kont R) :
    codeK (mkCx Ty exts [(43, true, S43G bits_LeadingZeros64 k)] fi41 []) (run (mkCx Ty exts [(43, true, S43G bits_LeadingZeros64 k)] fi41 []) 4) 0 fi41 (loopAt ((Try.f41).body.getD .skip) 17) [(2, .i .u64 x1), (8, .i .u64 x2), (9, .i .u64 x3), (10, .i .u64 x4), (11, .i .u64 x5), (13, .i .u64 x6), (14, .i .u64 x7), (15, .i .u64 x8), (16, .i .u64 x9)] ⟨0, []⟩ (fun ex T H => match (generalizing := false) ex with
      | .normal => normAt (some [2, 8, 9, 10, 11, 13, 14, 15, 16]) 0 T H (fun T H => L41_17G bits_Div64_l0 k n 0 T H K)
      | ex => exitNorm fi41.ann 17 0 K ex T H) =
    (fun (rec : Int → Int → Int → Int → Int → Int → Int → Int → Int → Option R) (K0 : Int → Option R) =>
    cond (decide (x8 ≥ 4294967296)) (
      cond (decide ((Wu64 (x9 + x3)) ≥ 4294967296)) (
        K0 (Wu64 (x8 - 1))) (
        rec x1 x2 x3 x4 x5 x6 x7 (Wu64 (x8 - 1)) (Wu64 (x9 + x3)))) (
      cond (decide ((Wu64 (x8 * x4)) > (Wu64 ((Wu64 (4294967296 * x9)) + x6)))) (
        cond (decide ((Wu64 (x9 + x3)) ≥ 4294967296)) (
          K0 (Wu64 (x8 - 1))) (
          rec x1 x2 x3 x4 x5 x6 x7 (Wu64 (x8 - 1)) (Wu64 (x9 + x3)))) (
        K0 x8))) (fun x1 x2 x3 x4 x5 x6 x7 x8 x9 => bits_Div64_l0 k n x1 x2 x3 x4 x5 x6 x7 x8 x9 (fun q8 => K (.exit 0) [(2, .i .u64 x1), (8, .i .u64 x2), (9, .i .u64 x3), (10, .i .u64 x4), (11, .i .u64 x5), (13, .i .u64 x6), (14, .i .u64 x7), (15, .i .u64 q8)] ⟨0, []⟩)) (fun q8 => K (.exit 0) [(2, .i .u64 x1), (8, .i .u64 x2), (9, .i .u64 x3), (10, .i .u64 x4), (11, .i .u64 x5), (13, .i .u64 x6), (14, .i .u64 x7), (15, .i .u64 q8)] ⟨0, []⟩) := by kernel_rfl
theorem bits_Div64_l0_eq {R : Type} (k n : Nat) (x1 : Int) (x2 : Int) (x3 : Int) (x4 : Int) (x5 : Int) (x6 : Int) (x7 : Int) (x8 : Int) (x9 : Int) (K : Kont R) :
    codeK (cx41_17 k) (run (cx41_17 k) 4) 0 fi41 (loopAt ((Try.f41).body.getD .skip) 17) [(2, .i .u64 x1), (8, .i .u64 x2), (9, .i .u64 x3), (10, .i .u64 x4), (11, .i .u64 x5), (13, .i .u64 x6), (14, .i .u64 x7), (15, .i .u64 x8), (16, .i .u64 x9)] ⟨0, []⟩ (fun ex T H => match (generalizing := false) ex with
      | .normal => normAt (some [2, 8, 9, 10, 11, 13, 14, 15, 16]) 0 T H (fun T H => L41_17 k n 0 T H K)
      | ex => exitNorm fi41.ann 17 0 K ex T H) =
    bits_Div64_l0 k (n + 1) x1 x2 x3 x4 x5 x6 x7 x8 x9 (fun q8 => K (.exit 0) [(2, .i .u64 x1), (8, .i .u64 x2), (9, .i .u64 x3), (10, .i .u64 x4), (11, .i .u64 x5), (13, .i .u64 x6), (14, .i .u64 x7), (15, .i .u64 q8)] ⟨0, []⟩) := bits_Div64_l0_gen bits_LeadingZeros64 bits_Div64_l0 k n x1 x2 x3 x4 x5 x6 x7 x8 x9 K
theorem L41_17_cok {R : Type} (k : Nat) : CodeOk Try.prog (cx41_17 k : Cx R) fi41 (loopAt ((Try.f41).body.getD .skip) 17) := loopAt_ok (((cx41_17_ok k).fns 41 fi41 (by kernel_rfl)).2.2.2 ((Try.f41).body.getD .skip) (by kernel_rfl))
theorem L41_17_ok {R : Type} (k : Nat) : ∀ n, LoopOk Try.prog (Try.f41).ntmps (loopAt ((Try.f41).body.getD .skip) 17) (L41_17 k n : LSum R)
  | 0 => by
    intro pin T H K r h
    unfold L41_17 L41_17G at h
    split at h
    all_goals exact nomatch (show (none : Option R) = some r from h)
  | n + 1 => by
    intro pin T H K r h
    unfold L41_17 L41_17G at h
    split at h
    · rw [← bits_Div64_l0_eq] at h
      obtain ⟨ex, T1, H1, h, hb⟩ := codeK_sound (cx41_17_ok k) (run_sound (cx41_17_ok k) 4) _ fi41 _ _ _ _ _ (L41_17_cok k) h
      exact loop_step (fun T H hh => L41_17_ok k n _ T H K r hh) hb h
    · cases h
noncomputable def bits_Div64_l1B {R : Type} (k : Nat) (rec : Int → Int → Int → Int → Int → Int → Int → Int → Int → Option R) (x1 : Int) (x2 : Int) (x3 : Int) (x4 : Int) (x5 : Int) (x6 : Int) (x7 : Int) (x8 : Int) (x9 : Int) (K0 : Int → Option R) : Option R :=
  cond (decide (x9 ≥ 4294967296)) (
    cond (decide ((Wu64 (x7 + x3)) ≥ 4294967296)) (
      K0 (Wu64 (x9 - 1))) (
      rec x1 x2 x3 x4 x5 x6 (Wu64 (x7 + x3)) x8 (Wu64 (x9 - 1)))) (
    cond (decide ((Wu64 (x9 * x4)) > (Wu64 ((Wu64 (4294967296 * x7)) + x5)))) (
      cond (decide ((Wu64 (x7 + x3)) ≥ 4294967296)) (
        K0 (Wu64 (x9 - 1))) (
        rec x1 x2 x3 x4 x5 x6 (Wu64 (x7 + x3)) x8 (Wu64 (x9 - 1)))) (
      K0 x9))
noncomputable def bits_Div64_l1 {R : Type} (k : Nat) : Nat → Int → Int → Int → Int → Int → Int → Int → Int → Int → (Int → Option R) → Option R
  | 0, _, _, _, _, _, _, _, _, _, _ => none
  | n + 1, x1, x2, x3, x4, x5, x6, x7, x8, x9, K0 => bits_Div64_l1B k (fun x1 x2 x3 x4 x5 x6 x7 x8 x9 => bits_Div64_l1 k n x1 x2 x3 x4 x5 x6 x7 x8 x9 K0) x1 x2 x3 x4 x5 x6 x7 x8 x9 K0
noncomputable def cx41_24 {R : Type} (k : Nat) : Cx R := mkCx Ty exts [(43, true, S43 k)] fi41 [(17, L41_17 k k)]
theorem cx41_24_ok {R : Type} (k : Nat) : CxOk Try.prog (cx41_24 k : Cx R) := mkCx_ok (c := ((Try.f41).body.getD .skip)) ty_ok mixed exts_ok (allSum_cons (S43_ok k) en43 allSum_nil) Try.func41 en41 (by kernel_rfl) (by kernel_rfl) (allLoop_loop (by kernel_rfl) (L41_17_ok k k) allLoop_nil)
noncomputable def L41_24G {R : Type} (bits_Div64_l1 : Nat → Nat → Int → Int → Int → Int → Int → Int → Int → Int → Int → (Int → Option R) → Option R) (k n : Nat) : LSum R := fun pin T H K => match pin, T, H with
  | 0, [(2, .i .u64 x1), (8, .i .u64 x2), (9, .i .u64 x3), (10, .i .u64 x4), (14, .i .u64 x5), (15, .i .u64 x6), (16, .i .u64 x7), (17, .i .u64 x8), (18, .i .u64 x9)], ⟨0, []⟩ => bits_Div64_l1 k n x1 x2 x3 x4 x5 x6 x7 x8 x9 (fun q6 => K (.exit 2) [(2, .i .u64 x1), (8, .i .u64 x2), (14, .i .u64 x5), (15, .i .u64 x6), (17, .i .u64 x8), (18, .i .u64 q6)] ⟨0, []⟩)
  | _, _, _ => none
noncomputable def L41_24 {R : Type} (k n : Nat) : LSum R := L41_24G bits_Div64_l1 k n
theorem bits_Div64_l1_gen {R : Type} (bits_LeadingZeros64 : Nat → Int → (Int → Option R) → Option R) (bits_Div64_l0 : Nat → Nat → Int → Int → Int → Int → Int → Int → Int → Int → Int → (Int → Option R) → Option R) (bits_Div64_l1 : Nat → Nat → Int → Int → Int → Int → Int → Int → Int → Int → Int → (Int → Option R) → Option R) (k n : Nat) (x1 : Int) (x2 : Int) (x3 : Int) (x4 : Int) (x5 : Int) (x6 : Int) (x7 : Int) (x8 : Int) (x9 : Int) (K : Kont R) :
    codeK (mkCx Ty exts [(43, true, S43G bits_LeadingZeros64 k)] fi41 [(17, L41_17G bits_Div64_l0 k k)]) (run (mkCx Ty exts [(43, true, S43G bits_LeadingZeros64 k)] fi41 [(17, L41_17G bits_Div64_l0 k k)]) 4) 0 fi41 (loopAt ((Try.f41).body.getD .skip) 24) [(2, .i .u64 x1), (8, .i .u64 x2), (9, .i .u64 x3), (10, .i .u64 x4), (14, .i .u64 x5), (15, .i .u64 x6), (16, .i .u64 x7), (17, .i .u64 x8), (18, .i .u64 x9)] ⟨0, []⟩ (fun ex T H => match (generalizing := false) ex with
      | .normal => normAt (some [2, 8, 9, 10, 14, 15, 16, 17, 18]) 0 T H (fun T H => L41_24G bits_Div64_l1 k n 0 T H K)
      | ex => exitNorm fi41.ann 24 0 K ex T H) =
    (fun (rec : Int → Int → Int → Int → Int → Int → Int → Int → Int → Option R) (K0 : Int → Option R) =>
    cond (decide (x9 ≥ 4294967296)) (
      cond (decide ((Wu64 (x7 + x3)) ≥ 4294967296)) (
        K0 (Wu64 (x9 - 1))) (
        rec x1 x2 x3 x4 x5 x6 (Wu64 (x7 + x3)) x8 (Wu64 (x9 - 1)))) (
      cond (decide ((Wu64 (x9 * x4)) > (Wu64 ((Wu64 (4294967296 * x7)) + x5)))) (
        cond (decide ((Wu64 (x7 + x3)) ≥ 4294967296)) (
          K0 (Wu64 (x9 - 1))) (
          rec x1 x2 x3 x4 x5 x6 (Wu64 (x7 + x3)) x8 (Wu64 (x9 - 1)))) (
        K0 x9))) (fun x1 x2 x3 x4 x5 x6 x7 x8 x9 => bits_Div64_l1 k n x1 x2 x3 x4 x5 x6 x7 x8 x9 (fun q6 => K (.exit 2) [(2, .i .u64 x1), (8, .i .u64 x2), (14, .i .u64 x5), (15, .i .u64 x6), (17, .i .u64 x8), (18, .i .u64 q6)] ⟨0, []⟩)) (fun q6 => K (.exit 2) [(2, .i .u64 x1), (8, .i .u64 x2), (14, .i .u64 x5), (15, .i .u64 x6), (17, .i .u64 x8), (18, .i .u64 q6)] ⟨0, []⟩) := by kernel_rfl
theorem bits_Div64_l1_eq {R : Type} (k n : Nat) (x1 : Int) (x2 : Int) (x3 : Int) (x4 : Int) (x5 : Int) (x6 : Int) (x7 : Int) (x8 : Int) (x9 : Int) (K : Kont R) :
    codeK (cx41_24 k) (run (cx41_24 k) 4) 0 fi41 (loopAt ((Try.f41).body.getD .skip) 24) [(2, .i .u64 x1), (8, .i .u64 x2), (9, .i .u64 x3), (10, .i .u64 x4), (14, .i .u64 x5), (15, .i .u64 x6), (16, .i .u64 x7), (17, .i .u64 x8), (18, .i .u64 x9)] ⟨0, []⟩ (fun ex T H => match (generalizing := false) ex with
      | .normal => normAt (some [2, 8, 9, 10, 14, 15, 16, 17, 18]) 0 T H (fun T H => L41_24 k n 0 T H K)
      | ex => exitNorm fi41.ann 24 0 K ex T H) =
    bits_Div64_l1 k (n + 1) x1 x2 x3 x4 x5 x6 x7 x8 x9 (fun q6 => K (.exit 2) [(2, .i .u64 x1), (8, .i .u64 x2), (14, .i .u64 x5), (15, .i .u64 x6), (17, .i .u64 x8), (18, .i .u64 q6)] ⟨0, []⟩) := bits_Div64_l1_gen bits_LeadingZeros64 bits_Div64_l0 bits_Div64_l1 k n x1 x2 x3 x4 x5 x6 x7 x8 x9 K
theorem L41_24_cok {R : Type} (k : Nat) : CodeOk Try.prog (cx41_24 k : Cx R) fi41 (loopAt ((Try.f41).body.getD .skip) 24) := loopAt_ok (((cx41_24_ok k).fns 41 fi41 (by kernel_rfl)).2.2.2 ((Try.f41).body.getD .skip) (by kernel_rfl))
theorem L41_24_ok {R : Type} (k : Nat) : ∀ n, LoopOk Try.prog (Try.f41).ntmps (loopAt ((Try.f41).body.getD .skip) 24) (L41_24 k n : LSum R)
  | 0 => by
    intro pin T H K r h
    unfold L41_24 L41_24G at h
    split at h
    all_goals exact nomatch (show (none : Option R) = some r from h)
  | n + 1 => by
    intro pin T H K r h
    unfold L41_24 L41_24G at h
    split at h
    · rw [← bits_Div64_l1_eq] at h
      obtain ⟨ex, T1, H1, h, hb⟩ := codeK_sound (cx41_24_ok k) (run_sound (cx41_24_ok k) 4) _ fi41 _ _ _ _ _ (L41_24_cok k) h
      exact loop_step (fun T H hh => L41_24_ok k n _ T H K r hh) hb h
    · cases h
noncomputable def cx41 {R : Type} (k : Nat) : Cx R := mkCx Ty exts [(43, true, S43 k)] fi41 [(17, L41_17 k k), (24, L41_24 k k)]
theorem cx41_ok {R : Type} (k : Nat) : CxOk Try.prog (cx41 k : Cx R) := mkCx_ok (c := ((Try.f41).body.getD .skip)) ty_ok mixed exts_ok (allSum_cons (S43_ok k) en43 allSum_nil) Try.func41 en41 (by kernel_rfl) (by kernel_rfl) (allLoop_loop (by kernel_rfl) (L41_17_ok k k) (allLoop_loop (by kernel_rfl) (L41_24_ok k k) allLoop_nil))
noncomputable def bits_Div64 {R : Type} (k : Nat) (a1 : Int) (a2 : Int) (a3 : Int) (K0 : Int → Int → Option R) : Option R :=
  cond (a3 == 0) (
    none) (
    cond (decide (a3 ≤ a1)) (
      none) (
      cond (a1 == 0) (
        cond (decide (a3 = 0)) (
          none) (
          cond (decide (a3 = 0)) (
            none) (
            K0 (Wu64 (Int.tdiv a2 a3)) (Int.tmod a2 a3)))) (
        bits_LeadingZeros64 k a3 (fun r1 =>
          cond (decide ((Wu64 r1) < 0)) (
            none) (
            cond (decide ((Wu64 r1) < 0)) (
              none) (
              cond (decide ((Wu64 (64 - (Wu64 r1))) < 0)) (
                none) (
                cond (decide ((Wu64 r1) < 0)) (
                  none) (
                  cond (decide ((shr .u64 (shl .u64 a3 (Wu64 r1)) 32) = 0)) (
                    none) (
                    bits_Div64_l0 k k (shl .u64 a3 (Wu64 r1)) (Wu64 r1) (shr .u64 (shl .u64 a3 (Wu64 r1)) 32) (bAnd .u64 (shl .u64 a3 (Wu64 r1)) 4294967295) (bOr .u64 (shl .u64 a1 (Wu64 r1)) (shr .u64 a2 (Wu64 (64 - (Wu64 r1))))) (shr .u64 (shl .u64 a2 (Wu64 r1)) 32) (bAnd .u64 (shl .u64 a2 (Wu64 r1)) 4294967295) (Wu64 (Int.tdiv (bOr .u64 (shl .u64 a1 (Wu64 r1)) (shr .u64 a2 (Wu64 (64 - (Wu64 r1))))) (shr .u64 (shl .u64 a3 (Wu64 r1)) 32))) (Wu64 ((bOr .u64 (shl .u64 a1 (Wu64 r1)) (shr .u64 a2 (Wu64 (64 - (Wu64 r1))))) - (Wu64 ((Wu64 (Int.tdiv (bOr .u64 (shl .u64 a1 (Wu64 r1)) (shr .u64 a2 (Wu64 (64 - (Wu64 r1))))) (shr .u64 (shl .u64 a3 (Wu64 r1)) 32))) * (shr .u64 (shl .u64 a3 (Wu64 r1)) 32))))) (fun r2 =>
                      cond (decide ((shr .u64 (shl .u64 a3 (Wu64 r1)) 32) = 0)) (
                        none) (
                        bits_Div64_l1 k k (shl .u64 a3 (Wu64 r1)) (Wu64 r1) (shr .u64 (shl .u64 a3 (Wu64 r1)) 32) (bAnd .u64 (shl .u64 a3 (Wu64 r1)) 4294967295) (bAnd .u64 (shl .u64 a2 (Wu64 r1)) 4294967295) r2 (Wu64 ((Wu64 ((Wu64 ((Wu64 ((bOr .u64 (shl .u64 a1 (Wu64 r1)) (shr .u64 a2 (Wu64 (64 - (Wu64 r1))))) * 4294967296)) + (shr .u64 (shl .u64 a2 (Wu64 r1)) 32))) - (Wu64 (r2 * (shl .u64 a3 (Wu64 r1)))))) - (Wu64 ((Wu64 (Int.tdiv (Wu64 ((Wu64 ((Wu64 ((bOr .u64 (shl .u64 a1 (Wu64 r1)) (shr .u64 a2 (Wu64 (64 - (Wu64 r1))))) * 4294967296)) + (shr .u64 (shl .u64 a2 (Wu64 r1)) 32))) - (Wu64 (r2 * (shl .u64 a3 (Wu64 r1)))))) (shr .u64 (shl .u64 a3 (Wu64 r1)) 32))) * (shr .u64 (shl .u64 a3 (Wu64 r1)) 32))))) (Wu64 ((Wu64 ((Wu64 ((bOr .u64 (shl .u64 a1 (Wu64 r1)) (shr .u64 a2 (Wu64 (64 - (Wu64 r1))))) * 4294967296)) + (shr .u64 (shl .u64 a2 (Wu64 r1)) 32))) - (Wu64 (r2 * (shl .u64 a3 (Wu64 r1)))))) (Wu64 (Int.tdiv (Wu64 ((Wu64 ((Wu64 ((bOr .u64 (shl .u64 a1 (Wu64 r1)) (shr .u64 a2 (Wu64 (64 - (Wu64 r1))))) * 4294967296)) + (shr .u64 (shl .u64 a2 (Wu64 r1)) 32))) - (Wu64 (r2 * (shl .u64 a3 (Wu64 r1)))))) (shr .u64 (shl .u64 a3 (Wu64 r1)) 32))) (fun r3 =>
                          cond (decide ((Wu64 r1) < 0)) (
                            none) (
                            K0 (Wu64 ((Wu64 (r2 * 4294967296)) + r3)) (shr .u64 (Wu64 ((Wu64 ((Wu64 ((Wu64 ((Wu64 ((Wu64 ((bOr .u64 (shl .u64 a1 (Wu64 r1)) (shr .u64 a2 (Wu64 (64 - (Wu64 r1))))) * 4294967296)) + (shr .u64 (shl .u64 a2 (Wu64 r1)) 32))) - (Wu64 (r2 * (shl .u64 a3 (Wu64 r1)))))) * 4294967296)) + (bAnd .u64 (shl .u64 a2 (Wu64 r1)) 4294967295))) - (Wu64 (r3 * (shl .u64 a3 (Wu64 r1)))))) (Wu64 r1)))))))))))))))
theorem bits_Div64_gen {R : Type} (bits_LeadingZeros64 : Nat → Int → (Int → Option R) → Option R) (bits_Div64_l0 : Nat → Nat → Int → Int → Int → Int → Int → Int → Int → Int → Int → (Int → Option R) → Option R) (bits_Div64_l1 : Nat → Nat → Int → Int → Int → Int → Int → Int → Int → Int → Int → (Int → Option R) → Option R) (k : Nat) (a1 : Int) (a2 : Int) (a3 : Int) (K : AV → Heap → Option R) :
    fnK (mkCx Ty exts [(43, true, S43G bits_LeadingZeros64 k)] fi41 [(17, L41_17G bits_Div64_l0 k k), (24, L41_24G bits_Div64_l1 k k)]) 6 41 [.i .u64 a1, .i .u64 a2, .i .u64 a3] ⟨0, []⟩ K = (fun (K0 : Int → Int → Option R) =>
    cond (a3 == 0) (
      none) (
      cond (decide (a3 ≤ a1)) (
        none) (
        cond (a1 == 0) (
          cond (decide (a3 = 0)) (
            none) (
            cond (decide (a3 = 0)) (
              none) (
              K0 (Wu64 (Int.tdiv a2 a3)) (Int.tmod a2 a3)))) (
          bits_LeadingZeros64 k a3 (fun r1 =>
            cond (decide ((Wu64 r1) < 0)) (
              none) (
              cond (decide ((Wu64 r1) < 0)) (
                none) (
                cond (decide ((Wu64 (64 - (Wu64 r1))) < 0)) (
                  none) (
                  cond (decide ((Wu64 r1) < 0)) (
                    none) (
                    cond (decide ((shr .u64 (shl .u64 a3 (Wu64 r1)) 32) = 0)) (
                      none) (
                      bits_Div64_l0 k k (shl .u64 a3 (Wu64 r1)) (Wu64 r1) (shr .u64 (shl .u64 a3 (Wu64 r1)) 32) (bAnd .u64 (shl .u64 a3 (Wu64 r1)) 4294967295) (bOr .u64 (shl .u64 a1 (Wu64 r1)) (shr .u64 a2 (Wu64 (64 - (Wu64 r1))))) (shr .u64 (shl .u64 a2 (Wu64 r1)) 32) (bAnd .u64 (shl .u64 a2 (Wu64 r1)) 4294967295) (Wu64 (Int.tdiv (bOr .u64 (shl .u64 a1 (Wu64 r1)) (shr .u64 a2 (Wu64 (64 - (Wu64 r1))))) (shr .u64 (shl .u64 a3 (Wu64 r1)) 32))) (Wu64 ((bOr .u64 (shl .u64 a1 (Wu64 r1)) (shr .u64 a2 (Wu64 (64 - (Wu64 r1))))) - (Wu64 ((Wu64 (Int.tdiv (bOr .u64 (shl .u64 a1 (Wu64 r1)) (shr .u64 a2 (Wu64 (64 - (Wu64 r1))))) (shr .u64 (shl .u64 a3 (Wu64 r1)) 32))) * (shr .u64 (shl .u64 a3 (Wu64 r1)) 32))))) (fun r2 =>
                        cond (decide ((shr .u64 (shl .u64 a3 (Wu64 r1)) 32) = 0)) (
                          none) (
                          bits_Div64_l1 k k (shl .u64 a3 (Wu64 r1)) (Wu64 r1) (shr .u64 (shl .u64 a3 (Wu64 r1)) 32) (bAnd .u64 (shl .u64 a3 (Wu64 r1)) 4294967295) (bAnd .u64 (shl .u64 a2 (Wu64 r1)) 4294967295) r2 (Wu64 ((Wu64 ((Wu64 ((Wu64 ((bOr .u64 (shl .u64 a1 (Wu64 r1)) (shr .u64 a2 (Wu64 (64 - (Wu64 r1))))) * 4294967296)) + (shr .u64 (shl .u64 a2 (Wu64 r1)) 32))) - (Wu64 (r2 * (shl .u64 a3 (Wu64 r1)))))) - (Wu64 ((Wu64 (Int.tdiv (Wu64 ((Wu64 ((Wu64 ((bOr .u64 (shl .u64 a1 (Wu64 r1)) (shr .u64 a2 (Wu64 (64 - (Wu64 r1))))) * 4294967296)) + (shr .u64 (shl .u64 a2 (Wu64 r1)) 32))) - (Wu64 (r2 * (shl .u64 a3 (Wu64 r1)))))) (shr .u64 (shl .u64 a3 (Wu64 r1)) 32))) * (shr .u64 (shl .u64 a3 (Wu64 r1)) 32))))) (Wu64 ((Wu64 ((Wu64 ((bOr .u64 (shl .u64 a1 (Wu64 r1)) (shr .u64 a2 (Wu64 (64 - (Wu64 r1))))) * 4294967296)) + (shr .u64 (shl .u64 a2 (Wu64 r1)) 32))) - (Wu64 (r2 * (shl .u64 a3 (Wu64 r1)))))) (Wu64 (Int.tdiv (Wu64 ((Wu64 ((Wu64 ((bOr .u64 (shl .u64 a1 (Wu64 r1)) (shr .u64 a2 (Wu64 (64 - (Wu64 r1))))) * 4294967296)) + (shr .u64 (shl .u64 a2 (Wu64 r1)) 32))) - (Wu64 (r2 * (shl .u64 a3 (Wu64 r1)))))) (shr .u64 (shl .u64 a3 (Wu64 r1)) 32))) (fun r3 =>
                            cond (decide ((Wu64 r1) < 0)) (
                              none) (
                              K0 (Wu64 ((Wu64 (r2 * 4294967296)) + r3)) (shr .u64 (Wu64 ((Wu64 ((Wu64 ((Wu64 ((Wu64 ((Wu64 ((bOr .u64 (shl .u64 a1 (Wu64 r1)) (shr .u64 a2 (Wu64 (64 - (Wu64 r1))))) * 4294967296)) + (shr .u64 (shl .u64 a2 (Wu64 r1)) 32))) - (Wu64 (r2 * (shl .u64 a3 (Wu64 r1)))))) * 4294967296)) + (bAnd .u64 (shl .u64 a2 (Wu64 r1)) 4294967295))) - (Wu64 (r3 * (shl .u64 a3 (Wu64 r1)))))) (Wu64 r1)))))))))))))))) (fun q1 q2 => K (.tup [.i .u64 q1, .i .u64 q2]) ⟨0, []⟩) := by kernel_rfl
theorem bits_Div64_eq {R : Type} (k : Nat) (a1 : Int) (a2 : Int) (a3 : Int) (K : AV → Heap → Option R) :
    fnK (cx41 k) 6 41 [.i .u64 a1, .i .u64 a2, .i .u64 a3] ⟨0, []⟩ K = bits_Div64 k a1 a2 a3 (fun q1 q2 => K (.tup [.i .u64 q1, .i .u64 q2]) ⟨0, []⟩) := bits_Div64_gen bits_LeadingZeros64 bits_Div64_l0 bits_Div64_l1 k a1 a2 a3 K
noncomputable def S41G {R : Type} (bits_Div64 : Nat → Int → Int → Int → (Int → Int → Option R) → Option R) (k : Nat) : Sum R := fun args H K => match args, H with
  | [.i .u64 a1, .i .u64 a2, .i .u64 a3], ⟨0, []⟩ => bits_Div64 k a1 a2 a3 (fun q1 q2 => K (.tup [.i .u64 q1, .i .u64 q2]) ⟨0, []⟩)
  | _, _ => none
noncomputable def S41 {R : Type} (k : Nat) : Sum R := S41G bits_Div64 k
theorem S41_ok0 {R : Type} (k : Nat) : SumOk Try.prog 41 false (S41 k : Sum R) := by
  intro args H K r h
  unfold S41 S41G at h
  split at h
  · exact fnK_sound (cx41_ok k) 6 41 _ _ K r (by show fnK _ _ _ _ _ _ = _; rw [bits_Div64_eq]; exact h)
  · cases h
theorem S41_ok {R : Type} (k : Nat) : SumOk Try.prog 41 true (S41 k : Sum R) := by
  refine sumOk_keep (S41_ok0 k) ?_
  intro args H K r h
  unfold S41 S41G at h ⊢
  split at h
  · refine Eq.trans ?_ h
    show bits_Div64 k _ _ _ _ = bits_Div64 k _ _ _ _
    congr 1
    all_goals first | exact (funext fun q1 => funext fun q2 => if_pos (keeps_app _ _ _ [])) | skip
  · cases h
end Go.Proofs.Ytnbmconaglehbaa.N
