/- Printed by wip/gen/emit.py: functions of the program as plain Lean functions, tied to the model by the evaluator. Conditions: none. -/
import Derived.Test.YtejfnbjhcohkiaaN0
namespace Go.Proofs.Ytejfnbjhcohkiaa.N
set_option linter.unusedVariables false
set_option maxRecDepth 100000
open Go Go.Ab
-- function 76: math/bits.Len64
noncomputable def fi76 : FnI := ⟨76, Try.f76, []⟩
theorem en76 : Enters Try.prog 76 := enters_of Try.func76 (c := ((Try.f76).body.getD .skip)) (by kernel_rfl) (by kernel_rfl)
noncomputable def str_bits_Len64_0 : ByteArray := strAtN (strsOf ((Try.f76).body.getD .skip)) 0
noncomputable def cx76 {R : Type} (k : Nat) : Cx R := mkCx Ty exts [] fi76 [] []
theorem cx76_ok {R : Type} (k : Nat) : CxOk Try.prog (cx76 k : Cx R) := mkCx_ok (c := ((Try.f76).body.getD .skip)) ty_ok mixed exts_ok allSum_nil Try.func76 en76 (by kernel_rfl) (by kernel_rfl) allLoop_nil allCut_nil
@[reducible] def bits_Len64Y (R : Type) : Type := Nat → Int → (Int → Option R) → Option R
noncomputable def bits_Len64T {R : Type} (k : Nat) (a1 : Int) (K0 : Int → Option R) : Option R :=
  cond (decide (a1 ≥ 4294967296)) (
    cond (decide ((shr .u64 a1 32) ≥ 65536)) (
      cond (decide ((shr .u64 (shr .u64 a1 32) 16) ≥ 256)) (
        Option.bind (strAt str_bits_Len64_0 (Wu8 (shr .u64 (shr .u64 (shr .u64 a1 32) 16) 8))) fun c1 =>
        K0 (Wi64 (56 + (Wi64 c1)))) (
        Option.bind (strAt str_bits_Len64_0 (Wu8 (shr .u64 (shr .u64 a1 32) 16))) fun c2 =>
        K0 (Wi64 (48 + (Wi64 c2))))) (
      cond (decide ((shr .u64 a1 32) ≥ 256)) (
        Option.bind (strAt str_bits_Len64_0 (Wu8 (shr .u64 (shr .u64 a1 32) 8))) fun c3 =>
        K0 (Wi64 (40 + (Wi64 c3)))) (
        Option.bind (strAt str_bits_Len64_0 (Wu8 (shr .u64 a1 32))) fun c4 =>
        K0 (Wi64 (32 + (Wi64 c4)))))) (
    cond (decide (a1 ≥ 65536)) (
      cond (decide ((shr .u64 a1 16) ≥ 256)) (
        Option.bind (strAt str_bits_Len64_0 (Wu8 (shr .u64 (shr .u64 a1 16) 8))) fun c5 =>
        K0 (Wi64 (24 + (Wi64 c5)))) (
        Option.bind (strAt str_bits_Len64_0 (Wu8 (shr .u64 a1 16))) fun c6 =>
        K0 (Wi64 (16 + (Wi64 c6))))) (
      cond (decide (a1 ≥ 256)) (
        Option.bind (strAt str_bits_Len64_0 (Wu8 (shr .u64 a1 8))) fun c7 =>
        K0 (Wi64 (8 + (Wi64 c7)))) (
        Option.bind (strAt str_bits_Len64_0 (Wu8 a1)) fun c8 =>
        K0 (Wi64 (0 + (Wi64 c8))))))
noncomputable def bits_Len64 {R : Type} (k : Nat) (a1 : Int) (K0 : Int → Option R) : Option R := bits_Len64T k a1 K0
theorem bits_Len64_gen {R : Type} (k : Nat) (a1 : Int) (K : AV → Heap → Option R) :
    fnK (mkCx Ty exts [] fi76 [] []) 6 76 [.i .u64 a1] ⟨0, []⟩ K = bits_Len64T k a1 (fun q1 => K (.i .i64 q1) ⟨0, []⟩) := by kernel_rfl
noncomputable def S76G {R : Type} (bits_Len64 : bits_Len64Y R) (k : Nat) : Sum R := fun args H K => match args, H with
  | [.i .u64 a1], ⟨0, []⟩ => bits_Len64 k a1 (fun q1 => K (.i .i64 q1) ⟨0, []⟩)
  | _, _ => none
noncomputable def S76 {R : Type} (k : Nat) : Sum R := S76G bits_Len64 k
theorem S76_ok0 {R : Type} (k : Nat) : SumOk Try.prog 76 false (S76 k : Sum R) := by
  intro args H K r h
  unfold S76 S76G at h
  split at h
  · exact fnK_sound (cx76_ok k) 6 76 _ _ K r ((bits_Len64_gen k _ K).trans h)
  · cases h
theorem S76_ok {R : Type} (k : Nat) : SumOk Try.prog 76 true (S76 k : Sum R) := by
  refine sumOk_keep (S76_ok0 k) ?_
  intro args H K r h
  unfold S76 S76G at h ⊢
  split at h
  · refine Eq.trans ?_ h
    show bits_Len64 k _ _ = bits_Len64 k _ _
    exact congrArg (bits_Len64 k _) (funext fun q1 => if_pos (keeps_app _ _ _ []))
  · cases h
-- function 91: cmp.isNaN[int64]
noncomputable def fi91 : FnI := ⟨91, Try.f91, []⟩
theorem en91 : Enters Try.prog 91 := enters_of Try.func91 (c := ((Try.f91).body.getD .skip)) (by kernel_rfl) (by kernel_rfl)
noncomputable def cx91 {R : Type} (k : Nat) : Cx R := mkCx Ty exts [] fi91 [] []
theorem cx91_ok {R : Type} (k : Nat) : CxOk Try.prog (cx91 k : Cx R) := mkCx_ok (c := ((Try.f91).body.getD .skip)) ty_ok mixed exts_ok allSum_nil Try.func91 en91 (by kernel_rfl) (by kernel_rfl) allLoop_nil allCut_nil
@[reducible] def cmp_isNaN_int64Y (R : Type) : Type := Nat → Int → (Bool → Option R) → Option R
noncomputable def cmp_isNaN_int64T {R : Type} (k : Nat) (a1 : Int) (K0 : Bool → Option R) : Option R :=
  K0 (a1 != a1)
noncomputable def cmp_isNaN_int64 {R : Type} (k : Nat) (a1 : Int) (K0 : Bool → Option R) : Option R := cmp_isNaN_int64T k a1 K0
theorem cmp_isNaN_int64_gen {R : Type} (k : Nat) (a1 : Int) (K : AV → Heap → Option R) :
    fnK (mkCx Ty exts [] fi91 [] []) 6 91 [.i .i64 a1] ⟨0, []⟩ K = cmp_isNaN_int64T k a1 (fun q1 => K (.b q1) ⟨0, []⟩) := by kernel_rfl
noncomputable def S91G {R : Type} (cmp_isNaN_int64 : cmp_isNaN_int64Y R) (k : Nat) : Sum R := fun args H K => match args, H with
  | [.i .i64 a1], ⟨0, []⟩ => cmp_isNaN_int64 k a1 (fun q1 => K (.b q1) ⟨0, []⟩)
  | _, _ => none
noncomputable def S91 {R : Type} (k : Nat) : Sum R := S91G cmp_isNaN_int64 k
theorem S91_ok0 {R : Type} (k : Nat) : SumOk Try.prog 91 false (S91 k : Sum R) := by
  intro args H K r h
  unfold S91 S91G at h
  split at h
  · exact fnK_sound (cx91_ok k) 6 91 _ _ K r ((cmp_isNaN_int64_gen k _ K).trans h)
  · cases h
theorem S91_ok {R : Type} (k : Nat) : SumOk Try.prog 91 true (S91 k : Sum R) := by
  refine sumOk_keep (S91_ok0 k) ?_
  intro args H K r h
  unfold S91 S91G at h ⊢
  split at h
  · refine Eq.trans ?_ h
    show cmp_isNaN_int64 k _ _ = cmp_isNaN_int64 k _ _
    exact congrArg (cmp_isNaN_int64 k _) (funext fun q1 => if_pos (keeps_app _ _ _ []))
  · cases h
-- function 73: cmp.Compare[int64]
noncomputable def fi73 : FnI := ⟨73, Try.f73, []⟩
theorem en73 : Enters Try.prog 73 := enters_of Try.func73 (c := ((Try.f73).body.getD .skip)) (by kernel_rfl) (by kernel_rfl)
noncomputable def cx73 {R : Type} (k : Nat) : Cx R := mkCx Ty exts [(91, true, S91 k)] fi73 [] []
theorem cx73_ok {R : Type} (k : Nat) : CxOk Try.prog (cx73 k : Cx R) := mkCx_ok (c := ((Try.f73).body.getD .skip)) ty_ok mixed exts_ok (allSum_cons (S91_ok k) en91 allSum_nil) Try.func73 en73 (by kernel_rfl) (by kernel_rfl) allLoop_nil allCut_nil
@[reducible] def cmp_Compare_int64Y (R : Type) : Type := Nat → Int → Int → (Int → Option R) → Option R
noncomputable def cmp_Compare_int64T {R : Type} (cmp_isNaN_int64 : cmp_isNaN_int64Y R) (k : Nat) (a1 : Int) (a2 : Int) (K0 : Int → Option R) : Option R :=
  cmp_isNaN_int64 k a1 (fun r1 =>
    cmp_isNaN_int64 k a2 (fun r2 =>
      cond r1 (
        cond r2 (
          K0 0) (
          K0 (-1))) (
        cond r2 (
          K0 1) (
          cond (decide (a1 < a2)) (
            K0 (-1)) (
            cond (decide (a1 > a2)) (
              K0 1) (
              K0 0))))))
noncomputable def cmp_Compare_int64 {R : Type} (k : Nat) (a1 : Int) (a2 : Int) (K0 : Int → Option R) : Option R := cmp_Compare_int64T cmp_isNaN_int64 k a1 a2 K0
theorem cmp_Compare_int64_gen {R : Type} (cmp_isNaN_int64 : cmp_isNaN_int64Y R) (k : Nat) (a1 : Int) (a2 : Int) (K : AV → Heap → Option R) :
    fnK (mkCx Ty exts [(91, true, S91G cmp_isNaN_int64 k)] fi73 [] []) 6 73 [.i .i64 a1, .i .i64 a2] ⟨0, []⟩ K = cmp_Compare_int64T cmp_isNaN_int64 k a1 a2 (fun q1 => K (.i .i64 q1) ⟨0, []⟩) := by kernel_rfl
noncomputable def S73G {R : Type} (cmp_Compare_int64 : cmp_Compare_int64Y R) (k : Nat) : Sum R := fun args H K => match args, H with
  | [.i .i64 a1, .i .i64 a2], ⟨0, []⟩ => cmp_Compare_int64 k a1 a2 (fun q1 => K (.i .i64 q1) ⟨0, []⟩)
  | _, _ => none
noncomputable def S73 {R : Type} (k : Nat) : Sum R := S73G cmp_Compare_int64 k
theorem S73_ok0 {R : Type} (k : Nat) : SumOk Try.prog 73 false (S73 k : Sum R) := by
  intro args H K r h
  unfold S73 S73G at h
  split at h
  · exact fnK_sound (cx73_ok k) 6 73 _ _ K r ((cmp_Compare_int64_gen cmp_isNaN_int64 k _ _ K).trans h)
  · cases h
theorem S73_ok {R : Type} (k : Nat) : SumOk Try.prog 73 true (S73 k : Sum R) := by
  refine sumOk_keep (S73_ok0 k) ?_
  intro args H K r h
  unfold S73 S73G at h ⊢
  split at h
  · refine Eq.trans ?_ h
    show cmp_Compare_int64 k _ _ _ = cmp_Compare_int64 k _ _ _
    exact congrArg (cmp_Compare_int64 k _ _) (funext fun q1 => if_pos (keeps_app _ _ _ []))
  · cases h
-- function 75: math/bits.Mul64
noncomputable def fi75 : FnI := ⟨75, Try.f75, []⟩
theorem en75 : Enters Try.prog 75 := enters_of Try.func75 (c := ((Try.f75).body.getD .skip)) (by kernel_rfl) (by kernel_rfl)
noncomputable def cx75 {R : Type} (k : Nat) : Cx R := mkCx Ty exts [] fi75 [] []
theorem cx75_ok {R : Type} (k : Nat) : CxOk Try.prog (cx75 k : Cx R) := mkCx_ok (c := ((Try.f75).body.getD .skip)) ty_ok mixed exts_ok allSum_nil Try.func75 en75 (by kernel_rfl) (by kernel_rfl) allLoop_nil allCut_nil
@[reducible] def bits_Mul64Y (R : Type) : Type := Nat → Int → Int → (Int → Int → Option R) → Option R
noncomputable def bits_Mul64T {R : Type} (k : Nat) (a1 : Int) (a2 : Int) (K0 : Int → Int → Option R) : Option R :=
  K0 (Wu64 ((Wu64 ((Wu64 ((shr .u64 a1 32) * (shr .u64 a2 32))) + (shr .u64 (Wu64 ((Wu64 ((shr .u64 a1 32) * (bAnd .u64 a2 4294967295))) + (shr .u64 (Wu64 ((bAnd .u64 a1 4294967295) * (bAnd .u64 a2 4294967295))) 32))) 32))) + (shr .u64 (Wu64 ((bAnd .u64 (Wu64 ((Wu64 ((shr .u64 a1 32) * (bAnd .u64 a2 4294967295))) + (shr .u64 (Wu64 ((bAnd .u64 a1 4294967295) * (bAnd .u64 a2 4294967295))) 32))) 4294967295) + (Wu64 ((bAnd .u64 a1 4294967295) * (shr .u64 a2 32))))) 32))) (Wu64 (a1 * a2))
noncomputable def bits_Mul64 {R : Type} (k : Nat) (a1 : Int) (a2 : Int) (K0 : Int → Int → Option R) : Option R := bits_Mul64T k a1 a2 K0
theorem bits_Mul64_gen {R : Type} (k : Nat) (a1 : Int) (a2 : Int) (K : AV → Heap → Option R) :
    fnK (mkCx Ty exts [] fi75 [] []) 6 75 [.i .u64 a1, .i .u64 a2] ⟨0, []⟩ K = bits_Mul64T k a1 a2 (fun q1 q2 => K (.tup [.i .u64 q1, .i .u64 q2]) ⟨0, []⟩) := by kernel_rfl
noncomputable def S75G {R : Type} (bits_Mul64 : bits_Mul64Y R) (k : Nat) : Sum R := fun args H K => match args, H with
  | [.i .u64 a1, .i .u64 a2], ⟨0, []⟩ => bits_Mul64 k a1 a2 (fun q1 q2 => K (.tup [.i .u64 q1, .i .u64 q2]) ⟨0, []⟩)
  | _, _ => none
noncomputable def S75 {R : Type} (k : Nat) : Sum R := S75G bits_Mul64 k
theorem S75_ok0 {R : Type} (k : Nat) : SumOk Try.prog 75 false (S75 k : Sum R) := by
  intro args H K r h
  unfold S75 S75G at h
  split at h
  · exact fnK_sound (cx75_ok k) 6 75 _ _ K r ((bits_Mul64_gen k _ _ K).trans h)
  · cases h
theorem S75_ok {R : Type} (k : Nat) : SumOk Try.prog 75 true (S75 k : Sum R) := by
  refine sumOk_keep (S75_ok0 k) ?_
  intro args H K r h
  unfold S75 S75G at h ⊢
  split at h
  · refine Eq.trans ?_ h
    show bits_Mul64 k _ _ _ = bits_Mul64 k _ _ _
    exact congrArg (bits_Mul64 k _ _) (funext fun q1 => funext fun q2 => if_pos (keeps_app _ _ _ []))
  · cases h
-- function 105: cmp.isNaN[uint64]
noncomputable def fi105 : FnI := ⟨105, Try.f105, []⟩
theorem en105 : Enters Try.prog 105 := enters_of Try.func105 (c := ((Try.f105).body.getD .skip)) (by kernel_rfl) (by kernel_rfl)
noncomputable def cx105 {R : Type} (k : Nat) : Cx R := mkCx Ty exts [] fi105 [] []
theorem cx105_ok {R : Type} (k : Nat) : CxOk Try.prog (cx105 k : Cx R) := mkCx_ok (c := ((Try.f105).body.getD .skip)) ty_ok mixed exts_ok allSum_nil Try.func105 en105 (by kernel_rfl) (by kernel_rfl) allLoop_nil allCut_nil
@[reducible] def cmp_isNaN_uint64Y (R : Type) : Type := Nat → Int → (Bool → Option R) → Option R
noncomputable def cmp_isNaN_uint64T {R : Type} (k : Nat) (a1 : Int) (K0 : Bool → Option R) : Option R :=
  K0 (a1 != a1)
noncomputable def cmp_isNaN_uint64 {R : Type} (k : Nat) (a1 : Int) (K0 : Bool → Option R) : Option R := cmp_isNaN_uint64T k a1 K0
theorem cmp_isNaN_uint64_gen {R : Type} (k : Nat) (a1 : Int) (K : AV → Heap → Option R) :
    fnK (mkCx Ty exts [] fi105 [] []) 6 105 [.i .u64 a1] ⟨0, []⟩ K = cmp_isNaN_uint64T k a1 (fun q1 => K (.b q1) ⟨0, []⟩) := by kernel_rfl
noncomputable def S105G {R : Type} (cmp_isNaN_uint64 : cmp_isNaN_uint64Y R) (k : Nat) : Sum R := fun args H K => match args, H with
  | [.i .u64 a1], ⟨0, []⟩ => cmp_isNaN_uint64 k a1 (fun q1 => K (.b q1) ⟨0, []⟩)
  | _, _ => none
noncomputable def S105 {R : Type} (k : Nat) : Sum R := S105G cmp_isNaN_uint64 k
theorem S105_ok0 {R : Type} (k : Nat) : SumOk Try.prog 105 false (S105 k : Sum R) := by
  intro args H K r h
  unfold S105 S105G at h
  split at h
  · exact fnK_sound (cx105_ok k) 6 105 _ _ K r ((cmp_isNaN_uint64_gen k _ K).trans h)
  · cases h
theorem S105_ok {R : Type} (k : Nat) : SumOk Try.prog 105 true (S105 k : Sum R) := by
  refine sumOk_keep (S105_ok0 k) ?_
  intro args H K r h
  unfold S105 S105G at h ⊢
  split at h
  · refine Eq.trans ?_ h
    show cmp_isNaN_uint64 k _ _ = cmp_isNaN_uint64 k _ _
    exact congrArg (cmp_isNaN_uint64 k _) (funext fun q1 => if_pos (keeps_app _ _ _ []))
  · cases h
-- function 94: cmp.Compare[uint64]
noncomputable def fi94 : FnI := ⟨94, Try.f94, []⟩
theorem en94 : Enters Try.prog 94 := enters_of Try.func94 (c := ((Try.f94).body.getD .skip)) (by kernel_rfl) (by kernel_rfl)
noncomputable def cx94 {R : Type} (k : Nat) : Cx R := mkCx Ty exts [(105, true, S105 k)] fi94 [] []
theorem cx94_ok {R : Type} (k : Nat) : CxOk Try.prog (cx94 k : Cx R) := mkCx_ok (c := ((Try.f94).body.getD .skip)) ty_ok mixed exts_ok (allSum_cons (S105_ok k) en105 allSum_nil) Try.func94 en94 (by kernel_rfl) (by kernel_rfl) allLoop_nil allCut_nil
@[reducible] def cmp_Compare_uint64Y (R : Type) : Type := Nat → Int → Int → (Int → Option R) → Option R
noncomputable def cmp_Compare_uint64T {R : Type} (cmp_isNaN_uint64 : cmp_isNaN_uint64Y R) (k : Nat) (a1 : Int) (a2 : Int) (K0 : Int → Option R) : Option R :=
  cmp_isNaN_uint64 k a1 (fun r1 =>
    cmp_isNaN_uint64 k a2 (fun r2 =>
      cond r1 (
        cond r2 (
          K0 0) (
          K0 (-1))) (
        cond r2 (
          K0 1) (
          cond (decide (a1 < a2)) (
            K0 (-1)) (
            cond (decide (a1 > a2)) (
              K0 1) (
              K0 0))))))
noncomputable def cmp_Compare_uint64 {R : Type} (k : Nat) (a1 : Int) (a2 : Int) (K0 : Int → Option R) : Option R := cmp_Compare_uint64T cmp_isNaN_uint64 k a1 a2 K0
theorem cmp_Compare_uint64_gen {R : Type} (cmp_isNaN_uint64 : cmp_isNaN_uint64Y R) (k : Nat) (a1 : Int) (a2 : Int) (K : AV → Heap → Option R) :
    fnK (mkCx Ty exts [(105, true, S105G cmp_isNaN_uint64 k)] fi94 [] []) 6 94 [.i .u64 a1, .i .u64 a2] ⟨0, []⟩ K = cmp_Compare_uint64T cmp_isNaN_uint64 k a1 a2 (fun q1 => K (.i .i64 q1) ⟨0, []⟩) := by kernel_rfl
noncomputable def S94G {R : Type} (cmp_Compare_uint64 : cmp_Compare_uint64Y R) (k : Nat) : Sum R := fun args H K => match args, H with
  | [.i .u64 a1, .i .u64 a2], ⟨0, []⟩ => cmp_Compare_uint64 k a1 a2 (fun q1 => K (.i .i64 q1) ⟨0, []⟩)
  | _, _ => none
noncomputable def S94 {R : Type} (k : Nat) : Sum R := S94G cmp_Compare_uint64 k
theorem S94_ok0 {R : Type} (k : Nat) : SumOk Try.prog 94 false (S94 k : Sum R) := by
  intro args H K r h
  unfold S94 S94G at h
  split at h
  · exact fnK_sound (cx94_ok k) 6 94 _ _ K r ((cmp_Compare_uint64_gen cmp_isNaN_uint64 k _ _ K).trans h)
  · cases h
theorem S94_ok {R : Type} (k : Nat) : SumOk Try.prog 94 true (S94 k : Sum R) := by
  refine sumOk_keep (S94_ok0 k) ?_
  intro args H K r h
  unfold S94 S94G at h ⊢
  split at h
  · refine Eq.trans ?_ h
    show cmp_Compare_uint64 k _ _ _ = cmp_Compare_uint64 k _ _ _
    exact congrArg (cmp_Compare_uint64 k _ _) (funext fun q1 => if_pos (keeps_app _ _ _ []))
  · cases h
-- function 93: cmp.Or[int]
noncomputable def fi93 : FnI := ⟨93, Try.f93, [(100003, [3, 6, 7, 8]), (2000003, [2]), (3003000, [3])]⟩
theorem en93 : Enters Try.prog 93 := enters_of Try.func93 (c := ((Try.f93).body.getD .skip)) (by kernel_rfl) (by kernel_rfl)
@[reducible] def cmp_Or_int_l0Y (R : Type) : Type := Nat → Nat → Int → Int → Int → (List Int) → (Int → Option R) → (Option R) → Option R
noncomputable def cmp_Or_int_l0B {R : Type} (k : Nat) (rec : Int → Int → Int → (List Int) → Option R) (x1 : Int) (x2 : Int) (x3 : Int) (x4 : List Int) (K0 : Int → Option R) (K1 : Option R) : Option R :=
  cond (decide (x3 < x2)) (
    cond (decide (0 ≤ x3)) (
      cond (decide (x3 < (((List.length x4) : Nat) : Int))) (
        Option.bind (x4[(Int.toNat x3)]?) fun ye1 =>
        cond (ye1 != x1) (
          K0 ye1) (
          rec x1 x2 (Wi64 (x3 + 1)) x4)) (
        none)) (
      none)) (
    K1)
noncomputable def cmp_Or_int_l0 {R : Type} (k : Nat) : Nat → Int → Int → Int → (List Int) → (Int → Option R) → (Option R) → Option R
  | 0, _, _, _, _, _, _ => none
  | n + 1, x1, x2, x3, x4, K0, K1 => cmp_Or_int_l0B k (fun x1 x2 x3 x4 => cmp_Or_int_l0 k n x1 x2 x3 x4 K0 K1) x1 x2 x3 x4 K0 K1
noncomputable def cx93_3 {R : Type} (k : Nat) : Cx R := mkCx Ty exts [] fi93 [] []
theorem cx93_3_ok {R : Type} (k : Nat) : CxOk Try.prog (cx93_3 k : Cx R) := mkCx_ok (c := ((Try.f93).body.getD .skip)) ty_ok mixed exts_ok allSum_nil Try.func93 en93 (by kernel_rfl) (by kernel_rfl) allLoop_nil allCut_nil
noncomputable def L93_3G {R : Type} (cmp_Or_int_l0 : cmp_Or_int_l0Y R) (k n : Nat) : LSum R := fun pin T H K => match pin, T, H with
  | 1, [(3, .i .i64 x1), (6, .sw 0), (7, .i .i64 x2), (8, .i .i64 x3)], ⟨1, [(0, some ⟨0, false, .row [.i .i64] x4⟩)]⟩ => cmp_Or_int_l0 k n x1 x2 x3 x4 (fun q1 => K .ret [(2, .i .i64 q1)] ⟨1, [(0, some ⟨0, false, .row [.i .i64] x4⟩)]⟩) (K (.exit 0) [(3, .i .i64 x1)] ⟨1, [(0, some ⟨0, false, .row [.i .i64] x4⟩)]⟩)
  | _, _, _ => none
noncomputable def L93_3 {R : Type} (k n : Nat) : LSum R := L93_3G cmp_Or_int_l0 k n
theorem cmp_Or_int_l0_gen {R : Type} (cmp_Or_int_l0 : cmp_Or_int_l0Y R) (k n : Nat) (x1 : Int) (x2 : Int) (x3 : Int) (x4 : List Int) (K : Kont R) :
    (fun C => codeK C (run C 4)) (mkCx Ty exts [] fi93 [] []) 1 fi93 (loopAt ((Try.f93).body.getD .skip) 3) [(3, .i .i64 x1), (6, .sw 0), (7, .i .i64 x2), (8, .i .i64 x3)] ⟨1, [(0, some ⟨0, false, .row [.i .i64] x4⟩)]⟩ (fun ex T H => match (generalizing := false) ex with
      | .normal => normAt (some [3, 6, 7, 8]) 1 T H (fun T H => L93_3G cmp_Or_int_l0 k n 1 T H K)
      | ex => exitNorm fi93.ann 3 1 K ex T H) =
    cmp_Or_int_l0B k (fun x1 x2 x3 x4 => cmp_Or_int_l0 k n x1 x2 x3 x4 (fun q1 => K .ret [(2, .i .i64 q1)] ⟨1, [(0, some ⟨0, false, .row [.i .i64] x4⟩)]⟩) (K (.exit 0) [(3, .i .i64 x1)] ⟨1, [(0, some ⟨0, false, .row [.i .i64] x4⟩)]⟩)) x1 x2 x3 x4 (fun q1 => K .ret [(2, .i .i64 q1)] ⟨1, [(0, some ⟨0, false, .row [.i .i64] x4⟩)]⟩) (K (.exit 0) [(3, .i .i64 x1)] ⟨1, [(0, some ⟨0, false, .row [.i .i64] x4⟩)]⟩) := by kernel_rfl
theorem L93_3_cok {R : Type} (k : Nat) : CodeOk Try.prog (cx93_3 k : Cx R) fi93 (loopAt ((Try.f93).body.getD .skip) 3) := loopAt_ok (((cx93_3_ok k).fns 93 fi93 (by kernel_rfl)).2.2.2 ((Try.f93).body.getD .skip) (by kernel_rfl))
theorem L93_3_ok {R : Type} (k : Nat) : ∀ n, LoopOk Try.prog (Try.f93).ntmps (loopAt ((Try.f93).body.getD .skip) 3) (L93_3 k n : LSum R)
  | 0 => by
    intro pin T H K r h
    unfold L93_3 L93_3G at h
    split at h
    all_goals exact nomatch (show (none : Option R) = some r from h)
  | n + 1 => by
    intro pin T H K r h
    unfold L93_3 L93_3G at h
    split at h
    · obtain ⟨ex, T1, H1, h, hb⟩ := codeK_sound (cx93_3_ok k) (run_sound (cx93_3_ok k) 4) _ fi93 _ _ _ _ _ (L93_3_cok k) ((cmp_Or_int_l0_gen cmp_Or_int_l0 k n _ _ _ _ K).trans h)
      exact loop_step (fun T H hh => L93_3_ok k n _ T H K r hh) hb h
    · cases h
noncomputable def cx93 {R : Type} (k : Nat) : Cx R := mkCx Ty exts [] fi93 [(3, L93_3 k k)] []
theorem cx93_ok {R : Type} (k : Nat) : CxOk Try.prog (cx93 k : Cx R) := mkCx_ok (c := ((Try.f93).body.getD .skip)) ty_ok mixed exts_ok allSum_nil Try.func93 en93 (by kernel_rfl) (by kernel_rfl) (allLoop_loop (by kernel_rfl) (L93_3_ok k k) allLoop_nil) allCut_nil
@[reducible] def cmp_Or_intY (R : Type) : Type := Nat → (List Int) → (Int → Option R) → Option R
noncomputable def cmp_Or_intT {R : Type} (cmp_Or_int_l0 : cmp_Or_int_l0Y R) (k : Nat) (a1 : List Int) (K0 : Int → Option R) : Option R :=
  cmp_Or_int_l0 k k 0 (((List.length a1) : Nat) : Int) 0 a1 (fun r1 =>
    K0 r1) (
    K0 0)
noncomputable def cmp_Or_int {R : Type} (k : Nat) (a1 : List Int) (K0 : Int → Option R) : Option R := cmp_Or_intT cmp_Or_int_l0 k a1 K0
theorem cmp_Or_int_gen {R : Type} (cmp_Or_int_l0 : cmp_Or_int_l0Y R) (k : Nat) (a1 : List Int) (K : AV → Heap → Option R) :
    fnK (mkCx Ty exts [] fi93 [(3, L93_3G cmp_Or_int_l0 k k)] []) 6 93 [.sw 0] ⟨1, [(0, some ⟨0, false, .row [.i .i64] a1⟩)]⟩ K = cmp_Or_intT cmp_Or_int_l0 k a1 (fun q1 => K (.i .i64 q1) ⟨1, [(0, some ⟨0, false, .row [.i .i64] a1⟩)]⟩) := by kernel_rfl
noncomputable def S93G {R : Type} (cmp_Or_int : cmp_Or_intY R) (k : Nat) : Sum R := fun args H K => match args, H with
  | [.sw 0], ⟨1, [(0, some ⟨0, false, .row [.i .i64] a1⟩)]⟩ => cmp_Or_int k a1 (fun q1 => K (.i .i64 q1) ⟨1, [(0, some ⟨0, false, .row [.i .i64] a1⟩)]⟩)
  | _, _ => none
noncomputable def S93 {R : Type} (k : Nat) : Sum R := S93G cmp_Or_int k
theorem S93_ok0 {R : Type} (k : Nat) : SumOk Try.prog 93 false (S93 k : Sum R) := by
  intro args H K r h
  unfold S93 S93G at h
  split at h
  · exact fnK_sound (cx93_ok k) 6 93 _ _ K r ((cmp_Or_int_gen cmp_Or_int_l0 k _ K).trans h)
  · cases h
theorem S93_ok {R : Type} (k : Nat) : SumOk Try.prog 93 true (S93 k : Sum R) := by
  refine sumOk_keep (S93_ok0 k) ?_
  intro args H K r h
  unfold S93 S93G at h ⊢
  split at h
  · refine Eq.trans ?_ h
    show cmp_Or_int k _ _ = cmp_Or_int k _ _
    exact congrArg (cmp_Or_int k _) (funext fun q1 => if_pos (keeps_app _ _ _ []))
  · cases h
-- function 100: math/bits.LeadingZeros64
noncomputable def fi100 : FnI := ⟨100, Try.f100, []⟩
theorem en100 : Enters Try.prog 100 := enters_of Try.func100 (c := ((Try.f100).body.getD .skip)) (by kernel_rfl) (by kernel_rfl)
noncomputable def cx100 {R : Type} (k : Nat) : Cx R := mkCx Ty exts [(76, true, S76 k)] fi100 [] []
theorem cx100_ok {R : Type} (k : Nat) : CxOk Try.prog (cx100 k : Cx R) := mkCx_ok (c := ((Try.f100).body.getD .skip)) ty_ok mixed exts_ok (allSum_cons (S76_ok k) en76 allSum_nil) Try.func100 en100 (by kernel_rfl) (by kernel_rfl) allLoop_nil allCut_nil
@[reducible] def bits_LeadingZeros64Y (R : Type) : Type := Nat → Int → (Int → Option R) → Option R
noncomputable def bits_LeadingZeros64T {R : Type} (bits_Len64 : bits_Len64Y R) (k : Nat) (a1 : Int) (K0 : Int → Option R) : Option R :=
  bits_Len64 k a1 (fun r1 =>
    K0 (Wi64 (64 - r1)))
noncomputable def bits_LeadingZeros64 {R : Type} (k : Nat) (a1 : Int) (K0 : Int → Option R) : Option R := bits_LeadingZeros64T bits_Len64 k a1 K0
theorem bits_LeadingZeros64_gen {R : Type} (bits_Len64 : bits_Len64Y R) (k : Nat) (a1 : Int) (K : AV → Heap → Option R) :
    fnK (mkCx Ty exts [(76, true, S76G bits_Len64 k)] fi100 [] []) 6 100 [.i .u64 a1] ⟨0, []⟩ K = bits_LeadingZeros64T bits_Len64 k a1 (fun q1 => K (.i .i64 q1) ⟨0, []⟩) := by kernel_rfl
noncomputable def S100G {R : Type} (bits_LeadingZeros64 : bits_LeadingZeros64Y R) (k : Nat) : Sum R := fun args H K => match args, H with
  | [.i .u64 a1], ⟨0, []⟩ => bits_LeadingZeros64 k a1 (fun q1 => K (.i .i64 q1) ⟨0, []⟩)
  | _, _ => none
noncomputable def S100 {R : Type} (k : Nat) : Sum R := S100G bits_LeadingZeros64 k
theorem S100_ok0 {R : Type} (k : Nat) : SumOk Try.prog 100 false (S100 k : Sum R) := by
  intro args H K r h
  unfold S100 S100G at h
  split at h
  · exact fnK_sound (cx100_ok k) 6 100 _ _ K r ((bits_LeadingZeros64_gen bits_Len64 k _ K).trans h)
  · cases h
theorem S100_ok {R : Type} (k : Nat) : SumOk Try.prog 100 true (S100 k : Sum R) := by
  refine sumOk_keep (S100_ok0 k) ?_
  intro args H K r h
  unfold S100 S100G at h ⊢
  split at h
  · refine Eq.trans ?_ h
    show bits_LeadingZeros64 k _ _ = bits_LeadingZeros64 k _ _
    exact congrArg (bits_LeadingZeros64 k _) (funext fun q1 => if_pos (keeps_app _ _ _ []))
  · cases h
-- function 85: math/bits.Div64
noncomputable def fi85 : FnI := ⟨85, Try.f85, [(100017, [2, 8, 9, 10, 11, 13, 14, 15, 16]), (100024, [2, 8, 9, 10, 14, 15, 16, 17, 18]), (3017000, [2, 8, 9, 10, 11, 13, 14, 15]), (3024002, [2, 8, 14, 15, 17, 18])]⟩
theorem en85 : Enters Try.prog 85 := enters_of Try.func85 (c := ((Try.f85).body.getD .skip)) (by kernel_rfl) (by kernel_rfl)
@[reducible] def bits_Div64_l0Y (R : Type) : Type := Nat → Nat → Int → Int → Int → Int → Int → Int → Int → Int → Int → (Int → Option R) → Option R
noncomputable def bits_Div64_l0B {R : Type} (k : Nat) (rec : Int → Int → Int → Int → Int → Int → Int → Int → Int → Option R) (x1 : Int) (x2 : Int) (x3 : Int) (x4 : Int) (x5 : Int) (x6 : Int) (x7 : Int) (x8 : Int) (x9 : Int) (K0 : Int → Option R) : Option R :=
  cond (decide (x8 ≥ 4294967296)) (
    cond (decide ((Wu64 (x9 + x3)) ≥ 4294967296)) (
      K0 (Wu64 (x8 - 1))) (
      rec x1 x2 x3 x4 x5 x6 x7 (Wu64 (x8 - 1)) (Wu64 (x9 + x3)))) (
    cond (decide ((Wu64 (x8 * x4)) > (Wu64 ((Wu64 (4294967296 * x9)) + x6)))) (
      cond (decide ((Wu64 (x9 + x3)) ≥ 4294967296)) (
        K0 (Wu64 (x8 - 1))) (
        rec x1 x2 x3 x4 x5 x6 x7 (Wu64 (x8 - 1)) (Wu64 (x9 + x3)))) (
      K0 x8))
noncomputable def bits_Div64_l0 {R : Type} (k : Nat) : Nat → Int → Int → Int → Int → Int → Int → Int → Int → Int → (Int → Option R) → Option R
  | 0, _, _, _, _, _, _, _, _, _, _ => none
  | n + 1, x1, x2, x3, x4, x5, x6, x7, x8, x9, K0 => bits_Div64_l0B k (fun x1 x2 x3 x4 x5 x6 x7 x8 x9 => bits_Div64_l0 k n x1 x2 x3 x4 x5 x6 x7 x8 x9 K0) x1 x2 x3 x4 x5 x6 x7 x8 x9 K0
noncomputable def cx85_17 {R : Type} (k : Nat) : Cx R := mkCx Ty exts [(100, true, S100 k)] fi85 [] []
theorem cx85_17_ok {R : Type} (k : Nat) : CxOk Try.prog (cx85_17 k : Cx R) := mkCx_ok (c := ((Try.f85).body.getD .skip)) ty_ok mixed exts_ok (allSum_cons (S100_ok k) en100 allSum_nil) Try.func85 en85 (by kernel_rfl) (by kernel_rfl) allLoop_nil allCut_nil
noncomputable def L85_17G {R : Type} (bits_Div64_l0 : bits_Div64_l0Y R) (k n : Nat) : LSum R := fun pin T H K => match pin, T, H with
  | 0, [(2, .i .u64 x1), (8, .i .u64 x2), (9, .i .u64 x3), (10, .i .u64 x4), (11, .i .u64 x5), (13, .i .u64 x6), (14, .i .u64 x7), (15, .i .u64 x8), (16, .i .u64 x9)], ⟨0, []⟩ => bits_Div64_l0 k n x1 x2 x3 x4 x5 x6 x7 x8 x9 (fun q8 => K (.exit 0) [(2, .i .u64 x1), (8, .i .u64 x2), (9, .i .u64 x3), (10, .i .u64 x4), (11, .i .u64 x5), (13, .i .u64 x6), (14, .i .u64 x7), (15, .i .u64 q8)] ⟨0, []⟩)
  | _, _, _ => none
noncomputable def L85_17 {R : Type} (k n : Nat) : LSum R := L85_17G bits_Div64_l0 k n
theorem bits_Div64_l0_gen {R : Type} (bits_LeadingZeros64 : bits_LeadingZeros64Y R) (bits_Div64_l0 : bits_Div64_l0Y R) (k n : Nat) (x1 : Int) (x2 : Int) (x3 : Int) (x4 : Int) (x5 : Int) (x6 : Int) (x7 : Int) (x8 : Int) (x9 : Int) (K : Kont R) :
    (fun C => codeK C (run C 4)) (mkCx Ty exts [(100, true, S100G bits_LeadingZeros64 k)] fi85 [] []) 0 fi85 (loopAt ((Try.f85).body.getD .skip) 17) [(2, .i .u64 x1), (8, .i .u64 x2), (9, .i .u64 x3), (10, .i .u64 x4), (11, .i .u64 x5), (13, .i .u64 x6), (14, .i .u64 x7), (15, .i .u64 x8), (16, .i .u64 x9)] ⟨0, []⟩ (fun ex T H => match (generalizing := false) ex with
      | .normal => normAt (some [2, 8, 9, 10, 11, 13, 14, 15, 16]) 0 T H (fun T H => L85_17G bits_Div64_l0 k n 0 T H K)
      | ex => exitNorm fi85.ann 17 0 K ex T H) =
    bits_Div64_l0B k (fun x1 x2 x3 x4 x5 x6 x7 x8 x9 => bits_Div64_l0 k n x1 x2 x3 x4 x5 x6 x7 x8 x9 (fun q8 => K (.exit 0) [(2, .i .u64 x1), (8, .i .u64 x2), (9, .i .u64 x3), (10, .i .u64 x4), (11, .i .u64 x5), (13, .i .u64 x6), (14, .i .u64 x7), (15, .i .u64 q8)] ⟨0, []⟩)) x1 x2 x3 x4 x5 x6 x7 x8 x9 (fun q8 => K (.exit 0) [(2, .i .u64 x1), (8, .i .u64 x2), (9, .i .u64 x3), (10, .i .u64 x4), (11, .i .u64 x5), (13, .i .u64 x6), (14, .i .u64 x7), (15, .i .u64 q8)] ⟨0, []⟩) := by kernel_rfl
theorem L85_17_cok {R : Type} (k : Nat) : CodeOk Try.prog (cx85_17 k : Cx R) fi85 (loopAt ((Try.f85).body.getD .skip) 17) := loopAt_ok (((cx85_17_ok k).fns 85 fi85 (by kernel_rfl)).2.2.2 ((Try.f85).body.getD .skip) (by kernel_rfl))
theorem L85_17_ok {R : Type} (k : Nat) : ∀ n, LoopOk Try.prog (Try.f85).ntmps (loopAt ((Try.f85).body.getD .skip) 17) (L85_17 k n : LSum R)
  | 0 => by
    intro pin T H K r h
    unfold L85_17 L85_17G at h
    split at h
    all_goals exact nomatch (show (none : Option R) = some r from h)
  | n + 1 => by
    intro pin T H K r h
    unfold L85_17 L85_17G at h
    split at h
    · obtain ⟨ex, T1, H1, h, hb⟩ := codeK_sound (cx85_17_ok k) (run_sound (cx85_17_ok k) 4) _ fi85 _ _ _ _ _ (L85_17_cok k) ((bits_Div64_l0_gen bits_LeadingZeros64 bits_Div64_l0 k n _ _ _ _ _ _ _ _ _ K).trans h)
      exact loop_step (fun T H hh => L85_17_ok k n _ T H K r hh) hb h
    · cases h
@[reducible] def bits_Div64_l1Y (R : Type) : Type := Nat → Nat → Int → Int → Int → Int → Int → Int → Int → Int → Int → (Int → Option R) → Option R
noncomputable def bits_Div64_l1B {R : Type} (k : Nat) (rec : Int → Int → Int → Int → Int → Int → Int → Int → Int → Option R) (x1 : Int) (x2 : Int) (x3 : Int) (x4 : Int) (x5 : Int) (x6 : Int) (x7 : Int) (x8 : Int) (x9 : Int) (K0 : Int → Option R) : Option R :=
  cond (decide (x9 ≥ 4294967296)) (
    cond (decide ((Wu64 (x7 + x3)) ≥ 4294967296)) (
      K0 (Wu64 (x9 - 1))) (
      rec x1 x2 x3 x4 x5 x6 (Wu64 (x7 + x3)) x8 (Wu64 (x9 - 1)))) (
    cond (decide ((Wu64 (x9 * x4)) > (Wu64 ((Wu64 (4294967296 * x7)) + x5)))) (
      cond (decide ((Wu64 (x7 + x3)) ≥ 4294967296)) (
        K0 (Wu64 (x9 - 1))) (
        rec x1 x2 x3 x4 x5 x6 (Wu64 (x7 + x3)) x8 (Wu64 (x9 - 1)))) (
      K0 x9))
noncomputable def bits_Div64_l1 {R : Type} (k : Nat) : Nat → Int → Int → Int → Int → Int → Int → Int → Int → Int → (Int → Option R) → Option R
  | 0, _, _, _, _, _, _, _, _, _, _ => none
  | n + 1, x1, x2, x3, x4, x5, x6, x7, x8, x9, K0 => bits_Div64_l1B k (fun x1 x2 x3 x4 x5 x6 x7 x8 x9 => bits_Div64_l1 k n x1 x2 x3 x4 x5 x6 x7 x8 x9 K0) x1 x2 x3 x4 x5 x6 x7 x8 x9 K0
noncomputable def cx85_24 {R : Type} (k : Nat) : Cx R := mkCx Ty exts [(100, true, S100 k)] fi85 [(17, L85_17 k k)] []
theorem cx85_24_ok {R : Type} (k : Nat) : CxOk Try.prog (cx85_24 k : Cx R) := mkCx_ok (c := ((Try.f85).body.getD .skip)) ty_ok mixed exts_ok (allSum_cons (S100_ok k) en100 allSum_nil) Try.func85 en85 (by kernel_rfl) (by kernel_rfl) (allLoop_loop (by kernel_rfl) (L85_17_ok k k) allLoop_nil) allCut_nil
noncomputable def L85_24G {R : Type} (bits_Div64_l1 : bits_Div64_l1Y R) (k n : Nat) : LSum R := fun pin T H K => match pin, T, H with
  | 0, [(2, .i .u64 x1), (8, .i .u64 x2), (9, .i .u64 x3), (10, .i .u64 x4), (14, .i .u64 x5), (15, .i .u64 x6), (16, .i .u64 x7), (17, .i .u64 x8), (18, .i .u64 x9)], ⟨0, []⟩ => bits_Div64_l1 k n x1 x2 x3 x4 x5 x6 x7 x8 x9 (fun q6 => K (.exit 2) [(2, .i .u64 x1), (8, .i .u64 x2), (14, .i .u64 x5), (15, .i .u64 x6), (17, .i .u64 x8), (18, .i .u64 q6)] ⟨0, []⟩)
  | _, _, _ => none
noncomputable def L85_24 {R : Type} (k n : Nat) : LSum R := L85_24G bits_Div64_l1 k n
theorem bits_Div64_l1_gen {R : Type} (bits_LeadingZeros64 : bits_LeadingZeros64Y R) (bits_Div64_l0 : bits_Div64_l0Y R) (bits_Div64_l1 : bits_Div64_l1Y R) (k n : Nat) (x1 : Int) (x2 : Int) (x3 : Int) (x4 : Int) (x5 : Int) (x6 : Int) (x7 : Int) (x8 : Int) (x9 : Int) (K : Kont R) :
    (fun C => codeK C (run C 4)) (mkCx Ty exts [(100, true, S100G bits_LeadingZeros64 k)] fi85 [(17, L85_17G bits_Div64_l0 k k)] []) 0 fi85 (loopAt ((Try.f85).body.getD .skip) 24) [(2, .i .u64 x1), (8, .i .u64 x2), (9, .i .u64 x3), (10, .i .u64 x4), (14, .i .u64 x5), (15, .i .u64 x6), (16, .i .u64 x7), (17, .i .u64 x8), (18, .i .u64 x9)] ⟨0, []⟩ (fun ex T H => match (generalizing := false) ex with
      | .normal => normAt (some [2, 8, 9, 10, 14, 15, 16, 17, 18]) 0 T H (fun T H => L85_24G bits_Div64_l1 k n 0 T H K)
      | ex => exitNorm fi85.ann 24 0 K ex T H) =
    bits_Div64_l1B k (fun x1 x2 x3 x4 x5 x6 x7 x8 x9 => bits_Div64_l1 k n x1 x2 x3 x4 x5 x6 x7 x8 x9 (fun q6 => K (.exit 2) [(2, .i .u64 x1), (8, .i .u64 x2), (14, .i .u64 x5), (15, .i .u64 x6), (17, .i .u64 x8), (18, .i .u64 q6)] ⟨0, []⟩)) x1 x2 x3 x4 x5 x6 x7 x8 x9 (fun q6 => K (.exit 2) [(2, .i .u64 x1), (8, .i .u64 x2), (14, .i .u64 x5), (15, .i .u64 x6), (17, .i .u64 x8), (18, .i .u64 q6)] ⟨0, []⟩) := by kernel_rfl
theorem L85_24_cok {R : Type} (k : Nat) : CodeOk Try.prog (cx85_24 k : Cx R) fi85 (loopAt ((Try.f85).body.getD .skip) 24) := loopAt_ok (((cx85_24_ok k).fns 85 fi85 (by kernel_rfl)).2.2.2 ((Try.f85).body.getD .skip) (by kernel_rfl))
theorem L85_24_ok {R : Type} (k : Nat) : ∀ n, LoopOk Try.prog (Try.f85).ntmps (loopAt ((Try.f85).body.getD .skip) 24) (L85_24 k n : LSum R)
  | 0 => by
    intro pin T H K r h
    unfold L85_24 L85_24G at h
    split at h
    all_goals exact nomatch (show (none : Option R) = some r from h)
  | n + 1 => by
    intro pin T H K r h
    unfold L85_24 L85_24G at h
    split at h
    · obtain ⟨ex, T1, H1, h, hb⟩ := codeK_sound (cx85_24_ok k) (run_sound (cx85_24_ok k) 4) _ fi85 _ _ _ _ _ (L85_24_cok k) ((bits_Div64_l1_gen bits_LeadingZeros64 bits_Div64_l0 bits_Div64_l1 k n _ _ _ _ _ _ _ _ _ K).trans h)
      exact loop_step (fun T H hh => L85_24_ok k n _ T H K r hh) hb h
    · cases h
noncomputable def cx85 {R : Type} (k : Nat) : Cx R := mkCx Ty exts [(100, true, S100 k)] fi85 [(17, L85_17 k k), (24, L85_24 k k)] []
theorem cx85_ok {R : Type} (k : Nat) : CxOk Try.prog (cx85 k : Cx R) := mkCx_ok (c := ((Try.f85).body.getD .skip)) ty_ok mixed exts_ok (allSum_cons (S100_ok k) en100 allSum_nil) Try.func85 en85 (by kernel_rfl) (by kernel_rfl) (allLoop_loop (by kernel_rfl) (L85_17_ok k k) (allLoop_loop (by kernel_rfl) (L85_24_ok k k) allLoop_nil)) allCut_nil
@[reducible] def bits_Div64Y (R : Type) : Type := Nat → Int → Int → Int → (Int → Int → Option R) → Option R
noncomputable def bits_Div64T {R : Type} (bits_Div64_l0 : bits_Div64_l0Y R) (bits_Div64_l1 : bits_Div64_l1Y R) (bits_LeadingZeros64 : bits_LeadingZeros64Y R) (k : Nat) (a1 : Int) (a2 : Int) (a3 : Int) (K0 : Int → Int → Option R) : Option R :=
  cond (a3 == 0) (
    none) (
    cond (decide (a3 ≤ a1)) (
      none) (
      cond (a1 == 0) (
        cond (decide (a3 = 0)) (
          none) (
          cond (decide (a3 = 0)) (
            none) (
            K0 (Wu64 (Int.tdiv a2 a3)) (Int.tmod a2 a3)))) (
        bits_LeadingZeros64 k a3 (fun r1 =>
          cond (decide ((Wu64 r1) < 0)) (
            none) (
            cond (decide ((Wu64 r1) < 0)) (
              none) (
              cond (decide ((Wu64 (64 - (Wu64 r1))) < 0)) (
                none) (
                cond (decide ((Wu64 r1) < 0)) (
                  none) (
                  cond (decide ((shr .u64 (shl .u64 a3 (Wu64 r1)) 32) = 0)) (
                    none) (
                    bits_Div64_l0 k k (shl .u64 a3 (Wu64 r1)) (Wu64 r1) (shr .u64 (shl .u64 a3 (Wu64 r1)) 32) (bAnd .u64 (shl .u64 a3 (Wu64 r1)) 4294967295) (bOr .u64 (shl .u64 a1 (Wu64 r1)) (shr .u64 a2 (Wu64 (64 - (Wu64 r1))))) (shr .u64 (shl .u64 a2 (Wu64 r1)) 32) (bAnd .u64 (shl .u64 a2 (Wu64 r1)) 4294967295) (Wu64 (Int.tdiv (bOr .u64 (shl .u64 a1 (Wu64 r1)) (shr .u64 a2 (Wu64 (64 - (Wu64 r1))))) (shr .u64 (shl .u64 a3 (Wu64 r1)) 32))) (Wu64 ((bOr .u64 (shl .u64 a1 (Wu64 r1)) (shr .u64 a2 (Wu64 (64 - (Wu64 r1))))) - (Wu64 ((Wu64 (Int.tdiv (bOr .u64 (shl .u64 a1 (Wu64 r1)) (shr .u64 a2 (Wu64 (64 - (Wu64 r1))))) (shr .u64 (shl .u64 a3 (Wu64 r1)) 32))) * (shr .u64 (shl .u64 a3 (Wu64 r1)) 32))))) (fun r2 =>
                      cond (decide ((shr .u64 (shl .u64 a3 (Wu64 r1)) 32) = 0)) (
                        none) (
                        bits_Div64_l1 k k (shl .u64 a3 (Wu64 r1)) (Wu64 r1) (shr .u64 (shl .u64 a3 (Wu64 r1)) 32) (bAnd .u64 (shl .u64 a3 (Wu64 r1)) 4294967295) (bAnd .u64 (shl .u64 a2 (Wu64 r1)) 4294967295) r2 (Wu64 ((Wu64 ((Wu64 ((Wu64 ((bOr .u64 (shl .u64 a1 (Wu64 r1)) (shr .u64 a2 (Wu64 (64 - (Wu64 r1))))) * 4294967296)) + (shr .u64 (shl .u64 a2 (Wu64 r1)) 32))) - (Wu64 (r2 * (shl .u64 a3 (Wu64 r1)))))) - (Wu64 ((Wu64 (Int.tdiv (Wu64 ((Wu64 ((Wu64 ((bOr .u64 (shl .u64 a1 (Wu64 r1)) (shr .u64 a2 (Wu64 (64 - (Wu64 r1))))) * 4294967296)) + (shr .u64 (shl .u64 a2 (Wu64 r1)) 32))) - (Wu64 (r2 * (shl .u64 a3 (Wu64 r1)))))) (shr .u64 (shl .u64 a3 (Wu64 r1)) 32))) * (shr .u64 (shl .u64 a3 (Wu64 r1)) 32))))) (Wu64 ((Wu64 ((Wu64 ((bOr .u64 (shl .u64 a1 (Wu64 r1)) (shr .u64 a2 (Wu64 (64 - (Wu64 r1))))) * 4294967296)) + (shr .u64 (shl .u64 a2 (Wu64 r1)) 32))) - (Wu64 (r2 * (shl .u64 a3 (Wu64 r1)))))) (Wu64 (Int.tdiv (Wu64 ((Wu64 ((Wu64 ((bOr .u64 (shl .u64 a1 (Wu64 r1)) (shr .u64 a2 (Wu64 (64 - (Wu64 r1))))) * 4294967296)) + (shr .u64 (shl .u64 a2 (Wu64 r1)) 32))) - (Wu64 (r2 * (shl .u64 a3 (Wu64 r1)))))) (shr .u64 (shl .u64 a3 (Wu64 r1)) 32))) (fun r3 =>
                          cond (decide ((Wu64 r1) < 0)) (
                            none) (
                            K0 (Wu64 ((Wu64 (r2 * 4294967296)) + r3)) (shr .u64 (Wu64 ((Wu64 ((Wu64 ((Wu64 ((Wu64 ((Wu64 ((bOr .u64 (shl .u64 a1 (Wu64 r1)) (shr .u64 a2 (Wu64 (64 - (Wu64 r1))))) * 4294967296)) + (shr .u64 (shl .u64 a2 (Wu64 r1)) 32))) - (Wu64 (r2 * (shl .u64 a3 (Wu64 r1)))))) * 4294967296)) + (bAnd .u64 (shl .u64 a2 (Wu64 r1)) 4294967295))) - (Wu64 (r3 * (shl .u64 a3 (Wu64 r1)))))) (Wu64 r1)))))))))))))))
noncomputable def bits_Div64 {R : Type} (k : Nat) (a1 : Int) (a2 : Int) (a3 : Int) (K0 : Int → Int → Option R) : Option R := bits_Div64T bits_Div64_l0 bits_Div64_l1 bits_LeadingZeros64 k a1 a2 a3 K0
theorem bits_Div64_gen {R : Type} (bits_LeadingZeros64 : bits_LeadingZeros64Y R) (bits_Div64_l0 : bits_Div64_l0Y R) (bits_Div64_l1 : bits_Div64_l1Y R) (k : Nat) (a1 : Int) (a2 : Int) (a3 : Int) (K : AV → Heap → Option R) :
    fnK (mkCx Ty exts [(100, true, S100G bits_LeadingZeros64 k)] fi85 [(17, L85_17G bits_Div64_l0 k k), (24, L85_24G bits_Div64_l1 k k)] []) 6 85 [.i .u64 a1, .i .u64 a2, .i .u64 a3] ⟨0, []⟩ K = bits_Div64T bits_Div64_l0 bits_Div64_l1 bits_LeadingZeros64 k a1 a2 a3 (fun q1 q2 => K (.tup [.i .u64 q1, .i .u64 q2]) ⟨0, []⟩) := by kernel_rfl
noncomputable def S85G {R : Type} (bits_Div64 : bits_Div64Y R) (k : Nat) : Sum R := fun args H K => match args, H with
  | [.i .u64 a1, .i .u64 a2, .i .u64 a3], ⟨0, []⟩ => bits_Div64 k a1 a2 a3 (fun q1 q2 => K (.tup [.i .u64 q1, .i .u64 q2]) ⟨0, []⟩)
  | _, _ => none
noncomputable def S85 {R : Type} (k : Nat) : Sum R := S85G bits_Div64 k
theorem S85_ok0 {R : Type} (k : Nat) : SumOk Try.prog 85 false (S85 k : Sum R) := by
  intro args H K r h
  unfold S85 S85G at h
  split at h
  · exact fnK_sound (cx85_ok k) 6 85 _ _ K r ((bits_Div64_gen bits_LeadingZeros64 bits_Div64_l0 bits_Div64_l1 k _ _ _ K).trans h)
  · cases h
theorem S85_ok {R : Type} (k : Nat) : SumOk Try.prog 85 true (S85 k : Sum R) := by
  refine sumOk_keep (S85_ok0 k) ?_
  intro args H K r h
  unfold S85 S85G at h ⊢
  split at h
  · refine Eq.trans ?_ h
    show bits_Div64 k _ _ _ _ = bits_Div64 k _ _ _ _
    exact congrArg (bits_Div64 k _ _ _) (funext fun q1 => funext fun q2 => if_pos (keeps_app _ _ _ []))
  · cases h
end Go.Proofs.Ytejfnbjhcohkiaa.N
