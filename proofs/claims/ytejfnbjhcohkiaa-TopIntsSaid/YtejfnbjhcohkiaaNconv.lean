/- Printed by wip/gen/emit.py: functions of the program as plain Lean functions, tied to the model by the evaluator. Conditions: none. -/
import Derived.Test.YtejfnbjhcohkiaaNsoft
import Derived.Test.YtejfnbjhcohkiaaNwide
namespace Go.Proofs.Ytejfnbjhcohkiaa.N
set_option linter.unusedVariables false
set_option maxRecDepth 100000
open Go Go.Ab
-- function 84: plumbline/conv.bits
noncomputable def fi84 : FnI := ⟨84, Try.f84, []⟩
theorem en84 : Enters Try.prog 84 := enters_of Try.func84 (c := ((Try.f84).body.getD .skip)) (by kernel_rfl) (by kernel_rfl)
noncomputable def cx84 {R : Type} (k : Nat) : Cx R := mkCx Ty exts [] fi84 [] []
theorem cx84_ok {R : Type} (k : Nat) : CxOk Try.prog (cx84 k : Cx R) := mkCx_ok (c := ((Try.f84).body.getD .skip)) ty_ok mixed exts_ok allSum_nil Try.func84 en84 (by kernel_rfl) (by kernel_rfl) allLoop_nil allCut_nil
@[reducible] def conv_bitsY (R : Type) : Type := Nat → Int → (Int → Option R) → Option R
noncomputable def conv_bitsT {R : Type} (k : Nat) (a1 : Int) (K0 : Int → Option R) : Option R :=
  cond (a1 == 1) (
    K0 32) (
    K0 64)
noncomputable def conv_bits {R : Type} (k : Nat) (a1 : Int) (K0 : Int → Option R) : Option R := conv_bitsT k a1 K0
theorem conv_bits_gen {R : Type} (k : Nat) (a1 : Int) (K : AV → Heap → Option R) :
    fnK (mkCx Ty exts [] fi84 [] []) 6 84 [.i .i64 a1] ⟨0, []⟩ K = conv_bitsT k a1 (fun q1 => K (.i .i64 q1) ⟨0, []⟩) := by kernel_rfl
noncomputable def S84G {R : Type} (conv_bits : conv_bitsY R) (k : Nat) : Sum R := fun args H K => match args, H with
  | [.i .i64 a1], ⟨0, []⟩ => conv_bits k a1 (fun q1 => K (.i .i64 q1) ⟨0, []⟩)
  | _, _ => none
noncomputable def S84 {R : Type} (k : Nat) : Sum R := S84G conv_bits k
theorem S84_ok0 {R : Type} (k : Nat) : SumOk Try.prog 84 false (S84 k : Sum R) := by
  intro args H K r h
  unfold S84 S84G at h
  split at h
  · exact fnK_sound (cx84_ok k) 6 84 _ _ K r ((conv_bits_gen k _ K).trans h)
  · cases h
theorem S84_ok {R : Type} (k : Nat) : SumOk Try.prog 84 true (S84 k : Sum R) := by
  refine sumOk_keep (S84_ok0 k) ?_
  intro args H K r h
  unfold S84 S84G at h ⊢
  split at h
  · refine Eq.trans ?_ h
    show conv_bits k _ _ = conv_bits k _ _
    exact congrArg (conv_bits k _) (funext fun q1 => if_pos (keeps_app _ _ _ []))
  · cases h
-- function 62: plumbline/conv.below
noncomputable def fi62 : FnI := ⟨62, Try.f62, []⟩
theorem en62 : Enters Try.prog 62 := enters_of Try.func62 (c := ((Try.f62).body.getD .skip)) (by kernel_rfl) (by kernel_rfl)
noncomputable def cx62 {R : Type} (k : Nat) : Cx R := mkCx Ty exts [(84, true, S84 k)] fi62 [] []
theorem cx62_ok {R : Type} (k : Nat) : CxOk Try.prog (cx62 k : Cx R) := mkCx_ok (c := ((Try.f62).body.getD .skip)) ty_ok mixed exts_ok (allSum_cons (S84_ok k) en84 allSum_nil) Try.func62 en62 (by kernel_rfl) (by kernel_rfl) allLoop_nil allCut_nil
@[reducible] def conv_belowY (R : Type) : Type := Nat → Int → Int → (Bool → Option R) → Option R
noncomputable def conv_belowT {R : Type} (conv_bits : conv_bitsY R) (k : Nat) (a1 : Int) (a2 : Int) (K0 : Bool → Option R) : Option R :=
  conv_bits k a1 (fun r1 =>
    cond (decide ((Wi64 (r1 - 1)) < 0)) (
      none) (
      K0 ((bAnd .u64 (shr .u64 a2 (Wi64 (r1 - 1))) 1) == 1)))
noncomputable def conv_below {R : Type} (k : Nat) (a1 : Int) (a2 : Int) (K0 : Bool → Option R) : Option R := conv_belowT conv_bits k a1 a2 K0
theorem conv_below_gen {R : Type} (conv_bits : conv_bitsY R) (k : Nat) (a1 : Int) (a2 : Int) (K : AV → Heap → Option R) :
    fnK (mkCx Ty exts [(84, true, S84G conv_bits k)] fi62 [] []) 6 62 [.i .i64 a1, .i .u64 a2] ⟨0, []⟩ K = conv_belowT conv_bits k a1 a2 (fun q1 => K (.b q1) ⟨0, []⟩) := by kernel_rfl
noncomputable def S62G {R : Type} (conv_below : conv_belowY R) (k : Nat) : Sum R := fun args H K => match args, H with
  | [.i .i64 a1, .i .u64 a2], ⟨0, []⟩ => conv_below k a1 a2 (fun q1 => K (.b q1) ⟨0, []⟩)
  | _, _ => none
noncomputable def S62 {R : Type} (k : Nat) : Sum R := S62G conv_below k
theorem S62_ok0 {R : Type} (k : Nat) : SumOk Try.prog 62 false (S62 k : Sum R) := by
  intro args H K r h
  unfold S62 S62G at h
  split at h
  · exact fnK_sound (cx62_ok k) 6 62 _ _ K r ((conv_below_gen conv_bits k _ _ K).trans h)
  · cases h
theorem S62_ok {R : Type} (k : Nat) : SumOk Try.prog 62 true (S62 k : Sum R) := by
  refine sumOk_keep (S62_ok0 k) ?_
  intro args H K r h
  unfold S62 S62G at h ⊢
  split at h
  · refine Eq.trans ?_ h
    show conv_below k _ _ _ = conv_below k _ _ _
    exact congrArg (conv_below k _ _) (funext fun q1 => if_pos (keeps_app _ _ _ []))
  · cases h
-- function 82: plumbline/conv.fraction
noncomputable def fi82 : FnI := ⟨82, Try.f82, []⟩
theorem en82 : Enters Try.prog 82 := enters_of Try.func82 (c := ((Try.f82).body.getD .skip)) (by kernel_rfl) (by kernel_rfl)
noncomputable def cx82 {R : Type} (k : Nat) : Cx R := mkCx Ty exts [] fi82 [] []
theorem cx82_ok {R : Type} (k : Nat) : CxOk Try.prog (cx82 k : Cx R) := mkCx_ok (c := ((Try.f82).body.getD .skip)) ty_ok mixed exts_ok allSum_nil Try.func82 en82 (by kernel_rfl) (by kernel_rfl) allLoop_nil allCut_nil
@[reducible] def conv_fractionY (R : Type) : Type := Nat → Int → (Int → Int → Option R) → Option R
noncomputable def conv_fractionT {R : Type} (k : Nat) (a1 : Int) (K0 : Int → Int → Option R) : Option R :=
  cond (a1 == 1) (
    K0 23 (-149)) (
    K0 52 (-1074))
noncomputable def conv_fraction {R : Type} (k : Nat) (a1 : Int) (K0 : Int → Int → Option R) : Option R := conv_fractionT k a1 K0
theorem conv_fraction_gen {R : Type} (k : Nat) (a1 : Int) (K : AV → Heap → Option R) :
    fnK (mkCx Ty exts [] fi82 [] []) 6 82 [.i .i64 a1] ⟨0, []⟩ K = conv_fractionT k a1 (fun q1 q2 => K (.tup [.i .i64 q1, .i .i64 q2]) ⟨0, []⟩) := by kernel_rfl
noncomputable def S82G {R : Type} (conv_fraction : conv_fractionY R) (k : Nat) : Sum R := fun args H K => match args, H with
  | [.i .i64 a1], ⟨0, []⟩ => conv_fraction k a1 (fun q1 q2 => K (.tup [.i .i64 q1, .i .i64 q2]) ⟨0, []⟩)
  | _, _ => none
noncomputable def S82 {R : Type} (k : Nat) : Sum R := S82G conv_fraction k
theorem S82_ok0 {R : Type} (k : Nat) : SumOk Try.prog 82 false (S82 k : Sum R) := by
  intro args H K r h
  unfold S82 S82G at h
  split at h
  · exact fnK_sound (cx82_ok k) 6 82 _ _ K r ((conv_fraction_gen k _ K).trans h)
  · cases h
theorem S82_ok {R : Type} (k : Nat) : SumOk Try.prog 82 true (S82 k : Sum R) := by
  refine sumOk_keep (S82_ok0 k) ?_
  intro args H K r h
  unfold S82 S82G at h ⊢
  split at h
  · refine Eq.trans ?_ h
    show conv_fraction k _ _ = conv_fraction k _ _
    exact congrArg (conv_fraction k _) (funext fun q1 => funext fun q2 => if_pos (keeps_app _ _ _ []))
  · cases h
-- function 60: plumbline/conv.value
noncomputable def fi60 : FnI := ⟨60, Try.f60, []⟩
theorem en60 : Enters Try.prog 60 := enters_of Try.func60 (c := ((Try.f60).body.getD .skip)) (by kernel_rfl) (by kernel_rfl)
noncomputable def cx60 {R : Type} (k : Nat) : Cx R := mkCx Ty exts [(82, true, S82 k), (83, true, S83 k)] fi60 [] []
theorem cx60_ok {R : Type} (k : Nat) : CxOk Try.prog (cx60 k : Cx R) := mkCx_ok (c := ((Try.f60).body.getD .skip)) ty_ok mixed exts_ok (allSum_cons (S82_ok k) en82 (allSum_cons (S83_ok k) en83 allSum_nil)) Try.func60 en60 (by kernel_rfl) (by kernel_rfl) allLoop_nil allCut_nil
@[reducible] def conv_valueY (R : Type) : Type := Nat → Int → Int → (Int → Int → Option R) → Option R
noncomputable def conv_valueT {R : Type} (conv_fraction : conv_fractionY R) (soft_Abs : soft_AbsY R) (k : Nat) (a1 : Int) (a2 : Int) (K0 : Int → Int → Option R) : Option R :=
  conv_fraction k a1 (fun r1 r2 =>
    soft_Abs k a1 a2 (fun r3 =>
      cond (decide (r1 < 0)) (
        none) (
        cond (decide ((shr .u64 r3 r1) > 0)) (
          cond (decide (r1 < 0)) (
            none) (
            cond (decide (r1 < 0)) (
              none) (
              K0 (bOr .u64 (bAnd .u64 r3 (Wu64 ((shl .u64 1 r1) - 1))) (shl .u64 1 r1)) (Wi64 ((Wi64 ((Wi64 (shr .u64 r3 r1)) - 1)) + r2))))) (
          K0 r3 r2))))
noncomputable def conv_value {R : Type} (k : Nat) (a1 : Int) (a2 : Int) (K0 : Int → Int → Option R) : Option R := conv_valueT conv_fraction soft_Abs k a1 a2 K0
theorem conv_value_gen {R : Type} (conv_fraction : conv_fractionY R) (soft_Abs : soft_AbsY R) (k : Nat) (a1 : Int) (a2 : Int) (K : AV → Heap → Option R) :
    fnK (mkCx Ty exts [(82, true, S82G conv_fraction k), (83, true, S83G soft_Abs k)] fi60 [] []) 6 60 [.i .i64 a1, .i .u64 a2] ⟨0, []⟩ K = conv_valueT conv_fraction soft_Abs k a1 a2 (fun q1 q2 => K (.tup [.i .u64 q1, .i .i64 q2]) ⟨0, []⟩) := by kernel_rfl
noncomputable def S60G {R : Type} (conv_value : conv_valueY R) (k : Nat) : Sum R := fun args H K => match args, H with
  | [.i .i64 a1, .i .u64 a2], ⟨0, []⟩ => conv_value k a1 a2 (fun q1 q2 => K (.tup [.i .u64 q1, .i .i64 q2]) ⟨0, []⟩)
  | _, _ => none
noncomputable def S60 {R : Type} (k : Nat) : Sum R := S60G conv_value k
theorem S60_ok0 {R : Type} (k : Nat) : SumOk Try.prog 60 false (S60 k : Sum R) := by
  intro args H K r h
  unfold S60 S60G at h
  split at h
  · exact fnK_sound (cx60_ok k) 6 60 _ _ K r ((conv_value_gen conv_fraction soft_Abs k _ _ K).trans h)
  · cases h
theorem S60_ok {R : Type} (k : Nat) : SumOk Try.prog 60 true (S60 k : Sum R) := by
  refine sumOk_keep (S60_ok0 k) ?_
  intro args H K r h
  unfold S60 S60G at h ⊢
  split at h
  · refine Eq.trans ?_ h
    show conv_value k _ _ _ = conv_value k _ _ _
    exact congrArg (conv_value k _ _) (funext fun q1 => funext fun q2 => if_pos (keeps_app _ _ _ []))
  · cases h
-- function 47: plumbline/conv.turned
noncomputable def fi47 : FnI := ⟨47, Try.f47, []⟩
theorem en47 : Enters Try.prog 47 := enters_of Try.func47 (c := ((Try.f47).body.getD .skip)) (by kernel_rfl) (by kernel_rfl)
noncomputable def cx47 {R : Type} (k : Nat) : Cx R := mkCx Ty exts [(19, true, S19 k), (24, true, S24 k), (56, true, S56 k), (59, true, S59 k), (60, true, S60 k), (62, true, S62 k), (63, true, S63 k), (72, true, S72 k)] fi47 [] []
theorem cx47_ok {R : Type} (k : Nat) : CxOk Try.prog (cx47 k : Cx R) := mkCx_ok (c := ((Try.f47).body.getD .skip)) ty_ok mixed exts_ok (allSum_cons (S19_ok k) en19 (allSum_cons (S24_ok k) en24 (allSum_cons (S56_ok k) en56 (allSum_cons (S59_ok k) en59 (allSum_cons (S60_ok k) en60 (allSum_cons (S62_ok k) en62 (allSum_cons (S63_ok k) en63 (allSum_cons (S72_ok k) en72 allSum_nil)))))))) Try.func47 en47 (by kernel_rfl) (by kernel_rfl) allLoop_nil allCut_nil
@[reducible] def conv_turnedY (R : Type) : Type := Nat → Int → Int → Int → Int → (Int → Option R) → Option R
noncomputable def conv_turnedT {R : Type} (conv_below : conv_belowY R) (conv_value : conv_valueY R) (soft_Class : soft_ClassY R) (soft_Finite : soft_FiniteY R) (soft_Most : soft_MostY R) (soft_Nan : soft_NanY R) (soft_Neg : soft_NegY R) (soft_Round : soft_RoundY R) (k : Nat) (a1 : Int) (a2 : Int) (a3 : Int) (a4 : Int) (K0 : Int → Option R) : Option R :=
  soft_Finite k a1 a4 (fun r1 =>
    cond (!r1) (
      soft_Class k a1 a4 (fun r2 =>
        cond (r2 != 4) (
          soft_Nan k a2 (fun r3 =>
            K0 r3)) (
          soft_Most k a2 (fun r4 =>
            conv_below k a1 a4 (fun r5 =>
              cond r5 (
                soft_Neg k a2 (Wu64 (r4 + 1)) (fun r6 =>
                  K0 r6)) (
                K0 (Wu64 (r4 + 1)))))))) (
      conv_value k a1 a4 (fun r7 r8 =>
        conv_below k a1 a4 (fun r9 =>
          soft_Round k a2 a3 r9 0 r7 r8 false (fun r10 =>
            K0 r10)))))
noncomputable def conv_turned {R : Type} (k : Nat) (a1 : Int) (a2 : Int) (a3 : Int) (a4 : Int) (K0 : Int → Option R) : Option R := conv_turnedT conv_below conv_value soft_Class soft_Finite soft_Most soft_Nan soft_Neg soft_Round k a1 a2 a3 a4 K0
theorem conv_turned_gen {R : Type} (soft_Class : soft_ClassY R) (soft_Finite : soft_FiniteY R) (soft_Round : soft_RoundY R) (soft_Neg : soft_NegY R) (conv_value : conv_valueY R) (conv_below : conv_belowY R) (soft_Nan : soft_NanY R) (soft_Most : soft_MostY R) (k : Nat) (a1 : Int) (a2 : Int) (a3 : Int) (a4 : Int) (K : AV → Heap → Option R) :
    fnK (mkCx Ty exts [(19, true, S19G soft_Class k), (24, true, S24G soft_Finite k), (56, true, S56G soft_Round k), (59, true, S59G soft_Neg k), (60, true, S60G conv_value k), (62, true, S62G conv_below k), (63, true, S63G soft_Nan k), (72, true, S72G soft_Most k)] fi47 [] []) 6 47 [.i .i64 a1, .i .i64 a2, .i .i64 a3, .i .u64 a4] ⟨0, []⟩ K = conv_turnedT conv_below conv_value soft_Class soft_Finite soft_Most soft_Nan soft_Neg soft_Round k a1 a2 a3 a4 (fun q1 => K (.i .u64 q1) ⟨0, []⟩) := by kernel_rfl
noncomputable def S47G {R : Type} (conv_turned : conv_turnedY R) (k : Nat) : Sum R := fun args H K => match args, H with
  | [.i .i64 a1, .i .i64 a2, .i .i64 a3, .i .u64 a4], ⟨0, []⟩ => conv_turned k a1 a2 a3 a4 (fun q1 => K (.i .u64 q1) ⟨0, []⟩)
  | _, _ => none
noncomputable def S47 {R : Type} (k : Nat) : Sum R := S47G conv_turned k
theorem S47_ok0 {R : Type} (k : Nat) : SumOk Try.prog 47 false (S47 k : Sum R) := by
  intro args H K r h
  unfold S47 S47G at h
  split at h
  · exact fnK_sound (cx47_ok k) 6 47 _ _ K r ((conv_turned_gen soft_Class soft_Finite soft_Round soft_Neg conv_value conv_below soft_Nan soft_Most k _ _ _ _ K).trans h)
  · cases h
theorem S47_ok {R : Type} (k : Nat) : SumOk Try.prog 47 true (S47 k : Sum R) := by
  refine sumOk_keep (S47_ok0 k) ?_
  intro args H K r h
  unfold S47 S47G at h ⊢
  split at h
  · refine Eq.trans ?_ h
    show conv_turned k _ _ _ _ _ = conv_turned k _ _ _ _ _
    exact congrArg (conv_turned k _ _ _ _) (funext fun q1 => if_pos (keeps_app _ _ _ []))
  · cases h
-- function 20: plumbline/conv.Widen
noncomputable def fi20 : FnI := ⟨20, Try.f20, []⟩
theorem en20 : Enters Try.prog 20 := enters_of Try.func20 (c := ((Try.f20).body.getD .skip)) (by kernel_rfl) (by kernel_rfl)
noncomputable def cx20 {R : Type} (k : Nat) : Cx R := mkCx Ty exts [(47, true, S47 k)] fi20 [] []
theorem cx20_ok {R : Type} (k : Nat) : CxOk Try.prog (cx20 k : Cx R) := mkCx_ok (c := ((Try.f20).body.getD .skip)) ty_ok mixed exts_ok (allSum_cons (S47_ok k) en47 allSum_nil) Try.func20 en20 (by kernel_rfl) (by kernel_rfl) allLoop_nil allCut_nil
@[reducible] def conv_WidenY (R : Type) : Type := Nat → Int → (Int → Option R) → Option R
noncomputable def conv_WidenT {R : Type} (conv_turned : conv_turnedY R) (k : Nat) (a1 : Int) (K0 : Int → Option R) : Option R :=
  conv_turned k 1 0 0 a1 (fun r1 =>
    K0 r1)
noncomputable def conv_Widen {R : Type} (k : Nat) (a1 : Int) (K0 : Int → Option R) : Option R := conv_WidenT conv_turned k a1 K0
theorem conv_Widen_gen {R : Type} (conv_turned : conv_turnedY R) (k : Nat) (a1 : Int) (K : AV → Heap → Option R) :
    fnK (mkCx Ty exts [(47, true, S47G conv_turned k)] fi20 [] []) 6 20 [.i .u64 a1] ⟨0, []⟩ K = conv_WidenT conv_turned k a1 (fun q1 => K (.i .u64 q1) ⟨0, []⟩) := by kernel_rfl
noncomputable def S20G {R : Type} (conv_Widen : conv_WidenY R) (k : Nat) : Sum R := fun args H K => match args, H with
  | [.i .u64 a1], ⟨0, []⟩ => conv_Widen k a1 (fun q1 => K (.i .u64 q1) ⟨0, []⟩)
  | _, _ => none
noncomputable def S20 {R : Type} (k : Nat) : Sum R := S20G conv_Widen k
theorem S20_ok0 {R : Type} (k : Nat) : SumOk Try.prog 20 false (S20 k : Sum R) := by
  intro args H K r h
  unfold S20 S20G at h
  split at h
  · exact fnK_sound (cx20_ok k) 6 20 _ _ K r ((conv_Widen_gen conv_turned k _ K).trans h)
  · cases h
theorem S20_ok {R : Type} (k : Nat) : SumOk Try.prog 20 true (S20 k : Sum R) := by
  refine sumOk_keep (S20_ok0 k) ?_
  intro args H K r h
  unfold S20 S20G at h ⊢
  split at h
  · refine Eq.trans ?_ h
    show conv_Widen k _ _ = conv_Widen k _ _
    exact congrArg (conv_Widen k _) (funext fun q1 => if_pos (keeps_app _ _ _ []))
  · cases h
-- function 21: plumbline/conv.Narrow
noncomputable def fi21 : FnI := ⟨21, Try.f21, []⟩
theorem en21 : Enters Try.prog 21 := enters_of Try.func21 (c := ((Try.f21).body.getD .skip)) (by kernel_rfl) (by kernel_rfl)
noncomputable def cx21 {R : Type} (k : Nat) : Cx R := mkCx Ty exts [(47, true, S47 k)] fi21 [] []
theorem cx21_ok {R : Type} (k : Nat) : CxOk Try.prog (cx21 k : Cx R) := mkCx_ok (c := ((Try.f21).body.getD .skip)) ty_ok mixed exts_ok (allSum_cons (S47_ok k) en47 allSum_nil) Try.func21 en21 (by kernel_rfl) (by kernel_rfl) allLoop_nil allCut_nil
@[reducible] def conv_NarrowY (R : Type) : Type := Nat → Int → Int → (Int → Option R) → Option R
noncomputable def conv_NarrowT {R : Type} (conv_turned : conv_turnedY R) (k : Nat) (a1 : Int) (a2 : Int) (K0 : Int → Option R) : Option R :=
  conv_turned k 0 1 a1 a2 (fun r1 =>
    K0 r1)
noncomputable def conv_Narrow {R : Type} (k : Nat) (a1 : Int) (a2 : Int) (K0 : Int → Option R) : Option R := conv_NarrowT conv_turned k a1 a2 K0
theorem conv_Narrow_gen {R : Type} (conv_turned : conv_turnedY R) (k : Nat) (a1 : Int) (a2 : Int) (K : AV → Heap → Option R) :
    fnK (mkCx Ty exts [(47, true, S47G conv_turned k)] fi21 [] []) 6 21 [.i .i64 a1, .i .u64 a2] ⟨0, []⟩ K = conv_NarrowT conv_turned k a1 a2 (fun q1 => K (.i .u64 q1) ⟨0, []⟩) := by kernel_rfl
noncomputable def S21G {R : Type} (conv_Narrow : conv_NarrowY R) (k : Nat) : Sum R := fun args H K => match args, H with
  | [.i .i64 a1, .i .u64 a2], ⟨0, []⟩ => conv_Narrow k a1 a2 (fun q1 => K (.i .u64 q1) ⟨0, []⟩)
  | _, _ => none
noncomputable def S21 {R : Type} (k : Nat) : Sum R := S21G conv_Narrow k
theorem S21_ok0 {R : Type} (k : Nat) : SumOk Try.prog 21 false (S21 k : Sum R) := by
  intro args H K r h
  unfold S21 S21G at h
  split at h
  · exact fnK_sound (cx21_ok k) 6 21 _ _ K r ((conv_Narrow_gen conv_turned k _ _ K).trans h)
  · cases h
theorem S21_ok {R : Type} (k : Nat) : SumOk Try.prog 21 true (S21 k : Sum R) := by
  refine sumOk_keep (S21_ok0 k) ?_
  intro args H K r h
  unfold S21 S21G at h ⊢
  split at h
  · refine Eq.trans ?_ h
    show conv_Narrow k _ _ _ = conv_Narrow k _ _ _
    exact congrArg (conv_Narrow k _ _) (funext fun q1 => if_pos (keeps_app _ _ _ []))
  · cases h
-- function 28: plumbline/conv.FromInt
noncomputable def fi28 : FnI := ⟨28, Try.f28, []⟩
theorem en28 : Enters Try.prog 28 := enters_of Try.func28 (c := ((Try.f28).body.getD .skip)) (by kernel_rfl) (by kernel_rfl)
noncomputable def cx28 {R : Type} (k : Nat) : Cx R := mkCx Ty exts [(56, true, S56 k)] fi28 [] []
theorem cx28_ok {R : Type} (k : Nat) : CxOk Try.prog (cx28 k : Cx R) := mkCx_ok (c := ((Try.f28).body.getD .skip)) ty_ok mixed exts_ok (allSum_cons (S56_ok k) en56 allSum_nil) Try.func28 en28 (by kernel_rfl) (by kernel_rfl) allLoop_nil allCut_nil
@[reducible] def conv_FromIntY (R : Type) : Type := Nat → Int → Int → Int → (Int → Option R) → Option R
noncomputable def conv_FromIntT {R : Type} (soft_Round : soft_RoundY R) (k : Nat) (a1 : Int) (a2 : Int) (a3 : Int) (K0 : Int → Option R) : Option R :=
  cond (decide (a3 < 0)) (
    soft_Round k a1 a2 (decide (a3 < 0)) 0 (Wu64 (0 - (Wu64 a3))) 0 false (fun r1 =>
      K0 r1)) (
    soft_Round k a1 a2 (decide (a3 < 0)) 0 (Wu64 a3) 0 false (fun r2 =>
      K0 r2))
noncomputable def conv_FromInt {R : Type} (k : Nat) (a1 : Int) (a2 : Int) (a3 : Int) (K0 : Int → Option R) : Option R := conv_FromIntT soft_Round k a1 a2 a3 K0
theorem conv_FromInt_gen {R : Type} (soft_Round : soft_RoundY R) (k : Nat) (a1 : Int) (a2 : Int) (a3 : Int) (K : AV → Heap → Option R) :
    fnK (mkCx Ty exts [(56, true, S56G soft_Round k)] fi28 [] []) 6 28 [.i .i64 a1, .i .i64 a2, .i .i64 a3] ⟨0, []⟩ K = conv_FromIntT soft_Round k a1 a2 a3 (fun q1 => K (.i .u64 q1) ⟨0, []⟩) := by kernel_rfl
noncomputable def S28G {R : Type} (conv_FromInt : conv_FromIntY R) (k : Nat) : Sum R := fun args H K => match args, H with
  | [.i .i64 a1, .i .i64 a2, .i .i64 a3], ⟨0, []⟩ => conv_FromInt k a1 a2 a3 (fun q1 => K (.i .u64 q1) ⟨0, []⟩)
  | _, _ => none
noncomputable def S28 {R : Type} (k : Nat) : Sum R := S28G conv_FromInt k
theorem S28_ok0 {R : Type} (k : Nat) : SumOk Try.prog 28 false (S28 k : Sum R) := by
  intro args H K r h
  unfold S28 S28G at h
  split at h
  · exact fnK_sound (cx28_ok k) 6 28 _ _ K r ((conv_FromInt_gen soft_Round k _ _ _ K).trans h)
  · cases h
theorem S28_ok {R : Type} (k : Nat) : SumOk Try.prog 28 true (S28 k : Sum R) := by
  refine sumOk_keep (S28_ok0 k) ?_
  intro args H K r h
  unfold S28 S28G at h ⊢
  split at h
  · refine Eq.trans ?_ h
    show conv_FromInt k _ _ _ _ = conv_FromInt k _ _ _ _
    exact congrArg (conv_FromInt k _ _ _) (funext fun q1 => if_pos (keeps_app _ _ _ []))
  · cases h
-- function 31: plumbline/conv.ToInt
noncomputable def fi31 : FnI := ⟨31, Try.f31, []⟩
theorem en31 : Enters Try.prog 31 := enters_of Try.func31 (c := ((Try.f31).body.getD .skip)) (by kernel_rfl) (by kernel_rfl)
noncomputable def cx31 {R : Type} (k : Nat) : Cx R := mkCx Ty exts [(24, true, S24 k), (60, true, S60 k), (61, true, S61 k), (62, true, S62 k)] fi31 [] []
theorem cx31_ok {R : Type} (k : Nat) : CxOk Try.prog (cx31 k : Cx R) := mkCx_ok (c := ((Try.f31).body.getD .skip)) ty_ok mixed exts_ok (allSum_cons (S24_ok k) en24 (allSum_cons (S60_ok k) en60 (allSum_cons (S61_ok k) en61 (allSum_cons (S62_ok k) en62 allSum_nil)))) Try.func31 en31 (by kernel_rfl) (by kernel_rfl) allLoop_nil allCut_nil
@[reducible] def conv_ToIntY (R : Type) : Type := Nat → Int → Int → (Int → Bool → Option R) → Option R
noncomputable def conv_ToIntT {R : Type} (conv_below : conv_belowY R) (conv_value : conv_valueY R) (soft_Finite : soft_FiniteY R) (wide_Shr : wide_ShrY R) (k : Nat) (a1 : Int) (a2 : Int) (K0 : Int → Bool → Option R) : Option R :=
  soft_Finite k a1 a2 (fun r1 =>
    cond (!r1) (
      K0 0 false) (
      conv_value k a1 a2 (fun r2 r3 =>
        cond (decide (r3 ≤ 0)) (
          wide_Shr k 0 r2 (Wi64 (0 - r3)) (fun r4 r5 r6 =>
            cond (decide (r5 > 2147483648)) (
              K0 0 false) (
              conv_below k a1 a2 (fun r7 =>
                cond r7 (
                  cond (decide ((Wi64 (0 - (Wi64 r5))) > 2147483647)) (
                    K0 0 false) (
                    K0 (Wi64 (0 - (Wi64 r5))) true)) (
                  cond (decide ((Wi64 r5) > 2147483647)) (
                    K0 0 false) (
                    K0 (Wi64 r5) true)))))) (
          cond (decide (r3 < 11)) (
            cond (decide (r3 < 0)) (
              none) (
              cond (decide ((shl .u64 r2 r3) > 2147483648)) (
                K0 0 false) (
                conv_below k a1 a2 (fun r8 =>
                  cond r8 (
                    cond (decide ((Wi64 (0 - (Wi64 (shl .u64 r2 r3)))) > 2147483647)) (
                      K0 0 false) (
                      K0 (Wi64 (0 - (Wi64 (shl .u64 r2 r3)))) true)) (
                    cond (decide ((Wi64 (shl .u64 r2 r3)) > 2147483647)) (
                      K0 0 false) (
                      K0 (Wi64 (shl .u64 r2 r3)) true)))))) (
            cond (decide (r2 > 0)) (
              K0 0 false) (
              cond (decide (r2 > 2147483648)) (
                K0 0 false) (
                conv_below k a1 a2 (fun r9 =>
                  cond r9 (
                    cond (decide ((Wi64 (0 - (Wi64 r2))) > 2147483647)) (
                      K0 0 false) (
                      K0 (Wi64 (0 - (Wi64 r2))) true)) (
                    cond (decide ((Wi64 r2) > 2147483647)) (
                      K0 0 false) (
                      K0 (Wi64 r2) true))))))))))
noncomputable def conv_ToInt {R : Type} (k : Nat) (a1 : Int) (a2 : Int) (K0 : Int → Bool → Option R) : Option R := conv_ToIntT conv_below conv_value soft_Finite wide_Shr k a1 a2 K0
theorem conv_ToInt_gen {R : Type} (soft_Finite : soft_FiniteY R) (conv_value : conv_valueY R) (wide_Shr : wide_ShrY R) (conv_below : conv_belowY R) (k : Nat) (a1 : Int) (a2 : Int) (K : AV → Heap → Option R) :
    fnK (mkCx Ty exts [(24, true, S24G soft_Finite k), (60, true, S60G conv_value k), (61, true, S61G wide_Shr k), (62, true, S62G conv_below k)] fi31 [] []) 6 31 [.i .i64 a1, .i .u64 a2] ⟨0, []⟩ K = conv_ToIntT conv_below conv_value soft_Finite wide_Shr k a1 a2 (fun q1 q2 => K (.tup [.i .i64 q1, .b q2]) ⟨0, []⟩) := by kernel_rfl
noncomputable def S31G {R : Type} (conv_ToInt : conv_ToIntY R) (k : Nat) : Sum R := fun args H K => match args, H with
  | [.i .i64 a1, .i .u64 a2], ⟨0, []⟩ => conv_ToInt k a1 a2 (fun q1 q2 => K (.tup [.i .i64 q1, .b q2]) ⟨0, []⟩)
  | _, _ => none
noncomputable def S31 {R : Type} (k : Nat) : Sum R := S31G conv_ToInt k
theorem S31_ok0 {R : Type} (k : Nat) : SumOk Try.prog 31 false (S31 k : Sum R) := by
  intro args H K r h
  unfold S31 S31G at h
  split at h
  · exact fnK_sound (cx31_ok k) 6 31 _ _ K r ((conv_ToInt_gen soft_Finite conv_value wide_Shr conv_below k _ _ K).trans h)
  · cases h
theorem S31_ok {R : Type} (k : Nat) : SumOk Try.prog 31 true (S31 k : Sum R) := by
  refine sumOk_keep (S31_ok0 k) ?_
  intro args H K r h
  unfold S31 S31G at h ⊢
  split at h
  · refine Eq.trans ?_ h
    show conv_ToInt k _ _ _ = conv_ToInt k _ _ _
    exact congrArg (conv_ToInt k _ _) (funext fun q1 => funext fun q2 => if_pos (keeps_app _ _ _ []))
  · cases h
-- function 32: plumbline/conv.Plain
noncomputable def fi32 : FnI := ⟨32, Try.f32, []⟩
theorem en32 : Enters Try.prog 32 := enters_of Try.func32 (c := ((Try.f32).body.getD .skip)) (by kernel_rfl) (by kernel_rfl)
noncomputable def cx32 {R : Type} (k : Nat) : Cx R := mkCx Ty exts [(19, true, S19 k), (63, true, S63 k)] fi32 [] []
theorem cx32_ok {R : Type} (k : Nat) : CxOk Try.prog (cx32 k : Cx R) := mkCx_ok (c := ((Try.f32).body.getD .skip)) ty_ok mixed exts_ok (allSum_cons (S19_ok k) en19 (allSum_cons (S63_ok k) en63 allSum_nil)) Try.func32 en32 (by kernel_rfl) (by kernel_rfl) allLoop_nil allCut_nil
@[reducible] def conv_PlainY (R : Type) : Type := Nat → Int → Int → (Int → Option R) → Option R
noncomputable def conv_PlainT {R : Type} (soft_Class : soft_ClassY R) (soft_Nan : soft_NanY R) (k : Nat) (a1 : Int) (a2 : Int) (K0 : Int → Option R) : Option R :=
  soft_Class k a1 a2 (fun r1 =>
    cond (r1 == 0) (
      soft_Nan k a1 (fun r2 =>
        K0 r2)) (
      cond (r1 == 5) (
        soft_Nan k a1 (fun r3 =>
          K0 r3)) (
        cond (r1 == 1) (
          K0 0) (
          K0 a2))))
noncomputable def conv_Plain {R : Type} (k : Nat) (a1 : Int) (a2 : Int) (K0 : Int → Option R) : Option R := conv_PlainT soft_Class soft_Nan k a1 a2 K0
theorem conv_Plain_gen {R : Type} (soft_Class : soft_ClassY R) (soft_Nan : soft_NanY R) (k : Nat) (a1 : Int) (a2 : Int) (K : AV → Heap → Option R) :
    fnK (mkCx Ty exts [(19, true, S19G soft_Class k), (63, true, S63G soft_Nan k)] fi32 [] []) 6 32 [.i .i64 a1, .i .u64 a2] ⟨0, []⟩ K = conv_PlainT soft_Class soft_Nan k a1 a2 (fun q1 => K (.i .u64 q1) ⟨0, []⟩) := by kernel_rfl
noncomputable def S32G {R : Type} (conv_Plain : conv_PlainY R) (k : Nat) : Sum R := fun args H K => match args, H with
  | [.i .i64 a1, .i .u64 a2], ⟨0, []⟩ => conv_Plain k a1 a2 (fun q1 => K (.i .u64 q1) ⟨0, []⟩)
  | _, _ => none
noncomputable def S32 {R : Type} (k : Nat) : Sum R := S32G conv_Plain k
theorem S32_ok0 {R : Type} (k : Nat) : SumOk Try.prog 32 false (S32 k : Sum R) := by
  intro args H K r h
  unfold S32 S32G at h
  split at h
  · exact fnK_sound (cx32_ok k) 6 32 _ _ K r ((conv_Plain_gen soft_Class soft_Nan k _ _ K).trans h)
  · cases h
theorem S32_ok {R : Type} (k : Nat) : SumOk Try.prog 32 true (S32 k : Sum R) := by
  refine sumOk_keep (S32_ok0 k) ?_
  intro args H K r h
  unfold S32 S32G at h ⊢
  split at h
  · refine Eq.trans ?_ h
    show conv_Plain k _ _ _ = conv_Plain k _ _ _
    exact congrArg (conv_Plain k _ _) (funext fun q1 => if_pos (keeps_app _ _ _ []))
  · cases h
end Go.Proofs.Ytejfnbjhcohkiaa.N
