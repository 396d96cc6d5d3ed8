/- Printed by wip/gen/emit.py: functions of the program as plain Lean functions, tied to the model by the evaluator. Conditions: none. -/
import Derived.Test.YtejfnbjhcohkiaaNoctagon
namespace Go.Proofs.Ytejfnbjhcohkiaa.N
set_option linter.unusedVariables false
set_option maxRecDepth 100000
open Go Go.Ab
-- function 3: plumbline/plumblinetop.TopChain
noncomputable def fi3 : FnI := ⟨3, Try.f3, [(100004, [1, 3, 4, 5]), (2000004, [2]), (3004000, [3, 4])]⟩
theorem en3 : Enters Try.prog 3 := enters_of Try.func3 (c := ((Try.f3).body.getD .skip)) (by kernel_rfl) (by kernel_rfl)
@[reducible] def plumblinetop_TopChain_l0Y (R : Type) : Type := Nat → Nat → Int → Int → Int → Int → Int → Int → Int → Int → Int → (Bool → Option R) → (Int → Option R) → Option R
noncomputable def plumblinetop_TopChain_l0B {R : Type} (octagon_Oct_Limit_n0 : octagon_Oct_Limit_n0Y R) (k : Nat) (rec : Int → Int → Int → Int → Int → Int → Int → Int → Int → Option R) (x1 : Int) (x2 : Int) (x3 : Int) (x4 : Int) (x5 : Int) (x6 : Int) (x7 : Int) (x8 : Int) (x9 : Int) (K0 : Bool → Option R) (K1 : Int → Option R) : Option R :=
  cond (decide (x2 < 7)) (
    cond (decide (0 ≤ x2)) (
      cond (decide (x2 < 7)) (
        cond (Nat.beq (Int.toNat x2) 0) (
          octagon_Oct_Limit_n0 k (Wi64 (x2 + 1)) false x2 true (Wi64 (Int.tmod x3 1000)) (fun yr1 =>
            cond (yr1 != 0) (
              K0 false) (
              rec (Wi64 (x1 + (Wi64 (Int.tmod x3 1000)))) (Wi64 (x2 + 1)) x3 x4 x5 x6 x7 x8 x9))) (
          cond (Nat.beq (Int.toNat x2) 1) (
            octagon_Oct_Limit_n0 k (Wi64 (x2 + 1)) false x2 true (Wi64 (Int.tmod x4 1000)) (fun yr2 =>
              cond (yr2 != 0) (
                K0 false) (
                rec (Wi64 (x1 + (Wi64 (Int.tmod x4 1000)))) (Wi64 (x2 + 1)) x3 x4 x5 x6 x7 x8 x9))) (
            cond (Nat.beq (Int.toNat x2) 2) (
              octagon_Oct_Limit_n0 k (Wi64 (x2 + 1)) false x2 true (Wi64 (Int.tmod x5 1000)) (fun yr3 =>
                cond (yr3 != 0) (
                  K0 false) (
                  rec (Wi64 (x1 + (Wi64 (Int.tmod x5 1000)))) (Wi64 (x2 + 1)) x3 x4 x5 x6 x7 x8 x9))) (
              cond (Nat.beq (Int.toNat x2) 3) (
                octagon_Oct_Limit_n0 k (Wi64 (x2 + 1)) false x2 true (Wi64 (Int.tmod x6 1000)) (fun yr4 =>
                  cond (yr4 != 0) (
                    K0 false) (
                    rec (Wi64 (x1 + (Wi64 (Int.tmod x6 1000)))) (Wi64 (x2 + 1)) x3 x4 x5 x6 x7 x8 x9))) (
                cond (Nat.beq (Int.toNat x2) 4) (
                  octagon_Oct_Limit_n0 k (Wi64 (x2 + 1)) false x2 true (Wi64 (Int.tmod x7 1000)) (fun yr5 =>
                    cond (yr5 != 0) (
                      K0 false) (
                      rec (Wi64 (x1 + (Wi64 (Int.tmod x7 1000)))) (Wi64 (x2 + 1)) x3 x4 x5 x6 x7 x8 x9))) (
                  cond (Nat.beq (Int.toNat x2) 5) (
                    octagon_Oct_Limit_n0 k (Wi64 (x2 + 1)) false x2 true (Wi64 (Int.tmod x8 1000)) (fun yr6 =>
                      cond (yr6 != 0) (
                        K0 false) (
                        rec (Wi64 (x1 + (Wi64 (Int.tmod x8 1000)))) (Wi64 (x2 + 1)) x3 x4 x5 x6 x7 x8 x9))) (
                    cond (Nat.beq (Int.toNat x2) 6) (
                      octagon_Oct_Limit_n0 k (Wi64 (x2 + 1)) false x2 true (Wi64 (Int.tmod x9 1000)) (fun yr7 =>
                        cond (yr7 != 0) (
                          K0 false) (
                          rec (Wi64 (x1 + (Wi64 (Int.tmod x9 1000)))) (Wi64 (x2 + 1)) x3 x4 x5 x6 x7 x8 x9))) (
                      none)))))))) (
        none)) (
      none)) (
    K1 x1)
noncomputable def plumblinetop_TopChain_l0 {R : Type} (k : Nat) : Nat → Int → Int → Int → Int → Int → Int → Int → Int → Int → (Bool → Option R) → (Int → Option R) → Option R
  | 0, _, _, _, _, _, _, _, _, _, _, _ => none
  | n + 1, x1, x2, x3, x4, x5, x6, x7, x8, x9, K0, K1 => plumblinetop_TopChain_l0B octagon_Oct_Limit_n0 k (fun x1 x2 x3 x4 x5 x6 x7 x8 x9 => plumblinetop_TopChain_l0 k n x1 x2 x3 x4 x5 x6 x7 x8 x9 K0 K1) x1 x2 x3 x4 x5 x6 x7 x8 x9 K0 K1
@[reducible] def plumblinetop_TopChain_l1Y (R : Type) : Type := Nat → Nat → Int → Int → Int → Int → Int → Int → Int → Int → Int → Int → (List Int) → Bool → (Bool → Option R) → (Int → (List Int) → Bool → Option R) → Option R
noncomputable def plumblinetop_TopChain_l1B {R : Type} (octagon_Oct_Limit : octagon_Oct_LimitY R) (k : Nat) (rec : Int → Int → Int → Int → Int → Int → Int → Int → Int → Int → (List Int) → Bool → Option R) (x1 : Int) (x2 : Int) (x3 : Int) (x4 : Int) (x5 : Int) (x6 : Int) (x7 : Int) (x8 : Int) (x9 : Int) (x10 : Int) (x11 : List Int) (x12 : Bool) (K0 : Bool → Option R) (K1 : Int → (List Int) → Bool → Option R) : Option R :=
  cond (decide (x2 < 7)) (
    cond (decide (0 ≤ x2)) (
      cond (decide (x2 < 7)) (
        cond (Nat.beq (Int.toNat x2) 0) (
          octagon_Oct_Limit k (Wi64 (x2 + 1)) false x2 true (Wi64 (Int.tmod x3 1000)) x10 x11 x12 (fun yr1 yr2 yr3 =>
            cond (yr1 != 0) (
              K0 false) (
              rec (Wi64 (x1 + (Wi64 (Int.tmod x3 1000)))) (Wi64 (x2 + 1)) x3 x4 x5 x6 x7 x8 x9 x10 yr2 yr3))) (
          cond (Nat.beq (Int.toNat x2) 1) (
            octagon_Oct_Limit k (Wi64 (x2 + 1)) false x2 true (Wi64 (Int.tmod x4 1000)) x10 x11 x12 (fun yr4 yr5 yr6 =>
              cond (yr4 != 0) (
                K0 false) (
                rec (Wi64 (x1 + (Wi64 (Int.tmod x4 1000)))) (Wi64 (x2 + 1)) x3 x4 x5 x6 x7 x8 x9 x10 yr5 yr6))) (
            cond (Nat.beq (Int.toNat x2) 2) (
              octagon_Oct_Limit k (Wi64 (x2 + 1)) false x2 true (Wi64 (Int.tmod x5 1000)) x10 x11 x12 (fun yr7 yr8 yr9 =>
                cond (yr7 != 0) (
                  K0 false) (
                  rec (Wi64 (x1 + (Wi64 (Int.tmod x5 1000)))) (Wi64 (x2 + 1)) x3 x4 x5 x6 x7 x8 x9 x10 yr8 yr9))) (
              cond (Nat.beq (Int.toNat x2) 3) (
                octagon_Oct_Limit k (Wi64 (x2 + 1)) false x2 true (Wi64 (Int.tmod x6 1000)) x10 x11 x12 (fun yr10 yr11 yr12 =>
                  cond (yr10 != 0) (
                    K0 false) (
                    rec (Wi64 (x1 + (Wi64 (Int.tmod x6 1000)))) (Wi64 (x2 + 1)) x3 x4 x5 x6 x7 x8 x9 x10 yr11 yr12))) (
                cond (Nat.beq (Int.toNat x2) 4) (
                  octagon_Oct_Limit k (Wi64 (x2 + 1)) false x2 true (Wi64 (Int.tmod x7 1000)) x10 x11 x12 (fun yr13 yr14 yr15 =>
                    cond (yr13 != 0) (
                      K0 false) (
                      rec (Wi64 (x1 + (Wi64 (Int.tmod x7 1000)))) (Wi64 (x2 + 1)) x3 x4 x5 x6 x7 x8 x9 x10 yr14 yr15))) (
                  cond (Nat.beq (Int.toNat x2) 5) (
                    octagon_Oct_Limit k (Wi64 (x2 + 1)) false x2 true (Wi64 (Int.tmod x8 1000)) x10 x11 x12 (fun yr16 yr17 yr18 =>
                      cond (yr16 != 0) (
                        K0 false) (
                        rec (Wi64 (x1 + (Wi64 (Int.tmod x8 1000)))) (Wi64 (x2 + 1)) x3 x4 x5 x6 x7 x8 x9 x10 yr17 yr18))) (
                    cond (Nat.beq (Int.toNat x2) 6) (
                      octagon_Oct_Limit k (Wi64 (x2 + 1)) false x2 true (Wi64 (Int.tmod x9 1000)) x10 x11 x12 (fun yr19 yr20 yr21 =>
                        cond (yr19 != 0) (
                          K0 false) (
                          rec (Wi64 (x1 + (Wi64 (Int.tmod x9 1000)))) (Wi64 (x2 + 1)) x3 x4 x5 x6 x7 x8 x9 x10 yr20 yr21))) (
                      none)))))))) (
        none)) (
      none)) (
    K1 x1 x11 x12)
noncomputable def plumblinetop_TopChain_l1 {R : Type} (k : Nat) : Nat → Int → Int → Int → Int → Int → Int → Int → Int → Int → Int → (List Int) → Bool → (Bool → Option R) → (Int → (List Int) → Bool → Option R) → Option R
  | 0, _, _, _, _, _, _, _, _, _, _, _, _, _, _ => none
  | n + 1, x1, x2, x3, x4, x5, x6, x7, x8, x9, x10, x11, x12, K0, K1 => plumblinetop_TopChain_l1B octagon_Oct_Limit k (fun x1 x2 x3 x4 x5 x6 x7 x8 x9 x10 x11 x12 => plumblinetop_TopChain_l1 k n x1 x2 x3 x4 x5 x6 x7 x8 x9 x10 x11 x12 K0 K1) x1 x2 x3 x4 x5 x6 x7 x8 x9 x10 x11 x12 K0 K1
noncomputable def cx3_4 {R : Type} (k : Nat) : Cx R := mkCx Ty exts [(10, true, S10 k), (11, false, S11 k), (12, true, S12 k), (13, false, S13 k), (14, true, S14 k), (15, true, S15 k)] fi3 [] []
theorem cx3_4_ok {R : Type} (k : Nat) : CxOk Try.prog (cx3_4 k : Cx R) := mkCx_ok (c := ((Try.f3).body.getD .skip)) ty_ok mixed exts_ok (allSum_cons (S10_ok k) en10 (allSum_cons (S11_ok k) en11 (allSum_cons (S12_ok k) en12 (allSum_cons (S13_ok k) en13 (allSum_cons (S14_ok k) en14 (allSum_cons (S15_ok k) en15 allSum_nil)))))) Try.func3 en3 (by kernel_rfl) (by kernel_rfl) allLoop_nil allCut_nil
noncomputable def L3_4G {R : Type} (plumblinetop_TopChain_l0 : plumblinetop_TopChain_l0Y R) (plumblinetop_TopChain_l1 : plumblinetop_TopChain_l1Y R) (k n : Nat) : LSum R := fun pin T H K => match pin, T, H with
  | 0, [(1, .ptr 0 0 0 0 0), (3, .np), (4, .i .i64 x1), (5, .i .i64 x2)], ⟨1, [(0, some ⟨0, false, .cells [.i .u16 x3, .i .u16 x4, .i .u16 x5, .i .u16 x6, .i .u16 x7, .i .u16 x8, .i .u16 x9]⟩)]⟩ => plumblinetop_TopChain_l0 k n x1 x2 x3 x4 x5 x6 x7 x8 x9 (fun q1 => K .ret [(2, .b q1)] ⟨0, []⟩) (fun q1 => K (.exit 0) [(3, .np), (4, .i .i64 q1)] ⟨0, []⟩)
  | 0, [(1, .ptr 0 0 0 0 0), (3, .ptr 1 0 0 0 0), (4, .i .i64 x1), (5, .i .i64 x2)], ⟨2, [(0, some ⟨0, false, .cells [.i .u16 x3, .i .u16 x4, .i .u16 x5, .i .u16 x6, .i .u16 x7, .i .u16 x8, .i .u16 x9]⟩), (1, some ⟨1, false, .mix [.i .i64 x10] [.i .i64] 256 x11 [.b x12]⟩)]⟩ => plumblinetop_TopChain_l1 k n x1 x2 x3 x4 x5 x6 x7 x8 x9 x10 x11 x12 (fun q1 => K .ret [(2, .b q1)] ⟨0, []⟩) (fun q1 q3 q4 => K (.exit 0) [(3, .ptr 0 0 0 0 0), (4, .i .i64 q1)] ⟨1, [(0, some ⟨0, false, .mix [.i .i64 x10] [.i .i64] 256 q3 [.b q4]⟩)]⟩)
  | _, _, _ => none
noncomputable def L3_4 {R : Type} (k n : Nat) : LSum R := L3_4G plumblinetop_TopChain_l0 plumblinetop_TopChain_l1 k n
theorem plumblinetop_TopChain_l0_gen {R : Type} (octagon_New : octagon_NewY R) (octagon_Oct_Limit_n0 : octagon_Oct_Limit_n0Y R) (octagon_Oct_Limit : octagon_Oct_LimitY R) (octagon_Oct_Bound_n0 : octagon_Oct_Bound_n0Y R) (octagon_Oct_Bound : octagon_Oct_BoundY R) (octagon_Oct_Set_n0 : octagon_Oct_Set_n0Y R) (octagon_Oct_Set : octagon_Oct_SetY R) (octagon_Oct_Empty_n0 : octagon_Oct_Empty_n0Y R) (octagon_Oct_Empty : octagon_Oct_EmptyY R) (octagon_Oct_Range_n0 : octagon_Oct_Range_n0Y R) (octagon_Oct_Range : octagon_Oct_RangeY R) (plumblinetop_TopChain_l0 : plumblinetop_TopChain_l0Y R) (plumblinetop_TopChain_l1 : plumblinetop_TopChain_l1Y R) (k n : Nat) (x1 : Int) (x2 : Int) (x3 : Int) (x4 : Int) (x5 : Int) (x6 : Int) (x7 : Int) (x8 : Int) (x9 : Int) (K : Kont R) :
    (fun C => codeK C (run C 4)) (mkCx Ty exts [(10, true, S10G octagon_New k), (11, false, S11G octagon_Oct_Limit_n0 octagon_Oct_Limit k), (12, true, S12G octagon_Oct_Bound_n0 octagon_Oct_Bound k), (13, false, S13G octagon_Oct_Set_n0 octagon_Oct_Set k), (14, true, S14G octagon_Oct_Empty_n0 octagon_Oct_Empty k), (15, true, S15G octagon_Oct_Range_n0 octagon_Oct_Range k)] fi3 [] []) 0 fi3 (loopAt ((Try.f3).body.getD .skip) 4) [(1, .ptr 0 0 0 0 0), (3, .np), (4, .i .i64 x1), (5, .i .i64 x2)] ⟨1, [(0, some ⟨0, false, .cells [.i .u16 x3, .i .u16 x4, .i .u16 x5, .i .u16 x6, .i .u16 x7, .i .u16 x8, .i .u16 x9]⟩)]⟩ (fun ex T H => match (generalizing := false) ex with
      | .normal => normAt (some [1, 3, 4, 5]) 0 T H (fun T H => L3_4G plumblinetop_TopChain_l0 plumblinetop_TopChain_l1 k n 0 T H K)
      | ex => exitNorm fi3.ann 4 0 K ex T H) =
    plumblinetop_TopChain_l0B octagon_Oct_Limit_n0 k (fun x1 x2 x3 x4 x5 x6 x7 x8 x9 => plumblinetop_TopChain_l0 k n x1 x2 x3 x4 x5 x6 x7 x8 x9 (fun q1 => K .ret [(2, .b q1)] ⟨0, []⟩) (fun q1 => K (.exit 0) [(3, .np), (4, .i .i64 q1)] ⟨0, []⟩)) x1 x2 x3 x4 x5 x6 x7 x8 x9 (fun q1 => K .ret [(2, .b q1)] ⟨0, []⟩) (fun q1 => K (.exit 0) [(3, .np), (4, .i .i64 q1)] ⟨0, []⟩) := by kernel_rfl
theorem plumblinetop_TopChain_l1_gen {R : Type} (octagon_New : octagon_NewY R) (octagon_Oct_Limit_n0 : octagon_Oct_Limit_n0Y R) (octagon_Oct_Limit : octagon_Oct_LimitY R) (octagon_Oct_Bound_n0 : octagon_Oct_Bound_n0Y R) (octagon_Oct_Bound : octagon_Oct_BoundY R) (octagon_Oct_Set_n0 : octagon_Oct_Set_n0Y R) (octagon_Oct_Set : octagon_Oct_SetY R) (octagon_Oct_Empty_n0 : octagon_Oct_Empty_n0Y R) (octagon_Oct_Empty : octagon_Oct_EmptyY R) (octagon_Oct_Range_n0 : octagon_Oct_Range_n0Y R) (octagon_Oct_Range : octagon_Oct_RangeY R) (plumblinetop_TopChain_l0 : plumblinetop_TopChain_l0Y R) (plumblinetop_TopChain_l1 : plumblinetop_TopChain_l1Y R) (k n : Nat) (x1 : Int) (x2 : Int) (x3 : Int) (x4 : Int) (x5 : Int) (x6 : Int) (x7 : Int) (x8 : Int) (x9 : Int) (x10 : Int) (x11 : List Int) (x12 : Bool) (K : Kont R) :
    (fun C => codeK C (run C 4)) (mkCx Ty exts [(10, true, S10G octagon_New k), (11, false, S11G octagon_Oct_Limit_n0 octagon_Oct_Limit k), (12, true, S12G octagon_Oct_Bound_n0 octagon_Oct_Bound k), (13, false, S13G octagon_Oct_Set_n0 octagon_Oct_Set k), (14, true, S14G octagon_Oct_Empty_n0 octagon_Oct_Empty k), (15, true, S15G octagon_Oct_Range_n0 octagon_Oct_Range k)] fi3 [] []) 0 fi3 (loopAt ((Try.f3).body.getD .skip) 4) [(1, .ptr 0 0 0 0 0), (3, .ptr 1 0 0 0 0), (4, .i .i64 x1), (5, .i .i64 x2)] ⟨2, [(0, some ⟨0, false, .cells [.i .u16 x3, .i .u16 x4, .i .u16 x5, .i .u16 x6, .i .u16 x7, .i .u16 x8, .i .u16 x9]⟩), (1, some ⟨1, false, .mix [.i .i64 x10] [.i .i64] 256 x11 [.b x12]⟩)]⟩ (fun ex T H => match (generalizing := false) ex with
      | .normal => normAt (some [1, 3, 4, 5]) 0 T H (fun T H => L3_4G plumblinetop_TopChain_l0 plumblinetop_TopChain_l1 k n 0 T H K)
      | ex => exitNorm fi3.ann 4 0 K ex T H) =
    plumblinetop_TopChain_l1B octagon_Oct_Limit k (fun x1 x2 x3 x4 x5 x6 x7 x8 x9 x10 x11 x12 => plumblinetop_TopChain_l1 k n x1 x2 x3 x4 x5 x6 x7 x8 x9 x10 x11 x12 (fun q1 => K .ret [(2, .b q1)] ⟨0, []⟩) (fun q1 q3 q4 => K (.exit 0) [(3, .ptr 0 0 0 0 0), (4, .i .i64 q1)] ⟨1, [(0, some ⟨0, false, .mix [.i .i64 x10] [.i .i64] 256 q3 [.b q4]⟩)]⟩)) x1 x2 x3 x4 x5 x6 x7 x8 x9 x10 x11 x12 (fun q1 => K .ret [(2, .b q1)] ⟨0, []⟩) (fun q1 q3 q4 => K (.exit 0) [(3, .ptr 0 0 0 0 0), (4, .i .i64 q1)] ⟨1, [(0, some ⟨0, false, .mix [.i .i64 x10] [.i .i64] 256 q3 [.b q4]⟩)]⟩) := by kernel_rfl
theorem L3_4_cok {R : Type} (k : Nat) : CodeOk Try.prog (cx3_4 k : Cx R) fi3 (loopAt ((Try.f3).body.getD .skip) 4) := loopAt_ok (((cx3_4_ok k).fns 3 fi3 (by kernel_rfl)).2.2.2 ((Try.f3).body.getD .skip) (by kernel_rfl))
theorem L3_4_ok {R : Type} (k : Nat) : ∀ n, LoopOk Try.prog (Try.f3).ntmps (loopAt ((Try.f3).body.getD .skip) 4) (L3_4 k n : LSum R)
  | 0 => by
    intro pin T H K r h
    unfold L3_4 L3_4G at h
    split at h
    all_goals exact nomatch (show (none : Option R) = some r from h)
  | n + 1 => by
    intro pin T H K r h
    unfold L3_4 L3_4G at h
    split at h
    · obtain ⟨ex, T1, H1, h, hb⟩ := codeK_sound (cx3_4_ok k) (run_sound (cx3_4_ok k) 4) _ fi3 _ _ _ _ _ (L3_4_cok k) ((plumblinetop_TopChain_l0_gen octagon_New octagon_Oct_Limit_n0 octagon_Oct_Limit octagon_Oct_Bound_n0 octagon_Oct_Bound octagon_Oct_Set_n0 octagon_Oct_Set octagon_Oct_Empty_n0 octagon_Oct_Empty octagon_Oct_Range_n0 octagon_Oct_Range plumblinetop_TopChain_l0 plumblinetop_TopChain_l1 k n _ _ _ _ _ _ _ _ _ K).trans h)
      exact loop_step (fun T H hh => L3_4_ok k n _ T H K r hh) hb h
    · obtain ⟨ex, T1, H1, h, hb⟩ := codeK_sound (cx3_4_ok k) (run_sound (cx3_4_ok k) 4) _ fi3 _ _ _ _ _ (L3_4_cok k) ((plumblinetop_TopChain_l1_gen octagon_New octagon_Oct_Limit_n0 octagon_Oct_Limit octagon_Oct_Bound_n0 octagon_Oct_Bound octagon_Oct_Set_n0 octagon_Oct_Set octagon_Oct_Empty_n0 octagon_Oct_Empty octagon_Oct_Range_n0 octagon_Oct_Range plumblinetop_TopChain_l0 plumblinetop_TopChain_l1 k n _ _ _ _ _ _ _ _ _ _ _ _ K).trans h)
      exact loop_step (fun T H hh => L3_4_ok k n _ T H K r hh) hb h
    · cases h
noncomputable def cx3 {R : Type} (k : Nat) : Cx R := mkCx Ty exts [(10, true, S10 k), (11, false, S11 k), (12, true, S12 k), (13, false, S13 k), (14, true, S14 k), (15, true, S15 k)] fi3 [(4, L3_4 k k)] []
theorem cx3_ok {R : Type} (k : Nat) : CxOk Try.prog (cx3 k : Cx R) := mkCx_ok (c := ((Try.f3).body.getD .skip)) ty_ok mixed exts_ok (allSum_cons (S10_ok k) en10 (allSum_cons (S11_ok k) en11 (allSum_cons (S12_ok k) en12 (allSum_cons (S13_ok k) en13 (allSum_cons (S14_ok k) en14 (allSum_cons (S15_ok k) en15 allSum_nil)))))) Try.func3 en3 (by kernel_rfl) (by kernel_rfl) (allLoop_loop (by kernel_rfl) (L3_4_ok k k) allLoop_nil) allCut_nil
@[reducible] def plumblinetop_TopChainY (R : Type) : Type := Nat → Int → Int → Int → Int → Int → Int → Int → (Bool → Option R) → Option R
noncomputable def plumblinetop_TopChainT {R : Type} (octagon_New : octagon_NewY R) (octagon_Oct_Bound : octagon_Oct_BoundY R) (octagon_Oct_Bound_n0 : octagon_Oct_Bound_n0Y R) (octagon_Oct_Empty : octagon_Oct_EmptyY R) (octagon_Oct_Empty_n0 : octagon_Oct_Empty_n0Y R) (octagon_Oct_Range : octagon_Oct_RangeY R) (octagon_Oct_Range_n0 : octagon_Oct_Range_n0Y R) (octagon_Oct_Set : octagon_Oct_SetY R) (octagon_Oct_Set_n0 : octagon_Oct_Set_n0Y R) (plumblinetop_TopChain_l0 : plumblinetop_TopChain_l0Y R) (plumblinetop_TopChain_l1 : plumblinetop_TopChain_l1Y R) (k : Nat) (a1 : Int) (a2 : Int) (a3 : Int) (a4 : Int) (a5 : Int) (a6 : Int) (a7 : Int) (K0 : Bool → Option R) : Option R :=
  octagon_New k 8 (
    plumblinetop_TopChain_l0 k k 0 0 a1 a2 a3 a4 a5 a6 a7 (fun r1 =>
      K0 r1) (fun r2 =>
      octagon_Oct_Bound_n0 k 7 false 0 true (fun r3 =>
        cond (r3 != r2) (
          K0 false) (
          octagon_Oct_Set_n0 k 0 false 5 9 (fun r4 =>
            cond (r4 != 0) (
              K0 false) (
              octagon_Oct_Empty_n0 k (fun r5 =>
                cond (!r5) (
                  octagon_Oct_Range_n0 k 7 (fun r6 r7 r8 =>
                    cond (r8 == (Wi64 (9 + r2))) (
                      octagon_Oct_Range_n0 k 7 (fun r9 r10 r11 =>
                        K0 (r10 == (-2147483648)))) (
                      K0 false))) (
                  K0 false)))))))) (fun r12 r13 r14 =>
    plumblinetop_TopChain_l1 k k 0 0 a1 a2 a3 a4 a5 a6 a7 r12 r13 r14 (fun r15 =>
      K0 r15) (fun r16 r17 r18 =>
      octagon_Oct_Bound k 7 false 0 true r12 r17 r18 (fun r19 =>
        cond (r19 != r16) (
          K0 false) (
          octagon_Oct_Set k 0 false 5 9 r12 r17 r18 (fun r20 r21 r22 =>
            cond (r20 != 0) (
              K0 false) (
              octagon_Oct_Empty k r12 r21 r22 (
                cond (!r22) (
                  octagon_Oct_Range k 7 r12 r21 r22 (fun r23 r24 r25 =>
                    cond (r25 == (Wi64 (9 + r16))) (
                      octagon_Oct_Range k 7 r12 r21 r22 (fun r26 r27 r28 =>
                        K0 (r27 == (-2147483648)))) (
                      K0 false))) (
                  K0 false))))))))
noncomputable def plumblinetop_TopChain {R : Type} (k : Nat) (a1 : Int) (a2 : Int) (a3 : Int) (a4 : Int) (a5 : Int) (a6 : Int) (a7 : Int) (K0 : Bool → Option R) : Option R := plumblinetop_TopChainT octagon_New octagon_Oct_Bound octagon_Oct_Bound_n0 octagon_Oct_Empty octagon_Oct_Empty_n0 octagon_Oct_Range octagon_Oct_Range_n0 octagon_Oct_Set octagon_Oct_Set_n0 plumblinetop_TopChain_l0 plumblinetop_TopChain_l1 k a1 a2 a3 a4 a5 a6 a7 K0
theorem plumblinetop_TopChain_gen {R : Type} (octagon_New : octagon_NewY R) (octagon_Oct_Limit_n0 : octagon_Oct_Limit_n0Y R) (octagon_Oct_Limit : octagon_Oct_LimitY R) (octagon_Oct_Bound_n0 : octagon_Oct_Bound_n0Y R) (octagon_Oct_Bound : octagon_Oct_BoundY R) (octagon_Oct_Set_n0 : octagon_Oct_Set_n0Y R) (octagon_Oct_Set : octagon_Oct_SetY R) (octagon_Oct_Empty_n0 : octagon_Oct_Empty_n0Y R) (octagon_Oct_Empty : octagon_Oct_EmptyY R) (octagon_Oct_Range_n0 : octagon_Oct_Range_n0Y R) (octagon_Oct_Range : octagon_Oct_RangeY R) (plumblinetop_TopChain_l0 : plumblinetop_TopChain_l0Y R) (plumblinetop_TopChain_l1 : plumblinetop_TopChain_l1Y R) (k : Nat) (a1 : Int) (a2 : Int) (a3 : Int) (a4 : Int) (a5 : Int) (a6 : Int) (a7 : Int) (K : AV → Heap → Option R) :
    fnK (mkCx Ty exts [(10, true, S10G octagon_New k), (11, false, S11G octagon_Oct_Limit_n0 octagon_Oct_Limit k), (12, true, S12G octagon_Oct_Bound_n0 octagon_Oct_Bound k), (13, false, S13G octagon_Oct_Set_n0 octagon_Oct_Set k), (14, true, S14G octagon_Oct_Empty_n0 octagon_Oct_Empty k), (15, true, S15G octagon_Oct_Range_n0 octagon_Oct_Range k)] fi3 [(4, L3_4G plumblinetop_TopChain_l0 plumblinetop_TopChain_l1 k k)] []) 6 3 [.agg [.i .u16 a1, .i .u16 a2, .i .u16 a3, .i .u16 a4, .i .u16 a5, .i .u16 a6, .i .u16 a7]] ⟨0, []⟩ K = plumblinetop_TopChainT octagon_New octagon_Oct_Bound octagon_Oct_Bound_n0 octagon_Oct_Empty octagon_Oct_Empty_n0 octagon_Oct_Range octagon_Oct_Range_n0 octagon_Oct_Set octagon_Oct_Set_n0 plumblinetop_TopChain_l0 plumblinetop_TopChain_l1 k a1 a2 a3 a4 a5 a6 a7 (fun q1 => K (.b q1) ⟨0, []⟩) := by kernel_rfl
noncomputable def S3G {R : Type} (plumblinetop_TopChain : plumblinetop_TopChainY R) (k : Nat) : Sum R := fun args H K => match args, H with
  | [.agg [.i .u16 a1, .i .u16 a2, .i .u16 a3, .i .u16 a4, .i .u16 a5, .i .u16 a6, .i .u16 a7]], ⟨0, []⟩ => plumblinetop_TopChain k a1 a2 a3 a4 a5 a6 a7 (fun q1 => K (.b q1) ⟨0, []⟩)
  | _, _ => none
noncomputable def S3 {R : Type} (k : Nat) : Sum R := S3G plumblinetop_TopChain k
theorem S3_ok0 {R : Type} (k : Nat) : SumOk Try.prog 3 false (S3 k : Sum R) := by
  intro args H K r h
  unfold S3 S3G at h
  split at h
  · exact fnK_sound (cx3_ok k) 6 3 _ _ K r ((plumblinetop_TopChain_gen octagon_New octagon_Oct_Limit_n0 octagon_Oct_Limit octagon_Oct_Bound_n0 octagon_Oct_Bound octagon_Oct_Set_n0 octagon_Oct_Set octagon_Oct_Empty_n0 octagon_Oct_Empty octagon_Oct_Range_n0 octagon_Oct_Range plumblinetop_TopChain_l0 plumblinetop_TopChain_l1 k _ _ _ _ _ _ _ K).trans h)
  · cases h
theorem S3_ok {R : Type} (k : Nat) : SumOk Try.prog 3 true (S3 k : Sum R) := by
  refine sumOk_keep (S3_ok0 k) ?_
  intro args H K r h
  unfold S3 S3G at h ⊢
  split at h
  · refine Eq.trans ?_ h
    show plumblinetop_TopChain k _ _ _ _ _ _ _ _ = plumblinetop_TopChain k _ _ _ _ _ _ _ _
    exact congrArg (plumblinetop_TopChain k _ _ _ _ _ _ _) (funext fun q1 => if_pos (keeps_app _ _ _ []))
  · cases h
end Go.Proofs.Ytejfnbjhcohkiaa.N
