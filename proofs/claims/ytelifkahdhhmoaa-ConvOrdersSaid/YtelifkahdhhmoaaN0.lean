/- Printed by wip/gen/emit.py: functions of the program as plain Lean functions, tied to the model by the evaluator. Conditions: none. -/
import Derived.Test.YtelifkahdhhmoaaEng2
import Derived.Test.YtelifkahdhhmoaaChecked
namespace Go.Proofs.Ytelifkahdhhmoaa.N
set_option linter.unusedVariables false
set_option maxRecDepth 100000
open Go Go.Ab
noncomputable def tyL : List (Nat × TI) := [
  (2, ⟨.sc (.i .i64), 1, 8, .i .i64 0⟩),
  (3, ⟨.sc (.i .i64), 1, 8, .i .i64 0⟩),
  (4, ⟨.sc (.b), 1, 1, .b false⟩),
  (5, ⟨.sc (.i .u8), 1, 1, .i .u8 0⟩),
  (9, ⟨.sc (.s), 1, 16, .s ⟨#[]⟩⟩),
  (21, ⟨.sc (.i .i32), 1, 4, .i .i32 0⟩),
  (22, ⟨.sc (.i .i64), 1, 8, .i .i64 0⟩),
  (23, ⟨.sc (.i .u64), 1, 8, .i .u64 0⟩),
  (34, ⟨.sc (.i .u32), 1, 4, .i .u32 0⟩),
  (37, ⟨.sc (.i .i64), 1, 8, .i .i64 0⟩),
  (56, ⟨.slice 5, 1, 24, .nsl⟩),
  (62, ⟨.struct [(0, 23), (1, 23)], 2, 16, .agg [.i .u64 0, .i .u64 0]⟩),
  (68, ⟨.slice 4, 1, 24, .nsl⟩),
  (73, ⟨.sc (.i .u64), 1, 8, .i .u64 0⟩),
  (75, ⟨.struct [(0, 3), (1, 3), (2, 3)], 3, 24, .agg [.i .i64 0, .i .i64 0, .i .i64 0]⟩),
  (77, ⟨.struct [(0, 75), (3, 3), (4, 4), (5, 23), (6, 3)], 7, 56, .agg [.i .i64 0, .i .i64 0, .i .i64 0, .i .i64 0, .b false, .i .u64 0, .i .i64 0]⟩),
  (103, ⟨.func, 1, 8, .nf⟩),
  (105, ⟨.struct [(0, 103)], 1, 8, .agg [.nf]⟩)]
noncomputable def Ty : Types := lookF tyL
theorem ty_ok : TyOk Try.prog Ty ∧ EqOk Try.prog Ty := tyOk_of (by kernel_rfl)
theorem mixed : Try.prog.follows .mixedOrders = true := by kernel_rfl
noncomputable def exts : List (Nat × (List AV → Option (Bool × AV))) := []
theorem exts_ok : AllExt Try.prog exts := trivial
end Go.Proofs.Ytelifkahdhhmoaa.N
