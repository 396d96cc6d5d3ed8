/- Printed by wip/gen/emit.py: functions of the program as plain Lean functions, tied to the model by the evaluator. Conditions: none. -/
import Derived.Test.YtnbmconaglehbaaAb23
import Derived.Test.YtnbmconaglehbaaChecked
namespace Go.Proofs.Ytnbmconaglehbaa.N
set_option linter.unusedVariables false
set_option maxRecDepth 100000
open Go Go.Ab
noncomputable def tyL : List (Nat × TI) := [
  (3, ⟨.sc (.i .i64), 1, 8, .i .i64 0⟩),
  (4, ⟨.sc (.b), 1, 1, .b false⟩),
  (5, ⟨.sc (.i .u8), 1, 1, .i .u8 0⟩),
  (9, ⟨.sc (.s), 1, 16, .s ⟨#[]⟩⟩),
  (22, ⟨.sc (.i .u64), 1, 8, .i .u64 0⟩),
  (24, ⟨.struct [(0, 22), (1, 22)], 2, 16, .agg [.i .u64 0, .i .u64 0]⟩),
  (42, ⟨.slice 4, 1, 24, .nsl⟩),
  (45, ⟨.sc (.i .u64), 1, 8, .i .u64 0⟩),
  (50, ⟨.arr 2 22, 2, 16, .agg [.i .u64 0, .i .u64 0]⟩),
  (55, ⟨.slice 3, 1, 24, .nsl⟩)]
noncomputable def Ty : Types := lookF tyL
theorem ty_ok : TyOk Try.prog Ty ∧ EqOk Try.prog Ty := tyOk_of (by kernel_rfl)
theorem mixed : Try.prog.follows .mixedOrders = true := by kernel_rfl
noncomputable def exts : List (Nat × (List AV → Option (Bool × AV))) := [(33, extAdd), (35, extSub)]
theorem exts_ok : AllExt Try.prog exts := ⟨extAdd_ok Try.func33 (by kernel_rfl) (by kernel_rfl) (by kernel_rfl) (by kernel_rfl), ⟨extSub_ok Try.func35 (by kernel_rfl) (by kernel_rfl) (by kernel_rfl) (by kernel_rfl), trivial⟩⟩
end Go.Proofs.Ytnbmconaglehbaa.N
