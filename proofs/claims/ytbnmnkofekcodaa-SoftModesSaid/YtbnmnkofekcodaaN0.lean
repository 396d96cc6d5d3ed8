/- Printed by wip/gen/emit.py: functions of the program as plain Lean functions, tied to the model by the evaluator. Conditions: none. -/
import Derived.Test.YtbnmnkofekcodaaEng2
import Derived.Test.YtbnmnkofekcodaaChecked
namespace Go.Proofs.Ytbnmnkofekcodaa.N
set_option linter.unusedVariables false
set_option maxRecDepth 100000
open Go Go.Ab
noncomputable def tyL : List (Nat × TI) := [
  (2, ⟨.sc (.i .i64), 1, 8, .i .i64 0⟩),
  (3, ⟨.sc (.i .i64), 1, 8, .i .i64 0⟩),
  (4, ⟨.sc (.b), 1, 1, .b false⟩),
  (5, ⟨.sc (.i .u8), 1, 1, .i .u8 0⟩),
  (9, ⟨.sc (.s), 1, 16, .s ⟨#[]⟩⟩),
  (22, ⟨.sc (.i .i64), 1, 8, .i .i64 0⟩),
  (23, ⟨.sc (.i .i64), 1, 8, .i .i64 0⟩),
  (25, ⟨.struct [(0, 22), (1, 23)], 2, 16, .agg [.i .i64 0, .i .i64 0]⟩),
  (26, ⟨.sc (.i .u64), 1, 8, .i .u64 0⟩),
  (32, ⟨.struct [(0, 26), (1, 26)], 2, 16, .agg [.i .u64 0, .i .u64 0]⟩),
  (34, ⟨.struct [(0, 4), (1, 4), (2, 32), (4, 3)], 5, 32, .agg [.b false, .b false, .i .u64 0, .i .u64 0, .i .i64 0]⟩),
  (45, ⟨.sc (.i .i64), 1, 8, .i .i64 0⟩),
  (46, ⟨.arr 2 26, 2, 16, .agg [.i .u64 0, .i .u64 0]⟩),
  (52, ⟨.struct [(0, 3), (1, 3), (2, 3)], 3, 24, .agg [.i .i64 0, .i .i64 0, .i .i64 0]⟩),
  (54, ⟨.struct [(0, 52), (3, 3), (4, 4), (5, 26), (6, 3)], 7, 56, .agg [.i .i64 0, .i .i64 0, .i .i64 0, .i .i64 0, .b false, .i .u64 0, .i .i64 0]⟩),
  (66, ⟨.slice 4, 1, 24, .nsl⟩),
  (78, ⟨.sc (.i .u64), 1, 8, .i .u64 0⟩),
  (90, ⟨.func, 1, 8, .nf⟩),
  (92, ⟨.struct [(0, 90)], 1, 8, .agg [.nf]⟩),
  (108, ⟨.slice 3, 1, 24, .nsl⟩)]
noncomputable def Ty : Types := lookF tyL
theorem ty_ok : TyOk Try.prog Ty ∧ EqOk Try.prog Ty := tyOk_of (by kernel_rfl)
theorem mixed : Try.prog.follows .mixedOrders = true := by kernel_rfl
noncomputable def exts : List (Nat × (List AV → Option (Bool × AV))) := [(99, extAdd), (100, extSub)]
theorem exts_ok : AllExt Try.prog exts := ⟨extAdd_ok Try.func99 (by kernel_rfl) (by kernel_rfl) (by kernel_rfl) (by kernel_rfl), ⟨extSub_ok Try.func100 (by kernel_rfl) (by kernel_rfl) (by kernel_rfl) (by kernel_rfl), trivial⟩⟩
end Go.Proofs.Ytbnmnkofekcodaa.N
