/- Printed by wip/gen/emit.py: functions of the program as plain Lean functions, tied to the model by the evaluator. Conditions: none. -/
import Derived.Test.YtejfnbjhcohkiaaEng2
import Derived.Test.YtejfnbjhcohkiaaChecked
namespace Go.Proofs.Ytejfnbjhcohkiaa.N
set_option linter.unusedVariables false
set_option maxRecDepth 100000
open Go Go.Ab
noncomputable def tyL : List (Nat × TI) := [
  (2, ⟨.sc (.i .i64), 1, 8, .i .i64 0⟩),
  (3, ⟨.sc (.i .i64), 1, 8, .i .i64 0⟩),
  (4, ⟨.sc (.b), 1, 1, .b false⟩),
  (5, ⟨.sc (.i .u8), 1, 1, .i .u8 0⟩),
  (9, ⟨.sc (.s), 1, 16, .s ⟨#[]⟩⟩),
  (21, ⟨.sc (.i .i32), 1, 4, .i .i32 0⟩),
  (22, ⟨.sc (.i .u16), 1, 2, .i .u16 0⟩),
  (23, ⟨.arr 7 22, 7, 14, .agg [.i .u16 0, .i .u16 0, .i .u16 0, .i .u16 0, .i .u16 0, .i .u16 0, .i .u16 0]⟩),
  (24, ⟨.ptr 76, 1, 8, .np⟩),
  (31, ⟨.struct [(0, 4), (1, 2), (2, 2)], 3, 24, .agg [.b false, .i .i64 0, .i .i64 0]⟩),
  (35, ⟨.sc (.i .i16), 1, 2, .i .i16 0⟩),
  (41, ⟨.sc (.i .u64), 1, 8, .i .u64 0⟩),
  (44, ⟨.sc (.i .i64), 1, 8, .i .i64 0⟩),
  (55, ⟨.slice 41, 1, 24, .nsl⟩),
  (56, ⟨.slice 2, 1, 24, .nsl⟩),
  (72, ⟨.arr 16 2, 16, 128, .mix [] [.i .i64] 16 (List.replicate 16 0) []⟩),
  (74, ⟨.arr 16 72, 256, 2048, .mix [] [.i .i64] 256 (List.replicate 256 0) []⟩),
  (76, ⟨.struct [(0, 3), (1, 74), (257, 4)], 258, 2064, .mix [.i .i64 0] [.i .i64] 256 (List.replicate 256 0) [.b false]⟩),
  (86, ⟨.struct [(0, 3), (1, 3), (2, 3)], 3, 24, .agg [.i .i64 0, .i .i64 0, .i .i64 0]⟩),
  (88, ⟨.struct [(0, 86), (3, 3), (4, 4), (5, 41), (6, 3)], 7, 56, .agg [.i .i64 0, .i .i64 0, .i .i64 0, .i .i64 0, .b false, .i .u64 0, .i .i64 0]⟩),
  (90, ⟨.sc (.i .u64), 1, 8, .i .u64 0⟩),
  (95, ⟨.struct [(0, 41), (1, 41)], 2, 16, .agg [.i .u64 0, .i .u64 0]⟩),
  (119, ⟨.slice 3, 1, 24, .nsl⟩),
  (128, ⟨.func, 1, 8, .nf⟩),
  (130, ⟨.struct [(0, 128)], 1, 8, .agg [.nf]⟩),
  (141, ⟨.arr 2 41, 2, 16, .agg [.i .u64 0, .i .u64 0]⟩)]
noncomputable def Ty : Types := lookF tyL
theorem ty_ok : TyOk Try.prog Ty ∧ EqOk Try.prog Ty := tyOk_of (by kernel_rfl)
theorem mixed : Try.prog.follows .mixedOrders = true := by kernel_rfl
noncomputable def exts : List (Nat × (List AV → Option (Bool × AV))) := [(95, extSub), (99, extAdd)]
theorem exts_ok : AllExt Try.prog exts := ⟨extSub_ok Try.func95 (by kernel_rfl) (by kernel_rfl) (by kernel_rfl) (by kernel_rfl), ⟨extAdd_ok Try.func99 (by kernel_rfl) (by kernel_rfl) (by kernel_rfl) (by kernel_rfl), trivial⟩⟩
end Go.Proofs.Ytejfnbjhcohkiaa.N
