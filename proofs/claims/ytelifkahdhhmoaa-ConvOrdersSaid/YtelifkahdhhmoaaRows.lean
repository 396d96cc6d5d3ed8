/-
  No cell of these rows narrows 'for every input' (looked for: loops, veiled, ifaces, maps, wideKeys, modest, calm, conditions, laid).
  DERIVED. THE GIVEN ROWS OF THIS SEAT. 9 by the template 'for every input the law returns true; each argument reads behind the call as it read before'; 0 by the template 'total and deterministic' (their statements: YtelifkahdhhmoaaTotals.lean).
  GIVEN WITH THE SEED: the statements are not yours to turn. If you find one false, say at which input.
  Laid BY PROGRAM, IN A SANDBOX (cutbox-rows.mjs): the forced cells as the released guide's own fill.sh prints them over the translation 04d0df4a53726e40… (all of the seat's roots in one cut). By AI agents, Wed Nov 11 2026. No macro, syntax, notation, axiom, sorry.
-/
import Derived.Test.YtelifkahdhhmoaaChecked
import GoSem.Claim
import GoSem.ClaimJoined
import GoSem.ClaimMapViews
import Derived.JoinedTies
import Derived.KernelRfl
namespace Go.Proofs.Ytelifkahdhhmoaa
/- THE CELL 'sum', in the pinned program and in every row, IS THE sha256 OF THE DUMP (.gsa) THAT YtelifkahdhhmoaaProg.lean LOADS. Nothing in Lean hashes anything: it is a label: what it is worth is what the hold of that sum in a sandbox is worth. -/
noncomputable def Try.pinned : Pinned := { name := "ytelifkahdhhmoaa", sum := "04d0df4a53726e40813db2c06bc15c8566b83b7e05f751cdcad9fee8d915a589", checked := Try.checked }
namespace Rows
def none {H : Type} : Left H := { results := [], args := [] }

/-- 'plumblinelaw03.ConvHexes': WHATEVER THE INPUT: true; the input reads as it did. -/
def convHexesSpec : ChangeSpec := { name := "convHexes", fn := fun _ => fun
  | [d1, d2, d3] => { results := [.lit (.bool true)], args := [d1, d2, d3] }
  | _ => none }
def convHexesRow : OpenClaim := { program := "ytelifkahdhhmoaa", sum := "04d0df4a53726e40813db2c06bc15c8566b83b7e05f751cdcad9fee8d915a589", func := "plumbline/plumblinelaw03.ConvHexes", spec := "convHexes", unfollowed := true, recurses := true, named := ["math/bits.divideError", "math/bits.overflowError"], apart := false }
def ConvHexesSaid : Prop := convHexesRow.holds Try.pinned (OpenSpec.ofChange convHexesSpec)

/-- ITS FALSE NEIGHBOUR: 'it returns false'. Refute it at one input. -/
def convHexesWrong : ChangeSpec := { name := "convHexes", fn := fun _ => fun
  | [d1, d2, d3] => { results := [.lit (.bool false)], args := [d1, d2, d3] }
  | _ => none }
def ConvHexesWrongFalsely : Prop := convHexesRow.holds Try.pinned (OpenSpec.ofChange convHexesWrong)

/-- 'plumblinelaw03.ConvTexts': WHATEVER THE INPUT: true; the input reads as it did. -/
def convTextsSpec : ChangeSpec := { name := "convTexts", fn := fun _ => fun
  | [d1, d2] => { results := [.lit (.bool true)], args := [d1, d2] }
  | _ => none }
def convTextsRow : OpenClaim := { program := "ytelifkahdhhmoaa", sum := "04d0df4a53726e40813db2c06bc15c8566b83b7e05f751cdcad9fee8d915a589", func := "plumbline/plumblinelaw03.ConvTexts", spec := "convTexts", unfollowed := true, recurses := true, named := ["math/bits.divideError", "math/bits.overflowError"], apart := false }
def ConvTextsSaid : Prop := convTextsRow.holds Try.pinned (OpenSpec.ofChange convTextsSpec)

/-- ITS FALSE NEIGHBOUR: 'it returns false'. Refute it at one input. -/
def convTextsWrong : ChangeSpec := { name := "convTexts", fn := fun _ => fun
  | [d1, d2] => { results := [.lit (.bool false)], args := [d1, d2] }
  | _ => none }
def ConvTextsWrongFalsely : Prop := convTextsRow.holds Try.pinned (OpenSpec.ofChange convTextsWrong)

/-- 'plumblinelaw03.ConvWhole': WHATEVER THE INPUT: true; the input reads as it did. -/
def convWholeSpec : ChangeSpec := { name := "convWhole", fn := fun _ => fun
  | [d1, d2] => { results := [.lit (.bool true)], args := [d1, d2] }
  | _ => none }
def convWholeRow : OpenClaim := { program := "ytelifkahdhhmoaa", sum := "04d0df4a53726e40813db2c06bc15c8566b83b7e05f751cdcad9fee8d915a589", func := "plumbline/plumblinelaw03.ConvWhole", spec := "convWhole", unfollowed := true, recurses := true, named := ["math/bits.divideError", "math/bits.overflowError"], apart := false }
def ConvWholeSaid : Prop := convWholeRow.holds Try.pinned (OpenSpec.ofChange convWholeSpec)

/-- ITS FALSE NEIGHBOUR: 'it returns false'. Refute it at one input. -/
def convWholeWrong : ChangeSpec := { name := "convWhole", fn := fun _ => fun
  | [d1, d2] => { results := [.lit (.bool false)], args := [d1, d2] }
  | _ => none }
def ConvWholeWrongFalsely : Prop := convWholeRow.holds Try.pinned (OpenSpec.ofChange convWholeWrong)

/-- 'plumblinelaw03.ConvNeighbours': WHATEVER THE INPUT: true; the input reads as it did. -/
def convNeighboursSpec : ChangeSpec := { name := "convNeighbours", fn := fun _ => fun
  | [d1, d2] => { results := [.lit (.bool true)], args := [d1, d2] }
  | _ => none }
def convNeighboursRow : OpenClaim := { program := "ytelifkahdhhmoaa", sum := "04d0df4a53726e40813db2c06bc15c8566b83b7e05f751cdcad9fee8d915a589", func := "plumbline/plumblinelaw03.ConvNeighbours", spec := "convNeighbours", unfollowed := true, recurses := true, named := ["math/bits.divideError", "math/bits.overflowError"], apart := false }
def ConvNeighboursSaid : Prop := convNeighboursRow.holds Try.pinned (OpenSpec.ofChange convNeighboursSpec)

/-- ITS FALSE NEIGHBOUR: 'it returns false'. Refute it at one input. -/
def convNeighboursWrong : ChangeSpec := { name := "convNeighbours", fn := fun _ => fun
  | [d1, d2] => { results := [.lit (.bool false)], args := [d1, d2] }
  | _ => none }
def ConvNeighboursWrongFalsely : Prop := convNeighboursRow.holds Try.pinned (OpenSpec.ofChange convNeighboursWrong)

/-- 'plumblinelaw03.ConvOrders': WHATEVER THE INPUT: true; the input reads as it did. -/
def convOrdersSpec : ChangeSpec := { name := "convOrders", fn := fun _ => fun
  | [d1, d2, d3] => { results := [.lit (.bool true)], args := [d1, d2, d3] }
  | _ => none }
def convOrdersRow : OpenClaim := { program := "ytelifkahdhhmoaa", sum := "04d0df4a53726e40813db2c06bc15c8566b83b7e05f751cdcad9fee8d915a589", func := "plumbline/plumblinelaw03.ConvOrders", spec := "convOrders", unfollowed := true, recurses := true, named := ["math/bits.divideError", "math/bits.overflowError"], apart := false }
def ConvOrdersSaid : Prop := convOrdersRow.holds Try.pinned (OpenSpec.ofChange convOrdersSpec)

/-- ITS FALSE NEIGHBOUR: 'it returns false'. Refute it at one input. -/
def convOrdersWrong : ChangeSpec := { name := "convOrders", fn := fun _ => fun
  | [d1, d2, d3] => { results := [.lit (.bool false)], args := [d1, d2, d3] }
  | _ => none }
def ConvOrdersWrongFalsely : Prop := convOrdersRow.holds Try.pinned (OpenSpec.ofChange convOrdersWrong)

/-- 'plumblinelaw03.ConvTurns': WHATEVER THE INPUT: true; the input reads as it did. -/
def convTurnsSpec : ChangeSpec := { name := "convTurns", fn := fun _ => fun
  | [d1, d2] => { results := [.lit (.bool true)], args := [d1, d2] }
  | _ => none }
def convTurnsRow : OpenClaim := { program := "ytelifkahdhhmoaa", sum := "04d0df4a53726e40813db2c06bc15c8566b83b7e05f751cdcad9fee8d915a589", func := "plumbline/plumblinelaw03.ConvTurns", spec := "convTurns", unfollowed := true, recurses := true, named := ["math/bits.divideError", "math/bits.overflowError"], apart := false }
def ConvTurnsSaid : Prop := convTurnsRow.holds Try.pinned (OpenSpec.ofChange convTurnsSpec)

/-- ITS FALSE NEIGHBOUR: 'it returns false'. Refute it at one input. -/
def convTurnsWrong : ChangeSpec := { name := "convTurns", fn := fun _ => fun
  | [d1, d2] => { results := [.lit (.bool false)], args := [d1, d2] }
  | _ => none }
def ConvTurnsWrongFalsely : Prop := convTurnsRow.holds Try.pinned (OpenSpec.ofChange convTurnsWrong)

/-- 'plumblinelaw03.ConvInts': WHATEVER THE INPUT: true; the input reads as it did. -/
def convIntsSpec : ChangeSpec := { name := "convInts", fn := fun _ => fun
  | [d1, d2, d3] => { results := [.lit (.bool true)], args := [d1, d2, d3] }
  | _ => none }
def convIntsRow : OpenClaim := { program := "ytelifkahdhhmoaa", sum := "04d0df4a53726e40813db2c06bc15c8566b83b7e05f751cdcad9fee8d915a589", func := "plumbline/plumblinelaw03.ConvInts", spec := "convInts", unfollowed := true, recurses := true, named := ["math/bits.divideError", "math/bits.overflowError"], apart := false }
def ConvIntsSaid : Prop := convIntsRow.holds Try.pinned (OpenSpec.ofChange convIntsSpec)

/-- ITS FALSE NEIGHBOUR: 'it returns false'. Refute it at one input. -/
def convIntsWrong : ChangeSpec := { name := "convInts", fn := fun _ => fun
  | [d1, d2, d3] => { results := [.lit (.bool false)], args := [d1, d2, d3] }
  | _ => none }
def ConvIntsWrongFalsely : Prop := convIntsRow.holds Try.pinned (OpenSpec.ofChange convIntsWrong)

/-- 'plumblinelaw03.ConvSteps': WHATEVER THE INPUT: true; the input reads as it did. -/
def convStepsSpec : ChangeSpec := { name := "convSteps", fn := fun _ => fun
  | [d1, d2, d3] => { results := [.lit (.bool true)], args := [d1, d2, d3] }
  | _ => none }
def convStepsRow : OpenClaim := { program := "ytelifkahdhhmoaa", sum := "04d0df4a53726e40813db2c06bc15c8566b83b7e05f751cdcad9fee8d915a589", func := "plumbline/plumblinelaw03.ConvSteps", spec := "convSteps", unfollowed := true, recurses := true, named := ["math/bits.divideError", "math/bits.overflowError"], apart := false }
def ConvStepsSaid : Prop := convStepsRow.holds Try.pinned (OpenSpec.ofChange convStepsSpec)

/-- ITS FALSE NEIGHBOUR: 'it returns false'. Refute it at one input. -/
def convStepsWrong : ChangeSpec := { name := "convSteps", fn := fun _ => fun
  | [d1, d2, d3] => { results := [.lit (.bool false)], args := [d1, d2, d3] }
  | _ => none }
def ConvStepsWrongFalsely : Prop := convStepsRow.holds Try.pinned (OpenSpec.ofChange convStepsWrong)

/-- 'plumblinelaw03.ConvBack': WHATEVER THE INPUT: true; the input reads as it did. -/
def convBackSpec : ChangeSpec := { name := "convBack", fn := fun _ => fun
  | [d1, d2, d3] => { results := [.lit (.bool true)], args := [d1, d2, d3] }
  | _ => none }
def convBackRow : OpenClaim := { program := "ytelifkahdhhmoaa", sum := "04d0df4a53726e40813db2c06bc15c8566b83b7e05f751cdcad9fee8d915a589", func := "plumbline/plumblinelaw03.ConvBack", spec := "convBack", unfollowed := true, recurses := true, named := ["math/bits.divideError", "math/bits.overflowError"], apart := false }
def ConvBackSaid : Prop := convBackRow.holds Try.pinned (OpenSpec.ofChange convBackSpec)

/-- ITS FALSE NEIGHBOUR: 'it returns false'. Refute it at one input. -/
def convBackWrong : ChangeSpec := { name := "convBack", fn := fun _ => fun
  | [d1, d2, d3] => { results := [.lit (.bool false)], args := [d1, d2, d3] }
  | _ => none }
def ConvBackWrongFalsely : Prop := convBackRow.holds Try.pinned (OpenSpec.ofChange convBackWrong)

/- THE SECOND FORM. 'bulk': how many values and letters a reading holds, each counted each time it is reached (what is shared counts as often as it is met; a slice's spare places count too). A statement '..UptoSaid' is the law's where the arguments, and the package variables that the reading takes, are together of bulk at most 1048576: NARROWER than '..Said'. Prove '..Said' where nothing that the law and all that it calls make is longer than what came in: it says more and counts as full. Else prove '..UptoSaid'. A law counts once. -/
mutual
def uptoBulk {H : Type} : DataW H → Nat
  | .lit (.string bytes) => bytes.length + 1
  | .lit _ => 1
  | .nil => 1
  | .ptr d => uptoBulk d + 1
  | .slice elems spare => uptoBulkAll elems + uptoBulkAll spare + 1
  | .agg parts => uptoBulkAll parts + 1
  | .iface _ d => uptoBulk d + 1
  | .map entries => uptoBulkEntries entries + 1
  | .held _ => 1
def uptoBulkAll {H : Type} : List (DataW H) → Nat
  | [] => 0
  | d :: r => uptoBulk d + uptoBulkAll r
def uptoBulkEntries {H : Type} : List (Lit × DataW H) → Nat
  | [] => 0
  | x :: r => uptoBulkEntry x + uptoBulkEntries r
def uptoBulkEntry {H : Type} : Lit × DataW H → Nat
  | (.string bytes, d) => bytes.length + uptoBulk d + 1
  | (_, d) => uptoBulk d + 1
 end
def uptoSmall : (H : Type) → List (DataW H) → Bool := fun _ ds => decide (uptoBulkAll ds ≤ 1048576)
def OpenSpec.upto (s : _root_.Go.ChangeSpec) : _root_.Go.OpenSpec := { _root_.Go.OpenSpec.ofChange s with cond := some uptoSmall }

/-- 'plumblinelaw03.ConvHexes', WHERE WHAT IT READS IS OF BULK AT MOST 1048576: true; the input reads as it did. -/
def convHexesUptoRow : OpenClaim := { program := "ytelifkahdhhmoaa", sum := "04d0df4a53726e40813db2c06bc15c8566b83b7e05f751cdcad9fee8d915a589", func := "plumbline/plumblinelaw03.ConvHexes", spec := "convHexes", unfollowed := true, recurses := true, named := ["math/bits.divideError", "math/bits.overflowError"], apart := false, narrowed := true }
def ConvHexesUptoSaid : Prop := convHexesUptoRow.holds Try.pinned (OpenSpec.upto convHexesSpec)

/-- 'plumblinelaw03.ConvTexts', WHERE WHAT IT READS IS OF BULK AT MOST 1048576: true; the input reads as it did. -/
def convTextsUptoRow : OpenClaim := { program := "ytelifkahdhhmoaa", sum := "04d0df4a53726e40813db2c06bc15c8566b83b7e05f751cdcad9fee8d915a589", func := "plumbline/plumblinelaw03.ConvTexts", spec := "convTexts", unfollowed := true, recurses := true, named := ["math/bits.divideError", "math/bits.overflowError"], apart := false, narrowed := true }
def ConvTextsUptoSaid : Prop := convTextsUptoRow.holds Try.pinned (OpenSpec.upto convTextsSpec)

/-- 'plumblinelaw03.ConvWhole', WHERE WHAT IT READS IS OF BULK AT MOST 1048576: true; the input reads as it did. -/
def convWholeUptoRow : OpenClaim := { program := "ytelifkahdhhmoaa", sum := "04d0df4a53726e40813db2c06bc15c8566b83b7e05f751cdcad9fee8d915a589", func := "plumbline/plumblinelaw03.ConvWhole", spec := "convWhole", unfollowed := true, recurses := true, named := ["math/bits.divideError", "math/bits.overflowError"], apart := false, narrowed := true }
def ConvWholeUptoSaid : Prop := convWholeUptoRow.holds Try.pinned (OpenSpec.upto convWholeSpec)

/-- 'plumblinelaw03.ConvNeighbours', WHERE WHAT IT READS IS OF BULK AT MOST 1048576: true; the input reads as it did. -/
def convNeighboursUptoRow : OpenClaim := { program := "ytelifkahdhhmoaa", sum := "04d0df4a53726e40813db2c06bc15c8566b83b7e05f751cdcad9fee8d915a589", func := "plumbline/plumblinelaw03.ConvNeighbours", spec := "convNeighbours", unfollowed := true, recurses := true, named := ["math/bits.divideError", "math/bits.overflowError"], apart := false, narrowed := true }
def ConvNeighboursUptoSaid : Prop := convNeighboursUptoRow.holds Try.pinned (OpenSpec.upto convNeighboursSpec)

/-- 'plumblinelaw03.ConvOrders', WHERE WHAT IT READS IS OF BULK AT MOST 1048576: true; the input reads as it did. -/
def convOrdersUptoRow : OpenClaim := { program := "ytelifkahdhhmoaa", sum := "04d0df4a53726e40813db2c06bc15c8566b83b7e05f751cdcad9fee8d915a589", func := "plumbline/plumblinelaw03.ConvOrders", spec := "convOrders", unfollowed := true, recurses := true, named := ["math/bits.divideError", "math/bits.overflowError"], apart := false, narrowed := true }
def ConvOrdersUptoSaid : Prop := convOrdersUptoRow.holds Try.pinned (OpenSpec.upto convOrdersSpec)

/-- 'plumblinelaw03.ConvTurns', WHERE WHAT IT READS IS OF BULK AT MOST 1048576: true; the input reads as it did. -/
def convTurnsUptoRow : OpenClaim := { program := "ytelifkahdhhmoaa", sum := "04d0df4a53726e40813db2c06bc15c8566b83b7e05f751cdcad9fee8d915a589", func := "plumbline/plumblinelaw03.ConvTurns", spec := "convTurns", unfollowed := true, recurses := true, named := ["math/bits.divideError", "math/bits.overflowError"], apart := false, narrowed := true }
def ConvTurnsUptoSaid : Prop := convTurnsUptoRow.holds Try.pinned (OpenSpec.upto convTurnsSpec)

/-- 'plumblinelaw03.ConvInts', WHERE WHAT IT READS IS OF BULK AT MOST 1048576: true; the input reads as it did. -/
def convIntsUptoRow : OpenClaim := { program := "ytelifkahdhhmoaa", sum := "04d0df4a53726e40813db2c06bc15c8566b83b7e05f751cdcad9fee8d915a589", func := "plumbline/plumblinelaw03.ConvInts", spec := "convInts", unfollowed := true, recurses := true, named := ["math/bits.divideError", "math/bits.overflowError"], apart := false, narrowed := true }
def ConvIntsUptoSaid : Prop := convIntsUptoRow.holds Try.pinned (OpenSpec.upto convIntsSpec)

/-- 'plumblinelaw03.ConvSteps', WHERE WHAT IT READS IS OF BULK AT MOST 1048576: true; the input reads as it did. -/
def convStepsUptoRow : OpenClaim := { program := "ytelifkahdhhmoaa", sum := "04d0df4a53726e40813db2c06bc15c8566b83b7e05f751cdcad9fee8d915a589", func := "plumbline/plumblinelaw03.ConvSteps", spec := "convSteps", unfollowed := true, recurses := true, named := ["math/bits.divideError", "math/bits.overflowError"], apart := false, narrowed := true }
def ConvStepsUptoSaid : Prop := convStepsUptoRow.holds Try.pinned (OpenSpec.upto convStepsSpec)

/-- 'plumblinelaw03.ConvBack', WHERE WHAT IT READS IS OF BULK AT MOST 1048576: true; the input reads as it did. -/
def convBackUptoRow : OpenClaim := { program := "ytelifkahdhhmoaa", sum := "04d0df4a53726e40813db2c06bc15c8566b83b7e05f751cdcad9fee8d915a589", func := "plumbline/plumblinelaw03.ConvBack", spec := "convBack", unfollowed := true, recurses := true, named := ["math/bits.divideError", "math/bits.overflowError"], apart := false, narrowed := true }
def ConvBackUptoSaid : Prop := convBackUptoRow.holds Try.pinned (OpenSpec.upto convBackSpec)

end Rows
end Go.Proofs.Ytelifkahdhhmoaa
