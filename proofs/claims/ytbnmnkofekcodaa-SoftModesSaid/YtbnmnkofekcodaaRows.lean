/-
  No cell of these rows narrows 'for every input' (looked for: loops, veiled, ifaces, maps, wideKeys, modest, calm, conditions, laid).
  DERIVED. THE GIVEN ROWS OF THIS SEAT. 11 by the template 'for every input the law returns true; each argument reads behind the call as it read before'; 0 by the template 'total and deterministic' (their statements: YtbnmnkofekcodaaTotals.lean).
  GIVEN WITH THE SEED: the statements are not yours to turn. If you find one false, say at which input.
  Laid BY PROGRAM, IN A SANDBOX (cutbox-rows.mjs): the forced cells as the released guide's own fill.sh prints them over the translation 89af40cad8a65bf9… (all of the seat's roots in one cut). By AI agents, Wed Nov 11 2026. No macro, syntax, notation, axiom, sorry.
-/
import Derived.Test.YtbnmnkofekcodaaChecked
import GoSem.Claim
import GoSem.ClaimJoined
import GoSem.ClaimMapViews
import Derived.JoinedTies
import Derived.KernelRfl
namespace Go.Proofs.Ytbnmnkofekcodaa
/- THE CELL 'sum', in the pinned program and in every row, IS THE sha256 OF THE DUMP (.gsa) THAT YtbnmnkofekcodaaProg.lean LOADS. Nothing in Lean hashes anything: it is a label: what it is worth is what the hold of that sum in a sandbox is worth. -/
noncomputable def Try.pinned : Pinned := { name := "ytbnmnkofekcodaa", sum := "89af40cad8a65bf9e6628ab0d35557623aeed320a5cf6f6e6fc390bd87d98946", checked := Try.checked }
namespace Rows
def none {H : Type} : Left H := { results := [], args := [] }

/-- 'plumblinelaw02.SoftParts': WHATEVER THE INPUT: true; the input reads as it did. -/
def softPartsSpec : ChangeSpec := { name := "softParts", fn := fun _ => fun
  | [d1, d2, d3] => { results := [.lit (.bool true)], args := [d1, d2, d3] }
  | _ => none }
def softPartsRow : OpenClaim := { program := "ytbnmnkofekcodaa", sum := "89af40cad8a65bf9e6628ab0d35557623aeed320a5cf6f6e6fc390bd87d98946", func := "plumbline/plumblinelaw02.SoftParts", spec := "softParts", inPlace := ["math/bits.Add64", "math/bits.Sub64"], unfollowed := true, recurses := true, named := ["math/bits.divideError", "math/bits.overflowError"], apart := false }
def SoftPartsSaid : Prop := softPartsRow.holds Try.pinned (OpenSpec.ofChange softPartsSpec)

/-- ITS FALSE NEIGHBOUR: 'it returns false'. Refute it at one input. -/
def softPartsWrong : ChangeSpec := { name := "softParts", fn := fun _ => fun
  | [d1, d2, d3] => { results := [.lit (.bool false)], args := [d1, d2, d3] }
  | _ => none }
def SoftPartsWrongFalsely : Prop := softPartsRow.holds Try.pinned (OpenSpec.ofChange softPartsWrong)

/-- 'plumblinelaw02.SoftSums': WHATEVER THE INPUT: true; the input reads as it did. -/
def softSumsSpec : ChangeSpec := { name := "softSums", fn := fun _ => fun
  | [d1, d2, d3] => { results := [.lit (.bool true)], args := [d1, d2, d3] }
  | _ => none }
def softSumsRow : OpenClaim := { program := "ytbnmnkofekcodaa", sum := "89af40cad8a65bf9e6628ab0d35557623aeed320a5cf6f6e6fc390bd87d98946", func := "plumbline/plumblinelaw02.SoftSums", spec := "softSums", inPlace := ["math/bits.Add64", "math/bits.Sub64"], unfollowed := true, recurses := true, named := ["math/bits.divideError", "math/bits.overflowError"], apart := false }
def SoftSumsSaid : Prop := softSumsRow.holds Try.pinned (OpenSpec.ofChange softSumsSpec)

/-- ITS FALSE NEIGHBOUR: 'it returns false'. Refute it at one input. -/
def softSumsWrong : ChangeSpec := { name := "softSums", fn := fun _ => fun
  | [d1, d2, d3] => { results := [.lit (.bool false)], args := [d1, d2, d3] }
  | _ => none }
def SoftSumsWrongFalsely : Prop := softSumsRow.holds Try.pinned (OpenSpec.ofChange softSumsWrong)

/-- 'plumblinelaw02.SoftRounds': WHATEVER THE INPUT: true; the input reads as it did. -/
def softRoundsSpec : ChangeSpec := { name := "softRounds", fn := fun _ => fun
  | [d1, d2] => { results := [.lit (.bool true)], args := [d1, d2] }
  | _ => none }
def softRoundsRow : OpenClaim := { program := "ytbnmnkofekcodaa", sum := "89af40cad8a65bf9e6628ab0d35557623aeed320a5cf6f6e6fc390bd87d98946", func := "plumbline/plumblinelaw02.SoftRounds", spec := "softRounds", inPlace := ["math/bits.Add64", "math/bits.Sub64"], unfollowed := true, recurses := true, named := ["math/bits.divideError", "math/bits.overflowError"], apart := false }
def SoftRoundsSaid : Prop := softRoundsRow.holds Try.pinned (OpenSpec.ofChange softRoundsSpec)

/-- ITS FALSE NEIGHBOUR: 'it returns false'. Refute it at one input. -/
def softRoundsWrong : ChangeSpec := { name := "softRounds", fn := fun _ => fun
  | [d1, d2] => { results := [.lit (.bool false)], args := [d1, d2] }
  | _ => none }
def SoftRoundsWrongFalsely : Prop := softRoundsRow.holds Try.pinned (OpenSpec.ofChange softRoundsWrong)

/-- 'plumblinelaw02.SoftProducts': WHATEVER THE INPUT: true; the input reads as it did. -/
def softProductsSpec : ChangeSpec := { name := "softProducts", fn := fun _ => fun
  | [d1, d2, d3] => { results := [.lit (.bool true)], args := [d1, d2, d3] }
  | _ => none }
def softProductsRow : OpenClaim := { program := "ytbnmnkofekcodaa", sum := "89af40cad8a65bf9e6628ab0d35557623aeed320a5cf6f6e6fc390bd87d98946", func := "plumbline/plumblinelaw02.SoftProducts", spec := "softProducts", inPlace := ["math/bits.Add64", "math/bits.Sub64"], unfollowed := true, recurses := true, named := ["math/bits.divideError", "math/bits.overflowError"], apart := false }
def SoftProductsSaid : Prop := softProductsRow.holds Try.pinned (OpenSpec.ofChange softProductsSpec)

/-- ITS FALSE NEIGHBOUR: 'it returns false'. Refute it at one input. -/
def softProductsWrong : ChangeSpec := { name := "softProducts", fn := fun _ => fun
  | [d1, d2, d3] => { results := [.lit (.bool false)], args := [d1, d2, d3] }
  | _ => none }
def SoftProductsWrongFalsely : Prop := softProductsRow.holds Try.pinned (OpenSpec.ofChange softProductsWrong)

/-- 'plumblinelaw02.SoftTurns': WHATEVER THE INPUT: true; the input reads as it did. -/
def softTurnsSpec : ChangeSpec := { name := "softTurns", fn := fun _ => fun
  | [d1, d2, d3] => { results := [.lit (.bool true)], args := [d1, d2, d3] }
  | _ => none }
def softTurnsRow : OpenClaim := { program := "ytbnmnkofekcodaa", sum := "89af40cad8a65bf9e6628ab0d35557623aeed320a5cf6f6e6fc390bd87d98946", func := "plumbline/plumblinelaw02.SoftTurns", spec := "softTurns", inPlace := ["math/bits.Add64", "math/bits.Sub64"], unfollowed := true, recurses := true, named := ["math/bits.divideError", "math/bits.overflowError"], apart := false }
def SoftTurnsSaid : Prop := softTurnsRow.holds Try.pinned (OpenSpec.ofChange softTurnsSpec)

/-- ITS FALSE NEIGHBOUR: 'it returns false'. Refute it at one input. -/
def softTurnsWrong : ChangeSpec := { name := "softTurns", fn := fun _ => fun
  | [d1, d2, d3] => { results := [.lit (.bool false)], args := [d1, d2, d3] }
  | _ => none }
def SoftTurnsWrongFalsely : Prop := softTurnsRow.holds Try.pinned (OpenSpec.ofChange softTurnsWrong)

/-- 'plumblinelaw02.SoftKinds': WHATEVER THE INPUT: true; the input reads as it did. -/
def softKindsSpec : ChangeSpec := { name := "softKinds", fn := fun _ => fun
  | [d1, d2] => { results := [.lit (.bool true)], args := [d1, d2] }
  | _ => none }
def softKindsRow : OpenClaim := { program := "ytbnmnkofekcodaa", sum := "89af40cad8a65bf9e6628ab0d35557623aeed320a5cf6f6e6fc390bd87d98946", func := "plumbline/plumblinelaw02.SoftKinds", spec := "softKinds", inPlace := ["math/bits.Add64", "math/bits.Sub64"], unfollowed := true, recurses := true, named := ["math/bits.divideError", "math/bits.overflowError"], apart := false }
def SoftKindsSaid : Prop := softKindsRow.holds Try.pinned (OpenSpec.ofChange softKindsSpec)

/-- ITS FALSE NEIGHBOUR: 'it returns false'. Refute it at one input. -/
def softKindsWrong : ChangeSpec := { name := "softKinds", fn := fun _ => fun
  | [d1, d2] => { results := [.lit (.bool false)], args := [d1, d2] }
  | _ => none }
def SoftKindsWrongFalsely : Prop := softKindsRow.holds Try.pinned (OpenSpec.ofChange softKindsWrong)

/-- 'plumblinelaw02.SoftCompares': WHATEVER THE INPUT: true; the input reads as it did. -/
def softComparesSpec : ChangeSpec := { name := "softCompares", fn := fun _ => fun
  | [d1, d2, d3] => { results := [.lit (.bool true)], args := [d1, d2, d3] }
  | _ => none }
def softComparesRow : OpenClaim := { program := "ytbnmnkofekcodaa", sum := "89af40cad8a65bf9e6628ab0d35557623aeed320a5cf6f6e6fc390bd87d98946", func := "plumbline/plumblinelaw02.SoftCompares", spec := "softCompares", inPlace := ["math/bits.Add64", "math/bits.Sub64"], unfollowed := true, recurses := true, named := ["math/bits.divideError", "math/bits.overflowError"], apart := false }
def SoftComparesSaid : Prop := softComparesRow.holds Try.pinned (OpenSpec.ofChange softComparesSpec)

/-- ITS FALSE NEIGHBOUR: 'it returns false'. Refute it at one input. -/
def softComparesWrong : ChangeSpec := { name := "softCompares", fn := fun _ => fun
  | [d1, d2, d3] => { results := [.lit (.bool false)], args := [d1, d2, d3] }
  | _ => none }
def SoftComparesWrongFalsely : Prop := softComparesRow.holds Try.pinned (OpenSpec.ofChange softComparesWrong)

/-- 'plumblinelaw02.SoftMirrors': WHATEVER THE INPUT: true; the input reads as it did. -/
def softMirrorsSpec : ChangeSpec := { name := "softMirrors", fn := fun _ => fun
  | [d1, d2, d3] => { results := [.lit (.bool true)], args := [d1, d2, d3] }
  | _ => none }
def softMirrorsRow : OpenClaim := { program := "ytbnmnkofekcodaa", sum := "89af40cad8a65bf9e6628ab0d35557623aeed320a5cf6f6e6fc390bd87d98946", func := "plumbline/plumblinelaw02.SoftMirrors", spec := "softMirrors", inPlace := ["math/bits.Add64", "math/bits.Sub64"], unfollowed := true, recurses := true, named := ["math/bits.divideError", "math/bits.overflowError"], apart := false }
def SoftMirrorsSaid : Prop := softMirrorsRow.holds Try.pinned (OpenSpec.ofChange softMirrorsSpec)

/-- ITS FALSE NEIGHBOUR: 'it returns false'. Refute it at one input. -/
def softMirrorsWrong : ChangeSpec := { name := "softMirrors", fn := fun _ => fun
  | [d1, d2, d3] => { results := [.lit (.bool false)], args := [d1, d2, d3] }
  | _ => none }
def SoftMirrorsWrongFalsely : Prop := softMirrorsRow.holds Try.pinned (OpenSpec.ofChange softMirrorsWrong)

/-- 'plumblinelaw02.SoftSelf': WHATEVER THE INPUT: true; the input reads as it did. -/
def softSelfSpec : ChangeSpec := { name := "softSelf", fn := fun _ => fun
  | [d1, d2] => { results := [.lit (.bool true)], args := [d1, d2] }
  | _ => none }
def softSelfRow : OpenClaim := { program := "ytbnmnkofekcodaa", sum := "89af40cad8a65bf9e6628ab0d35557623aeed320a5cf6f6e6fc390bd87d98946", func := "plumbline/plumblinelaw02.SoftSelf", spec := "softSelf", inPlace := ["math/bits.Add64", "math/bits.Sub64"], unfollowed := true, recurses := true, named := ["math/bits.divideError", "math/bits.overflowError"], apart := false }
def SoftSelfSaid : Prop := softSelfRow.holds Try.pinned (OpenSpec.ofChange softSelfSpec)

/-- ITS FALSE NEIGHBOUR: 'it returns false'. Refute it at one input. -/
def softSelfWrong : ChangeSpec := { name := "softSelf", fn := fun _ => fun
  | [d1, d2] => { results := [.lit (.bool false)], args := [d1, d2] }
  | _ => none }
def SoftSelfWrongFalsely : Prop := softSelfRow.holds Try.pinned (OpenSpec.ofChange softSelfWrong)

/-- 'plumblinelaw02.SoftRoots': WHATEVER THE INPUT: true; the input reads as it did. -/
def softRootsSpec : ChangeSpec := { name := "softRoots", fn := fun _ => fun
  | [d1, d2] => { results := [.lit (.bool true)], args := [d1, d2] }
  | _ => none }
def softRootsRow : OpenClaim := { program := "ytbnmnkofekcodaa", sum := "89af40cad8a65bf9e6628ab0d35557623aeed320a5cf6f6e6fc390bd87d98946", func := "plumbline/plumblinelaw02.SoftRoots", spec := "softRoots", inPlace := ["math/bits.Add64", "math/bits.Sub64"], unfollowed := true, recurses := true, named := ["math/bits.divideError", "math/bits.overflowError"], apart := false }
def SoftRootsSaid : Prop := softRootsRow.holds Try.pinned (OpenSpec.ofChange softRootsSpec)

/-- ITS FALSE NEIGHBOUR: 'it returns false'. Refute it at one input. -/
def softRootsWrong : ChangeSpec := { name := "softRoots", fn := fun _ => fun
  | [d1, d2] => { results := [.lit (.bool false)], args := [d1, d2] }
  | _ => none }
def SoftRootsWrongFalsely : Prop := softRootsRow.holds Try.pinned (OpenSpec.ofChange softRootsWrong)

/-- 'plumblinelaw02.SoftModes': WHATEVER THE INPUT: true; the input reads as it did. -/
def softModesSpec : ChangeSpec := { name := "softModes", fn := fun _ => fun
  | [d1, d2, d3] => { results := [.lit (.bool true)], args := [d1, d2, d3] }
  | _ => none }
def softModesRow : OpenClaim := { program := "ytbnmnkofekcodaa", sum := "89af40cad8a65bf9e6628ab0d35557623aeed320a5cf6f6e6fc390bd87d98946", func := "plumbline/plumblinelaw02.SoftModes", spec := "softModes", inPlace := ["math/bits.Add64", "math/bits.Sub64"], unfollowed := true, recurses := true, named := ["math/bits.divideError", "math/bits.overflowError"], apart := false }
def SoftModesSaid : Prop := softModesRow.holds Try.pinned (OpenSpec.ofChange softModesSpec)

/-- ITS FALSE NEIGHBOUR: 'it returns false'. Refute it at one input. -/
def softModesWrong : ChangeSpec := { name := "softModes", fn := fun _ => fun
  | [d1, d2, d3] => { results := [.lit (.bool false)], args := [d1, d2, d3] }
  | _ => none }
def SoftModesWrongFalsely : Prop := softModesRow.holds Try.pinned (OpenSpec.ofChange softModesWrong)

/- THE SECOND FORM. 'bulk': how many values and letters a reading holds, each counted each time it is reached (what is shared counts as often as it is met; a slice's spare places count too). A statement '..UptoSaid' is the law's where the arguments, and the package variables that the reading takes, are together of bulk at most 1048576: NARROWER than '..Said'. Prove '..Said' where nothing that the law and all that it calls make is longer than what came in: it says more and counts as full. Else prove '..UptoSaid'. A law counts once. -/
mutual
def uptoBulk {H : Type} : DataW H → Nat
  | .lit (.string bytes) => bytes.length + 1
  | .lit _ => 1
  | .nil => 1
  | .ptr d => uptoBulk d + 1
  | .slice elems spare => uptoBulkAll elems + uptoBulkAll spare + 1
  | .agg parts => uptoBulkAll parts + 1
  | .iface _ d => uptoBulk d + 1
  | .map entries => uptoBulkEntries entries + 1
  | .held _ => 1
def uptoBulkAll {H : Type} : List (DataW H) → Nat
  | [] => 0
  | d :: r => uptoBulk d + uptoBulkAll r
def uptoBulkEntries {H : Type} : List (Lit × DataW H) → Nat
  | [] => 0
  | x :: r => uptoBulkEntry x + uptoBulkEntries r
def uptoBulkEntry {H : Type} : Lit × DataW H → Nat
  | (.string bytes, d) => bytes.length + uptoBulk d + 1
  | (_, d) => uptoBulk d + 1
 end
def uptoSmall : (H : Type) → List (DataW H) → Bool := fun _ ds => decide (uptoBulkAll ds ≤ 1048576)
def OpenSpec.upto (s : _root_.Go.ChangeSpec) : _root_.Go.OpenSpec := { _root_.Go.OpenSpec.ofChange s with cond := some uptoSmall }

/-- 'plumblinelaw02.SoftParts', WHERE WHAT IT READS IS OF BULK AT MOST 1048576: true; the input reads as it did. -/
def softPartsUptoRow : OpenClaim := { program := "ytbnmnkofekcodaa", sum := "89af40cad8a65bf9e6628ab0d35557623aeed320a5cf6f6e6fc390bd87d98946", func := "plumbline/plumblinelaw02.SoftParts", spec := "softParts", inPlace := ["math/bits.Add64", "math/bits.Sub64"], unfollowed := true, recurses := true, named := ["math/bits.divideError", "math/bits.overflowError"], apart := false, narrowed := true }
def SoftPartsUptoSaid : Prop := softPartsUptoRow.holds Try.pinned (OpenSpec.upto softPartsSpec)

/-- 'plumblinelaw02.SoftSums', WHERE WHAT IT READS IS OF BULK AT MOST 1048576: true; the input reads as it did. -/
def softSumsUptoRow : OpenClaim := { program := "ytbnmnkofekcodaa", sum := "89af40cad8a65bf9e6628ab0d35557623aeed320a5cf6f6e6fc390bd87d98946", func := "plumbline/plumblinelaw02.SoftSums", spec := "softSums", inPlace := ["math/bits.Add64", "math/bits.Sub64"], unfollowed := true, recurses := true, named := ["math/bits.divideError", "math/bits.overflowError"], apart := false, narrowed := true }
def SoftSumsUptoSaid : Prop := softSumsUptoRow.holds Try.pinned (OpenSpec.upto softSumsSpec)

/-- 'plumblinelaw02.SoftRounds', WHERE WHAT IT READS IS OF BULK AT MOST 1048576: true; the input reads as it did. -/
def softRoundsUptoRow : OpenClaim := { program := "ytbnmnkofekcodaa", sum := "89af40cad8a65bf9e6628ab0d35557623aeed320a5cf6f6e6fc390bd87d98946", func := "plumbline/plumblinelaw02.SoftRounds", spec := "softRounds", inPlace := ["math/bits.Add64", "math/bits.Sub64"], unfollowed := true, recurses := true, named := ["math/bits.divideError", "math/bits.overflowError"], apart := false, narrowed := true }
def SoftRoundsUptoSaid : Prop := softRoundsUptoRow.holds Try.pinned (OpenSpec.upto softRoundsSpec)

/-- 'plumblinelaw02.SoftProducts', WHERE WHAT IT READS IS OF BULK AT MOST 1048576: true; the input reads as it did. -/
def softProductsUptoRow : OpenClaim := { program := "ytbnmnkofekcodaa", sum := "89af40cad8a65bf9e6628ab0d35557623aeed320a5cf6f6e6fc390bd87d98946", func := "plumbline/plumblinelaw02.SoftProducts", spec := "softProducts", inPlace := ["math/bits.Add64", "math/bits.Sub64"], unfollowed := true, recurses := true, named := ["math/bits.divideError", "math/bits.overflowError"], apart := false, narrowed := true }
def SoftProductsUptoSaid : Prop := softProductsUptoRow.holds Try.pinned (OpenSpec.upto softProductsSpec)

/-- 'plumblinelaw02.SoftTurns', WHERE WHAT IT READS IS OF BULK AT MOST 1048576: true; the input reads as it did. -/
def softTurnsUptoRow : OpenClaim := { program := "ytbnmnkofekcodaa", sum := "89af40cad8a65bf9e6628ab0d35557623aeed320a5cf6f6e6fc390bd87d98946", func := "plumbline/plumblinelaw02.SoftTurns", spec := "softTurns", inPlace := ["math/bits.Add64", "math/bits.Sub64"], unfollowed := true, recurses := true, named := ["math/bits.divideError", "math/bits.overflowError"], apart := false, narrowed := true }
def SoftTurnsUptoSaid : Prop := softTurnsUptoRow.holds Try.pinned (OpenSpec.upto softTurnsSpec)

/-- 'plumblinelaw02.SoftKinds', WHERE WHAT IT READS IS OF BULK AT MOST 1048576: true; the input reads as it did. -/
def softKindsUptoRow : OpenClaim := { program := "ytbnmnkofekcodaa", sum := "89af40cad8a65bf9e6628ab0d35557623aeed320a5cf6f6e6fc390bd87d98946", func := "plumbline/plumblinelaw02.SoftKinds", spec := "softKinds", inPlace := ["math/bits.Add64", "math/bits.Sub64"], unfollowed := true, recurses := true, named := ["math/bits.divideError", "math/bits.overflowError"], apart := false, narrowed := true }
def SoftKindsUptoSaid : Prop := softKindsUptoRow.holds Try.pinned (OpenSpec.upto softKindsSpec)

/-- 'plumblinelaw02.SoftCompares', WHERE WHAT IT READS IS OF BULK AT MOST 1048576: true; the input reads as it did. -/
def softComparesUptoRow : OpenClaim := { program := "ytbnmnkofekcodaa", sum := "89af40cad8a65bf9e6628ab0d35557623aeed320a5cf6f6e6fc390bd87d98946", func := "plumbline/plumblinelaw02.SoftCompares", spec := "softCompares", inPlace := ["math/bits.Add64", "math/bits.Sub64"], unfollowed := true, recurses := true, named := ["math/bits.divideError", "math/bits.overflowError"], apart := false, narrowed := true }
def SoftComparesUptoSaid : Prop := softComparesUptoRow.holds Try.pinned (OpenSpec.upto softComparesSpec)

/-- 'plumblinelaw02.SoftMirrors', WHERE WHAT IT READS IS OF BULK AT MOST 1048576: true; the input reads as it did. -/
def softMirrorsUptoRow : OpenClaim := { program := "ytbnmnkofekcodaa", sum := "89af40cad8a65bf9e6628ab0d35557623aeed320a5cf6f6e6fc390bd87d98946", func := "plumbline/plumblinelaw02.SoftMirrors", spec := "softMirrors", inPlace := ["math/bits.Add64", "math/bits.Sub64"], unfollowed := true, recurses := true, named := ["math/bits.divideError", "math/bits.overflowError"], apart := false, narrowed := true }
def SoftMirrorsUptoSaid : Prop := softMirrorsUptoRow.holds Try.pinned (OpenSpec.upto softMirrorsSpec)

/-- 'plumblinelaw02.SoftSelf', WHERE WHAT IT READS IS OF BULK AT MOST 1048576: true; the input reads as it did. -/
def softSelfUptoRow : OpenClaim := { program := "ytbnmnkofekcodaa", sum := "89af40cad8a65bf9e6628ab0d35557623aeed320a5cf6f6e6fc390bd87d98946", func := "plumbline/plumblinelaw02.SoftSelf", spec := "softSelf", inPlace := ["math/bits.Add64", "math/bits.Sub64"], unfollowed := true, recurses := true, named := ["math/bits.divideError", "math/bits.overflowError"], apart := false, narrowed := true }
def SoftSelfUptoSaid : Prop := softSelfUptoRow.holds Try.pinned (OpenSpec.upto softSelfSpec)

/-- 'plumblinelaw02.SoftRoots', WHERE WHAT IT READS IS OF BULK AT MOST 1048576: true; the input reads as it did. -/
def softRootsUptoRow : OpenClaim := { program := "ytbnmnkofekcodaa", sum := "89af40cad8a65bf9e6628ab0d35557623aeed320a5cf6f6e6fc390bd87d98946", func := "plumbline/plumblinelaw02.SoftRoots", spec := "softRoots", inPlace := ["math/bits.Add64", "math/bits.Sub64"], unfollowed := true, recurses := true, named := ["math/bits.divideError", "math/bits.overflowError"], apart := false, narrowed := true }
def SoftRootsUptoSaid : Prop := softRootsUptoRow.holds Try.pinned (OpenSpec.upto softRootsSpec)

/-- 'plumblinelaw02.SoftModes', WHERE WHAT IT READS IS OF BULK AT MOST 1048576: true; the input reads as it did. -/
def softModesUptoRow : OpenClaim := { program := "ytbnmnkofekcodaa", sum := "89af40cad8a65bf9e6628ab0d35557623aeed320a5cf6f6e6fc390bd87d98946", func := "plumbline/plumblinelaw02.SoftModes", spec := "softModes", inPlace := ["math/bits.Add64", "math/bits.Sub64"], unfollowed := true, recurses := true, named := ["math/bits.divideError", "math/bits.overflowError"], apart := false, narrowed := true }
def SoftModesUptoSaid : Prop := softModesUptoRow.holds Try.pinned (OpenSpec.upto softModesSpec)

end Rows
end Go.Proofs.Ytbnmnkofekcodaa
