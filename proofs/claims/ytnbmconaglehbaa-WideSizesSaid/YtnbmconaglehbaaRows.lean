/-
  No cell of these rows narrows 'for every input' (looked for: loops, veiled, ifaces, maps, wideKeys, modest, calm, conditions, laid).
  DERIVED. THE GIVEN ROWS OF THIS SEAT. 9 by the template 'for every input the law returns true; each argument reads behind the call as it read before'; 0 by the template 'total and deterministic' (their statements: YtnbmconaglehbaaTotals.lean).
  GIVEN WITH THE SEED: the statements are not yours to turn. If you find one false, say at which input.
  Laid BY PROGRAM, IN A SANDBOX (cutbox-rows.mjs): the forced cells as the released guide's own fill.sh prints them over the translation 8020c66218f21eaf… (all of the seat's roots in one cut). By AI agents, Wed Nov 11 2026. No macro, syntax, notation, axiom, sorry.
-/
import Derived.Test.YtnbmconaglehbaaChecked
import GoSem.Claim
import GoSem.ClaimJoined
import GoSem.ClaimMapViews
import Derived.JoinedTies
import Derived.KernelRfl
namespace Go.Proofs.Ytnbmconaglehbaa
/- THE CELL 'sum', in the pinned program and in every row, IS THE sha256 OF THE DUMP (.gsa) THAT YtnbmconaglehbaaProg.lean LOADS. Nothing in Lean hashes anything: it is a label: what it is worth is what the hold of that sum in a sandbox is worth. -/
noncomputable def Try.pinned : Pinned := { name := "ytnbmconaglehbaa", sum := "8020c66218f21eafad3f20aa0ad9ce49dbade718e35ca60d09874c54c12921c3", checked := Try.checked }
namespace Rows
def none {H : Type} : Left H := { results := [], args := [] }

/-- 'plumblinelaw01.WideMoves': WHATEVER THE INPUT: true; the input reads as it did. -/
def wideMovesSpec : ChangeSpec := { name := "wideMoves", fn := fun _ => fun
  | [d1, d2] => { results := [.lit (.bool true)], args := [d1, d2] }
  | _ => none }
def wideMovesRow : OpenClaim := { program := "ytnbmconaglehbaa", sum := "8020c66218f21eafad3f20aa0ad9ce49dbade718e35ca60d09874c54c12921c3", func := "plumbline/plumblinelaw01.WideMoves", spec := "wideMoves", inPlace := ["math/bits.Sub64"], apart := false }
def WideMovesSaid : Prop := wideMovesRow.holds Try.pinned (OpenSpec.ofChange wideMovesSpec)

/-- ITS FALSE NEIGHBOUR: 'it returns false'. Refute it at one input. -/
def wideMovesWrong : ChangeSpec := { name := "wideMoves", fn := fun _ => fun
  | [d1, d2] => { results := [.lit (.bool false)], args := [d1, d2] }
  | _ => none }
def WideMovesWrongFalsely : Prop := wideMovesRow.holds Try.pinned (OpenSpec.ofChange wideMovesWrong)

/-- 'plumblinelaw01.WideRoots': WHATEVER THE INPUT: true; the input reads as it did. -/
def wideRootsSpec : ChangeSpec := { name := "wideRoots", fn := fun _ => fun
  | [d] => { results := [.lit (.bool true)], args := [d] }
  | _ => none }
def wideRootsRow : OpenClaim := { program := "ytnbmconaglehbaa", sum := "8020c66218f21eafad3f20aa0ad9ce49dbade718e35ca60d09874c54c12921c3", func := "plumbline/plumblinelaw01.WideRoots", spec := "wideRoots", inPlace := ["math/bits.Sub64"], apart := false }
def WideRootsSaid : Prop := wideRootsRow.holds Try.pinned (OpenSpec.ofChange wideRootsSpec)

/-- ITS FALSE NEIGHBOUR: 'it returns false'. Refute it at one input. -/
def wideRootsWrong : ChangeSpec := { name := "wideRoots", fn := fun _ => fun
  | [d] => { results := [.lit (.bool false)], args := [d] }
  | _ => none }
def WideRootsWrongFalsely : Prop := wideRootsRow.holds Try.pinned (OpenSpec.ofChange wideRootsWrong)

/-- 'plumblinelaw01.WideSums': WHATEVER THE INPUT: true; the input reads as it did. -/
def wideSumsSpec : ChangeSpec := { name := "wideSums", fn := fun _ => fun
  | [d1, d2] => { results := [.lit (.bool true)], args := [d1, d2] }
  | _ => none }
def wideSumsRow : OpenClaim := { program := "ytnbmconaglehbaa", sum := "8020c66218f21eafad3f20aa0ad9ce49dbade718e35ca60d09874c54c12921c3", func := "plumbline/plumblinelaw01.WideSums", spec := "wideSums", inPlace := ["math/bits.Add64", "math/bits.Sub64"], apart := false }
def WideSumsSaid : Prop := wideSumsRow.holds Try.pinned (OpenSpec.ofChange wideSumsSpec)

/-- ITS FALSE NEIGHBOUR: 'it returns false'. Refute it at one input. -/
def wideSumsWrong : ChangeSpec := { name := "wideSums", fn := fun _ => fun
  | [d1, d2] => { results := [.lit (.bool false)], args := [d1, d2] }
  | _ => none }
def WideSumsWrongFalsely : Prop := wideSumsRow.holds Try.pinned (OpenSpec.ofChange wideSumsWrong)

/-- 'plumblinelaw01.WideProducts': WHATEVER THE INPUT: true; the input reads as it did. -/
def wideProductsSpec : ChangeSpec := { name := "wideProducts", fn := fun _ => fun
  | [d1, d2] => { results := [.lit (.bool true)], args := [d1, d2] }
  | _ => none }
def wideProductsRow : OpenClaim := { program := "ytnbmconaglehbaa", sum := "8020c66218f21eafad3f20aa0ad9ce49dbade718e35ca60d09874c54c12921c3", func := "plumbline/plumblinelaw01.WideProducts", spec := "wideProducts", inPlace := ["math/bits.Sub64"], apart := false }
def WideProductsSaid : Prop := wideProductsRow.holds Try.pinned (OpenSpec.ofChange wideProductsSpec)

/-- ITS FALSE NEIGHBOUR: 'it returns false'. Refute it at one input. -/
def wideProductsWrong : ChangeSpec := { name := "wideProducts", fn := fun _ => fun
  | [d1, d2] => { results := [.lit (.bool false)], args := [d1, d2] }
  | _ => none }
def WideProductsWrongFalsely : Prop := wideProductsRow.holds Try.pinned (OpenSpec.ofChange wideProductsWrong)

/-- 'plumblinelaw01.WideSizes': WHATEVER THE INPUT: true; the input reads as it did. -/
def wideSizesSpec : ChangeSpec := { name := "wideSizes", fn := fun _ => fun
  | [d1, d2] => { results := [.lit (.bool true)], args := [d1, d2] }
  | _ => none }
def wideSizesRow : OpenClaim := { program := "ytnbmconaglehbaa", sum := "8020c66218f21eafad3f20aa0ad9ce49dbade718e35ca60d09874c54c12921c3", func := "plumbline/plumblinelaw01.WideSizes", spec := "wideSizes", inPlace := ["math/bits.Sub64"], apart := false }
def WideSizesSaid : Prop := wideSizesRow.holds Try.pinned (OpenSpec.ofChange wideSizesSpec)

/-- ITS FALSE NEIGHBOUR: 'it returns false'. Refute it at one input. -/
def wideSizesWrong : ChangeSpec := { name := "wideSizes", fn := fun _ => fun
  | [d1, d2] => { results := [.lit (.bool false)], args := [d1, d2] }
  | _ => none }
def WideSizesWrongFalsely : Prop := wideSizesRow.holds Try.pinned (OpenSpec.ofChange wideSizesWrong)

/-- 'plumblinelaw01.WideTurns': WHATEVER THE INPUT: true; the input reads as it did. -/
def wideTurnsSpec : ChangeSpec := { name := "wideTurns", fn := fun _ => fun
  | [d1, d2] => { results := [.lit (.bool true)], args := [d1, d2] }
  | _ => none }
def wideTurnsRow : OpenClaim := { program := "ytnbmconaglehbaa", sum := "8020c66218f21eafad3f20aa0ad9ce49dbade718e35ca60d09874c54c12921c3", func := "plumbline/plumblinelaw01.WideTurns", spec := "wideTurns", inPlace := ["math/bits.Sub64"], apart := false }
def WideTurnsSaid : Prop := wideTurnsRow.holds Try.pinned (OpenSpec.ofChange wideTurnsSpec)

/-- ITS FALSE NEIGHBOUR: 'it returns false'. Refute it at one input. -/
def wideTurnsWrong : ChangeSpec := { name := "wideTurns", fn := fun _ => fun
  | [d1, d2] => { results := [.lit (.bool false)], args := [d1, d2] }
  | _ => none }
def WideTurnsWrongFalsely : Prop := wideTurnsRow.holds Try.pinned (OpenSpec.ofChange wideTurnsWrong)

/-- 'plumblinelaw01.WideSquares': WHATEVER THE INPUT: true; the input reads as it did. -/
def wideSquaresSpec : ChangeSpec := { name := "wideSquares", fn := fun _ => fun
  | [d] => { results := [.lit (.bool true)], args := [d] }
  | _ => none }
def wideSquaresRow : OpenClaim := { program := "ytnbmconaglehbaa", sum := "8020c66218f21eafad3f20aa0ad9ce49dbade718e35ca60d09874c54c12921c3", func := "plumbline/plumblinelaw01.WideSquares", spec := "wideSquares", inPlace := ["math/bits.Sub64", "math/bits.Add64"], apart := false }
def WideSquaresSaid : Prop := wideSquaresRow.holds Try.pinned (OpenSpec.ofChange wideSquaresSpec)

/-- ITS FALSE NEIGHBOUR: 'it returns false'. Refute it at one input. -/
def wideSquaresWrong : ChangeSpec := { name := "wideSquares", fn := fun _ => fun
  | [d] => { results := [.lit (.bool false)], args := [d] }
  | _ => none }
def WideSquaresWrongFalsely : Prop := wideSquaresRow.holds Try.pinned (OpenSpec.ofChange wideSquaresWrong)

/-- 'plumblinelaw01.WideParts': WHATEVER THE INPUT: true; the input reads as it did. -/
def widePartsSpec : ChangeSpec := { name := "wideParts", fn := fun _ => fun
  | [d1, d2] => { results := [.lit (.bool true)], args := [d1, d2] }
  | _ => none }
def widePartsRow : OpenClaim := { program := "ytnbmconaglehbaa", sum := "8020c66218f21eafad3f20aa0ad9ce49dbade718e35ca60d09874c54c12921c3", func := "plumbline/plumblinelaw01.WideParts", spec := "wideParts", inPlace := ["math/bits.Sub64"], named := ["math/bits.divideError", "math/bits.overflowError"], apart := false }
def WidePartsSaid : Prop := widePartsRow.holds Try.pinned (OpenSpec.ofChange widePartsSpec)

/-- ITS FALSE NEIGHBOUR: 'it returns false'. Refute it at one input. -/
def widePartsWrong : ChangeSpec := { name := "wideParts", fn := fun _ => fun
  | [d1, d2] => { results := [.lit (.bool false)], args := [d1, d2] }
  | _ => none }
def WidePartsWrongFalsely : Prop := widePartsRow.holds Try.pinned (OpenSpec.ofChange widePartsWrong)

/-- 'plumblinelaw01.WideBack': WHATEVER THE INPUT: true; the input reads as it did. -/
def wideBackSpec : ChangeSpec := { name := "wideBack", fn := fun _ => fun
  | [d1, d2] => { results := [.lit (.bool true)], args := [d1, d2] }
  | _ => none }
def wideBackRow : OpenClaim := { program := "ytnbmconaglehbaa", sum := "8020c66218f21eafad3f20aa0ad9ce49dbade718e35ca60d09874c54c12921c3", func := "plumbline/plumblinelaw01.WideBack", spec := "wideBack", inPlace := ["math/bits.Add64", "math/bits.Sub64"], named := ["math/bits.divideError", "math/bits.overflowError"], apart := false }
def WideBackSaid : Prop := wideBackRow.holds Try.pinned (OpenSpec.ofChange wideBackSpec)

/-- ITS FALSE NEIGHBOUR: 'it returns false'. Refute it at one input. -/
def wideBackWrong : ChangeSpec := { name := "wideBack", fn := fun _ => fun
  | [d1, d2] => { results := [.lit (.bool false)], args := [d1, d2] }
  | _ => none }
def WideBackWrongFalsely : Prop := wideBackRow.holds Try.pinned (OpenSpec.ofChange wideBackWrong)

/- THE SECOND FORM. 'bulk': how many values and letters a reading holds, each counted each time it is reached (what is shared counts as often as it is met; a slice's spare places count too). A statement '..UptoSaid' is the law's where the arguments, and the package variables that the reading takes, are together of bulk at most 1048576: NARROWER than '..Said'. Prove '..Said' where nothing that the law and all that it calls make is longer than what came in: it says more and counts as full. Else prove '..UptoSaid'. A law counts once. -/
mutual
def uptoBulk {H : Type} : DataW H → Nat
  | .lit (.string bytes) => bytes.length + 1
  | .lit _ => 1
  | .nil => 1
  | .ptr d => uptoBulk d + 1
  | .slice elems spare => uptoBulkAll elems + uptoBulkAll spare + 1
  | .agg parts => uptoBulkAll parts + 1
  | .iface _ d => uptoBulk d + 1
  | .map entries => uptoBulkEntries entries + 1
  | .held _ => 1
def uptoBulkAll {H : Type} : List (DataW H) → Nat
  | [] => 0
  | d :: r => uptoBulk d + uptoBulkAll r
def uptoBulkEntries {H : Type} : List (Lit × DataW H) → Nat
  | [] => 0
  | x :: r => uptoBulkEntry x + uptoBulkEntries r
def uptoBulkEntry {H : Type} : Lit × DataW H → Nat
  | (.string bytes, d) => bytes.length + uptoBulk d + 1
  | (_, d) => uptoBulk d + 1
 end
def uptoSmall : (H : Type) → List (DataW H) → Bool := fun _ ds => decide (uptoBulkAll ds ≤ 1048576)
def OpenSpec.upto (s : _root_.Go.ChangeSpec) : _root_.Go.OpenSpec := { _root_.Go.OpenSpec.ofChange s with cond := some uptoSmall }

/-- 'plumblinelaw01.WideMoves', WHERE WHAT IT READS IS OF BULK AT MOST 1048576: true; the input reads as it did. -/
def wideMovesUptoRow : OpenClaim := { program := "ytnbmconaglehbaa", sum := "8020c66218f21eafad3f20aa0ad9ce49dbade718e35ca60d09874c54c12921c3", func := "plumbline/plumblinelaw01.WideMoves", spec := "wideMoves", inPlace := ["math/bits.Sub64"], apart := false, narrowed := true }
def WideMovesUptoSaid : Prop := wideMovesUptoRow.holds Try.pinned (OpenSpec.upto wideMovesSpec)

/-- 'plumblinelaw01.WideRoots', WHERE WHAT IT READS IS OF BULK AT MOST 1048576: true; the input reads as it did. -/
def wideRootsUptoRow : OpenClaim := { program := "ytnbmconaglehbaa", sum := "8020c66218f21eafad3f20aa0ad9ce49dbade718e35ca60d09874c54c12921c3", func := "plumbline/plumblinelaw01.WideRoots", spec := "wideRoots", inPlace := ["math/bits.Sub64"], apart := false, narrowed := true }
def WideRootsUptoSaid : Prop := wideRootsUptoRow.holds Try.pinned (OpenSpec.upto wideRootsSpec)

/-- 'plumblinelaw01.WideSums', WHERE WHAT IT READS IS OF BULK AT MOST 1048576: true; the input reads as it did. -/
def wideSumsUptoRow : OpenClaim := { program := "ytnbmconaglehbaa", sum := "8020c66218f21eafad3f20aa0ad9ce49dbade718e35ca60d09874c54c12921c3", func := "plumbline/plumblinelaw01.WideSums", spec := "wideSums", inPlace := ["math/bits.Add64", "math/bits.Sub64"], apart := false, narrowed := true }
def WideSumsUptoSaid : Prop := wideSumsUptoRow.holds Try.pinned (OpenSpec.upto wideSumsSpec)

/-- 'plumblinelaw01.WideProducts', WHERE WHAT IT READS IS OF BULK AT MOST 1048576: true; the input reads as it did. -/
def wideProductsUptoRow : OpenClaim := { program := "ytnbmconaglehbaa", sum := "8020c66218f21eafad3f20aa0ad9ce49dbade718e35ca60d09874c54c12921c3", func := "plumbline/plumblinelaw01.WideProducts", spec := "wideProducts", inPlace := ["math/bits.Sub64"], apart := false, narrowed := true }
def WideProductsUptoSaid : Prop := wideProductsUptoRow.holds Try.pinned (OpenSpec.upto wideProductsSpec)

/-- 'plumblinelaw01.WideSizes', WHERE WHAT IT READS IS OF BULK AT MOST 1048576: true; the input reads as it did. -/
def wideSizesUptoRow : OpenClaim := { program := "ytnbmconaglehbaa", sum := "8020c66218f21eafad3f20aa0ad9ce49dbade718e35ca60d09874c54c12921c3", func := "plumbline/plumblinelaw01.WideSizes", spec := "wideSizes", inPlace := ["math/bits.Sub64"], apart := false, narrowed := true }
def WideSizesUptoSaid : Prop := wideSizesUptoRow.holds Try.pinned (OpenSpec.upto wideSizesSpec)

/-- 'plumblinelaw01.WideTurns', WHERE WHAT IT READS IS OF BULK AT MOST 1048576: true; the input reads as it did. -/
def wideTurnsUptoRow : OpenClaim := { program := "ytnbmconaglehbaa", sum := "8020c66218f21eafad3f20aa0ad9ce49dbade718e35ca60d09874c54c12921c3", func := "plumbline/plumblinelaw01.WideTurns", spec := "wideTurns", inPlace := ["math/bits.Sub64"], apart := false, narrowed := true }
def WideTurnsUptoSaid : Prop := wideTurnsUptoRow.holds Try.pinned (OpenSpec.upto wideTurnsSpec)

/-- 'plumblinelaw01.WideSquares', WHERE WHAT IT READS IS OF BULK AT MOST 1048576: true; the input reads as it did. -/
def wideSquaresUptoRow : OpenClaim := { program := "ytnbmconaglehbaa", sum := "8020c66218f21eafad3f20aa0ad9ce49dbade718e35ca60d09874c54c12921c3", func := "plumbline/plumblinelaw01.WideSquares", spec := "wideSquares", inPlace := ["math/bits.Sub64", "math/bits.Add64"], apart := false, narrowed := true }
def WideSquaresUptoSaid : Prop := wideSquaresUptoRow.holds Try.pinned (OpenSpec.upto wideSquaresSpec)

/-- 'plumblinelaw01.WideParts', WHERE WHAT IT READS IS OF BULK AT MOST 1048576: true; the input reads as it did. -/
def widePartsUptoRow : OpenClaim := { program := "ytnbmconaglehbaa", sum := "8020c66218f21eafad3f20aa0ad9ce49dbade718e35ca60d09874c54c12921c3", func := "plumbline/plumblinelaw01.WideParts", spec := "wideParts", inPlace := ["math/bits.Sub64"], named := ["math/bits.divideError", "math/bits.overflowError"], apart := false, narrowed := true }
def WidePartsUptoSaid : Prop := widePartsUptoRow.holds Try.pinned (OpenSpec.upto widePartsSpec)

/-- 'plumblinelaw01.WideBack', WHERE WHAT IT READS IS OF BULK AT MOST 1048576: true; the input reads as it did. -/
def wideBackUptoRow : OpenClaim := { program := "ytnbmconaglehbaa", sum := "8020c66218f21eafad3f20aa0ad9ce49dbade718e35ca60d09874c54c12921c3", func := "plumbline/plumblinelaw01.WideBack", spec := "wideBack", inPlace := ["math/bits.Add64", "math/bits.Sub64"], named := ["math/bits.divideError", "math/bits.overflowError"], apart := false, narrowed := true }
def WideBackUptoSaid : Prop := wideBackUptoRow.holds Try.pinned (OpenSpec.upto wideBackSpec)

end Rows
end Go.Proofs.Ytnbmconaglehbaa
