/-
  No cell of these rows narrows 'for every input' (looked for: loops, veiled, ifaces, maps, wideKeys, modest, calm, conditions, laid).
  DERIVED. THE GIVEN ROWS OF THIS SEAT. 7 by the template 'for every input the law returns true; each argument reads behind the call as it read before'; 0 by the template 'total and deterministic' (their statements: YtejfnbjhcohkiaaTotals.lean).
  GIVEN WITH THE SEED: the statements are not yours to turn. If you find one false, say at which input.
  Laid BY PROGRAM, IN A SANDBOX (cutbox-rows.mjs): the forced cells as the released guide's own fill.sh prints them over the translation bf96cfdd129306e4… (all of the seat's roots in one cut). By AI agents, Wed Nov 11 2026. No macro, syntax, notation, axiom, sorry.
-/
import Derived.Test.YtejfnbjhcohkiaaChecked
import GoSem.Claim
import GoSem.ClaimJoined
import GoSem.ClaimMapViews
import Derived.JoinedTies
import Derived.KernelRfl
namespace Go.Proofs.Ytejfnbjhcohkiaa
/- THE CELL 'sum', in the pinned program and in every row, IS THE sha256 OF THE DUMP (.gsa) THAT YtejfnbjhcohkiaaProg.lean LOADS. Nothing in Lean hashes anything: it is a label: what it is worth is what the hold of that sum in a sandbox is worth. -/
noncomputable def Try.pinned : Pinned := { name := "ytejfnbjhcohkiaa", sum := "bf96cfdd129306e4b8641f54af98a8d51e8b12b31465b5c065a91c5bdf71c161", checked := Try.checked }
namespace Rows
def none {H : Type} : Left H := { results := [], args := [] }

/-- 'plumblinetop.TopChain': WHATEVER THE INPUT: true; the input reads as it did. -/
def topChainSpec : ChangeSpec := { name := "topChain", fn := fun _ => fun
  | [d] => { results := [.lit (.bool true)], args := [d] }
  | _ => none }
def topChainRow : OpenClaim := { program := "ytejfnbjhcohkiaa", sum := "bf96cfdd129306e4b8641f54af98a8d51e8b12b31465b5c065a91c5bdf71c161", func := "plumbline/plumblinetop.TopChain", spec := "topChain", apart := false }
def TopChainSaid : Prop := topChainRow.holds Try.pinned (OpenSpec.ofChange topChainSpec)

/-- ITS FALSE NEIGHBOUR: 'it returns false'. Refute it at one input. -/
def topChainWrong : ChangeSpec := { name := "topChain", fn := fun _ => fun
  | [d] => { results := [.lit (.bool false)], args := [d] }
  | _ => none }
def TopChainWrongFalsely : Prop := topChainRow.holds Try.pinned (OpenSpec.ofChange topChainWrong)

/-- 'plumblinetop.TopRound': WHATEVER THE INPUT: true; the input reads as it did. -/
def topRoundSpec : ChangeSpec := { name := "topRound", fn := fun _ => fun
  | [d1, d2, d3] => { results := [.lit (.bool true)], args := [d1, d2, d3] }
  | _ => none }
def topRoundRow : OpenClaim := { program := "ytejfnbjhcohkiaa", sum := "bf96cfdd129306e4b8641f54af98a8d51e8b12b31465b5c065a91c5bdf71c161", func := "plumbline/plumblinetop.TopRound", spec := "topRound", apart := false }
def TopRoundSaid : Prop := topRoundRow.holds Try.pinned (OpenSpec.ofChange topRoundSpec)

/-- ITS FALSE NEIGHBOUR: 'it returns false'. Refute it at one input. -/
def topRoundWrong : ChangeSpec := { name := "topRound", fn := fun _ => fun
  | [d1, d2, d3] => { results := [.lit (.bool false)], args := [d1, d2, d3] }
  | _ => none }
def TopRoundWrongFalsely : Prop := topRoundRow.holds Try.pinned (OpenSpec.ofChange topRoundWrong)

/-- 'plumblinetop.TopNarrows': WHATEVER THE INPUT: true; the input reads as it did. -/
def topNarrowsSpec : ChangeSpec := { name := "topNarrows", fn := fun _ => fun
  | [d] => { results := [.lit (.bool true)], args := [d] }
  | _ => none }
def topNarrowsRow : OpenClaim := { program := "ytejfnbjhcohkiaa", sum := "bf96cfdd129306e4b8641f54af98a8d51e8b12b31465b5c065a91c5bdf71c161", func := "plumbline/plumblinetop.TopNarrows", spec := "topNarrows", unfollowed := true, recurses := true, apart := false }
def TopNarrowsSaid : Prop := topNarrowsRow.holds Try.pinned (OpenSpec.ofChange topNarrowsSpec)

/-- ITS FALSE NEIGHBOUR: 'it returns false'. Refute it at one input. -/
def topNarrowsWrong : ChangeSpec := { name := "topNarrows", fn := fun _ => fun
  | [d] => { results := [.lit (.bool false)], args := [d] }
  | _ => none }
def TopNarrowsWrongFalsely : Prop := topNarrowsRow.holds Try.pinned (OpenSpec.ofChange topNarrowsWrong)

/-- 'plumblinetop.TopRoots': WHATEVER THE INPUT: true; the input reads as it did. -/
def topRootsSpec : ChangeSpec := { name := "topRoots", fn := fun _ => fun
  | [d1, d2] => { results := [.lit (.bool true)], args := [d1, d2] }
  | _ => none }
def topRootsRow : OpenClaim := { program := "ytejfnbjhcohkiaa", sum := "bf96cfdd129306e4b8641f54af98a8d51e8b12b31465b5c065a91c5bdf71c161", func := "plumbline/plumblinetop.TopRoots", spec := "topRoots", inPlace := ["math/bits.Add64", "math/bits.Sub64"], unfollowed := true, recurses := true, apart := false }
def TopRootsSaid : Prop := topRootsRow.holds Try.pinned (OpenSpec.ofChange topRootsSpec)

/-- ITS FALSE NEIGHBOUR: 'it returns false'. Refute it at one input. -/
def topRootsWrong : ChangeSpec := { name := "topRoots", fn := fun _ => fun
  | [d1, d2] => { results := [.lit (.bool false)], args := [d1, d2] }
  | _ => none }
def TopRootsWrongFalsely : Prop := topRootsRow.holds Try.pinned (OpenSpec.ofChange topRootsWrong)

/-- 'plumblinetop.TopInts': WHATEVER THE INPUT: true; the input reads as it did. -/
def topIntsSpec : ChangeSpec := { name := "topInts", fn := fun _ => fun
  | [d1, d2] => { results := [.lit (.bool true)], args := [d1, d2] }
  | _ => none }
def topIntsRow : OpenClaim := { program := "ytejfnbjhcohkiaa", sum := "bf96cfdd129306e4b8641f54af98a8d51e8b12b31465b5c065a91c5bdf71c161", func := "plumbline/plumblinetop.TopInts", spec := "topInts", inPlace := ["math/bits.Add64", "math/bits.Sub64"], unfollowed := true, recurses := true, apart := false }
def TopIntsSaid : Prop := topIntsRow.holds Try.pinned (OpenSpec.ofChange topIntsSpec)

/-- ITS FALSE NEIGHBOUR: 'it returns false'. Refute it at one input. -/
def topIntsWrong : ChangeSpec := { name := "topInts", fn := fun _ => fun
  | [d1, d2] => { results := [.lit (.bool false)], args := [d1, d2] }
  | _ => none }
def TopIntsWrongFalsely : Prop := topIntsRow.holds Try.pinned (OpenSpec.ofChange topIntsWrong)

/-- 'plumblinetop.TopQuotients': WHATEVER THE INPUT: true; the input reads as it did. -/
def topQuotientsSpec : ChangeSpec := { name := "topQuotients", fn := fun _ => fun
  | [d1, d2, d3] => { results := [.lit (.bool true)], args := [d1, d2, d3] }
  | _ => none }
def topQuotientsRow : OpenClaim := { program := "ytejfnbjhcohkiaa", sum := "bf96cfdd129306e4b8641f54af98a8d51e8b12b31465b5c065a91c5bdf71c161", func := "plumbline/plumblinetop.TopQuotients", spec := "topQuotients", inPlace := ["math/bits.Add64", "math/bits.Sub64"], unfollowed := true, recurses := true, named := ["math/bits.divideError", "math/bits.overflowError"], apart := false }
def TopQuotientsSaid : Prop := topQuotientsRow.holds Try.pinned (OpenSpec.ofChange topQuotientsSpec)

/-- ITS FALSE NEIGHBOUR: 'it returns false'. Refute it at one input. -/
def topQuotientsWrong : ChangeSpec := { name := "topQuotients", fn := fun _ => fun
  | [d1, d2, d3] => { results := [.lit (.bool false)], args := [d1, d2, d3] }
  | _ => none }
def TopQuotientsWrongFalsely : Prop := topQuotientsRow.holds Try.pinned (OpenSpec.ofChange topQuotientsWrong)

/-- 'plumblinetop.TopNumerals': WHATEVER THE INPUT: true; the input reads as it did. -/
def topNumeralsSpec : ChangeSpec := { name := "topNumerals", fn := fun _ => fun
  | [d] => { results := [.lit (.bool true)], args := [d] }
  | _ => none }
def topNumeralsRow : OpenClaim := { program := "ytejfnbjhcohkiaa", sum := "bf96cfdd129306e4b8641f54af98a8d51e8b12b31465b5c065a91c5bdf71c161", func := "plumbline/plumblinetop.TopNumerals", spec := "topNumerals", inPlace := ["internal/bytealg.IndexByteString", "internal/bytealg.IndexString"], unfollowed := true, recurses := true, named := ["internal/bytealg.MaxLen", "math/bits.divideError", "math/bits.overflowError"], apart := false }
def TopNumeralsSaid : Prop := topNumeralsRow.holds Try.pinned (OpenSpec.ofChange topNumeralsSpec)

/-- ITS FALSE NEIGHBOUR: 'it returns false'. Refute it at one input. -/
def topNumeralsWrong : ChangeSpec := { name := "topNumerals", fn := fun _ => fun
  | [d] => { results := [.lit (.bool false)], args := [d] }
  | _ => none }
def TopNumeralsWrongFalsely : Prop := topNumeralsRow.holds Try.pinned (OpenSpec.ofChange topNumeralsWrong)

/- THE SECOND FORM. 'bulk': how many values and letters a reading holds, each counted each time it is reached (what is shared counts as often as it is met; a slice's spare places count too). A statement '..UptoSaid' is the law's where the arguments, and the package variables that the reading takes, are together of bulk at most 1048576: NARROWER than '..Said'. Prove '..Said' where nothing that the law and all that it calls make is longer than what came in: it says more and counts as full. Else prove '..UptoSaid'. A law counts once. -/
mutual
def uptoBulk {H : Type} : DataW H → Nat
  | .lit (.string bytes) => bytes.length + 1
  | .lit _ => 1
  | .nil => 1
  | .ptr d => uptoBulk d + 1
  | .slice elems spare => uptoBulkAll elems + uptoBulkAll spare + 1
  | .agg parts => uptoBulkAll parts + 1
  | .iface _ d => uptoBulk d + 1
  | .map entries => uptoBulkEntries entries + 1
  | .held _ => 1
def uptoBulkAll {H : Type} : List (DataW H) → Nat
  | [] => 0
  | d :: r => uptoBulk d + uptoBulkAll r
def uptoBulkEntries {H : Type} : List (Lit × DataW H) → Nat
  | [] => 0
  | x :: r => uptoBulkEntry x + uptoBulkEntries r
def uptoBulkEntry {H : Type} : Lit × DataW H → Nat
  | (.string bytes, d) => bytes.length + uptoBulk d + 1
  | (_, d) => uptoBulk d + 1
 end
def uptoSmall : (H : Type) → List (DataW H) → Bool := fun _ ds => decide (uptoBulkAll ds ≤ 1048576)
def OpenSpec.upto (s : _root_.Go.ChangeSpec) : _root_.Go.OpenSpec := { _root_.Go.OpenSpec.ofChange s with cond := some uptoSmall }

/-- 'plumblinetop.TopChain', WHERE WHAT IT READS IS OF BULK AT MOST 1048576: true; the input reads as it did. -/
def topChainUptoRow : OpenClaim := { program := "ytejfnbjhcohkiaa", sum := "bf96cfdd129306e4b8641f54af98a8d51e8b12b31465b5c065a91c5bdf71c161", func := "plumbline/plumblinetop.TopChain", spec := "topChain", apart := false, narrowed := true }
def TopChainUptoSaid : Prop := topChainUptoRow.holds Try.pinned (OpenSpec.upto topChainSpec)

/-- 'plumblinetop.TopRound', WHERE WHAT IT READS IS OF BULK AT MOST 1048576: true; the input reads as it did. -/
def topRoundUptoRow : OpenClaim := { program := "ytejfnbjhcohkiaa", sum := "bf96cfdd129306e4b8641f54af98a8d51e8b12b31465b5c065a91c5bdf71c161", func := "plumbline/plumblinetop.TopRound", spec := "topRound", apart := false, narrowed := true }
def TopRoundUptoSaid : Prop := topRoundUptoRow.holds Try.pinned (OpenSpec.upto topRoundSpec)

/-- 'plumblinetop.TopNarrows', WHERE WHAT IT READS IS OF BULK AT MOST 1048576: true; the input reads as it did. -/
def topNarrowsUptoRow : OpenClaim := { program := "ytejfnbjhcohkiaa", sum := "bf96cfdd129306e4b8641f54af98a8d51e8b12b31465b5c065a91c5bdf71c161", func := "plumbline/plumblinetop.TopNarrows", spec := "topNarrows", unfollowed := true, recurses := true, apart := false, narrowed := true }
def TopNarrowsUptoSaid : Prop := topNarrowsUptoRow.holds Try.pinned (OpenSpec.upto topNarrowsSpec)

/-- 'plumblinetop.TopRoots', WHERE WHAT IT READS IS OF BULK AT MOST 1048576: true; the input reads as it did. -/
def topRootsUptoRow : OpenClaim := { program := "ytejfnbjhcohkiaa", sum := "bf96cfdd129306e4b8641f54af98a8d51e8b12b31465b5c065a91c5bdf71c161", func := "plumbline/plumblinetop.TopRoots", spec := "topRoots", inPlace := ["math/bits.Add64", "math/bits.Sub64"], unfollowed := true, recurses := true, apart := false, narrowed := true }
def TopRootsUptoSaid : Prop := topRootsUptoRow.holds Try.pinned (OpenSpec.upto topRootsSpec)

/-- 'plumblinetop.TopInts', WHERE WHAT IT READS IS OF BULK AT MOST 1048576: true; the input reads as it did. -/
def topIntsUptoRow : OpenClaim := { program := "ytejfnbjhcohkiaa", sum := "bf96cfdd129306e4b8641f54af98a8d51e8b12b31465b5c065a91c5bdf71c161", func := "plumbline/plumblinetop.TopInts", spec := "topInts", inPlace := ["math/bits.Add64", "math/bits.Sub64"], unfollowed := true, recurses := true, apart := false, narrowed := true }
def TopIntsUptoSaid : Prop := topIntsUptoRow.holds Try.pinned (OpenSpec.upto topIntsSpec)

/-- 'plumblinetop.TopQuotients', WHERE WHAT IT READS IS OF BULK AT MOST 1048576: true; the input reads as it did. -/
def topQuotientsUptoRow : OpenClaim := { program := "ytejfnbjhcohkiaa", sum := "bf96cfdd129306e4b8641f54af98a8d51e8b12b31465b5c065a91c5bdf71c161", func := "plumbline/plumblinetop.TopQuotients", spec := "topQuotients", inPlace := ["math/bits.Add64", "math/bits.Sub64"], unfollowed := true, recurses := true, named := ["math/bits.divideError", "math/bits.overflowError"], apart := false, narrowed := true }
def TopQuotientsUptoSaid : Prop := topQuotientsUptoRow.holds Try.pinned (OpenSpec.upto topQuotientsSpec)

/-- 'plumblinetop.TopNumerals', WHERE WHAT IT READS IS OF BULK AT MOST 1048576: true; the input reads as it did. -/
def topNumeralsUptoRow : OpenClaim := { program := "ytejfnbjhcohkiaa", sum := "bf96cfdd129306e4b8641f54af98a8d51e8b12b31465b5c065a91c5bdf71c161", func := "plumbline/plumblinetop.TopNumerals", spec := "topNumerals", inPlace := ["internal/bytealg.IndexByteString", "internal/bytealg.IndexString"], unfollowed := true, recurses := true, named := ["internal/bytealg.MaxLen", "math/bits.divideError", "math/bits.overflowError"], apart := false, narrowed := true }
def TopNumeralsUptoSaid : Prop := topNumeralsUptoRow.holds Try.pinned (OpenSpec.upto topNumeralsSpec)

end Rows
end Go.Proofs.Ytejfnbjhcohkiaa
