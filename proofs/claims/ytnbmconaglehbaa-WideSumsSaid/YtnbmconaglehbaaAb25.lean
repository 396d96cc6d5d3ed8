/- From what is told of a law's function to its call. Conditions: none. -/
import Derived.Test.YtnbmconaglehbaaAb24
import Derived.Below
namespace Go.Ab
set_option linter.unusedVariables false
set_option linter.unusedSimpArgs false
open Go Go.RowKit

theorem HRel.empty (w : World) : HRel (fun _ => none) ⟨0, []⟩ w :=
  ⟨fun _ _ => rfl, fun id hb h => (by cases h), fun i j hi hj ei ej r h => (by cases h), fun id h => absurd h (Nat.not_lt_zero _)⟩

theorem one_of {E : Env} {v : AV} {x : Value} (h : VRelL E [v] [x]) : VRel E v x := by cases h with | cons h _ => exact h

def verdict : AV → Heap → Option Bool
  | .b q, _ => some q
  | _, _ => none

/-- A law whose arguments hold no address: it returns true, and nothing that was there has turned. -/
theorem law_flat {P : Program} {f : Nat} {keep : Bool} {S : Sum Bool} (hS : SumOk P f keep S) {args : List AV} {cargs : Array Value} (ha : ∀ E, VRelL E args cargs.toList) (h : S args ⟨0, []⟩ verdict = some true) (w : World) :
    Calls P f cargs w fun e w' => e = .returned (.bool true) ∧ Below w.heap.size w w' := by
  obtain ⟨v, H', hK, hG, _⟩ := hS _ _ _ _ h
  refine (hG (fun _ => none) cargs w (ha _) (HRel.empty w)).mono ?_
  rintro e w' ⟨x, E', rfl, hv, hH, hfr, _⟩
  unfold verdict at hK
  split at hK
  · cases hK
    cases hv
    refine ⟨rfl, hfr.os, hfr.tape, hfr.output, hfr.size, fun k hk => hfr.keep k hk ?_⟩
    rintro ⟨id, hb, ent, hg, _⟩
    cases hg
  · cases hK

end Go.Ab
