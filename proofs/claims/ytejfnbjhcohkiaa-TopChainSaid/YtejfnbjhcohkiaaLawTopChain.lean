/- The law TopChain: from what it reckons, in plain Lean, to its row. Conditions: none. -/
import Derived.Test.YtejfnbjhcohkiaaRows
import Derived.Test.YtejfnbjhcohkiaaTlTopChain
import Derived.Test.YtejfnbjhcohkiaaEng2
import Derived.WalkKit
import Derived.ProofKit
import Derived.OpenShut
import Derived.ShutString
import Derived.ChangeOld
import Derived.Below
import Derived.SizedLaws
import Derived.Carry
namespace Go.Proofs.Ytejfnbjhcohkiaa.topChain
open Go.ChangeShapes Go.WideShapes Go.ChangeAt Go.RowKit Go.Ab
open Go.ChangeMaps (open_string shut_string)
set_option linter.unusedVariables false
theorem own : ownKnob Try.prog.godebug = none := by kernel_rfl
theorem laidOut : laidOutB Try.prog = true := by kernel_rfl
/-- The one plain statement. -/
def Pure : Prop := ∀ (y0 : Tup [.i .u16, .i .u16, .i .u16, .i .u16, .i .u16, .i .u16, .i .u16]), wfs (Tup.all [.i .u16, .i .u16, .i .u16, .i .u16, .i .u16, .i .u16, .i .u16] y0) → ∃ k, N.plumblinetop_TopChain k (y0.1) (y0.2.1) (y0.2.2.1) (y0.2.2.2.1) (y0.2.2.2.2.1) (y0.2.2.2.2.2.1) (y0.2.2.2.2.2.2) (fun q => some q) = some true
set_option maxRecDepth 100000 in
theorem lifted (P : Pure) (os : Os) (started : os.Started) (H : Type) (enc : TypeId × Value → H) :
    ReturnsInHanded {} Try.checked os 3 .any (Rows.topChainSpec.pre6 enc Try.prog Try.f3 Rows.topChainRow.domain false) (Rows.topChainSpec.post enc Try.prog Try.f3 false true false false) := by
  refine returnsInHanded_of_change_sized (C := Try.checked) own started (by kernel_rfl) Try.func3
    (ChangeSpec.witness6 (enc := enc) (C := Try.checked) false ⟨#[], #[.agg #[.int .u16 0, .int .u16 0, .int .u16 0, .int .u16 0, .int .u16 0, .int .u16 0, .int .u16 0]], []⟩ 8 (by kernel_rfl) (by kernel_rfl) (by kernel_rfl) (by kernel_rfl)) ?_
  intro W base args ds gs before hval0 hW hcnd hsz0 _
  have hval : ∀ (j : Nat) t v, Try.f3.params[j]? = some t → args[j]? = some v → Value.okWide Try.prog W .any base t v := hval0
  have hW' := hW
  obtain ⟨p, q, hA0, hV, rfl, hfz, hnd⟩ := hW
  have hA : DataW.TrodAll enc Try.prog W 0 (fun _ => true) true Try.f3.params.toList args.toList ds p := hA0
  rw [Try.params3] at hA hval
  obtain ⟨v0, vs0, d0, ds0, p0, q0, hargs, rfl, rfl, h0, r0⟩ := trodAll_cons hA
  obtain ⟨rfl, rfl, rfl⟩ := trodAll_nil r0
  obtain rfl : args = #[v0] := by cases args; simp_all
  obtain ⟨rfl, rfl⟩ := trodVars_none hV
  obtain ⟨y0, w0, e0, k0⟩ := flat_arg (d := 12) (sh := [.i .u16, .i .u16, .i .u16, .i .u16, .i .u16, .i .u16, .i .u16]) (by kernel_rfl) h0
  obtain ⟨c0, rfl, _⟩ := okWide_array Try.underlying23 (hval 0 23 v0 rfl rfl)
  have lt0 : ∀ x ∈ p0, x.block < W.heap.size := by rw [e0]; intro x hx; cases hx
  clear hA0 hval0 hsz0
  obtain ⟨k, hk⟩ := P y0 w0
  refine (law_flat (N.S3_ok k) (args := [.agg [.i .u16 ((y0.1)), .i .u16 ((y0.2.1)), .i .u16 ((y0.2.2.1)), .i .u16 ((y0.2.2.2.1)), .i .u16 ((y0.2.2.2.2.1)), .i .u16 ((y0.2.2.2.2.2.1)), .i .u16 ((y0.2.2.2.2.2.2))]]) (cargs := #[.agg c0]) (fun E => (.cons (.agg (k0 E)) .nil)) hk W).mono fun e W' ⟨he, bel⟩ => ?_
  subst he
  exact ⟨_, rfl, _, _, _, [], _, [], hW', trodAll_mk1 (shut_bool Try.underlying4 _), (trodAll_cons_mk (Below.trod laidOut (by kernel_rfl) (of_decide_eq_true (by kernel_rfl)) h0 bel lt0) trodAll_mk0), rfl, bel.frame _, fun h => by cases h⟩
theorem over (P : Pure) : Rows.topChainRow.holds Try.pinned (OpenSpec.ofChange Rows.topChainSpec) :=
  OpenClaim.holds_of_wide 3 Try.f3 rfl rfl rfl rfl rfl rfl rfl ⟨rfl, rfl, rfl, rfl, rfl⟩ rfl rfl rfl rfl rfl (by kernel_rfl) Try.func3 (by kernel_rfl)
    (of_decide_eq_true (by kernel_rfl)) (by unfold Func.isWrapper; first | (rw [if_pos (by decide +kernel)]; kernel_rfl) | (rw [if_neg (by decide +kernel)]; exact ⟨rfl, rfl⟩))
    (fun os started H enc _ => lifted P os started H enc)
theorem proved (P : Pure) : Rows.TopChainSaid := over P
/-- The statement. -/
theorem said : Rows.TopChainSaid := proved N.TopChain_pure
#print axioms said
end Go.Proofs.Ytejfnbjhcohkiaa.topChain
