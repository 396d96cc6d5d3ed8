/- The law TopQuotients: from what it reckons, in plain Lean, to its row. Conditions: none. -/
import Derived.Test.YtejfnbjhcohkiaaRows
import Derived.Test.YtejfnbjhcohkiaaTlTopQuotients
import Derived.Test.YtejfnbjhcohkiaaEng2
import Derived.WalkKit
import Derived.ProofKit
import Derived.OpenShut
import Derived.ShutString
import Derived.ChangeOld
import Derived.Below
import Derived.SizedLaws
import Derived.Carry
namespace Go.Proofs.Ytejfnbjhcohkiaa.topQuotients
open Go.ChangeShapes Go.WideShapes Go.ChangeAt Go.RowKit Go.Ab
open Go.ChangeMaps (open_string shut_string)
set_option linter.unusedVariables false
theorem own : ownKnob Try.prog.godebug = none := by kernel_rfl
theorem laidOut : laidOutB Try.prog = true := by kernel_rfl
/-- The one plain statement. -/
def Pure : Prop := ∀ (y0 : Tup [.i .i64]) (y1 : Tup [.i .u64]) (y2 : Tup [.i .u64]), wfs (Tup.all [.i .i64] y0) → wfs (Tup.all [.i .u64] y1) → wfs (Tup.all [.i .u64] y2) → ∃ k, N.plumblinetop_TopQuotients k (y0) (y1) (y2) (fun q => some q) = some true
set_option maxRecDepth 100000 in
theorem lifted (P : Pure) (os : Os) (started : os.Started) (H : Type) (enc : TypeId × Value → H) :
    ReturnsInHanded {} Try.checked os 8 .any (Rows.topQuotientsSpec.pre6 enc Try.prog Try.f8 Rows.topQuotientsRow.domain false) (Rows.topQuotientsSpec.post enc Try.prog Try.f8 false true false false) := by
  refine returnsInHanded_of_change_sized (C := Try.checked) own started (by kernel_rfl) Try.func8
    (ChangeSpec.witness6 (enc := enc) (C := Try.checked) false ⟨#[], #[.int .i64 0, .int .u64 0, .int .u64 0], []⟩ 8 (by kernel_rfl) (by kernel_rfl) (by kernel_rfl) (by kernel_rfl)) ?_
  intro W base args ds gs before hval0 hW hcnd hsz0 _
  have hval : ∀ (j : Nat) t v, Try.f8.params[j]? = some t → args[j]? = some v → Value.okWide Try.prog W .any base t v := hval0
  have hW' := hW
  obtain ⟨p, q, hA0, hV, rfl, hfz, hnd⟩ := hW
  have hA : DataW.TrodAll enc Try.prog W 0 (fun _ => true) true Try.f8.params.toList args.toList ds p := hA0
  rw [Try.params8] at hA hval
  obtain ⟨v0, vs0, d0, ds0, p0, q0, hargs, rfl, rfl, h0, r0⟩ := trodAll_cons hA
  obtain ⟨v1, vs1, d1, ds1, p1, q1, rfl, rfl, rfl, h1, r1⟩ := trodAll_cons r0
  obtain ⟨v2, vs2, d2, ds2, p2, q2, rfl, rfl, rfl, h2, r2⟩ := trodAll_cons r1
  obtain ⟨rfl, rfl, rfl⟩ := trodAll_nil r2
  obtain rfl : args = #[v0, v1, v2] := by cases args; simp_all
  obtain ⟨rfl, rfl⟩ := trodVars_none hV
  obtain ⟨y0, w0, e0, k0⟩ := flat_arg (d := 12) (sh := [.i .i64]) (by kernel_rfl) h0
  obtain ⟨c0, rfl⟩ := okWide_int Try.underlying44 (hval 0 44 v0 rfl rfl)
  have lt0 : ∀ x ∈ p0, x.block < W.heap.size := by rw [e0]; intro x hx; cases hx
  obtain ⟨y1, w1, e1, k1⟩ := flat_arg (d := 12) (sh := [.i .u64]) (by kernel_rfl) h1
  obtain ⟨c1, rfl⟩ := okWide_int Try.underlying41 (hval 1 41 v1 rfl rfl)
  have lt1 : ∀ x ∈ p1, x.block < W.heap.size := by rw [e1]; intro x hx; cases hx
  obtain ⟨y2, w2, e2, k2⟩ := flat_arg (d := 12) (sh := [.i .u64]) (by kernel_rfl) h2
  obtain ⟨c2, rfl⟩ := okWide_int Try.underlying41 (hval 2 41 v2 rfl rfl)
  have lt2 : ∀ x ∈ p2, x.block < W.heap.size := by rw [e2]; intro x hx; cases hx
  clear hA0 hval0 hsz0
  obtain ⟨k, hk⟩ := P y0 y1 y2 w0 w1 w2
  refine (law_flat (N.S8_ok k) (args := [.i .i64 y0, .i .u64 y1, .i .u64 y2]) (cargs := #[.int .i64 c0, .int .u64 c1, .int .u64 c2]) (fun E => (.cons (one_of (k0 E)) (.cons (one_of (k1 E)) (.cons (one_of (k2 E)) .nil)))) hk W).mono fun e W' ⟨he, bel⟩ => ?_
  subst he
  exact ⟨_, rfl, _, _, _, [], _, [], hW', trodAll_mk1 (shut_bool Try.underlying4 _), (trodAll_cons_mk (Below.trod laidOut (by kernel_rfl) (of_decide_eq_true (by kernel_rfl)) h0 bel lt0) (trodAll_cons_mk (Below.trod laidOut (by kernel_rfl) (of_decide_eq_true (by kernel_rfl)) h1 bel lt1) (trodAll_cons_mk (Below.trod laidOut (by kernel_rfl) (of_decide_eq_true (by kernel_rfl)) h2 bel lt2) trodAll_mk0))), rfl, bel.frame _, fun h => by cases h⟩
theorem over (P : Pure) : Rows.topQuotientsRow.holds Try.pinned (OpenSpec.ofChange Rows.topQuotientsSpec) :=
  OpenClaim.holds_of_wide 8 Try.f8 rfl rfl rfl rfl rfl rfl rfl ⟨rfl, rfl, rfl, rfl, rfl⟩ rfl rfl rfl rfl rfl (by kernel_rfl) Try.func8 (by kernel_rfl)
    (of_decide_eq_true (by kernel_rfl)) (by unfold Func.isWrapper; first | (rw [if_pos (by decide +kernel)]; kernel_rfl) | (rw [if_neg (by decide +kernel)]; exact ⟨rfl, rfl⟩))
    (fun os started H enc _ => lifted P os started H enc)
theorem proved (P : Pure) : Rows.TopQuotientsSaid := over P
/-- The statement. -/
theorem said : Rows.TopQuotientsSaid := proved N.TopQuotients_pure
#print axioms said
end Go.Proofs.Ytejfnbjhcohkiaa.topQuotients
