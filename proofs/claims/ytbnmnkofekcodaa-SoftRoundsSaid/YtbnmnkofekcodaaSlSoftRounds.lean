/- The law SoftRounds, plain. Conditions: none. -/
import Derived.Test.YtbnmnkofekcodaaMth1
import Derived.Test.YtbnmnkofekcodaaRo4
import Derived.Test.YtbnmnkofekcodaaNlawSoftRounds
namespace Go.Proofs.Ytbnmnkofekcodaa.N
set_option linter.unusedVariables false
set_option linter.unusedSimpArgs false
open Go Go.Ab

theorem SoftRounds_pure : ∀ (y0 : Tup [.i .i64, .i .i64]) (y1 : Tup [.b, .b, .i .u64, .i .u64, .i .i64]), wfs (Tup.all [.i .i64, .i .i64] y0) → wfs (Tup.all [.b, .b, .i .u64, .i .u64, .i .i64] y1) → ∃ k, plumblinelaw02_SoftRounds k (y0.1) (y0.2) (y1.1) (y1.2.1) (y1.2.2.1) (y1.2.2.2.1) (y1.2.2.2.2) (fun q => some q) = some true := by
  intro ⟨f, m⟩ ⟨b, x, h, l, e⟩ h0 h1
  obtain ⟨h, rfl, hh⟩ := u64_nat h1.1
  obtain ⟨l, rfl, hl⟩ := u64_nat h1.2.1
  have he : (Lit.int .i64 e).wf = true := h1.2.2.1
  refine ⟨5000, ?_⟩
  have hk : 5000 ≤ 5000 := Nat.le_refl _
  unfold plumblinelaw02_SoftRounds plumblinelaw02_SoftRoundsT
  show plumblinelaw02_live 5000 _ = _
  rw [live_k hk, cond_true]
  have e1 : ((h : Nat) : Int) = hi (V h l) := (hi_V hl).symm
  have e2 : ((l : Nat) : Int) = lo (V h l) := (lo_V hl).symm
  have hV := V_lt hh hl
  show soft_Round 5000 f m b ((h : Nat) : Int) ((l : Nat) : Int) e x _ = _
  rw [e1, e2, Round_k _ f m b hV, format_k, rRound_k hk (fm f) m b hV he, Rd_fm, beq_self_eq_true]

end Go.Proofs.Ytbnmnkofekcodaa.N
