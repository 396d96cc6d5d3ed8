/- What the laws of package soft share. Conditions: none. -/
import Derived.Test.YtbnmnkofekcodaaMt
import Derived.Test.YtbnmnkofekcodaaMs
import Derived.Test.YtbnmnkofekcodaaNlaw
import Derived.Test.YtbnmnkofekcodaaEng2
namespace Go.Proofs.Ytbnmnkofekcodaa.N
set_option linter.unusedVariables false
set_option linter.unusedSimpArgs false
open Go Go.Ab

theorem live_k {R : Type} {k : Nat} (hk : 5000 ≤ k) (K : Bool → Option R) : plumblinelaw02_live k K = K true := by
  unfold plumblinelaw02_live plumblinelaw02_liveT
  have d1 : DivS 0 0 4607182418800017408 4613937818241073152 = 4599676419421066581 := by decide +kernel
  have d2 : DivS 0 1 4607182418800017408 4613937818241073152 = 4599676419421066582 := by decide +kernel
  have d3 : AddS 0 0 4607182418800017408 4607182418800017408 = 4611686018427387904 := by decide +kernel
  have l1 : (4607182418800017408 : Int) = ((4607182418800017408 : Nat) : Int) := rfl
  have l2 : (4613937818241073152 : Int) = ((4613937818241073152 : Nat) : Int) := rfl
  have q1 : (((4599676419421066581 : Nat) : Int) == 4599676419421066581) = true := by decide
  have q2 : (((4599676419421066582 : Nat) : Int) == 4599676419421066582) = true := by decide
  have q3 : (((4611686018427387904 : Nat) : Int) == 4611686018427387904) = true := by decide
  rw [l1, l2, Div_k hk 0 0 (by decide) (by decide), d1, q1, cond_true, Div_k hk 0 1 (by decide) (by decide), d2, q2, cond_true, Add_k 0 0 (by decide) (by decide), d3, q3]

end Go.Proofs.Ytbnmnkofekcodaa.N

/- A format that is none counts as a Double. Conditions: none. -/
namespace Go.Proofs.Ytbnmnkofekcodaa.N
set_option linter.unusedVariables false
set_option linter.unusedSimpArgs false
open Go Go.Ab

/-- A format that is one. -/
def fm (f : Int) : Int := if f = 1 then 1 else 0
theorem fm_P (f : Int) : fP (fm f) = fP f ∧ fE (fm f) = fE f ∧ fL (fm f) = fL f ∧ (fm f = 1 ↔ f = 1) := by
  unfold fm fP fE fL
  by_cases h : f = 1 <;> simp [h]
theorem fP_fm (f : Int) : fP (fm f) = fP f := (fm_P f).1
theorem fE_fm (f : Int) : fE (fm f) = fE f := (fm_P f).2.1
theorem fL_fm (f : Int) : fL (fm f) = fL f := (fm_P f).2.2.1
theorem bad_fm (f : Int) (a : Nat) : bad (fm f) a = bad f a := by unfold bad; rw [Bool.eq_iff_iff]; simp only [decide_eq_true_eq, (fm_P f).2.2.2]
theorem fB_fm (f : Int) : fB (fm f) = fB f := by unfold fB; rw [fP_fm, fE_fm]
theorem fI_fm (f : Int) : fI (fm f) = fI f := by unfold fI; rw [fP_fm, fE_fm]
theorem sg_fm (f : Int) (b : Bool) : sg (fm f) b = sg f b := by unfold sg; rw [fB_fm]
theorem NAN_fm (f : Int) : NAN (fm f) = NAN f := by unfold NAN; rw [fI_fm, fP_fm]
theorem gg_fm (f : Int) (a : Nat) : gg (fm f) a = gg f a := by unfold gg; rw [fB_fm]
theorem kd_fm (f : Int) (a : Nat) : kd (fm f) a = kd f a := by unfold kd; rw [bad_fm, fI_fm, gg_fm]
theorem bw_fm (f : Int) (a : Nat) : bw (fm f) a = bw f a := by unfold bw; rw [bad_fm, fB_fm]
theorem nn_fm (f : Int) (a : Nat) : nn (fm f) a = nn f a := by unfold nn nG; rw [kd_fm, gg_fm, fP_fm]
theorem ee_fm (f : Int) (a : Nat) : ee (fm f) a = ee f a := by unfold ee eG; rw [kd_fm, gg_fm, fP_fm, fL_fm]
theorem clip_fm (f m : Int) (b : Bool) (g : Nat) : clip (fm f) m b g = clip f m b g := by unfold clip; rw [fI_fm]
theorem gOf_fm (f m : Int) (b : Bool) (l : Int) (q : Nat) (h r : Bool) : gOf (fm f) m b l q h r = gOf f m b l q h r := by unfold gOf; rw [fL_fm, fP_fm]
theorem enc_fm (f m : Int) (b : Bool) (l : Int) (q : Nat) (h r : Bool) : enc (fm f) m b l q h r = enc f m b l q h r := by unfold enc; rw [sg_fm, clip_fm, gOf_fm]
theorem lastOf_fm (f : Int) (N : Nat) (e : Int) : lastOf (fm f) N e = lastOf f N e := by unfold lastOf; rw [fP_fm, fL_fm]
theorem Rd_fm (f m : Int) (b : Bool) (N : Nat) (e : Int) (r : Bool) : Rd (fm f) m b N e r = Rd f m b N e r := by unfold Rd; rw [sg_fm, lastOf_fm, enc_fm]
theorem AddX_fm (f m : Int) (bx : Bool) (X : Nat) (ex : Int) (by' : Bool) (Y : Nat) (ey : Int) : AddX (fm f) m bx X ex by' Y ey = AddX f m bx X ex by' Y ey := by unfold AddX; simp only [Rd_fm, sg_fm]
theorem NegS_fm (f : Int) (a : Nat) : NegS (fm f) a = NegS f a := by unfold NegS; rw [kd_fm, NAN_fm, fB_fm]
theorem AbsS_fm (f : Int) (a : Nat) : AbsS (fm f) a = AbsS f a := by unfold AbsS; rw [kd_fm, NAN_fm, gg_fm]
theorem FinS_fm (f : Int) (a : Nat) : FinS (fm f) a = FinS f a := by unfold FinS; rw [kd_fm]
theorem ClassS_fm (f : Int) (a : Nat) : ClassS (fm f) a = ClassS f a := by unfold ClassS; rw [bad_fm, kd_fm, gg_fm, fP_fm]
theorem CmpS_fm (f : Int) (a b : Nat) : CmpS (fm f) a b = CmpS f a b := by unfold CmpS rank; rw [kd_fm, kd_fm, bw_fm, bw_fm, gg_fm, gg_fm]
theorem AddS_fm (f m : Int) (a b : Nat) : AddS (fm f) m a b = AddS f m a b := by unfold AddS; rw [kd_fm, kd_fm, bw_fm, bw_fm, NAN_fm, AddX_fm, nn_fm, nn_fm, ee_fm, ee_fm]
theorem MulS_fm (f m : Int) (a b : Nat) : MulS (fm f) m a b = MulS f m a b := by unfold MulS; rw [kd_fm, kd_fm, bw_fm, bw_fm, NAN_fm, Rd_fm, nn_fm, nn_fm, ee_fm, ee_fm, sg_fm, fI_fm]
theorem DivS_fm (f m : Int) (a b : Nat) : DivS (fm f) m a b = DivS f m a b := by unfold DivS DivX; rw [kd_fm, kd_fm, bw_fm, bw_fm, NAN_fm, Rd_fm, nn_fm, nn_fm, ee_fm, ee_fm, sg_fm, fI_fm]

end Go.Proofs.Ytbnmnkofekcodaa.N

/- The laws' format. Conditions: none. -/
namespace Go.Proofs.Ytbnmnkofekcodaa.N
set_option linter.unusedVariables false
set_option linter.unusedSimpArgs false
open Go Go.Ab

theorem format_k {R : Type} (k : Nat) (f : Int) (K : Int → Option R) : plumblinelaw02_format k f K = K (fm f) := by
  unfold plumblinelaw02_format plumblinelaw02_formatT fm
  by_cases h : f = 1
  · subst h; rfl
  · have : (f == 1) = false := by rw [beq_eq_false_iff_ne]; exact h
    rw [this, cond_false, if_neg h]

end Go.Proofs.Ytbnmnkofekcodaa.N
