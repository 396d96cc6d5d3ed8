/- A format that is none counts as a Double. Conditions: none. -/
import Derived.Test.YtbnmnkofekcodaaMs
import Derived.Test.YtbnmnkofekcodaaMt
import Derived.Test.YtbnmnkofekcodaaNlaw
import Derived.Test.YtbnmnkofekcodaaEng2
namespace Go.Proofs.Ytbnmnkofekcodaa.N
set_option linter.unusedVariables false
set_option linter.unusedSimpArgs false
open Go Go.Ab

/-- A format that is one. -/
def fm (f : Int) : Int := if f = 1 then 1 else 0
theorem fm_P (f : Int) : fP (fm f) = fP f ∧ fE (fm f) = fE f ∧ fL (fm f) = fL f ∧ (fm f = 1 ↔ f = 1) := by
  unfold fm fP fE fL
  by_cases h : f = 1 <;> simp [h]
theorem fP_fm (f : Int) : fP (fm f) = fP f := (fm_P f).1
theorem fE_fm (f : Int) : fE (fm f) = fE f := (fm_P f).2.1
theorem fL_fm (f : Int) : fL (fm f) = fL f := (fm_P f).2.2.1
theorem bad_fm (f : Int) (a : Nat) : bad (fm f) a = bad f a := by unfold bad; rw [Bool.eq_iff_iff]; simp only [decide_eq_true_eq, (fm_P f).2.2.2]
theorem fB_fm (f : Int) : fB (fm f) = fB f := by unfold fB; rw [fP_fm, fE_fm]
theorem fI_fm (f : Int) : fI (fm f) = fI f := by unfold fI; rw [fP_fm, fE_fm]
theorem sg_fm (f : Int) (b : Bool) : sg (fm f) b = sg f b := by unfold sg; rw [fB_fm]
theorem NAN_fm (f : Int) : NAN (fm f) = NAN f := by unfold NAN; rw [fI_fm, fP_fm]
theorem gg_fm (f : Int) (a : Nat) : gg (fm f) a = gg f a := by unfold gg; rw [fB_fm]
theorem kd_fm (f : Int) (a : Nat) : kd (fm f) a = kd f a := by unfold kd; rw [bad_fm, fI_fm, gg_fm]
theorem bw_fm (f : Int) (a : Nat) : bw (fm f) a = bw f a := by unfold bw; rw [bad_fm, fB_fm]
theorem nn_fm (f : Int) (a : Nat) : nn (fm f) a = nn f a := by unfold nn nG; rw [kd_fm, gg_fm, fP_fm]
theorem ee_fm (f : Int) (a : Nat) : ee (fm f) a = ee f a := by unfold ee eG; rw [kd_fm, gg_fm, fP_fm, fL_fm]
theorem clip_fm (f m : Int) (b : Bool) (g : Nat) : clip (fm f) m b g = clip f m b g := by unfold clip; rw [fI_fm]
theorem gOf_fm (f m : Int) (b : Bool) (l : Int) (q : Nat) (h r : Bool) : gOf (fm f) m b l q h r = gOf f m b l q h r := by unfold gOf; rw [fL_fm, fP_fm]
theorem enc_fm (f m : Int) (b : Bool) (l : Int) (q : Nat) (h r : Bool) : enc (fm f) m b l q h r = enc f m b l q h r := by unfold enc; rw [sg_fm, clip_fm, gOf_fm]
theorem lastOf_fm (f : Int) (N : Nat) (e : Int) : lastOf (fm f) N e = lastOf f N e := by unfold lastOf; rw [fP_fm, fL_fm]
theorem Rd_fm (f m : Int) (b : Bool) (N : Nat) (e : Int) (r : Bool) : Rd (fm f) m b N e r = Rd f m b N e r := by unfold Rd; rw [sg_fm, lastOf_fm, enc_fm]
theorem AddX_fm (f m : Int) (bx : Bool) (X : Nat) (ex : Int) (by' : Bool) (Y : Nat) (ey : Int) : AddX (fm f) m bx X ex by' Y ey = AddX f m bx X ex by' Y ey := by unfold AddX; simp only [Rd_fm, sg_fm]
theorem NegS_fm (f : Int) (a : Nat) : NegS (fm f) a = NegS f a := by unfold NegS; rw [kd_fm, NAN_fm, fB_fm]
theorem AbsS_fm (f : Int) (a : Nat) : AbsS (fm f) a = AbsS f a := by unfold AbsS; rw [kd_fm, NAN_fm, gg_fm]
theorem FinS_fm (f : Int) (a : Nat) : FinS (fm f) a = FinS f a := by unfold FinS; rw [kd_fm]
theorem ClassS_fm (f : Int) (a : Nat) : ClassS (fm f) a = ClassS f a := by unfold ClassS; rw [bad_fm, kd_fm, gg_fm, fP_fm]
theorem CmpS_fm (f : Int) (a b : Nat) : CmpS (fm f) a b = CmpS f a b := by unfold CmpS rank; rw [kd_fm, kd_fm, bw_fm, bw_fm, gg_fm, gg_fm]
theorem AddS_fm (f m : Int) (a b : Nat) : AddS (fm f) m a b = AddS f m a b := by unfold AddS; rw [kd_fm, kd_fm, bw_fm, bw_fm, NAN_fm, AddX_fm, nn_fm, nn_fm, ee_fm, ee_fm]
theorem MulS_fm (f m : Int) (a b : Nat) : MulS (fm f) m a b = MulS f m a b := by unfold MulS; rw [kd_fm, kd_fm, bw_fm, bw_fm, NAN_fm, Rd_fm, nn_fm, nn_fm, ee_fm, ee_fm, sg_fm, fI_fm]
theorem DivS_fm (f m : Int) (a b : Nat) : DivS (fm f) m a b = DivS f m a b := by unfold DivS DivX; rw [kd_fm, kd_fm, bw_fm, bw_fm, NAN_fm, Rd_fm, nn_fm, nn_fm, ee_fm, ee_fm, sg_fm, fI_fm]

end Go.Proofs.Ytbnmnkofekcodaa.N

/- What the laws of package soft share. Conditions: none. -/
namespace Go.Proofs.Ytbnmnkofekcodaa.N
set_option linter.unusedVariables false
set_option linter.unusedSimpArgs false
open Go Go.Ab

theorem live_k {R : Type} {k : Nat} (hk : 5000 ≤ k) (K : Bool → Option R) : plumblinelaw02_live k K = K true := by
  unfold plumblinelaw02_live plumblinelaw02_liveT
  have d1 : DivS 0 0 4607182418800017408 4613937818241073152 = 4599676419421066581 := by decide +kernel
  have d2 : DivS 0 1 4607182418800017408 4613937818241073152 = 4599676419421066582 := by decide +kernel
  have d3 : AddS 0 0 4607182418800017408 4607182418800017408 = 4611686018427387904 := by decide +kernel
  have l1 : (4607182418800017408 : Int) = ((4607182418800017408 : Nat) : Int) := rfl
  have l2 : (4613937818241073152 : Int) = ((4613937818241073152 : Nat) : Int) := rfl
  have q1 : (((4599676419421066581 : Nat) : Int) == 4599676419421066581) = true := by decide
  have q2 : (((4599676419421066582 : Nat) : Int) == 4599676419421066582) = true := by decide
  have q3 : (((4611686018427387904 : Nat) : Int) == 4611686018427387904) = true := by decide
  rw [l1, l2, Div_k hk 0 0 (by decide) (by decide), d1, q1, cond_true, Div_k hk 0 1 (by decide) (by decide), d2, q2, cond_true, Add_k 0 0 (by decide) (by decide), d3, q3]

end Go.Proofs.Ytbnmnkofekcodaa.N

/- Two floats by an op. Conditions: none. -/
namespace Go.Proofs.Ytbnmnkofekcodaa.N
set_option linter.unusedVariables false
set_option linter.unusedSimpArgs false
open Go Go.Ab

/-- Two floats by an op. -/
def byS (op f m : Int) (a b : Nat) : Nat := if op = 8 then AddS f m a b else if op = 9 then AddS f m a (NegS f b) else if op = 10 then MulS f m a b else DivS f m a b

theorem by_k {R : Type} {k : Nat} (hk : 5000 ≤ k) (op f m : Int) {a b : Nat} (ha : a < 2 ^ 64) (hb : b < 2 ^ 64) (K : Int → Option R) : plumblinelaw02_by k op f m (a : Int) (b : Int) K = K ((byS op f m a b : Nat) : Int) := by
  unfold plumblinelaw02_by plumblinelaw02_byT byS
  by_cases c1 : op = 8
  · have e1 : (op == 8) = true := by rw [beq_iff_eq]; exact c1
    rw [e1, cond_true, if_pos c1]; exact Add_k f m ha hb K
  · have e1 : (op == 8) = false := by rw [beq_eq_false_iff_ne]; exact c1
    rw [e1, cond_false, if_neg c1]
    by_cases c2 : op = 9
    · have e2 : (op == 9) = true := by rw [beq_iff_eq]; exact c2
      rw [e2, cond_true, if_pos c2]; exact Sub_k f m ha hb (Neg_lt f hb) K
    · have e2 : (op == 9) = false := by rw [beq_eq_false_iff_ne]; exact c2
      rw [e2, cond_false, if_neg c2]
      by_cases c3 : op = 10
      · have e3 : (op == 10) = true := by rw [beq_iff_eq]; exact c3
        rw [e3, cond_true, if_pos c3]; exact Mul_k k f m ha hb K
      · have e3 : (op == 10) = false := by rw [beq_eq_false_iff_ne]; exact c3
        rw [e3, cond_false, if_neg c3]; exact Div_k hk f m ha hb K

theorem byS_lt (op f m : Int) {a b : Nat} (ha : a < 2 ^ 64) (hb : b < 2 ^ 64) : byS op f m a b < 2 ^ 64 := by
  unfold byS
  split
  · exact AddS_lt f m ha hb
  · split
    · exact AddS_lt f m ha (Neg_lt f hb)
    · split
      · exact MulS_lt ..
      · exact DivS_lt ..

end Go.Proofs.Ytbnmnkofekcodaa.N

/- One number rounded by the four modes; neighbours. Conditions: none. -/
namespace Go.Proofs.Ytbnmnkofekcodaa.N
set_option linter.unusedVariables false
set_option linter.unusedSimpArgs false
open Go Go.Ab

theorem nG_small {f : Int} {g : Nat} (h : g < 2 ^ (fP f + 1)) : nG f g = g ∧ eG f g = fL f := by
  have hp := fP_pos f
  rw [Nat.pow_succ] at h
  unfold nG eG
  by_cases c : g < 2 ^ fP f
  · rw [if_pos c, if_pos c]; exact ⟨rfl, rfl⟩
  · rw [if_neg c, if_neg c]
    have h1 : g / 2 ^ fP f = 1 := Nat.div_eq_of_lt_le (by omega) (by omega)
    have h2 := Nat.div_add_mod g (2 ^ fP f)
    rw [h1, Nat.mul_one] at h2
    rw [h1]
    refine ⟨by omega, by omega⟩

theorem fI_two (f : Int) : 2 ^ (fP f + 1) < fI f := by
  rcases fmt f with ⟨_, h1, h2, h3⟩ | ⟨_, h1, h2, h3⟩ <;> unfold fI <;> rw [h1, h2] <;> decide

/-- A float above the second lowest power: its number and place. -/
theorem nG_big {f : Int} {g : Nat} (h : 2 ^ (fP f + 1) ≤ g) : ∃ j X, 1 ≤ j ∧ 2 ^ fP f ≤ X ∧ X < 2 ^ (fP f + 1) ∧ nG f g = X ∧ eG f g = fL f + (j : Nat) ∧ g = j * 2 ^ fP f + X := by
  have hp := fP_pos f
  rw [Nat.pow_succ] at h
  have hm := Nat.mod_lt g hp
  have hd : 2 ≤ g / 2 ^ fP f := (Nat.le_div_iff_mul_le hp).2 (by omega)
  have h2 := Nat.div_add_mod g (2 ^ fP f)
  refine ⟨g / 2 ^ fP f - 1, 2 ^ fP f + g % 2 ^ fP f, by omega, by omega, by rw [Nat.pow_succ]; omega, ?_, ?_, ?_⟩
  · unfold nG; rw [if_neg (by omega)]
  · unfold eG; rw [if_neg (by omega)]; omega
  · rw [Nat.mul_comm] at h2
    have : 1 * 2 ^ fP f ≤ g / 2 ^ fP f * 2 ^ fP f := Nat.mul_le_mul_right _ (by omega)
    rw [Nat.sub_mul, Nat.one_mul]
    omega

theorem Rd_small (f m : Int) (s : Bool) {g : Nat} (h0 : 0 < g) (h : g < 2 ^ (fP f + 1)) : Rd f m s g (fL f) false = sg f s + g := by
  have h1 := nG_small h
  have h2 := Rd_G f m s h0 (Nat.lt_trans h (fI_two f))
  rw [h1.1, h1.2] at h2
  exact h2

theorem more_up (o h r : Bool) : more 1 false o h r = (h || r) := by unfold more; rfl
theorem more_upb (o h r : Bool) : more 1 true o h r = false := by unfold more; rfl

/-- A number of N places, its lowest ones at fL, all put together. -/
theorem Rd_at (f m : Int) (s : Bool) {N j q : Nat} (hN : 0 < N) (hbl : bl N = fP f + 1 + j) (hq : N / 2 ^ j = q) :
    Rd f m s N (fL f) false = sg f s + clip f m s (j * 2 ^ fP f + q + (more m s (q % 2 == 1) (hd N (j : Nat)) (rs N (j : Nat))).toNat) := by
  have hl : lastOf f N (fL f) = fL f + (j : Nat) := by unfold lastOf; rw [hbl]; omega
  have e1 : fL f + (j : Nat) - fL f = (j : Nat) := by omega
  have q1 : qd N (j : Nat) = q := by
    unfold qd
    by_cases c : (0 : Int) < (j : Nat)
    · rw [if_pos c, Int.toNat_natCast, hq]
    · have : j = 0 := by omega
      subst this
      rw [if_neg c, show (-((0 : Nat) : Int)).toNat = 0 from rfl, Nat.pow_zero, Nat.mul_one]
      rw [Nat.pow_zero, Nat.div_one] at hq
      exact hq
  unfold Rd
  rw [if_neg (by omega), hl, e1, q1, Bool.false_or]
  unfold enc gOf
  rw [e1, Int.toNat_natCast]

theorem up_one (f : Int) {x : Nat} (h0 : 0 < x) (hI : x < fI f) : Rd f 1 false (nG f x * 2 ^ (eG f x - fL f).toNat + 1) (fL f) false = sg f false + (x + 1) := by
  have hp := fP_pos f
  have hI2 := fI_two f
  by_cases c : x < 2 ^ (fP f + 1)
  · rw [(nG_small c).1, (nG_small c).2, show (fL f - fL f).toNat = 0 by omega, Nat.pow_zero, Nat.mul_one]
    by_cases c2 : x + 1 < 2 ^ (fP f + 1)
    · exact Rd_small f 1 false (by omega) c2
    · have hx : x + 1 = 2 ^ (fP f + 1) := by omega
      have hx2 : x + 1 < fI f := by omega
      have h2 := Rd_G f 1 false (g := x + 1) (by omega) hx2
      have h3 := Rd_scale f 1 false (nG f (x + 1)) (eG f (x + 1)) 1
      rw [h2] at h3
      obtain ⟨j, X, j1, j2, j3, j4, j5, j6⟩ := nG_big (f := f) (g := x + 1) (by omega)
      have hj : j = 1 ∧ X = 2 ^ fP f := by
        rw [Nat.pow_succ] at hx
        have : j = 1 := by
          refine Nat.le_antisymm (Nat.le_of_not_lt fun hh => ?_) j1
          have : 2 * 2 ^ fP f ≤ j * 2 ^ fP f := Nat.mul_le_mul_right _ hh
          omega
        subst this
        exact ⟨rfl, by omega⟩
      rw [j4, j5, hj.1, hj.2, ← Nat.pow_succ, ← hx] at h3
      rw [show fL f + ((1 : Nat) : Int) - ((1 : Nat) : Int) = fL f by omega] at h3
      exact h3
  · obtain ⟨j, X, j1, j2, j3, j4, j5, j6⟩ := nG_big (f := f) (g := x) (by omega)
    rw [j4, j5, show (fL f + (j : Nat) - fL f).toNat = j by omega]
    have hj2 : 1 < 2 ^ j := Nat.one_lt_two_pow (by omega)
    have hX : 0 < X := by omega
    have hbl : bl (X * 2 ^ j + 1) = fP f + 1 + j := by rw [bl_mul_add hX j 1 hj2, bl_range j2 j3]
    have hq : (X * 2 ^ j + 1) / 2 ^ j = X := by
      rw [Nat.mul_comm, Nat.mul_add_div (by omega), Nat.div_eq_of_lt hj2, Nat.add_zero]
    rw [Rd_at f 1 false (by omega) hbl hq, more_up]
    have hm : (hd (X * 2 ^ j + 1) (j : Nat) || rs (X * 2 ^ j + 1) (j : Nat)) = true := by
      unfold hd rs
      rw [Int.toNat_natCast, decide_eq_true (show (0 : Int) < (j : Nat) by omega), Bool.true_and, Bool.true_and]
      by_cases c1 : j = 1
      · subst c1
        have : (X * 2 ^ 1 + 1).testBit (1 - 1) = true := by rw [Nat.sub_self, Nat.testBit_zero]; simp
        rw [this]; rfl
      · have e2 : (X * 2 ^ j + 1) % 2 ^ (j - 1) = 1 := by
          have : 2 ^ j = 2 ^ (j - 1) * 2 := by rw [← Nat.pow_succ]; congr 1; omega
          rw [this, ← Nat.mul_assoc, Nat.mul_right_comm, Nat.mul_add_mod_self_right]
          exact Nat.mod_eq_of_lt (Nat.one_lt_two_pow (by omega))
        rw [e2]; simp
    rw [hm, ← j6, Bool.toNat_true]
    congr 1
    unfold clip
    split
    · rfl
    · have : more 1 false true true true = true := rfl
      rw [if_pos this]; omega

theorem down_one (f : Int) {x : Nat} (h0 : 0 < x) (hI : x + 1 < fI f) : Rd f 1 true (nG f (x + 1) * 2 ^ (eG f (x + 1) - fL f).toNat - 1) (fL f) false = sg f true + x := by
  have hp := fP_pos f
  have hI2 := fI_two f
  by_cases c : x + 1 < 2 ^ (fP f + 1)
  · rw [(nG_small c).1, (nG_small c).2, show (fL f - fL f).toNat = 0 by omega, Nat.pow_zero, Nat.mul_one]
    exact Rd_small f 1 true h0 (by omega)
  · obtain ⟨j, X, j1, j2, j3, j4, j5, j6⟩ := nG_big (f := f) (g := x + 1) (by omega)
    rw [j4, j5, show (fL f + (j : Nat) - fL f).toNat = j by omega]
    have hj2 : 1 < 2 ^ j := Nat.one_lt_two_pow (by omega)
    have hX : 0 < X := by omega
    by_cases c2 : X = 2 ^ fP f
    · obtain ⟨i, rfl⟩ : ∃ i, j = i + 1 := ⟨j - 1, by omega⟩
      have hi := Nat.two_pow_pos i
      have e1 : X * 2 ^ (i + 1) = 2 ^ (fP f + 1) * 2 ^ i := by rw [c2, ← Nat.pow_add, ← Nat.pow_add]; congr 1; omega
      have hp1 : 2 ≤ 2 ^ (fP f + 1) := by rw [Nat.pow_succ]; omega
      have e2 : X * 2 ^ (i + 1) - 1 = (2 ^ (fP f + 1) - 1) * 2 ^ i + (2 ^ i - 1) := by
        rw [e1, Nat.sub_mul, Nat.one_mul]
        have : 1 * 2 ^ i ≤ 2 ^ (fP f + 1) * 2 ^ i := Nat.mul_le_mul_right _ (by omega)
        omega
      have hb1 : bl (2 ^ (fP f + 1) - 1) = fP f + 1 := bl_range (by rw [Nat.pow_succ]; omega) (by omega)
      have hbl : bl (X * 2 ^ (i + 1) - 1) = fP f + 1 + i := by rw [e2, bl_mul_add (by omega) i _ (by omega), hb1]
      have hq : (X * 2 ^ (i + 1) - 1) / 2 ^ i = 2 ^ (fP f + 1) - 1 := by
        rw [e2, Nat.mul_comm, Nat.mul_add_div hi, Nat.div_eq_of_lt (by omega), Nat.add_zero]
      have h9 : 2 ^ i < 2 ^ (fP f + 1) * 2 ^ i := by
        have := (Nat.mul_lt_mul_right hi).2 (show 1 < 2 ^ (fP f + 1) by omega)
        omega
      rw [Rd_at f 1 true (by rw [e1]; omega) hbl hq, more_upb, Bool.toNat_false, Nat.add_zero]
      have : i * 2 ^ fP f + (2 ^ (fP f + 1) - 1) = x := by
        rw [Nat.succ_mul, c2] at j6
        rw [Nat.pow_succ]
        omega
      rw [this]
      unfold clip
      rw [if_pos (by omega)]
    · have hi := Nat.two_pow_pos j
      have e2 : X * 2 ^ j - 1 = (X - 1) * 2 ^ j + (2 ^ j - 1) := by
        rw [Nat.sub_mul, Nat.one_mul]
        have : 1 * 2 ^ j ≤ X * 2 ^ j := Nat.mul_le_mul_right _ hX
        omega
      have hb1 : bl (X - 1) = fP f + 1 := bl_range (by omega) (by omega)
      have hbl : bl (X * 2 ^ j - 1) = fP f + 1 + j := by rw [e2, bl_mul_add (by omega) j _ (by omega), hb1]
      have hq : (X * 2 ^ j - 1) / 2 ^ j = X - 1 := by
        rw [e2, Nat.mul_comm, Nat.mul_add_div hi, Nat.div_eq_of_lt (by omega), Nat.add_zero]
      have h9 : 1 * 2 ^ j ≤ X * 2 ^ j := Nat.mul_le_mul_right _ hX
      rw [Rd_at f 1 true (by omega) hbl hq, more_upb, Bool.toNat_false, Nat.add_zero]
      have : j * 2 ^ fP f + (X - 1) = x := by omega
      rw [this]
      unfold clip
      rw [if_pos (by omega)]

/-- The least float above 0. -/
theorem one_is (f : Int) : kd f 1 = 3 ∧ bw f 1 = false ∧ nn f 1 = 1 ∧ ee f 1 = fL f := by
  have hI := fI_two f
  have hp := fP_pos f
  have hB := (fB_double f).2
  have h1 : (1 : Nat) = sg f false + 1 := by unfold sg; simp
  have hp1 : 2 ≤ 2 ^ (fP f + 1) := by rw [Nat.pow_succ]; omega
  have hk : kd f 1 = 3 := by
    rw [h1, kd_sg false (by omega), if_neg (by omega), if_neg (by omega), if_neg (by omega)]
  have hg := gg_sg (f := f) false (x := 1) (by omega)
  rw [← h1] at hg
  have hs := nG_small (f := f) (g := 1) (by omega)
  refine ⟨hk, hg.2.1, ?_, ?_⟩
  · unfold nn; rw [if_pos hk, hg.1, hs.1]
  · unfold ee; rw [if_pos hk, hg.1, hs.2]

theorem sg_parts {f : Int} (s : Bool) {x : Nat} (h0 : 0 < x) (h : x < fI f) : kd f (sg f s + x) = 3 ∧ bw f (sg f s + x) = s ∧ nn f (sg f s + x) = nG f x ∧ ee f (sg f s + x) = eG f x := by
  have hB := (fB_double f).2
  have hk : kd f (sg f s + x) = 3 := by
    rw [kd_sg s (by omega), if_neg (by omega), if_neg (by omega), if_neg (by omega)]
  have hg := gg_sg (f := f) s (x := x) (by omega)
  refine ⟨hk, hg.2.1, ?_, ?_⟩
  · unfold nn; rw [if_pos hk, hg.1]
  · unfold ee; rw [if_pos hk, hg.1]

theorem add_fin {f m : Int} {a b : Nat} (h1 : 2 ≤ kd f a) (h2 : 2 ≤ kd f b) : AddS f m a b = AddX f m (bw f a) (nn f a) (ee f a) (bw f b) (nn f b) (ee f b) := by
  unfold AddS
  rw [if_neg (by omega), if_neg (by omega), if_neg (by omega)]

theorem next_up (f : Int) {x : Nat} (hI : x < fI f) : AddS f 1 (sg f false + x) 1 = sg f false + (x + 1) := by
  obtain ⟨o1, o2, o3, o4⟩ := one_is f
  have hB := (fB_double f).2
  by_cases c : x = 0
  · subst c
    have hk : kd f (sg f false + 0) = 2 := by rw [kd_sg false (by omega), if_neg (by omega), if_neg (by omega), if_pos rfl]
    rw [add_fin (by omega) (by omega), o2, o3, o4, zero_kd2 hk, AddX_zero _ _ _ _ _ _ _ (by decide)]
    exact Rd_small f 1 false (by decide) (by have := fP_pos f; rw [Nat.pow_succ]; omega)
  · obtain ⟨p1, p2, p3, p4⟩ := sg_parts (f := f) false (by omega) hI
    have hb := nG_bounds f (by omega) hI
    rw [add_fin (by omega) (by omega), o2, o3, o4, p2, p3, p4]
    unfold AddX
    dsimp only
    have hm : min (eG f x) (fL f) = fL f := by omega
    rw [if_pos rfl, hm, show (fL f - fL f).toNat = 0 by omega, Nat.pow_zero, Nat.mul_one]
    exact up_one f (by omega) hI

theorem next_down (f : Int) {x : Nat} (hI : x + 1 < fI f) : AddS f 1 (sg f true + (x + 1)) 1 = if x = 0 then 0 else sg f true + x := by
  obtain ⟨o1, o2, o3, o4⟩ := one_is f
  have hB := (fB_double f).2
  obtain ⟨p1, p2, p3, p4⟩ := sg_parts (f := f) true (x := x + 1) (by omega) hI
  have hb := nG_bounds f (g := x + 1) (by omega) hI
  rw [add_fin (by omega) (by omega), o2, o3, o4, p2, p3, p4]
  unfold AddX
  dsimp only
  have hm : min (eG f (x + 1)) (fL f) = fL f := by omega
  rw [if_neg (by decide), hm, show (fL f - fL f).toNat = 0 by omega, Nat.pow_zero, Nat.mul_one]
  by_cases c : x = 0
  · subst c
    have hs := nG_small (f := f) (g := 0 + 1) (by have := fP_pos f; rw [Nat.pow_succ]; omega)
    rw [hs.1, hs.2, show (fL f - fL f).toNat = 0 by omega, Nat.pow_zero, Nat.mul_one, if_pos rfl, if_pos rfl]; rfl
  · have h1 : 1 < nG f (x + 1) * 2 ^ (eG f (x + 1) - fL f).toNat := by
      have hi := Nat.two_pow_pos (eG f (x + 1) - fL f).toNat
      have hn : 1 < nG f (x + 1) := by
        have := fP_pos f
        by_cases c2 : x + 1 < 2 ^ (fP f + 1)
        · rw [(nG_small c2).1]; omega
        · obtain ⟨j, X, j1, j2, j3, j4, j5, j6⟩ := nG_big (f := f) (g := x + 1) (by omega)
          have : 2 ^ 23 ≤ 2 ^ fP f := Nat.pow_le_pow_right (by decide) (fmt_le f).1
          omega
      have := Nat.mul_le_mul hn hi
      omega
    rw [if_neg (by omega), if_pos h1, if_neg c]
    exact down_one f (by omega) hI

end Go.Proofs.Ytbnmnkofekcodaa.N

/- What the four modes make of one number: up is not below near, near not below down. Conditions: none. -/
namespace Go.Proofs.Ytbnmnkofekcodaa.N
set_option linter.unusedVariables false
set_option linter.unusedSimpArgs false
open Go Go.Ab

/-- Four results, up, near, down and zero, as the law wants them. -/
def MO (f : Int) (u n d z : Nat) : Prop :=
  (kd f n = 0 ∧ u = n ∧ n = d ∧ d = z) ∨
  (kd f u ≠ 0 ∧ kd f n ≠ 0 ∧ kd f d ≠ 0 ∧ rank f n ≤ rank f u ∧ rank f d ≤ rank f n ∧ (n = u ∨ n = d) ∧ (z = u ∨ z = d) ∧
    (rank f u = rank f d ∨ FinS f d = false ∨ rank f u ≤ rank f (AddS f 1 d 1)))

theorem MO_const (f : Int) (c : Nat) : MO f c c c c := by
  by_cases h : kd f c = 0
  · exact .inl ⟨h, rfl, rfl, rfl⟩
  · exact .inr ⟨h, h, h, Int.le_refl _, Int.le_refl _, .inl rfl, .inl rfl, .inl rfl⟩

theorem rank_sg {f : Int} (s : Bool) {x : Nat} (h : x ≤ fI f) : rank f (sg f s + x) = (if s then -((x : Nat) : Int) else ((x : Nat) : Int)) ∧ kd f (sg f s + x) ≠ 0 := by
  have hB := (fB_double f).2
  have hg := gg_sg (f := f) s (x := x) (by omega)
  constructor
  · unfold rank; rw [hg.1, hg.2.1]
  · rw [kd_sg s (by omega), if_neg (by omega)]
    split
    · decide
    · split <;> decide

/-- Above 0: down and zero are x, up is x or the next one. -/
theorem MO_pos (f : Int) {x u n : Nat} (h : x < fI f) (h1 : u = x ∨ u = x + 1) (h2 : n = u ∨ n = x) : MO f (sg f false + u) (sg f false + n) (sg f false + x) (sg f false + x) := by
  have r1 := rank_sg (f := f) false (x := x) (by omega)
  have r2 := rank_sg (f := f) false (x := u) (by omega)
  have r3 := rank_sg (f := f) false (x := n) (by omega)
  simp only [Bool.false_eq_true, if_false] at r1 r2 r3
  refine .inr ⟨r2.2, r3.2, r1.2, by rw [r2.1, r3.1]; omega, by rw [r1.1, r3.1]; omega, ?_, .inr rfl, ?_⟩
  · rcases h2 with h | h
    · exact .inl (by rw [h])
    · exact .inr (by rw [h])
  · rcases h1 with rfl | rfl
    · exact .inl rfl
    · rw [next_up f h]
      exact .inr (.inr (Int.le_refl _))

/-- Below 0: up and zero are x, down is x or the next one. -/
theorem MO_neg (f : Int) {x d n : Nat} (h : x < fI f) (h1 : d = x ∨ d = x + 1) (h2 : n = d ∨ n = x) : MO f (sg f true + x) (sg f true + n) (sg f true + d) (sg f true + x) := by
  have hB := (fB_double f).2
  have r1 := rank_sg (f := f) true (x := x) (by omega)
  have r2 := rank_sg (f := f) true (x := d) (by omega)
  have r3 := rank_sg (f := f) true (x := n) (by omega)
  simp only [if_true] at r1 r2 r3
  refine .inr ⟨r1.2, r3.2, r2.2, by rw [r1.1, r3.1]; omega, by rw [r2.1, r3.1]; omega, ?_, .inl rfl, ?_⟩
  · rcases h2 with h | h
    · exact .inr (by rw [h])
    · exact .inl (by rw [h])
  · rcases h1 with rfl | rfl
    · exact .inl rfl
    · by_cases c : x + 1 = fI f
      · refine .inr (.inl ?_)
        unfold FinS
        rw [kd_sg true (by omega), if_neg (by omega), if_pos c]; rfl
      · rw [next_down f (by omega)]
        refine .inr (.inr ?_)
        rw [r1.1]
        by_cases c2 : x = 0
        · rw [if_pos c2]
          have r0 := rank_sg (f := f) false (x := 0) (by omega)
          have e0 : sg f false + 0 = 0 := rfl
          rw [e0] at r0
          rw [r0.1, c2]; decide
        · rw [if_neg c2, r1.1]; exact Int.le_refl _

theorem clip_pos (f : Int) (g : Nat) (o h r : Bool) : ∃ x u n, x < fI f ∧ (u = x ∨ u = x + 1) ∧ (n = u ∨ n = x) ∧
    clip f 1 false (g + (more 1 false o h r).toNat) = u ∧ clip f 0 false (g + (more 0 false o h r).toNat) = n ∧ clip f 2 false (g + (more 2 false o h r).toNat) = x ∧ clip f 3 false (g + (more 3 false o h r).toNat) = x := by
  have hI : 0 < fI f := Nat.lt_of_le_of_lt (Nat.zero_le _) (fI_pos f)
  refine ⟨_, _, _, ?_, ?_, ?_, rfl, rfl, rfl, ?_⟩ <;> unfold clip more <;> cases o <;> cases h <;> cases r <;> simp <;> (repeat' split) <;> omega

theorem clip_neg (f : Int) (g : Nat) (o h r : Bool) : ∃ x d n, x < fI f ∧ (d = x ∨ d = x + 1) ∧ (n = d ∨ n = x) ∧
    clip f 1 true (g + (more 1 true o h r).toNat) = x ∧ clip f 0 true (g + (more 0 true o h r).toNat) = n ∧ clip f 2 true (g + (more 2 true o h r).toNat) = d ∧ clip f 3 true (g + (more 3 true o h r).toNat) = x := by
  have hI : 0 < fI f := Nat.lt_of_le_of_lt (Nat.zero_le _) (fI_pos f)
  refine ⟨_, _, _, ?_, ?_, ?_, rfl, rfl, rfl, ?_⟩ <;> unfold clip more <;> cases o <;> cases h <;> cases r <;> simp <;> (repeat' split) <;> omega

theorem MO_Rd (f : Int) (s : Bool) (N : Nat) (e : Int) (r : Bool) : MO f (Rd f 1 s N e r) (Rd f 0 s N e r) (Rd f 2 s N e r) (Rd f 3 s N e r) := by
  unfold Rd
  split
  · exact MO_const _ _
  · unfold enc gOf
    cases s with
    | false =>
      obtain ⟨x, u, n, h1, h2, h3, h4, h5, h6, h7⟩ := clip_pos f ((lastOf f N e - fL f).toNat * 2 ^ fP f + qd N (lastOf f N e - e)) (qd N (lastOf f N e - e) % 2 == 1) (hd N (lastOf f N e - e)) (r || rs N (lastOf f N e - e))
      rw [h4, h5, h6, h7]
      exact MO_pos f h1 h2 h3
    | true =>
      obtain ⟨x, u, n, h1, h2, h3, h4, h5, h6, h7⟩ := clip_neg f ((lastOf f N e - fL f).toNat * 2 ^ fP f + qd N (lastOf f N e - e)) (qd N (lastOf f N e - e) % 2 == 1) (hd N (lastOf f N e - e)) (r || rs N (lastOf f N e - e))
      rw [h4, h5, h6, h7]
      exact MO_neg f h1 h2 h3

theorem MO_zero (f : Int) : MO f (sg f false) (sg f false) (sg f true) (sg f false) := by
  have r1 := rank_sg (f := f) false (x := 0) (by omega)
  have r2 := rank_sg (f := f) true (x := 0) (by omega)
  rw [Nat.add_zero] at r1 r2
  simp only [if_true, Bool.false_eq_true, if_false] at r1 r2
  exact .inr ⟨r1.2, r1.2, r2.2, Int.le_refl _, by rw [r1.1, r2.1]; decide, .inl rfl, .inl rfl, .inl (by rw [r1.1, r2.1]; decide)⟩

theorem MO_AddX (f : Int) (bx : Bool) (X : Nat) (ex : Int) (by' : Bool) (Y : Nat) (ey : Int) : MO f (AddX f 1 bx X ex by' Y ey) (AddX f 0 bx X ex by' Y ey) (AddX f 2 bx X ex by' Y ey) (AddX f 3 bx X ex by' Y ey) := by
  unfold AddX
  dsimp only
  split
  · exact MO_Rd ..
  · split
    · exact MO_zero f
    · split
      · exact MO_Rd ..
      · exact MO_Rd ..

theorem MO_AddS (f : Int) (a b : Nat) : MO f (AddS f 1 a b) (AddS f 0 a b) (AddS f 2 a b) (AddS f 3 a b) := by
  unfold AddS
  split
  · exact MO_const _ _
  · split
    · exact MO_const _ _
    · split
      · exact MO_const _ _
      · exact MO_AddX ..

theorem MO_MulS (f : Int) (a b : Nat) : MO f (MulS f 1 a b) (MulS f 0 a b) (MulS f 2 a b) (MulS f 3 a b) := by
  unfold MulS
  split
  · exact MO_const _ _
  · split
    · exact MO_const _ _
    · exact MO_Rd ..

theorem MO_DivS (f : Int) (a b : Nat) : MO f (DivS f 1 a b) (DivS f 0 a b) (DivS f 2 a b) (DivS f 3 a b) := by
  unfold DivS DivX
  split
  · exact MO_const _ _
  · split
    · exact MO_const _ _
    · split
      · exact MO_const _ _
      · exact MO_Rd ..

theorem MO_byS (op f : Int) (a b : Nat) : MO f (byS op f 1 a b) (byS op f 0 a b) (byS op f 2 a b) (byS op f 3 a b) := by
  unfold byS
  split
  · exact MO_AddS ..
  · split
    · exact MO_AddS ..
    · split
      · exact MO_MulS ..
      · exact MO_DivS ..

end Go.Proofs.Ytbnmnkofekcodaa.N
