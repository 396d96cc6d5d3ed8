/- What the laws of package soft share. Conditions: none. -/
import Derived.Test.YtbnmnkofekcodaaMt
import Derived.Test.YtbnmnkofekcodaaMs
import Derived.Test.YtbnmnkofekcodaaNlaw
import Derived.Test.YtbnmnkofekcodaaEng2
import Derived.Test.YtbnmnkofekcodaaMb
import Derived.Test.YtbnmnkofekcodaaMr
namespace Go.Proofs.Ytbnmnkofekcodaa.N
set_option linter.unusedVariables false
set_option linter.unusedSimpArgs false
open Go Go.Ab

theorem live_k {R : Type} {k : Nat} (hk : 5000 ≤ k) (K : Bool → Option R) : plumblinelaw02_live k K = K true := by
  unfold plumblinelaw02_live plumblinelaw02_liveT
  have d1 : DivS 0 0 4607182418800017408 4613937818241073152 = 4599676419421066581 := by decide +kernel
  have d2 : DivS 0 1 4607182418800017408 4613937818241073152 = 4599676419421066582 := by decide +kernel
  have d3 : AddS 0 0 4607182418800017408 4607182418800017408 = 4611686018427387904 := by decide +kernel
  have l1 : (4607182418800017408 : Int) = ((4607182418800017408 : Nat) : Int) := rfl
  have l2 : (4613937818241073152 : Int) = ((4613937818241073152 : Nat) : Int) := rfl
  have q1 : (((4599676419421066581 : Nat) : Int) == 4599676419421066581) = true := by decide
  have q2 : (((4599676419421066582 : Nat) : Int) == 4599676419421066582) = true := by decide
  have q3 : (((4611686018427387904 : Nat) : Int) == 4611686018427387904) = true := by decide
  rw [l1, l2, Div_k hk 0 0 (by decide) (by decide), d1, q1, cond_true, Div_k hk 0 1 (by decide) (by decide), d2, q2, cond_true, Add_k 0 0 (by decide) (by decide), d3, q3]

end Go.Proofs.Ytbnmnkofekcodaa.N

/- A format that is none counts as a Double. Conditions: none. -/
namespace Go.Proofs.Ytbnmnkofekcodaa.N
set_option linter.unusedVariables false
set_option linter.unusedSimpArgs false
open Go Go.Ab

/-- A format that is one. -/
def fm (f : Int) : Int := if f = 1 then 1 else 0
theorem fm_P (f : Int) : fP (fm f) = fP f ∧ fE (fm f) = fE f ∧ fL (fm f) = fL f ∧ (fm f = 1 ↔ f = 1) := by
  unfold fm fP fE fL
  by_cases h : f = 1 <;> simp [h]
theorem fP_fm (f : Int) : fP (fm f) = fP f := (fm_P f).1
theorem fE_fm (f : Int) : fE (fm f) = fE f := (fm_P f).2.1
theorem fL_fm (f : Int) : fL (fm f) = fL f := (fm_P f).2.2.1
theorem bad_fm (f : Int) (a : Nat) : bad (fm f) a = bad f a := by unfold bad; rw [Bool.eq_iff_iff]; simp only [decide_eq_true_eq, (fm_P f).2.2.2]
theorem fB_fm (f : Int) : fB (fm f) = fB f := by unfold fB; rw [fP_fm, fE_fm]
theorem fI_fm (f : Int) : fI (fm f) = fI f := by unfold fI; rw [fP_fm, fE_fm]
theorem sg_fm (f : Int) (b : Bool) : sg (fm f) b = sg f b := by unfold sg; rw [fB_fm]
theorem NAN_fm (f : Int) : NAN (fm f) = NAN f := by unfold NAN; rw [fI_fm, fP_fm]
theorem gg_fm (f : Int) (a : Nat) : gg (fm f) a = gg f a := by unfold gg; rw [fB_fm]
theorem kd_fm (f : Int) (a : Nat) : kd (fm f) a = kd f a := by unfold kd; rw [bad_fm, fI_fm, gg_fm]
theorem bw_fm (f : Int) (a : Nat) : bw (fm f) a = bw f a := by unfold bw; rw [bad_fm, fB_fm]
theorem nn_fm (f : Int) (a : Nat) : nn (fm f) a = nn f a := by unfold nn nG; rw [kd_fm, gg_fm, fP_fm]
theorem ee_fm (f : Int) (a : Nat) : ee (fm f) a = ee f a := by unfold ee eG; rw [kd_fm, gg_fm, fP_fm, fL_fm]
theorem clip_fm (f m : Int) (b : Bool) (g : Nat) : clip (fm f) m b g = clip f m b g := by unfold clip; rw [fI_fm]
theorem gOf_fm (f m : Int) (b : Bool) (l : Int) (q : Nat) (h r : Bool) : gOf (fm f) m b l q h r = gOf f m b l q h r := by unfold gOf; rw [fL_fm, fP_fm]
theorem enc_fm (f m : Int) (b : Bool) (l : Int) (q : Nat) (h r : Bool) : enc (fm f) m b l q h r = enc f m b l q h r := by unfold enc; rw [sg_fm, clip_fm, gOf_fm]
theorem lastOf_fm (f : Int) (N : Nat) (e : Int) : lastOf (fm f) N e = lastOf f N e := by unfold lastOf; rw [fP_fm, fL_fm]
theorem Rd_fm (f m : Int) (b : Bool) (N : Nat) (e : Int) (r : Bool) : Rd (fm f) m b N e r = Rd f m b N e r := by unfold Rd; rw [sg_fm, lastOf_fm, enc_fm]
theorem AddX_fm (f m : Int) (bx : Bool) (X : Nat) (ex : Int) (by' : Bool) (Y : Nat) (ey : Int) : AddX (fm f) m bx X ex by' Y ey = AddX f m bx X ex by' Y ey := by unfold AddX; simp only [Rd_fm, sg_fm]
theorem NegS_fm (f : Int) (a : Nat) : NegS (fm f) a = NegS f a := by unfold NegS; rw [kd_fm, NAN_fm, fB_fm]
theorem AbsS_fm (f : Int) (a : Nat) : AbsS (fm f) a = AbsS f a := by unfold AbsS; rw [kd_fm, NAN_fm, gg_fm]
theorem FinS_fm (f : Int) (a : Nat) : FinS (fm f) a = FinS f a := by unfold FinS; rw [kd_fm]
theorem ClassS_fm (f : Int) (a : Nat) : ClassS (fm f) a = ClassS f a := by unfold ClassS; rw [bad_fm, kd_fm, gg_fm, fP_fm]
theorem CmpS_fm (f : Int) (a b : Nat) : CmpS (fm f) a b = CmpS f a b := by unfold CmpS rank; rw [kd_fm, kd_fm, bw_fm, bw_fm, gg_fm, gg_fm]
theorem AddS_fm (f m : Int) (a b : Nat) : AddS (fm f) m a b = AddS f m a b := by unfold AddS; rw [kd_fm, kd_fm, bw_fm, bw_fm, NAN_fm, AddX_fm, nn_fm, nn_fm, ee_fm, ee_fm]
theorem MulS_fm (f m : Int) (a b : Nat) : MulS (fm f) m a b = MulS f m a b := by unfold MulS; rw [kd_fm, kd_fm, bw_fm, bw_fm, NAN_fm, Rd_fm, nn_fm, nn_fm, ee_fm, ee_fm, sg_fm, fI_fm]
theorem DivS_fm (f m : Int) (a b : Nat) : DivS (fm f) m a b = DivS f m a b := by unfold DivS DivX; rw [kd_fm, kd_fm, bw_fm, bw_fm, NAN_fm, Rd_fm, nn_fm, nn_fm, ee_fm, ee_fm, sg_fm, fI_fm]

end Go.Proofs.Ytbnmnkofekcodaa.N

/- The laws' format. Conditions: none. -/
namespace Go.Proofs.Ytbnmnkofekcodaa.N
set_option linter.unusedVariables false
set_option linter.unusedSimpArgs false
open Go Go.Ab

theorem format_k {R : Type} (k : Nat) (f : Int) (K : Int → Option R) : plumblinelaw02_format k f K = K (fm f) := by
  unfold plumblinelaw02_format plumblinelaw02_formatT fm
  by_cases h : f = 1
  · subst h; rfl
  · have : (f == 1) = false := by rw [beq_eq_false_iff_ne]; exact h
    rw [this, cond_false, if_neg h]

end Go.Proofs.Ytbnmnkofekcodaa.N

/- Roots of package soft. Conditions: none. -/
namespace Go.Proofs.Ytbnmnkofekcodaa.N
set_option linter.unusedVariables false
set_option linter.unusedSimpArgs false
open Go Go.Ab

noncomputable def rt (A : Nat) : Nat := Classical.choose (root_exists A)
theorem rt_spec (A : Nat) : IsRoot A (rt A) := Classical.choose_spec (root_exists A)

/-- How far a number is moved up ahead of its root. -/
def shOf (X : Nat) (e : Int) : Nat := if (e - (126 - bl X : Nat)) % 2 = 0 then 126 - bl X else 126 - bl X + 1

noncomputable def SqX (f m : Int) (X : Nat) (e : Int) : Nat :=
  Rd f m false (rt (X * 2 ^ shOf X e)) ((e - (shOf X e : Nat)) / 2) (decide (X * 2 ^ shOf X e - rt (X * 2 ^ shOf X e) * rt (X * 2 ^ shOf X e) ≠ 0))

noncomputable def SqS (f m : Int) (a : Nat) : Nat :=
  if kd f a = 2 then a else if kd f a = 0 then NAN f else if bw f a = true then NAN f else if kd f a = 1 then a else SqX f m (nn f a) (ee f a)

theorem rt_lt {A : Nat} (h : A < 2 ^ 128) : rt A < 2 ^ 64 := (rt_spec A).lt (by rw [← Nat.pow_add]; exact h)

theorem sh_bounds {X : Nat} (e : Int) (h0 : 0 < X) (hX : X < 2 ^ 53) : 73 ≤ shOf X e ∧ shOf X e ≤ 126 ∧ X * 2 ^ shOf X e < 2 ^ 128 ∧ 2 ^ 125 ≤ X * 2 ^ shOf X e := by
  have b1 := bl_pos h0
  have b2 : bl X ≤ 53 := bl_le_iff.2 hX
  have s1 : 126 - bl X ≤ shOf X e ∧ shOf X e ≤ 127 - bl X := by unfold shOf; split <;> omega
  refine ⟨by omega, by omega, ?_, ?_⟩
  · have := (Nat.mul_lt_mul_right (Nat.two_pow_pos (shOf X e))).2 (bl_up X)
    rw [← Nat.pow_add] at this
    exact Nat.lt_of_lt_of_le this (Nat.pow_le_pow_right (by decide) (by omega))
  · have := Nat.mul_le_mul_right (2 ^ shOf X e) (bl_low h0)
    rw [← Nat.pow_add] at this
    exact Nat.le_trans (Nat.pow_le_pow_right (by decide) (by omega)) this

theorem sh_even (X : Nat) (e : Int) : ∃ q : Int, e - (shOf X e : Nat) = 2 * q := by
  refine ⟨(e - (shOf X e : Nat)) / 2, ?_⟩
  have : (e - (shOf X e : Nat)) % 2 = 0 := by unfold shOf; split <;> omega
  omega

theorem half_even {x q : Int} (h : x = 2 * q) : Int.tdiv x 2 = x / 2 := by
  rw [h, Int.mul_tdiv_cancel_left q (by decide), Int.mul_ediv_cancel_left q (by decide)]

theorem rt_pos {A : Nat} (h : 0 < A) : 0 < rt A := by
  refine Nat.pos_of_ne_zero fun h0 => ?_
  have := (rt_spec A).2
  rw [h0] at this
  omega

theorem flag_hl (D : Nat) : (!((hi D == 0) && (lo D == 0))) = decide (D ≠ 0) := by
  have := hl_beq (A := D) (B := 0)
  rw [show hi 0 = 0 from by decide, show lo 0 = 0 from by decide] at this
  rw [this]
  by_cases c : D = 0
  · rw [c]; rfl
  · rw [decide_eq_true c, beq_eq_false_iff_ne.2 c]; rfl

theorem sq_core {R : Type} {k : Nat} (hk : 5000 ≤ k) (f m : Int) {X : Nat} {e : Int} (h0 : 0 < X) (hX : X < 2 ^ 53) (he : -1074 ≤ e) (he2 : e ≤ 1897) {sh : Nat} (hsh : sh = shOf X e) (K : Int → Option R) :
    wide_Shl k 0 (X : Int) (sh : Int) (fun r11 r12 => wide_Sqrt k r11 r12 (fun r13 r14 r15 =>
      soft_shape_round k ((fP f : Nat) : Int) ((fE f : Nat) : Int) (fL f) m false 0 r13 (Wi64 (Int.tdiv (Wi64 (e - (sh : Int))) 2)) (!((r14 == 0) && (r15 == 0))) (fun r16 => K r16))) = K ((SqX f m X e : Nat) : Int) := by
  obtain ⟨b1, b2, b3, b4⟩ := sh_bounds e h0 hX
  obtain ⟨q, hq⟩ := sh_even X e
  subst hsh
  have hX64 : X < 2 ^ 64 := Nat.lt_trans hX (by decide)
  have hwf : (Lit.int .i64 ((shOf X e : Nat) : Int)).wf = true := wf_nat (by omega)
  rw [Shl_64 k hX64 hwf, Int.toNat_natCast, Nat.mod_eq_of_lt b3, Sqrt_hl hk b3 (rt_spec _), flag_hl]
  have w : Wi64 (Int.tdiv (Wi64 (e - (shOf X e : Nat))) 2) = (e - (shOf X e : Nat)) / 2 := by
    rw [wrap_i64 (x := e - (shOf X e : Nat)) (by omega) (by omega), half_even hq, wrap_i64 (by omega) (by omega)]
  have hr := round_k (R := R) k f m false (N := rt (X * 2 ^ shOf X e)) (e := (e - (shOf X e : Nat)) / 2) (Nat.lt_trans (rt_lt b3) (by decide)) (by omega) (by omega)
    (rest := decide (X * 2 ^ shOf X e - rt (X * 2 ^ shOf X e) * rt (X * 2 ^ shOf X e) ≠ 0)) (.inl (rt_pos (Nat.lt_of_lt_of_le (by decide) b4))) K
  rw [hi_small (rt_lt b3), lo_small (rt_lt b3)] at hr
  rw [w]
  exact hr

theorem sq_fin {R : Type} {k : Nat} (hk : 5000 ≤ k) (f m : Int) {X : Nat} {e : Int} (h0 : 0 < X) (hX : X < 2 ^ 53) (he : -1074 ≤ e) (he2 : e ≤ 1897) (K : Int → Option R) :
    wide_Len k 0 (X : Int) (fun r25 => cond ((Int.tmod (Wi64 (e - (Wi64 (126 - r25)))) 2) != 0)
      (wide_Shl k 0 (X : Int) (Wi64 ((Wi64 (126 - r25)) + 1)) (fun r26 r27 => wide_Sqrt k r26 r27 (fun r28 r29 r30 =>
        soft_shape_round k ((fP f : Nat) : Int) ((fE f : Nat) : Int) (fL f) m false 0 r28 (Wi64 (Int.tdiv (Wi64 (e - (Wi64 ((Wi64 (126 - r25)) + 1)))) 2)) (!((r29 == 0) && (r30 == 0))) (fun r31 => K r31))))
      (wide_Shl k 0 (X : Int) (Wi64 (126 - r25)) (fun r32 r33 => wide_Sqrt k r32 r33 (fun r34 r35 r36 =>
        soft_shape_round k ((fP f : Nat) : Int) ((fE f : Nat) : Int) (fL f) m false 0 r34 (Wi64 (Int.tdiv (Wi64 (e - (Wi64 (126 - r25)))) 2)) (!((r35 == 0) && (r36 == 0))) (fun r37 => K r37))))) = K ((SqX f m X e : Nat) : Int) := by
  have hX64 : X < 2 ^ 64 := Nat.lt_trans hX (by decide)
  have b2 : bl X ≤ 53 := bl_le_iff.2 hX
  have w1 : Wi64 (126 - ((bl X : Nat) : Int)) = ((126 - bl X : Nat) : Int) := (wrap_i64 (by omega) (by omega)).trans (by omega)
  have w2 : Wi64 (((126 - bl X : Nat) : Int) + 1) = ((126 - bl X + 1 : Nat) : Int) := (wrap_i64 (by omega) (by omega)).trans (by omega)
  have w3 : Wi64 (e - ((126 - bl X : Nat) : Int)) = e - ((126 - bl X : Nat) : Int) := wrap_i64 (by omega) (by omega)
  rw [Len_64 k hX64, w1, w2]
  by_cases c : (e - ((126 - bl X : Nat) : Int)) % 2 = 0
  · have t : (Int.tmod (Wi64 (e - ((126 - bl X : Nat) : Int))) 2 != 0) = false := by
      rw [w3]
      have : Int.tmod (e - ((126 - bl X : Nat) : Int)) 2 = 0 := Int.tmod_eq_zero_of_dvd (Int.dvd_of_emod_eq_zero c)
      rw [this]; rfl
    rw [t, cond_false]
    exact sq_core hk f m h0 hX he he2 (by unfold shOf; rw [if_pos c]) K
  · have t : (Int.tmod (Wi64 (e - ((126 - bl X : Nat) : Int))) 2 != 0) = true := by
      rw [w3]
      have : Int.tmod (e - ((126 - bl X : Nat) : Int)) 2 ≠ 0 := fun h => c (Int.emod_eq_zero_of_dvd (Int.dvd_of_tmod_eq_zero h))
      exact bne_iff_ne.2 this
    rw [t, cond_true]
    exact sq_core hk f m h0 hX he he2 (by unfold shOf; rw [if_neg c]) K

theorem nn_posS {f : Int} {a : Nat} (h : kd f a = 3) : 0 < nn f a := by
  have hg : gg f a ≠ 0 := by
    intro h0
    unfold kd at h
    split at h
    · omega
    · split at h
      · omega
      · split at h
        · omega
        · omega
  have hp := Nat.two_pow_pos (fP f)
  unfold nn
  rw [if_pos h]
  unfold nG
  split <;> omega

theorem Sqrt_k {R : Type} {k : Nat} (hk : 5000 ≤ k) (f m : Int) {a : Nat} (ha : a < 2 ^ 64) (K : Int → Option R) : soft_Sqrt k f m (a : Int) K = K ((SqS f m a : Nat) : Int) := by
  unfold soft_Sqrt soft_SqrtT
  rw [apart_k k f ha]
  have n1 := nn_lt64 f a
  have b1 := ee_bounds f a
  unfold SqS
  rcases kd_vals f a with h | h | h | h
  · have e2 : (kd f a == 2) = false := by rw [h]; rfl
    have e1 : (kd f a == 1) = false := by rw [h]; rfl
    have e0 : (kd f a == 0) = true := by rw [h]; rfl
    rw [e2, cond_false, e1, cond_false, e0, cond_true, nan_k, if_neg (show ¬ kd f a = 2 by omega), if_pos h]; rfl
  · have e2 : (kd f a == 2) = false := by rw [h]; rfl
    have e1 : (kd f a == 1) = true := by rw [h]; rfl
    have e0 : (kd f a == 0) = false := by rw [h]; rfl
    rw [e2, cond_false, e1, cond_true, if_neg (show ¬ kd f a = 2 by omega), if_neg (show ¬ kd f a = 0 by omega)]
    cases hb : bw f a with
    | false => rw [Bool.not_false, cond_true, if_neg (by decide), if_pos h]
    | true => rw [Bool.not_true, cond_false, e0, cond_false, cond_true, nan_k, if_pos rfl]; rfl
  · have e2 : (kd f a == 2) = true := by rw [h]; rfl
    rw [e2, cond_true, if_pos h]
  · have e2 : (kd f a == 2) = false := by rw [h]; rfl
    have e1 : (kd f a == 1) = false := by rw [h]; rfl
    have e0 : (kd f a == 0) = false := by rw [h]; rfl
    rw [e2, cond_false, e1, cond_false, e0, cond_false, if_neg (show ¬ kd f a = 2 by omega), if_neg (show ¬ kd f a = 0 by omega)]
    cases hb : bw f a with
    | false =>
      rw [cond_false, if_neg (by decide), if_neg (show ¬ kd f a = 1 by omega)]
      exact sq_fin hk f m (nn_posS h) n1 b1.1 b1.2 K
    | true => rw [cond_true, nan_k, if_pos rfl]; rfl

end Go.Proofs.Ytbnmnkofekcodaa.N

/- The reference: lengths. Conditions: none. -/
namespace Go.Proofs.Ytbnmnkofekcodaa.N
set_option linter.unusedVariables false
set_option linter.unusedSimpArgs false
open Go Go.Ab

theorem refLen_loop {R : Type} (k : Nat) (A : Nat) (hA : A < 2 ^ 128) (K : Int → Option R) : ∀ (m n i : Nat), m + i = 128 → m < n →
    plumblineref01_Len_l0 k n ((bl (A % 2 ^ i) : Nat) : Int) (i : Int) (rowN 128 A.testBit) K = K ((bl A : Nat) : Int)
  | m, 0, i, h1, h2 => by omega
  | 0, n + 1, i, h1, h2 => by
    have : i = 128 := by omega
    subst this
    rw [plumblineref01_Len_l0, plumblineref01_Len_l0B]
    have e0 : ¬ (((128 : Nat) : Int) < 128) := by decide
    simp only [e0, decide_false, cond_false, Nat.mod_eq_of_lt hA]
  | m + 1, n + 1, i, h1, h2 => by
    rw [plumblineref01_Len_l0, plumblineref01_Len_l0B]
    have e0 : ((i : Int) < 128) := by omega
    have e1 : ((0 : Int) ≤ (i : Int)) := by omega
    have e2 : ((i : Int) < ((128 : Nat) : Int)) := by omega
    have e3 : i < 128 := by omega
    have ih := refLen_loop k A hA K m n (i + 1) (by omega) (by omega)
    rw [bl_mod_succ] at ih
    rw [Wi64_succ (by omega)]
    simp only [e0, e1, e2, decide_true, cond_true, rowN_length, Int.toNat_natCast, rowN_get, if_pos e3, Option.bind_some]
    cases hb : A.testBit i with
    | true => rw [hb] at ih; exact ih
    | false => rw [hb] at ih; exact ih

theorem refLen_hl {R : Type} {k A : Nat} (hk : 5000 ≤ k) (hA : A < 2 ^ 128) (K : Int → Option R) : plumblineref01_Len k (hi A) (lo A) K = K ((bl A : Nat) : Int) := by
  unfold plumblineref01_Len plumblineref01_LenT
  rw [Bits_hl hk hA]
  have h := refLen_loop k A hA K 128 k 0 (by omega) (by omega)
  have e : bl (A % 2 ^ 0) = 0 := by rw [Nat.pow_zero, Nat.mod_one]; rfl
  rw [e] at h
  exact h

end Go.Proofs.Ytbnmnkofekcodaa.N
