/- A format that is none counts as a Double. Conditions: none. -/
import Derived.Test.YtelifkahdhhmoaaMs
import Derived.Test.YtelifkahdhhmoaaMd
import Derived.Test.YtelifkahdhhmoaaNconv
import Derived.Test.YtelifkahdhhmoaaRo0
import Derived.Test.YtelifkahdhhmoaaNlaw
import Derived.Test.YtelifkahdhhmoaaEng2
namespace Go.Proofs.Ytelifkahdhhmoaa.N
set_option linter.unusedVariables false
set_option linter.unusedSimpArgs false
open Go Go.Ab

/-- A format that is one. -/
def fm (f : Int) : Int := if f = 1 then 1 else 0
theorem fm_P (f : Int) : fP (fm f) = fP f ∧ fE (fm f) = fE f ∧ fL (fm f) = fL f ∧ (fm f = 1 ↔ f = 1) := by
  unfold fm fP fE fL
  by_cases h : f = 1 <;> simp [h]
theorem fP_fm (f : Int) : fP (fm f) = fP f := (fm_P f).1
theorem fE_fm (f : Int) : fE (fm f) = fE f := (fm_P f).2.1
theorem fL_fm (f : Int) : fL (fm f) = fL f := (fm_P f).2.2.1
theorem bad_fm (f : Int) (a : Nat) : bad (fm f) a = bad f a := by unfold bad; rw [Bool.eq_iff_iff]; simp only [decide_eq_true_eq, (fm_P f).2.2.2]
theorem fB_fm (f : Int) : fB (fm f) = fB f := by unfold fB; rw [fP_fm, fE_fm]
theorem fI_fm (f : Int) : fI (fm f) = fI f := by unfold fI; rw [fP_fm, fE_fm]
theorem sg_fm (f : Int) (b : Bool) : sg (fm f) b = sg f b := by unfold sg; rw [fB_fm]
theorem NAN_fm (f : Int) : NAN (fm f) = NAN f := by unfold NAN; rw [fI_fm, fP_fm]
theorem gg_fm (f : Int) (a : Nat) : gg (fm f) a = gg f a := by unfold gg; rw [fB_fm]
theorem kd_fm (f : Int) (a : Nat) : kd (fm f) a = kd f a := by unfold kd; rw [bad_fm, fI_fm, gg_fm]
theorem bw_fm (f : Int) (a : Nat) : bw (fm f) a = bw f a := by unfold bw; rw [bad_fm, fB_fm]
theorem nn_fm (f : Int) (a : Nat) : nn (fm f) a = nn f a := by unfold nn nG; rw [kd_fm, gg_fm, fP_fm]
theorem ee_fm (f : Int) (a : Nat) : ee (fm f) a = ee f a := by unfold ee eG; rw [kd_fm, gg_fm, fP_fm, fL_fm]
theorem clip_fm (f m : Int) (b : Bool) (g : Nat) : clip (fm f) m b g = clip f m b g := by unfold clip; rw [fI_fm]
theorem gOf_fm (f m : Int) (b : Bool) (l : Int) (q : Nat) (h r : Bool) : gOf (fm f) m b l q h r = gOf f m b l q h r := by unfold gOf; rw [fL_fm, fP_fm]
theorem enc_fm (f m : Int) (b : Bool) (l : Int) (q : Nat) (h r : Bool) : enc (fm f) m b l q h r = enc f m b l q h r := by unfold enc; rw [sg_fm, clip_fm, gOf_fm]
theorem lastOf_fm (f : Int) (N : Nat) (e : Int) : lastOf (fm f) N e = lastOf f N e := by unfold lastOf; rw [fP_fm, fL_fm]
theorem Rd_fm (f m : Int) (b : Bool) (N : Nat) (e : Int) (r : Bool) : Rd (fm f) m b N e r = Rd f m b N e r := by unfold Rd; rw [sg_fm, lastOf_fm, enc_fm]
theorem AddX_fm (f m : Int) (bx : Bool) (X : Nat) (ex : Int) (by' : Bool) (Y : Nat) (ey : Int) : AddX (fm f) m bx X ex by' Y ey = AddX f m bx X ex by' Y ey := by unfold AddX; simp only [Rd_fm, sg_fm]
theorem NegS_fm (f : Int) (a : Nat) : NegS (fm f) a = NegS f a := by unfold NegS; rw [kd_fm, NAN_fm, fB_fm]
theorem AbsS_fm (f : Int) (a : Nat) : AbsS (fm f) a = AbsS f a := by unfold AbsS; rw [kd_fm, NAN_fm, gg_fm]
theorem FinS_fm (f : Int) (a : Nat) : FinS (fm f) a = FinS f a := by unfold FinS; rw [kd_fm]
theorem ClassS_fm (f : Int) (a : Nat) : ClassS (fm f) a = ClassS f a := by unfold ClassS; rw [bad_fm, kd_fm, gg_fm, fP_fm]
theorem CmpS_fm (f : Int) (a b : Nat) : CmpS (fm f) a b = CmpS f a b := by unfold CmpS rank; rw [kd_fm, kd_fm, bw_fm, bw_fm, gg_fm, gg_fm]
theorem AddS_fm (f m : Int) (a b : Nat) : AddS (fm f) m a b = AddS f m a b := by unfold AddS; rw [kd_fm, kd_fm, bw_fm, bw_fm, NAN_fm, AddX_fm, nn_fm, nn_fm, ee_fm, ee_fm]
theorem MulS_fm (f m : Int) (a b : Nat) : MulS (fm f) m a b = MulS f m a b := by unfold MulS; rw [kd_fm, kd_fm, bw_fm, bw_fm, NAN_fm, Rd_fm, nn_fm, nn_fm, ee_fm, ee_fm, sg_fm, fI_fm]
theorem DivS_fm (f m : Int) (a b : Nat) : DivS (fm f) m a b = DivS f m a b := by unfold DivS DivX; rw [kd_fm, kd_fm, bw_fm, bw_fm, NAN_fm, Rd_fm, nn_fm, nn_fm, ee_fm, ee_fm, sg_fm, fI_fm]

end Go.Proofs.Ytelifkahdhhmoaa.N

/- Package conv: what it takes from wide and soft. Conditions: none. -/
namespace Go.Proofs.Ytelifkahdhhmoaa.N
set_option linter.unusedVariables false
set_option linter.unusedSimpArgs false
open Go Go.Ab

theorem or_three_c {X t : Nat} (ht : t < 4) : bOr .u64 (lo (4 * X)) (t : Int) = lo (4 * X + t) := by
  unfold lo
  rw [bOr_nat (lo_lt _) (by omega)]
  have : (4 * X % 2 ^ 64) ||| t = 4 * X % 2 ^ 64 + t := or_add (s := 2) (by omega) ht
  rw [this]; congr 1; omega

theorem hi_three_c {X t : Nat} (ht : t < 4) : hi (4 * X + t) = hi (4 * X) := by
  unfold hi; congr 1; omega

theorem Len_c {R : Type} (k : Nat) {X : Nat} (h : X < 2 ^ 64) (J : Int → Option R) : wide_Len k 0 (X : Int) J = J ((bl X : Nat) : Int) := by
  have := Len_hl k (A := X) (by omega) J
  rw [hi_small h, lo_small h] at this; exact this
theorem Shl_c {R : Type} (k : Nat) {X : Nat} {n : Int} (h : X < 2 ^ 64) (hn : (Lit.int .i64 n).wf = true) (J : Int → Int → Option R) : wide_Shl k 0 (X : Int) n J = J (hi (X * 2 ^ n.toNat % 2 ^ 128)) (lo (X * 2 ^ n.toNat % 2 ^ 128)) := by
  have := Shl_hl k (A := X) (by omega) hn J
  rw [hi_small h, lo_small h] at this; exact this

/-- A power that is not too far. -/
def cec (e : Int) : Int := if e < -4000 then -4000 else if e > 4000 then 4000 else e
theorem cec_bounds (e : Int) : -4000 ≤ cec e ∧ cec e ≤ 4000 := by unfold cec; split <;> (try split) <;> omega
theorem cec_eq (e : Int) : (if 4000 < (if (-4000) > e then (-4000) else e) then 4000 else (if (-4000) > e then (-4000) else e)) = cec e := by
  unfold cec
  by_cases h : e < -4000
  · have : (-4000 : Int) > e := h
    rw [if_pos this, if_pos h]; rfl
  · have : ¬ (-4000 : Int) > e := h
    rw [if_neg this, if_neg h]

theorem Round_c {R : Type} (k : Nat) (f m : Int) (b : Bool) {N : Nat} (hN : N < 2 ^ 128) (e : Int) (x : Bool) (K : Int → Option R) :
    soft_Round k f m b (hi N) (lo N) e x K = K ((Rd f m b (N * 2 ^ 2 + x.toNat) (cec e - ((2 : Nat) : Int)) false : Nat) : Int) := by
  have hf := fmt_le f
  have hc := cec_bounds e
  unfold soft_Round soft_RoundT
  rw [shapeOf_k, cec_eq]
  cases x with
  | false =>
    rw [cond_false, round_k k f m b hN (by omega) (by omega) (.inr rfl)]
    rw [Bool.toNat_false, Nat.add_zero, Rd_scale]
  | true =>
    rw [cond_true, Len_hl k hN]
    by_cases c : ((bl N : Nat) : Int) ≤ 126
    · have hN2 : N < 2 ^ 126 := bl_le_iff.1 (by omega)
      have w : Wi64 (cec e - 2) = cec e - 2 := wrap_i64 (by omega) (by omega)
      have e4 : N * 2 ^ (2 : Int).toNat % 2 ^ 128 = 4 * N := by
        have : (2 : Int).toNat = 2 := rfl
        rw [this]; omega
      rw [decide_eq_true c, cond_true, Shl_hl k hN (by decide), e4, w]
      have o3 := or_three_c (X := N) (t := 1) (by decide)
      have h3 := hi_three_c (X := N) (t := 1) (by decide)
      rw [show (((1 : Nat) : Int)) = 1 from rfl] at o3
      rw [o3, ← h3, round_k k f m b (by omega) (by omega) (by omega) (.inr rfl)]
      have e5 : N * 2 ^ 2 + true.toNat = 4 * N + 1 := by rw [Bool.toNat_true]; omega
      rw [e5]; rfl
    · rw [decide_eq_false c, cond_false]
      have hb : fP f + 2 ≤ bl N := by omega
      have hp : 0 < N := by
        refine Nat.pos_of_ne_zero fun h => ?_
        subst h
        exact c (by decide)
      rw [round_k k f m b hN (by omega) (by omega) (.inl hp), Bool.toNat_true, Rd_stick f m b (cec e) hb (by decide) (by decide)]


theorem Round64 {R : Type} (k : Nat) (f m : Int) (b : Bool) {X : Nat} (hX : X < 2 ^ 64) {e : Int} (h1 : -4000 ≤ e) (h2 : e ≤ 4000) (K : Int → Option R) :
    soft_Round k f m b 0 (X : Int) e false K = K ((Rd f m b X e false : Nat) : Int) := by
  have h := Round_c k f m b (N := X) (by omega) e false K
  have hc : cec e = e := by unfold cec; rw [if_neg (by omega), if_neg (by omega)]
  rw [hi_small hX, lo_small hX, hc, Bool.toNat_false, Nat.add_zero, Rd_scale] at h
  exact h

theorem kd2_c {f : Int} {c : Nat} (h : kd f c = 2) : gg f c = 0 := by
  unfold kd at h
  split at h
  · cases h
  · split at h
    · cases h
    · split at h
      · cases h
      · split at h
        · assumption
        · cases h

theorem cbelow_k {R : Type} (k : Nat) (f : Int) {a : Nat} (ha : a < 2 ^ 64) (hb : bad f a = false) (K : Bool → Option R) : conv_below k f (a : Int) K = K (bw f a) := by
  have h2 := lt_2B ha hb
  have hf := fmt_le f
  have key : (bAnd .u64 (shr .u64 (a : Int) ((fP f + fE f : Nat) : Int)) 1 == 1) = bw f a := by
    rw [shr_pow (by omega), odd_eq (Nat.lt_of_le_of_lt (Nat.div_le_self _ _) ha)]
    unfold bw
    rw [hb]
    have hB : 0 < fB f := Nat.two_pow_pos _
    show (a / fB f % 2 == 1) = decide (fB f ≤ a)
    by_cases c : fB f ≤ a
    · have : a / fB f = 1 := Nat.div_eq_of_lt_le (by omega) (by omega)
      rw [this, decide_eq_true c]; rfl
    · rw [Nat.div_eq_of_lt (by omega), decide_eq_false c]; rfl
  unfold conv_below conv_belowT conv_bits conv_bitsT
  by_cases h : f = 1
  · subst h
    have w : Wi64 (32 - 1) = ((fP 1 + fE 1 : Nat) : Int) := by decide
    rw [show ((1 : Int) == 1) = true from rfl, cond_true]
    dsimp only
    rw [w, decide_eq_false (by decide), cond_false, key]
  · have e : (f == 1) = false := by rw [beq_eq_false_iff_ne]; exact h
    have hp : fP f + fE f = 63 := by rcases fmt f with ⟨h1, _⟩ | ⟨_, h1, h2, _⟩ <;> omega
    rw [hp] at key
    have w : Wi64 (64 - 1) = ((63 : Nat) : Int) := by decide
    rw [e, cond_false]
    dsimp only
    rw [w, decide_eq_false (by decide), cond_false, key]

end Go.Proofs.Ytelifkahdhhmoaa.N

/- Package conv: floats in the other format, ints, neighbours. Conditions: none. -/
namespace Go.Proofs.Ytelifkahdhhmoaa.N
set_option linter.unusedVariables false
set_option linter.unusedSimpArgs false
open Go Go.Ab

theorem e2_bnd (f : Int) (a : Nat) : -1074 ≤ e2 f a ∧ e2 f a ≤ 1897 := by
  have := fmt_le f
  have := ee_bounds f a
  unfold e2; split <;> omega

theorem cfraction_k {R : Type} (k : Nat) (f : Int) (J : Int → Int → Option R) : conv_fraction k f J = J ((fP f : Nat) : Int) (fL f) := by
  unfold conv_fraction conv_fractionT fP fL
  by_cases h : f = 1
  · subst h; rfl
  · have : (f == 1) = false := by rw [beq_eq_false_iff_ne]; exact h
    rw [this]; simp [h]

theorem cvalue_k {R : Type} (k : Nat) (f : Int) {a : Nat} (ha : a < 2 ^ 64) (hk : 2 ≤ kd f a) (K : Int → Int → Option R) : conv_value k f (a : Int) K = K ((nn f a : Nat) : Int) (e2 f a) := by
  unfold conv_value conv_valueT
  have hf := fmt_le f
  have hp := fP_pos f
  have hg := gg_lt f a
  have hB := fB_le f
  have hA : AbsS f a = gg f a := by unfold AbsS; rw [if_neg (by omega)]
  have nP : ¬ (((fP f : Nat) : Int) < 0) := by omega
  rw [cfraction_k, Abs_k k f ha, hA, decide_eq_false nP, cond_false, cond_false, cond_false, shr_pow (by omega)]
  by_cases c : gg f a < 2 ^ fP f
  · have h0 : gg f a / 2 ^ fP f = 0 := Nat.div_eq_of_lt c
    rw [h0, decide_eq_false (by decide), cond_false]
    rcases kd_vals f a with h | h | h | h
    · omega
    · omega
    · rw [(nn_zero (by rw [h]; decide)).1, kd2_c h]
      have e : e2 f a = fL f := by unfold e2; rw [h]; rfl
      rw [e]
    · have hn : nn f a = gg f a := by unfold nn nG; rw [if_pos h, if_pos c]
      have he : e2 f a = fL f := by unfold e2 ee eG; rw [if_pos h, if_pos h, if_pos c]
      rw [hn, he]
  · have h : kd f a = 3 := by
      rcases kd_vals f a with h | h | h | h
      · omega
      · omega
      · exact absurd (kd2_c h) (by omega)
      · exact h
    have h3 := kd3 h
    have hd : 0 < gg f a / 2 ^ fP f := Nat.div_pos (by omega) hp
    have hM : gg f a % 2 ^ fP f < 2 ^ fP f := Nat.mod_lt _ hp
    have hdl : gg f a / 2 ^ fP f < 2 ^ fE f := by rw [Nat.div_lt_iff_lt_mul hp]; unfold fB at hg; rw [Nat.add_comm, Nat.pow_add] at hg; exact hg
    have hexp2 : 2 ^ fE f ≤ 2 ^ 11 := Nat.pow_le_pow_right (by decide) (by omega)
    have hn : nn f a = gg f a % 2 ^ fP f + 2 ^ fP f := by unfold nn nG; rw [if_pos h, if_neg c, Nat.add_comm]
    have he : e2 f a = ((gg f a / 2 ^ fP f : Nat) : Int) - 1 + fL f := by unfold e2 ee eG; rw [if_pos h, if_pos h, if_neg c]
    have e1 : bOr .u64 ((gg f a % 2 ^ fP f : Nat) : Int) (shl .u64 1 ((fP f : Nat) : Int)) = ((gg f a % 2 ^ fP f + 2 ^ fP f : Nat) : Int) := bit_or hM (by omega)
    have ew : Wi64 (Wi64 (Wi64 ((gg f a / 2 ^ fP f : Nat) : Int) - 1) + fL f) = ((gg f a / 2 ^ fP f : Nat) : Int) - 1 + fL f := by
      rw [Wi64_nat (by omega), wrap_i64 (x := ((gg f a / 2 ^ fP f : Nat) : Int) - 1) (by omega) (by omega), wrap_i64 (by omega) (by omega)]
    rw [decide_eq_true (show ((gg f a / 2 ^ fP f : Nat) : Int) > 0 by omega), cond_true, low_bits (by omega) (by omega), e1, ew, hn, he]

/-- A float in another format. -/
def TurnS (f g m : Int) (a : Nat) : Nat := if kd f a = 0 then NAN g else if kd f a = 1 then sg g (bw f a) + fI g else Rd g m (bw f a) (nn f a) (e2 f a) false

theorem cturned_k {R : Type} (k : Nat) (f g m : Int) {a : Nat} (ha : a < 2 ^ 64) (K : Int → Option R) : conv_turned k f g m (a : Int) K = K ((TurnS f g m a : Nat) : Int) := by
  unfold conv_turned conv_turnedT TurnS
  have hb := e2_bnd f a
  have n1 := nn_lt64 f a
  have hI := fB_double g
  have hIp : 0 < fI g := Nat.lt_of_le_of_lt (Nat.zero_le _) (fI_pos g)
  rw [Finite_k k f ha]
  rcases kd_vals f a with h | h | h | h
  · have e : FinS f a = false := by unfold FinS; rw [h]; rfl
    have c : (ClassS f a != 4) = true := by rw [bne_iff_ne]; intro hh; have := (Class_kd f a).2.1.1 hh; omega
    rw [e, Bool.not_false, cond_true, Class_k k f ha, c, cond_true, Nan_k, if_pos h]
  · have e : FinS f a = false := by unfold FinS; rw [h]; rfl
    have c : (ClassS f a != 4) = false := by rw [(Class_kd f a).2.1.2 h]; rfl
    have w : Wu64 (((fI g - 1 : Nat) : Int) + 1) = ((fI g : Nat) : Int) := by
      rw [show ((fI g - 1 : Nat) : Int) + 1 = ((fI g : Nat) : Int) by omega, Wu64_lt (by omega)]
    rw [e, Bool.not_false, cond_true, Class_k k f ha, c, cond_false, Most_k, cbelow_k k f ha (bad_of_kd (by rw [h]; decide)), w, if_neg (by omega), if_pos h]
    have hN := Neg_sg (f := g) false (x := fI g) (Nat.le_refl _)
    have z : sg g false = 0 := rfl
    rw [z, Nat.zero_add] at hN
    cases bw f a with
    | true => rw [cond_true, Neg_k k g (by omega), hN]; rfl
    | false => rw [cond_false, z, Nat.zero_add]
  · have e : FinS f a = true := by unfold FinS; rw [h]; rfl
    rw [e, Bool.not_true, cond_false, cvalue_k k f ha (by omega), cbelow_k k f ha (bad_of_kd (by rw [h]; decide)), Round64 k g m _ (by omega) (by omega) (by omega), if_neg (by omega), if_neg (by omega)]
  · have e : FinS f a = true := by unfold FinS; rw [h]; rfl
    rw [e, Bool.not_true, cond_false, cvalue_k k f ha (by omega), cbelow_k k f ha (bad_of_kd (by rw [h]; decide)), Round64 k g m _ (by omega) (by omega) (by omega), if_neg (by omega), if_neg (by omega)]

theorem TurnS_lt (f g m : Int) (a : Nat) : TurnS f g m a < 2 ^ 64 := by
  unfold TurnS
  split
  · exact NAN_lt64 g
  · split
    · exact form_lt ⟨_, _, Nat.le_refl _, rfl⟩
    · exact form_lt ⟨_, Rd_form ..⟩

def PlainS (f : Int) (a : Nat) : Nat := if kd f a = 0 then NAN f else if kd f a = 2 then 0 else a

theorem cPlain_k {R : Type} (k : Nat) (f : Int) {a : Nat} (ha : a < 2 ^ 64) (K : Int → Option R) : conv_Plain k f (a : Int) K = K ((PlainS f a : Nat) : Int) := by
  unfold conv_Plain conv_PlainT PlainS
  obtain ⟨c0, c1, c2, c3⟩ := Class_kd f a
  rw [Class_k k f ha, Nan_k]
  by_cases h : kd f a = 0
  · rw [if_pos h]
    rcases c0.2 h with e | e
    · rw [e, show ((5 : Int) == 0) = false from rfl, cond_false, show ((5 : Int) == 5) = true from rfl, cond_true]
    · rw [e, show ((0 : Int) == 0) = true from rfl, cond_true]
  · have d0 : (ClassS f a == 0) = false := by rw [beq_eq_false_iff_ne]; exact fun e => h (c0.1 (.inr e))
    have d5 : (ClassS f a == 5) = false := by rw [beq_eq_false_iff_ne]; exact fun e => h (c0.1 (.inl e))
    rw [if_neg h, d0, cond_false, d5, cond_false]
    by_cases h2 : kd f a = 2
    · rw [c2.2 h2, if_pos h2]; rfl
    · have d1 : (ClassS f a == 1) = false := by rw [beq_eq_false_iff_ne]; exact fun e => h2 (c2.1 e)
      rw [d1, cond_false, if_neg h2]

theorem PlainS_lt (f : Int) {a : Nat} (ha : a < 2 ^ 64) : PlainS f a < 2 ^ 64 := by
  unfold PlainS; split
  · exact NAN_lt64 f
  · split
    · decide
    · exact ha

def NextS (f : Int) (a : Nat) : Nat := if kd f a < 2 then NAN f else if kd f a = 2 then 1 else if bw f a = true then PlainS f (a - 1) else if a = fI f - 1 then a else a + 1

theorem kd3_pos {f : Int} {a : Nat} (h : kd f a = 3) : 0 < a := by
  refine Nat.pos_of_ne_zero fun h0 => ?_
  have := (kd3 h).2.1
  rw [h0] at this
  unfold gg at this
  rw [Nat.zero_mod] at this
  omega

theorem Plain3 {f : Int} {a : Nat} (h : kd f a = 3) : PlainS f a = a := by unfold PlainS; rw [if_neg (by omega), if_neg (by omega)]

theorem bw_pos {f : Int} {a : Nat} (h : bw f a = true) : fB f ≤ a := by
  unfold bw at h; split at h
  · cases h
  · simpa using h

theorem kd3_above {f : Int} {a : Nat} (ha : a < 2 ^ 64) (h : kd f a = 3) (hb : bw f a = false) : a < fI f := by
  have h3 := kd3 h
  have := parts_of ha h3.1
  rw [hb] at this
  have z : sg f false = 0 := rfl
  omega

theorem cNext_k {R : Type} (k : Nat) (f : Int) {a : Nat} (ha : a < 2 ^ 64) (K : Int → Option R) : conv_Next k f (a : Int) K = K ((NextS f a : Nat) : Int) := by
  unfold conv_Next conv_NextT NextS
  have hI := fB_double f
  rw [Finite_k k f ha]
  by_cases h : kd f a < 2
  · have e : FinS f a = false := by unfold FinS; exact decide_eq_false (by omega)
    rw [e, Bool.not_false, cond_true, Nan_k, if_pos h]
  · have e : FinS f a = true := by unfold FinS; exact decide_eq_true (by omega)
    rw [e, Bool.not_true, cond_false, cPlain_k k f ha, if_neg h]
    by_cases h2 : kd f a = 2
    · have p : PlainS f a = 0 := by unfold PlainS; rw [if_neg (by omega), if_pos h2]
      rw [p, if_pos h2]; rfl
    · have h3 : kd f a = 3 := by rcases kd_vals f a with h | h | h | h <;> omega
      have hp := kd3_pos h3
      have d : (((a : Nat) : Int) == 0) = false := by rw [beq_eq_false_iff_ne]; omega
      rw [Plain3 h3, d, cond_false, if_neg h2, cbelow_k k f ha (kd3 h3).1]
      cases hb : bw f a with
      | true =>
        have w : Wu64 ((a : Int) - 1) = ((a - 1 : Nat) : Int) := Wu64_pred hp (by omega)
        rw [cond_true, w, cPlain_k k f (by omega), if_pos rfl]
      | false =>
        have hlt := kd3_above ha h3 hb
        have w : Wu64 ((a : Int) + 1) = ((a + 1 : Nat) : Int) := Wu64_lt (x := a + 1) (by omega)
        rw [cond_false, Most_k, if_neg (by decide), w]
        by_cases c : a = fI f - 1
        · have : (((a : Nat) : Int) == ((fI f - 1 : Nat) : Int)) = true := by rw [beq_iff_eq]; omega
          rw [this, cond_true, if_pos c]
        · have : (((a : Nat) : Int) == ((fI f - 1 : Nat) : Int)) = false := by rw [beq_eq_false_iff_ne]; omega
          rw [this, cond_false, if_neg c]

theorem NextS_lt (f : Int) {a : Nat} (ha : a < 2 ^ 64) : NextS f a < 2 ^ 64 := by
  have hI := fB_double f
  unfold NextS
  split
  · exact NAN_lt64 f
  · split
    · decide
    · split
      · exact PlainS_lt f (by omega)
      · split
        · exact ha
        · rename_i h1 h2 h3 h4
          have : kd f a = 3 := by rcases kd_vals f a with h | h | h | h <;> omega
          have := kd3_above ha this (by simpa using h3)
          omega

def PrevS (f : Int) (a : Nat) : Nat := if kd f a < 2 then NAN f else PlainS f (NegS f (NextS f (NegS f a)))

theorem cPrev_k {R : Type} (k : Nat) (f : Int) {a : Nat} (ha : a < 2 ^ 64) (K : Int → Option R) : conv_Prev k f (a : Int) K = K ((PrevS f a : Nat) : Int) := by
  unfold conv_Prev conv_PrevT PrevS
  have h1 := Neg_lt f ha
  have h2 := NextS_lt f h1
  rw [Finite_k k f ha]
  by_cases h : kd f a < 2
  · have e : FinS f a = false := by unfold FinS; exact decide_eq_false (by omega)
    rw [e, Bool.not_false, cond_true, Nan_k, if_pos h]
  · have e : FinS f a = true := by unfold FinS; exact decide_eq_true (by omega)
    rw [e, Bool.not_true, cond_false, Neg_k k f ha, cNext_k k f h1, Neg_k k f h2, cPlain_k k f (Neg_lt f h2), if_neg h]

/-- An int as a float. -/
def FromS (f m : Int) (n : Int) : Nat := Rd f m (decide (n < 0)) n.natAbs 0 false

theorem cFromInt_k {R : Type} (k : Nat) (f m : Int) {n : Int} (hn : -9223372036854775808 ≤ n ∧ n ≤ 9223372036854775807) (K : Int → Option R) : conv_FromInt k f m n K = K ((FromS f m n : Nat) : Int) := by
  unfold conv_FromInt conv_FromIntT FromS
  by_cases h : n < 0
  · have w : Wu64 (0 - Wu64 n) = ((n.natAbs : Nat) : Int) := by unfold Wu64; rw [wrap_u64, wrap_u64]; omega
    rw [decide_eq_true h, cond_true, w, Round64 k f m _ (by omega) (by omega) (by omega)]
  · have w : Wu64 n = ((n.natAbs : Nat) : Int) := by unfold Wu64; rw [wrap_u64]; omega
    rw [decide_eq_false h, cond_false, w, Round64 k f m _ (by omega) (by omega) (by omega)]

theorem FromS_lt (f m n : Int) : FromS f m n < 2 ^ 64 := form_lt ⟨_, Rd_form ..⟩

end Go.Proofs.Ytelifkahdhhmoaa.N

/- Package conv: hex. Conditions: none. -/
namespace Go.Proofs.Ytelifkahdhhmoaa.N
set_option linter.unusedVariables false
set_option linter.unusedSimpArgs false
open Go Go.Ab

/-! ### Texts -/

theorem toList_loop (bs : ByteArray) : ∀ (n i : Nat) (r : List UInt8), n + i = bs.size → ByteArray.toList.loop bs i r = r.reverse ++ bs.data.toList.drop i
  | 0, i, r, h => by
    rw [ByteArray.toList.loop, if_neg (by omega), List.drop_of_length_le (by rw [Array.length_toList]; show bs.size ≤ i; omega), List.append_nil]
  | n + 1, i, r, h => by
    have hi : i < bs.data.toList.length := by rw [Array.length_toList]; show i < bs.size; omega
    rw [ByteArray.toList.loop, if_pos (by omega), toList_loop bs n (i + 1) _ (by omega), List.reverse_cons, List.append_assoc]
    congr 1
    rw [List.drop_eq_getElem_cons hi]
    show bs.data[i]! :: _ = _
    rw [getElem!_pos bs.data i (by simpa using hi)]
    simp

theorem toList_data (bs : ByteArray) : bs.toList = bs.data.toList := by
  have := toList_loop bs bs.size 0 [] rfl
  simpa [ByteArray.toList] using this

theorem toList_beq (a b : ByteArray) : (a.toList == b.toList) = decide (a = b) := by
  by_cases h : a = b
  · subst h; simp
  · rw [decide_eq_false h, beq_eq_false_iff_ne, toList_data, toList_data]
    intro h2
    exact h (ByteArray.ext (Array.ext' h2))

theorem bytesOf_size (l : List Int) : (bytesOf l).size = l.length := by simp [bytesOf, ByteArray.size]

theorem bytesOf_cons (c : Int) (l : List Int) : bytesOf [c] ++ bytesOf l = bytesOf (c :: l) := by
  apply ByteArray.ext
  rw [ByteArray.data_append]
  simp [bytesOf]

theorem bytesOf_inj : ∀ {l m : List Int}, (∀ x ∈ l, 0 ≤ x ∧ x < 256) → (∀ x ∈ m, 0 ≤ x ∧ x < 256) → bytesOf l = bytesOf m → l = m := by
  intro l m hl hm h
  have h1 : l.map (fun n : Int => UInt8.ofNat n.toNat) = m.map (fun n : Int => UInt8.ofNat n.toNat) := by
    have := congrArg (fun b : ByteArray => b.data.toList) h
    simpa [bytesOf] using this
  have hlen : l.length = m.length := by simpa using congrArg List.length h1
  apply List.ext_getElem hlen
  intro i p q
  have h2 : (l.map (fun n : Int => UInt8.ofNat n.toNat))[i]'(by simpa using p) = (m.map (fun n : Int => UInt8.ofNat n.toNat))[i]'(by simpa using q) := by simp [h1]
  simp only [List.getElem_map] at h2
  have h3 := congrArg UInt8.toNat h2
  have a1 := hl _ (List.getElem_mem p); have a2 := hm _ (List.getElem_mem q)
  simp only [UInt8.toNat_ofNat'] at h3
  omega

/-- A table of ints. -/
def tabI (n : Nat) (f : Nat → Int) : List Int := (List.range n).map f
@[simp] theorem tabI_length (n : Nat) (f : Nat → Int) : (tabI n f).length = n := by simp [tabI]
theorem tabI_get (n : Nat) (f : Nat → Int) (i : Nat) : (tabI n f)[i]? = if i < n then some (f i) else none := by
  unfold tabI
  by_cases h : i < n
  · rw [if_pos h]; simp [h]
  · rw [if_neg h]; simp; omega
theorem tabI_set (n : Nat) (f : Nat → Int) (i : Nat) (b : Int) : (tabI n f).set i b = tabI n (fun j => if j = i then b else f j) := by
  apply List.ext_getElem?
  intro j
  rw [List.getElem?_set, tabI_get, tabI_get, tabI_length]
  by_cases h : i = j
  · subst h; simp
  · have : ¬ j = i := fun e => h e.symm
    simp [h, this]
theorem tabI_congr {n : Nat} {f g : Nat → Int} (h : ∀ i, i < n → f i = g i) : tabI n f = tabI n g := by
  apply List.ext_getElem?
  intro j
  rw [tabI_get, tabI_get]
  by_cases c : j < n
  · rw [if_pos c, if_pos c, h j c]
  · rw [if_neg c, if_neg c]
theorem tabI_zero (n : Nat) : List.replicate n (0 : Int) = tabI n (fun _ => 0) := by
  apply List.ext_getElem?
  intro j
  rw [List.getElem?_replicate, tabI_get]

/-! ### Digits -/

def hexd (d : Nat) : Int := if d < 10 then ((48 + d : Nat) : Int) else ((87 + d : Nat) : Int)
theorem hexd_at : ∀ n : Fin 16, strAt ⟨#[48, 49, 50, 51, 52, 53, 54, 55, 56, 57, 97, 98, 99, 100, 101, 102]⟩ ((n.val : Nat) : Int) = some (hexd n.val) := by decide +kernel
theorem hexd_bnd {d : Nat} (h : d < 16) : 0 ≤ hexd d ∧ hexd d < 256 := by unfold hexd; split <;> omega
theorem hexd_inj {d e : Nat} (h : d < 16) (h' : e < 16) (hh : hexd d = hexd e) : d = e := by unfold hexd at hh; split at hh <;> split at hh <;> omega

theorem and15 {x : Nat} (hx : x < 2 ^ 64) : bAnd .u64 (x : Int) 15 = ((x % 16 : Nat) : Int) := by
  rw [show (15 : Int) = ((2 ^ 4 - 1 : Nat) : Int) from by decide, bAnd_nat hx (by decide), Nat.and_two_pow_sub_one_eq_mod]

theorem chex_loop {R : Type} (k : Nat) {a : Nat} (ha : a < 2 ^ 64) (n : Int) (K : List Int → Option R) : ∀ (m f i : Nat), m + i = 16 → m < f →
    conv_Hex_l0 k f (a : Int) n 16 (i : Int) (tabI 16 fun j => if j < i then hexd (a / 2 ^ (4 * (15 - j)) % 16) else 0) K = K (tabI 16 fun j => hexd (a / 2 ^ (4 * (15 - j)) % 16))
  | m, 0, i, h1, h2 => by omega
  | 0, f + 1, i, h1, h2 => by
    have : i = 16 := by omega
    subst this
    rw [conv_Hex_l0, conv_Hex_l0B, decide_eq_false (by decide), cond_false]
    exact congrArg K (tabI_congr fun j hj => if_pos hj)
  | m + 1, f + 1, i, h1, h2 => by
    rw [conv_Hex_l0, conv_Hex_l0B]
    have e1 : (i : Int) < 16 := by omega
    have w : Wi64 (4 * Wi64 (15 - (i : Int))) = ((4 * (15 - i) : Nat) : Int) := by
      rw [wrap_i64 (x := 15 - (i : Int)) (by omega) (by omega), wrap_i64 (by omega) (by omega)]; omega
    have e2 : ¬ (((4 * (15 - i) : Nat) : Int) < 0) := by omega
    have hq : a / 2 ^ (4 * (15 - i)) < 2 ^ 64 := Nat.lt_of_le_of_lt (Nat.div_le_self _ _) ha
    have hd := hexd_at ⟨a / 2 ^ (4 * (15 - i)) % 16, Nat.mod_lt _ (by decide)⟩
    have e3 : (0 : Int) ≤ (i : Int) := by omega
    have e4 : (i : Int) < ((16 : Nat) : Int) := by omega
    have e5 : i < 16 := by omega
    have ih := chex_loop k ha n K m f (i + 1) (by omega) (by omega)
    rw [decide_eq_true e1, cond_true, w, decide_eq_false e2, cond_false, shr_nat a _ (by omega), and15 hq, hd, Option.bind_some, decide_eq_true e3, cond_true, tabI_length, decide_eq_true e4, cond_true, Int.toNat_natCast, tabI_get, if_pos e5, Option.bind_some, tabI_set, Wi64_succ (by omega)]
    refine Eq.trans ?_ ih
    congr 1
    refine tabI_congr fun j hj => ?_
    by_cases c : j = i
    · subst c; rw [if_pos rfl, if_pos (by omega)]
    · rw [if_neg c]
      by_cases c2 : j < i
      · rw [if_pos c2, if_pos (by omega)]
      · rw [if_neg c2, if_neg (by omega)]

/-- A float's digits. -/
def hexL (f : Int) (a : Nat) : List Int := tabI (if f = 1 then 8 else 16) fun j => hexd (a / 2 ^ (4 * ((if f = 1 then 8 else 16) - 1 - j)) % 16)
def HexS (f : Int) (a : Nat) : ByteArray := bytesOf (hexL f (if bad f a = true then NAN f else a))

theorem tabI_drop (f : Nat → Int) : (tabI 16 f).drop 8 = tabI 8 (fun j => f (8 + j)) := by
  apply List.ext_getElem?
  intro j
  rw [List.getElem?_drop, tabI_get, tabI_get]
  by_cases c : j < 8
  · rw [if_pos c, if_pos (by omega)]
  · rw [if_neg c, if_neg (by omega)]

theorem Class_bad (f : Int) (a : Nat) : (ClassS f a == 0) = bad f a := by
  unfold ClassS
  cases hb : bad f a with
  | true => rw [if_pos rfl]; rfl
  | false =>
    rw [if_neg (by decide)]
    split
    · rfl
    · split
      · rfl
      · split
        · rfl
        · split <;> rfl

theorem cHex_k {R : Type} {k : Nat} (hk : 5000 ≤ k) (f : Int) {a : Nat} (ha : a < 2 ^ 64) (K : ByteArray → Option R) : conv_Hex k f (a : Int) K = K (HexS f a) := by
  unfold conv_Hex conv_HexT conv_bits conv_bitsT HexS
  have loop : ∀ (x : Nat), x < 2 ^ 64 → ∀ (n : Int) (J : List Int → Option R), conv_Hex_l0 k k (x : Int) n (((List.length (List.replicate 16 (0 : Int))) : Nat) : Int) 0 (List.replicate 16 0) J = J (tabI 16 fun j => hexd (x / 2 ^ (4 * (15 - j)) % 16)) := by
    intro x hx n J
    have h := chex_loop (R := R) k hx n J 16 k 0 (by omega) (by omega)
    rw [List.length_replicate, tabI_zero]
    refine Eq.trans ?_ h
    congr 1
  have key : ∀ (x : Nat), x < 2 ^ 64 → ∀ r1 : Int, (r1 = if f = 1 then 32 else 64) →
      conv_Hex_l0 k k (x : Int) (Wi64 (Int.tdiv r1 4)) (((List.length (List.replicate 16 (0 : Int))) : Nat) : Int) 0 (List.replicate 16 0) (fun r4 =>
            cond (decide (16 ≤ (((List.length r4) : Nat) : Int))) (
              cond (decide (0 ≤ (Wi64 (16 - (Wi64 (Int.tdiv r1 4)))))) (
                cond (decide ((Wi64 (16 - (Wi64 (Int.tdiv r1 4)))) ≤ 16)) (
                  cond (decide ((Int.toNat (Wi64 (16 - (Wi64 (Int.tdiv r1 4))))) + (16 - (Int.toNat (Wi64 (16 - (Wi64 (Int.tdiv r1 4)))))) ≤ (List.length r4))) (
                  K (bytesOf (List.take (16 - (Int.toNat (Wi64 (16 - (Wi64 (Int.tdiv r1 4)))))) (List.drop (Int.toNat (Wi64 (16 - (Wi64 (Int.tdiv r1 4))))) r4)))) none) (
                  none)) (
                none)) (
              none)) = K (bytesOf (hexL f x)) := by
    intro x hx r1 hr
    rw [loop x hx, tabI_length, decide_eq_true (show (16 : Int) ≤ ((16 : Nat) : Int) by decide), cond_true]
    unfold hexL
    by_cases h : f = 1
    · rw [if_pos h] at hr
      rw [if_pos h, hr]
      have w : Wi64 (16 - Wi64 (Int.tdiv 32 4)) = 8 := by decide
      rw [w, decide_eq_true (by decide), cond_true, decide_eq_true (by decide), cond_true, decide_eq_true (by decide), cond_true, show (8 : Int).toNat = 8 from rfl, tabI_drop]
      rfl
    · rw [if_neg h] at hr
      rw [if_neg h, hr]
      have w : Wi64 (16 - Wi64 (Int.tdiv 64 4)) = 0 := by decide
      rw [w, decide_eq_true (by decide), cond_true, decide_eq_true (by decide), cond_true, decide_eq_true (by decide), cond_true, show (0 : Int).toNat = 0 from rfl, List.drop_zero]
      rfl
  have fin : ∀ r1 : Int, (r1 = if f = 1 then 32 else 64) → (cond (bad f a) (soft_Nan k f (fun r3 => conv_Hex_l0 k k r3 (Wi64 (Int.tdiv r1 4)) (((List.length (List.replicate 16 (0 : Int))) : Nat) : Int) 0 (List.replicate 16 0) (fun r4 =>
            cond (decide (16 ≤ (((List.length r4) : Nat) : Int))) (
              cond (decide (0 ≤ (Wi64 (16 - (Wi64 (Int.tdiv r1 4)))))) (
                cond (decide ((Wi64 (16 - (Wi64 (Int.tdiv r1 4)))) ≤ 16)) (
                  cond (decide ((Int.toNat (Wi64 (16 - (Wi64 (Int.tdiv r1 4))))) + (16 - (Int.toNat (Wi64 (16 - (Wi64 (Int.tdiv r1 4)))))) ≤ (List.length r4))) (
                  K (bytesOf (List.take (16 - (Int.toNat (Wi64 (16 - (Wi64 (Int.tdiv r1 4)))))) (List.drop (Int.toNat (Wi64 (16 - (Wi64 (Int.tdiv r1 4))))) r4)))) none) (
                  none)) (
                none)) (
              none))))
      (conv_Hex_l0 k k (a : Int) (Wi64 (Int.tdiv r1 4)) (((List.length (List.replicate 16 (0 : Int))) : Nat) : Int) 0 (List.replicate 16 0) (fun r4 =>
            cond (decide (16 ≤ (((List.length r4) : Nat) : Int))) (
              cond (decide (0 ≤ (Wi64 (16 - (Wi64 (Int.tdiv r1 4)))))) (
                cond (decide ((Wi64 (16 - (Wi64 (Int.tdiv r1 4)))) ≤ 16)) (
                  cond (decide ((Int.toNat (Wi64 (16 - (Wi64 (Int.tdiv r1 4))))) + (16 - (Int.toNat (Wi64 (16 - (Wi64 (Int.tdiv r1 4)))))) ≤ (List.length r4))) (
                  K (bytesOf (List.take (16 - (Int.toNat (Wi64 (16 - (Wi64 (Int.tdiv r1 4)))))) (List.drop (Int.toNat (Wi64 (16 - (Wi64 (Int.tdiv r1 4))))) r4)))) none) (
                  none)) (
                none)) (
              none)))) = K (bytesOf (hexL f (if bad f a = true then NAN f else a))) := by
    intro r1 hr
    cases hb : bad f a with
    | true => rw [cond_true, Nan_k, if_pos rfl]; exact key (NAN f) (NAN_lt64 f) r1 hr
    | false => rw [cond_false, if_neg (by decide)]; exact key a ha r1 hr
  rw [← Class_bad] at fin ⊢
  rw [Class_bad f a] at fin
  by_cases h : f = 1
  · have e : (f == 1) = true := beq_iff_eq.2 h
    rw [e, cond_true]
    dsimp only
    rw [Class_k k f ha, Class_bad]
    have := fin 32 (by rw [if_pos h])
    exact this
  · have e : (f == 1) = false := by rw [beq_eq_false_iff_ne]; exact h
    rw [e, cond_false]
    dsimp only
    rw [Class_k k f ha, Class_bad]
    have := fin 64 (by rw [if_neg h])
    exact this

end Go.Proofs.Ytelifkahdhhmoaa.N

/- Floats: the lowest ones. Conditions: none. -/
namespace Go.Proofs.Ytelifkahdhhmoaa.N
set_option linter.unusedVariables false
set_option linter.unusedSimpArgs false
open Go Go.Ab

theorem nG_small {f : Int} {g : Nat} (h : g < 2 ^ (fP f + 1)) : nG f g = g ∧ eG f g = fL f := by
  have hp := fP_pos f
  rw [Nat.pow_succ] at h
  unfold nG eG
  by_cases c : g < 2 ^ fP f
  · rw [if_pos c, if_pos c]; exact ⟨rfl, rfl⟩
  · rw [if_neg c, if_neg c]
    have h1 : g / 2 ^ fP f = 1 := Nat.div_eq_of_lt_le (by omega) (by omega)
    have h2 := Nat.div_add_mod g (2 ^ fP f)
    rw [h1, Nat.mul_one] at h2
    rw [h1]
    refine ⟨by omega, by omega⟩

theorem fI_two (f : Int) : 2 ^ (fP f + 1) < fI f := by
  rcases fmt f with ⟨_, h1, h2, h3⟩ | ⟨_, h1, h2, h3⟩ <;> unfold fI <;> rw [h1, h2] <;> decide

end Go.Proofs.Ytelifkahdhhmoaa.N

/- Package conv: floats as ints. Conditions: none. -/
namespace Go.Proofs.Ytelifkahdhhmoaa.N
set_option linter.unusedVariables false
set_option linter.unusedSimpArgs false
open Go Go.Ab

/-- A finite float without its places. -/
def truncN (f : Int) (a : Nat) : Nat := if e2 f a ≤ 0 then nn f a / 2 ^ (-(e2 f a)).toNat else nn f a * 2 ^ (e2 f a).toNat
def ToS (f : Int) (a : Nat) : Int × Bool :=
  if kd f a < 2 then (0, false) else if 2 ^ 31 < truncN f a ∨ (truncN f a = 2 ^ 31 ∧ bw f a = false) then (0, false) else (if bw f a = true then -((truncN f a : Nat) : Int) else ((truncN f a : Nat) : Int), true)

theorem cto_fin {R : Type} (N : Nat) (b : Bool) (hN : N < 2 ^ 64) (K : Int → Bool → Option R) (below : (Bool → Option R) → Option R) (hb : ∀ J, below J = J b) :
    (cond (decide ((N : Int) > 2147483648)) (K 0 false) (below (fun r7 => cond r7
      (cond (decide ((Wi64 (0 - (Wi64 (N : Int)))) > 2147483647)) (K 0 false) (K (Wi64 (0 - (Wi64 (N : Int)))) true))
      (cond (decide ((Wi64 (N : Int)) > 2147483647)) (K 0 false) (K (Wi64 (N : Int)) true))))) =
    (fun p : Int × Bool => K p.1 p.2) (if 2 ^ 31 < N ∨ (N = 2 ^ 31 ∧ b = false) then (0, false) else (if b = true then -((N : Nat) : Int) else ((N : Nat) : Int), true)) := by
  by_cases h : 2 ^ 31 < N
  · rw [decide_eq_true (by omega), cond_true, if_pos (.inl h)]
  · have w1 : Wi64 (N : Int) = (N : Int) := wrap_i64 (by omega) (by omega)
    have w2 : Wi64 (0 - (N : Int)) = -(N : Int) := by rw [wrap_i64 (by omega) (by omega)]; omega
    rw [decide_eq_false (by omega), cond_false, hb, w1, w2]
    cases b with
    | true => rw [cond_true, decide_eq_false (by omega), cond_false, if_neg (fun hh => hh.elim h (fun q => by cases q.2)), if_pos rfl]
    | false =>
      rw [cond_false]
      by_cases h2 : N = 2 ^ 31
      · rw [decide_eq_true (by omega), cond_true, if_pos (.inr ⟨h2, rfl⟩)]
      · rw [decide_eq_false (by omega), cond_false, if_neg (fun hh => hh.elim h (fun q => h2 q.1)), if_neg (by decide)]

theorem Shr_c {R : Type} (k : Nat) {X : Nat} {n : Int} (h : X < 2 ^ 64) (hn : (Lit.int .i64 n).wf = true) (h0 : 0 ≤ n) (K : Int → Int → Bool → Option R) :
    ∃ x, wide_Shr k 0 (X : Int) n K = K 0 ((X / 2 ^ n.toNat : Nat) : Int) x := by
  have := Shr_hl k (A := X) (n := n) (by omega) hn K
  rw [hi_small h, lo_small h] at this
  have hq : X / 2 ^ n.toNat < 2 ^ 64 := Nat.lt_of_le_of_lt (Nat.div_le_self _ _) h
  rw [hi_small hq, lo_small hq] at this
  exact ⟨_, this⟩

theorem kd3_nn {f : Int} {a : Nat} (h : kd f a = 3) (he : fL f < e2 f a) : 2 ^ 23 ≤ nn f a := by
  have h1 : 2 ^ 23 ≤ 2 ^ fP f := Nat.pow_le_pow_right (by decide) (fmt_le f).1
  unfold e2 ee at he
  rw [if_pos h, if_pos h] at he
  unfold nn
  rw [if_pos h]
  unfold eG at he; unfold nG
  split at he
  · omega
  · rename_i c; rw [if_neg c]; omega

theorem cToInt_k {R : Type} (k : Nat) (f : Int) {a : Nat} (ha : a < 2 ^ 64) (K : Int → Bool → Option R) : conv_ToInt k f (a : Int) K = K (ToS f a).1 (ToS f a).2 := by
  unfold conv_ToInt conv_ToIntT ToS
  have hf := fmt_le f
  have hb := e2_bnd f a
  have n1 := nn_lt64 f a
  rw [Finite_k k f ha]
  by_cases h : kd f a < 2
  · have e : FinS f a = false := by unfold FinS; exact decide_eq_false (by omega)
    rw [e, Bool.not_false, cond_true, if_pos h]
  · have e : FinS f a = true := by unfold FinS; exact decide_eq_true (by omega)
    have hbl := fun J : Bool → Option R => cbelow_k (R := R) k f ha (bad_of_kd (f := f) (a := a) (by omega)) J
    rw [e, Bool.not_true, cond_false, cvalue_k k f ha (by omega), if_neg h]
    unfold truncN
    by_cases c1 : e2 f a ≤ 0
    · have w : Wi64 (0 - e2 f a) = ((-(e2 f a)).toNat : Int) := by rw [wrap_i64 (by omega) (by omega)]; omega
      rw [decide_eq_true c1, cond_true, if_pos c1, w]
      have hq : nn f a / 2 ^ (-(e2 f a)).toNat < 2 ^ 64 := Nat.lt_of_le_of_lt (Nat.div_le_self _ _) (by omega)
      obtain ⟨x, hx⟩ := Shr_c (R := R) k (X := nn f a) (n := ((-(e2 f a)).toNat : Int)) (by omega) (wf_nat (by omega)) (by omega) (fun r4 r5 r6 =>
            cond (decide (r5 > 2147483648)) (
              K 0 false) (
              conv_below k f (a : Int) (fun r7 =>
                cond r7 (
                  cond (decide ((Wi64 (0 - (Wi64 r5))) > 2147483647)) (
                    K 0 false) (
                    K (Wi64 (0 - (Wi64 r5))) true)) (
                  cond (decide ((Wi64 r5) > 2147483647)) (
                    K 0 false) (
                    K (Wi64 r5) true)))))
      rw [hx, Int.toNat_natCast]
      exact cto_fin _ (bw f a) hq K _ hbl
    · rw [decide_eq_false c1, cond_false, if_neg c1]
      have h3 : kd f a = 3 := by
        rcases kd_vals f a with h' | h' | h' | h'
        · omega
        · omega
        · exfalso; unfold e2 at c1; rw [h'] at c1; simp at c1; omega
        · exact h'
      have hn := kd3_nn h3 (by omega)
      by_cases c2 : e2 f a < 11
      · have hs : shl .u64 ((nn f a : Nat) : Int) (e2 f a) = ((nn f a * 2 ^ (e2 f a).toNat : Nat) : Int) := by
          have e3 : e2 f a = ((e2 f a).toNat : Int) := by omega
          have hp : 2 ^ (e2 f a).toNat ≤ 2 ^ 10 := Nat.pow_le_pow_right (by decide) (by omega)
          have hm := Nat.mul_le_mul (show nn f a ≤ 2 ^ 53 by omega) hp
          rw [← Nat.pow_add] at hm
          rw [e3, shl_pow (by omega) (Nat.lt_of_le_of_lt hm (by decide)), ← e3]
        have hlt : nn f a * 2 ^ (e2 f a).toNat < 2 ^ 64 := by
          have hp : 2 ^ (e2 f a).toNat ≤ 2 ^ 10 := Nat.pow_le_pow_right (by decide) (by omega)
          have hm := Nat.mul_le_mul (show nn f a ≤ 2 ^ 53 by omega) hp
          rw [← Nat.pow_add] at hm
          exact Nat.lt_of_le_of_lt hm (by decide)
        rw [decide_eq_true c2, cond_true, decide_eq_false (by omega), cond_false, hs]
        exact cto_fin _ (bw f a) hlt K _ hbl
      · have hlt : 2 ^ 31 < nn f a * 2 ^ (e2 f a).toNat := by
          have hp : 2 ^ 11 ≤ 2 ^ (e2 f a).toNat := Nat.pow_le_pow_right (by decide) (by omega)
          have hm := Nat.mul_le_mul hn hp
          rw [← Nat.pow_add] at hm
          exact Nat.lt_of_lt_of_le (by decide) hm
        rw [decide_eq_false c2, cond_false, decide_eq_true (by omega), cond_true, if_pos (.inl hlt)]

end Go.Proofs.Ytelifkahdhhmoaa.N

/- The laws of package conv: what they share. Conditions: none. -/
namespace Go.Proofs.Ytelifkahdhhmoaa.N
set_option linter.unusedVariables false
set_option linter.unusedSimpArgs false
open Go Go.Ab

theorem dig01 {R : Type} (n : Nat) (K : Int → Int → Int → Bool → Option R) : conv_digits (n + 4) ⟨#[48, 46, 49]⟩ K = K 1 2 1 true := by kernel_rfl
theorem pt01 {R : Type} (n : Nat) (K : Bool → Option R) : conv_point (n + 4) ⟨#[48, 46, 49]⟩ K = K true := by kernel_rfl
theorem by01 {R : Type} (k n : Nat) (x1 x2 : Int) (K : Int → Option R) : conv_Literal_l0 k (n + 4) x1 x2 1 1 0 K = K 10 := by kernel_rfl

theorem cformat_k {R : Type} (k : Nat) (f : Int) (K : Int → Option R) : plumblinelaw03_format k f K = K (fm f) := by
  unfold plumblinelaw03_format plumblinelaw03_formatT fm
  by_cases h : f = 1
  · subst h; rfl
  · have : (f == 1) = false := by rw [beq_eq_false_iff_ne]; exact h
    rw [this, cond_false, if_neg h]

theorem clit01 {R : Type} {k : Nat} (hk : 5000 ≤ k) (K : Int → Int → Option R) : conv_Literal k 0 ⟨#[48, 46, 49]⟩ K = K 4591870180066957722 0 := by
  obtain ⟨n, rfl⟩ : ∃ n, k = n + 4 := ⟨k - 4, by omega⟩
  unfold conv_Literal conv_LiteralT
  rw [dig01, Bool.not_true, cond_false, pt01, Bool.not_true, cond_false, decide_eq_false (by decide), cond_false, by01]
  have l1 := Len_c (R := R) (n + 4) (X := 1) (by decide)
  have b1 : bl 1 = 1 := by decide
  rw [show (1 : Int) = ((1 : Nat) : Int) from rfl, l1, b1]
  have w1 : Wi64 (127 - ((1 : Nat) : Int)) = ((126 : Nat) : Int) := by decide
  have w2 : Wi64 (0 - ((126 : Nat) : Int)) = -126 := by decide
  have hs := fun J => Shl_c (R := R) (n + 4) (X := 1) (n := ((126 : Nat) : Int)) (by decide) (by decide) J
  rw [w1, hs, w2]
  have e1 : 1 * 2 ^ ((126 : Nat) : Int).toNat % 2 ^ 128 = 2 ^ 126 := by decide
  have hd := fun J => Div_hl (R := R) (k := n + 4) hk (A := 2 ^ 126) (b := 10) (by decide) (by decide) (by decide) J
  rw [e1, show (10 : Int) = ((10 : Nat) : Int) from rfl, hd]
  have hr := fun J => Round_c (R := R) (n + 4) 0 0 false (N := 2 ^ 126 / 10) (by decide) (-126) true J
  have hne : (((2 ^ 126 % 10 : Nat) : Int) != 0) = true := by decide
  have d1 : Rd 0 0 false (2 ^ 126 / 10 * 2 ^ 2 + true.toNat) (cec (-126) - ((2 : Nat) : Int)) false = 4591870180066957722 := by decide +kernel
  rw [hne, hr, d1]
  rfl

theorem clive_k {R : Type} {k : Nat} (hk : 5000 ≤ k) (K : Bool → Option R) : plumblinelaw03_live k K = K true := by
  unfold plumblinelaw03_live plumblinelaw03_liveT
  rw [clit01 hk]
  have q1 : ((4591870180066957722 : Int) == 4591870180066957722) = true := by decide
  have d2 : FromS 1 0 3 = 1077936128 := by decide +kernel
  have hF := fun J => cFromInt_k (R := R) k 1 0 (n := 3) (by decide) J
  have q2 : (((1077936128 : Nat) : Int) == 1077936128) = true := by decide
  have d3 : NextS 1 0 = 1 := by decide +kernel
  have hN : ∀ J : Int → Option R, conv_Next k 1 0 J = J 1 := fun J => (cNext_k (R := R) k 1 (a := 0) (by decide) J).trans (by rw [d3]; rfl)
  have d4 : HexS 1 1 = ⟨#[48, 48, 48, 48, 48, 48, 48, 49]⟩ := by decide +kernel
  have hH : ∀ J : ByteArray → Option R, conv_Hex k 1 1 J = J ⟨#[48, 48, 48, 48, 48, 48, 48, 49]⟩ := fun J => (cHex_k (R := R) hk 1 (a := 1) (by decide) J).trans (by rw [d4])
  rw [show ((0 : Int) == 0) = true from rfl, cond_true, q1, cond_true, hF, d2, q2, cond_true, hN, hH, toList_beq, decide_eq_true rfl]

end Go.Proofs.Ytelifkahdhhmoaa.N

/- What a format that is none counts as, in package conv. Conditions: none. -/
namespace Go.Proofs.Ytelifkahdhhmoaa.N
set_option linter.unusedVariables false
set_option linter.unusedSimpArgs false
open Go Go.Ab

theorem cWiden_k {R : Type} (k : Nat) {a : Nat} (ha : a < 2 ^ 64) (K : Int → Option R) : conv_Widen k (a : Int) K = K ((TurnS 1 0 0 a : Nat) : Int) := by
  unfold conv_Widen conv_WidenT; rw [cturned_k k 1 0 0 ha]
theorem cNarrow_k {R : Type} (k : Nat) (m : Int) {a : Nat} (ha : a < 2 ^ 64) (K : Int → Option R) : conv_Narrow k m (a : Int) K = K ((TurnS 0 1 m a : Nat) : Int) := by
  unfold conv_Narrow conv_NarrowT; rw [cturned_k k 0 1 m ha]
theorem e2_fm (f : Int) (a : Nat) : e2 (fm f) a = e2 f a := by unfold e2; rw [kd_fm, ee_fm, fL_fm]
theorem FromS_fm (f m n : Int) : FromS (fm f) m n = FromS f m n := by unfold FromS; rw [Rd_fm]
theorem truncN_fm (f : Int) (a : Nat) : truncN (fm f) a = truncN f a := by unfold truncN; rw [e2_fm, nn_fm]
theorem ToS_fm (f : Int) (a : Nat) : ToS (fm f) a = ToS f a := by unfold ToS; rw [kd_fm, truncN_fm, bw_fm]
theorem PlainS_fm (f : Int) (a : Nat) : PlainS (fm f) a = PlainS f a := by unfold PlainS; rw [kd_fm, NAN_fm]
theorem NextS_fm (f : Int) (a : Nat) : NextS (fm f) a = NextS f a := by unfold NextS; rw [kd_fm, NAN_fm, bw_fm, PlainS_fm, fI_fm]
theorem PrevS_fm (f : Int) (a : Nat) : PrevS (fm f) a = PrevS f a := by unfold PrevS; rw [kd_fm, NAN_fm, NegS_fm, NextS_fm, NegS_fm, PlainS_fm]
theorem HexS_fm (f : Int) (a : Nat) : HexS (fm f) a = HexS f a := by
  unfold HexS hexL
  rw [bad_fm, NAN_fm]
  by_cases h : f = 1
  · have := (fm_P f).2.2.2.2 h
    rw [if_pos h, if_pos this]
  · have : ¬ fm f = 1 := fun q => h ((fm_P f).2.2.2.1 q)
    rw [if_neg h, if_neg this]

end Go.Proofs.Ytelifkahdhhmoaa.N

/- A number that a Double has room for is a Double. Conditions: none. -/
namespace Go.Proofs.Ytelifkahdhhmoaa.N
set_option linter.unusedVariables false
set_option linter.unusedSimpArgs false
open Go Go.Ab

theorem dbl_exact {N : Nat} {e : Int} (h0 : 0 < N) (hN : N < 2 ^ 53) (he : -1000 ≤ e) (he2 : e ≤ 900) :
    ∃ g, 0 < g ∧ g < fI 0 ∧ nG 0 g = N * 2 ^ (53 - bl N) ∧ eG 0 g = e - ((53 - bl N : Nat) : Int) ∧ ∀ m s, Rd 0 m s N e false = sg 0 s + g := by
  have b1 := bl_pos h0
  have b2 : bl N ≤ 53 := bl_le_iff.2 hN
  obtain ⟨j, hj⟩ : ∃ j, j = 53 - bl N := ⟨_, rfl⟩
  obtain ⟨M, hM⟩ : ∃ M, M = N * 2 ^ j := ⟨_, rfl⟩
  have hl : 2 ^ 52 ≤ M := by
    have := Nat.mul_le_mul_right (2 ^ j) (bl_low h0)
    rw [← Nat.pow_add, show bl N - 1 + j = 52 by omega, ← hM] at this
    exact this
  have hu : M < 2 ^ 53 := by
    have := (Nat.mul_lt_mul_right (Nat.two_pow_pos j)).2 (bl_up N)
    rw [← Nat.pow_add, show bl N + j = 53 by omega, ← hM] at this
    exact this
  obtain ⟨x, hx⟩ : ∃ x : Nat, (x : Int) = e - (j : Int) + 1075 := ⟨(e - (j : Int) + 1075).toNat, by omega⟩
  have x1 : 1 ≤ x := by omega
  have x2 : x ≤ 2000 := by omega
  obtain ⟨g, hg⟩ : ∃ g, g = x * 2 ^ 52 + (M - 2 ^ 52) := ⟨_, rfl⟩
  have hr : M - 2 ^ 52 < 2 ^ 52 := by omega
  have gd : g / 2 ^ 52 = x := by
    rw [hg, Nat.mul_comm, Nat.mul_add_div (by decide), Nat.div_eq_of_lt hr, Nat.add_zero]
  have gm : g % 2 ^ 52 = M - 2 ^ 52 := by
    rw [hg, Nat.mul_comm, Nat.mul_add_mod, Nat.mod_eq_of_lt hr]
  have hP : fP 0 = 52 := rfl
  have hL : fL 0 = -1074 := rfl
  have hI : fI 0 = 2047 * 2 ^ 52 := by decide
  have hge : ¬ g < 2 ^ 52 := by omega
  have hlt : g < fI 0 := by omega
  have n1 : nG 0 g = M := by unfold nG; rw [hP, if_neg hge, gm]; omega
  have n2 : eG 0 g = e - (j : Int) := by unfold eG; rw [hP, hL, if_neg hge, gd]; omega
  refine ⟨g, by omega, hlt, ?_, ?_, fun m s => ?_⟩
  · rw [n1, hM, hj]
  · rw [n2, hj]
  · have := Rd_G 0 m s (g := g) (by omega) hlt
    rw [n1, n2, hM, Rd_scale] at this
    exact this

/-- A float of this sign and rest. -/
theorem sgp {f : Int} (s : Bool) {x : Nat} (h0 : 0 < x) (h : x < fI f) : kd f (sg f s + x) = 3 ∧ bw f (sg f s + x) = s ∧ nn f (sg f s + x) = nG f x ∧ ee f (sg f s + x) = eG f x := by
  have hB := (fB_double f).2
  have hk : kd f (sg f s + x) = 3 := by
    rw [kd_sg s (by omega), if_neg (by omega), if_neg (by omega), if_neg (by omega)]
  have hg := gg_sg (f := f) s (x := x) (by omega)
  refine ⟨hk, hg.2.1, ?_, ?_⟩
  · unfold nn; rw [if_pos hk, hg.1]
  · unfold ee; rw [if_pos hk, hg.1]

theorem sg0 {f : Int} (s : Bool) : kd f (sg f s) = 2 ∧ bw f (sg f s) = s := by
  have hB := fB_double f
  have hI : 0 < fI f := Nat.lt_of_le_of_lt (Nat.zero_le _) (fI_pos f)
  have h1 := gg_sg (f := f) s (x := 0) (by omega)
  have h2 := kd_sg (f := f) s (x := 0) (by omega)
  rw [Nat.add_zero, if_neg (by omega), if_neg (by omega), if_pos rfl] at h2
  rw [Nat.add_zero] at h1
  exact ⟨h2, h1.2.1⟩

theorem sgI {f : Int} (s : Bool) : kd f (sg f s + fI f) = 1 ∧ bw f (sg f s + fI f) = s := by
  have hB := fB_double f
  have h1 := gg_sg (f := f) s (x := fI f) (by omega)
  have h2 := kd_sg (f := f) s (x := fI f) (by omega)
  rw [if_neg (by omega), if_pos rfl] at h2
  exact ⟨h2, h1.2.1⟩

theorem gg_I {f : Int} {a : Nat} (h : kd f a = 1) : gg f a = fI f := by
  unfold kd at h
  split at h
  · cases h
  · split at h
    · cases h
    · split at h
      · assumption
      · split at h <;> cases h

end Go.Proofs.Ytelifkahdhhmoaa.N
