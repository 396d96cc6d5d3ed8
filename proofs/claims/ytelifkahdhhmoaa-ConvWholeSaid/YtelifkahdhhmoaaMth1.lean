/- A format that is none counts as a Double. Conditions: none. -/
import Derived.Test.YtelifkahdhhmoaaMs
import Derived.Test.YtelifkahdhhmoaaMd
import Derived.Test.YtelifkahdhhmoaaNconv
import Derived.Test.YtelifkahdhhmoaaRo0
import Derived.Test.YtelifkahdhhmoaaNlaw
import Derived.Test.YtelifkahdhhmoaaEng2
import Derived.Test.YtelifkahdhhmoaaMa
namespace Go.Proofs.Ytelifkahdhhmoaa.N
set_option linter.unusedVariables false
set_option linter.unusedSimpArgs false
open Go Go.Ab

/-- A format that is one. -/
def fm (f : Int) : Int := if f = 1 then 1 else 0
theorem fm_P (f : Int) : fP (fm f) = fP f ∧ fE (fm f) = fE f ∧ fL (fm f) = fL f ∧ (fm f = 1 ↔ f = 1) := by
  unfold fm fP fE fL
  by_cases h : f = 1 <;> simp [h]
theorem fP_fm (f : Int) : fP (fm f) = fP f := (fm_P f).1
theorem fE_fm (f : Int) : fE (fm f) = fE f := (fm_P f).2.1
theorem fL_fm (f : Int) : fL (fm f) = fL f := (fm_P f).2.2.1
theorem bad_fm (f : Int) (a : Nat) : bad (fm f) a = bad f a := by unfold bad; rw [Bool.eq_iff_iff]; simp only [decide_eq_true_eq, (fm_P f).2.2.2]
theorem fB_fm (f : Int) : fB (fm f) = fB f := by unfold fB; rw [fP_fm, fE_fm]
theorem fI_fm (f : Int) : fI (fm f) = fI f := by unfold fI; rw [fP_fm, fE_fm]
theorem sg_fm (f : Int) (b : Bool) : sg (fm f) b = sg f b := by unfold sg; rw [fB_fm]
theorem NAN_fm (f : Int) : NAN (fm f) = NAN f := by unfold NAN; rw [fI_fm, fP_fm]
theorem gg_fm (f : Int) (a : Nat) : gg (fm f) a = gg f a := by unfold gg; rw [fB_fm]
theorem kd_fm (f : Int) (a : Nat) : kd (fm f) a = kd f a := by unfold kd; rw [bad_fm, fI_fm, gg_fm]
theorem bw_fm (f : Int) (a : Nat) : bw (fm f) a = bw f a := by unfold bw; rw [bad_fm, fB_fm]
theorem nn_fm (f : Int) (a : Nat) : nn (fm f) a = nn f a := by unfold nn nG; rw [kd_fm, gg_fm, fP_fm]
theorem ee_fm (f : Int) (a : Nat) : ee (fm f) a = ee f a := by unfold ee eG; rw [kd_fm, gg_fm, fP_fm, fL_fm]
theorem clip_fm (f m : Int) (b : Bool) (g : Nat) : clip (fm f) m b g = clip f m b g := by unfold clip; rw [fI_fm]
theorem gOf_fm (f m : Int) (b : Bool) (l : Int) (q : Nat) (h r : Bool) : gOf (fm f) m b l q h r = gOf f m b l q h r := by unfold gOf; rw [fL_fm, fP_fm]
theorem enc_fm (f m : Int) (b : Bool) (l : Int) (q : Nat) (h r : Bool) : enc (fm f) m b l q h r = enc f m b l q h r := by unfold enc; rw [sg_fm, clip_fm, gOf_fm]
theorem lastOf_fm (f : Int) (N : Nat) (e : Int) : lastOf (fm f) N e = lastOf f N e := by unfold lastOf; rw [fP_fm, fL_fm]
theorem Rd_fm (f m : Int) (b : Bool) (N : Nat) (e : Int) (r : Bool) : Rd (fm f) m b N e r = Rd f m b N e r := by unfold Rd; rw [sg_fm, lastOf_fm, enc_fm]
theorem AddX_fm (f m : Int) (bx : Bool) (X : Nat) (ex : Int) (by' : Bool) (Y : Nat) (ey : Int) : AddX (fm f) m bx X ex by' Y ey = AddX f m bx X ex by' Y ey := by unfold AddX; simp only [Rd_fm, sg_fm]
theorem NegS_fm (f : Int) (a : Nat) : NegS (fm f) a = NegS f a := by unfold NegS; rw [kd_fm, NAN_fm, fB_fm]
theorem AbsS_fm (f : Int) (a : Nat) : AbsS (fm f) a = AbsS f a := by unfold AbsS; rw [kd_fm, NAN_fm, gg_fm]
theorem FinS_fm (f : Int) (a : Nat) : FinS (fm f) a = FinS f a := by unfold FinS; rw [kd_fm]
theorem ClassS_fm (f : Int) (a : Nat) : ClassS (fm f) a = ClassS f a := by unfold ClassS; rw [bad_fm, kd_fm, gg_fm, fP_fm]
theorem CmpS_fm (f : Int) (a b : Nat) : CmpS (fm f) a b = CmpS f a b := by unfold CmpS rank; rw [kd_fm, kd_fm, bw_fm, bw_fm, gg_fm, gg_fm]
theorem AddS_fm (f m : Int) (a b : Nat) : AddS (fm f) m a b = AddS f m a b := by unfold AddS; rw [kd_fm, kd_fm, bw_fm, bw_fm, NAN_fm, AddX_fm, nn_fm, nn_fm, ee_fm, ee_fm]
theorem MulS_fm (f m : Int) (a b : Nat) : MulS (fm f) m a b = MulS f m a b := by unfold MulS; rw [kd_fm, kd_fm, bw_fm, bw_fm, NAN_fm, Rd_fm, nn_fm, nn_fm, ee_fm, ee_fm, sg_fm, fI_fm]
theorem DivS_fm (f m : Int) (a b : Nat) : DivS (fm f) m a b = DivS f m a b := by unfold DivS DivX; rw [kd_fm, kd_fm, bw_fm, bw_fm, NAN_fm, Rd_fm, nn_fm, nn_fm, ee_fm, ee_fm, sg_fm, fI_fm]

end Go.Proofs.Ytelifkahdhhmoaa.N

/- Package conv: what it takes from wide and soft. Conditions: none. -/
namespace Go.Proofs.Ytelifkahdhhmoaa.N
set_option linter.unusedVariables false
set_option linter.unusedSimpArgs false
open Go Go.Ab

theorem or_three_c {X t : Nat} (ht : t < 4) : bOr .u64 (lo (4 * X)) (t : Int) = lo (4 * X + t) := by
  unfold lo
  rw [bOr_nat (lo_lt _) (by omega)]
  have : (4 * X % 2 ^ 64) ||| t = 4 * X % 2 ^ 64 + t := or_add (s := 2) (by omega) ht
  rw [this]; congr 1; omega

theorem hi_three_c {X t : Nat} (ht : t < 4) : hi (4 * X + t) = hi (4 * X) := by
  unfold hi; congr 1; omega

theorem Len_c {R : Type} (k : Nat) {X : Nat} (h : X < 2 ^ 64) (J : Int → Option R) : wide_Len k 0 (X : Int) J = J ((bl X : Nat) : Int) := by
  have := Len_hl k (A := X) (by omega) J
  rw [hi_small h, lo_small h] at this; exact this
theorem Shl_c {R : Type} (k : Nat) {X : Nat} {n : Int} (h : X < 2 ^ 64) (hn : (Lit.int .i64 n).wf = true) (J : Int → Int → Option R) : wide_Shl k 0 (X : Int) n J = J (hi (X * 2 ^ n.toNat % 2 ^ 128)) (lo (X * 2 ^ n.toNat % 2 ^ 128)) := by
  have := Shl_hl k (A := X) (by omega) hn J
  rw [hi_small h, lo_small h] at this; exact this

/-- A power that is not too far. -/
def cec (e : Int) : Int := if e < -4000 then -4000 else if e > 4000 then 4000 else e
theorem cec_bounds (e : Int) : -4000 ≤ cec e ∧ cec e ≤ 4000 := by unfold cec; split <;> (try split) <;> omega
theorem cec_eq (e : Int) : (if 4000 < (if (-4000) > e then (-4000) else e) then 4000 else (if (-4000) > e then (-4000) else e)) = cec e := by
  unfold cec
  by_cases h : e < -4000
  · have : (-4000 : Int) > e := h
    rw [if_pos this, if_pos h]; rfl
  · have : ¬ (-4000 : Int) > e := h
    rw [if_neg this, if_neg h]

theorem Round_c {R : Type} (k : Nat) (f m : Int) (b : Bool) {N : Nat} (hN : N < 2 ^ 128) (e : Int) (x : Bool) (K : Int → Option R) :
    soft_Round k f m b (hi N) (lo N) e x K = K ((Rd f m b (N * 2 ^ 2 + x.toNat) (cec e - ((2 : Nat) : Int)) false : Nat) : Int) := by
  have hf := fmt_le f
  have hc := cec_bounds e
  unfold soft_Round soft_RoundT
  rw [shapeOf_k, cec_eq]
  cases x with
  | false =>
    rw [cond_false, round_k k f m b hN (by omega) (by omega) (.inr rfl)]
    rw [Bool.toNat_false, Nat.add_zero, Rd_scale]
  | true =>
    rw [cond_true, Len_hl k hN]
    by_cases c : ((bl N : Nat) : Int) ≤ 126
    · have hN2 : N < 2 ^ 126 := bl_le_iff.1 (by omega)
      have w : Wi64 (cec e - 2) = cec e - 2 := wrap_i64 (by omega) (by omega)
      have e4 : N * 2 ^ (2 : Int).toNat % 2 ^ 128 = 4 * N := by
        have : (2 : Int).toNat = 2 := rfl
        rw [this]; omega
      rw [decide_eq_true c, cond_true, Shl_hl k hN (by decide), e4, w]
      have o3 := or_three_c (X := N) (t := 1) (by decide)
      have h3 := hi_three_c (X := N) (t := 1) (by decide)
      rw [show (((1 : Nat) : Int)) = 1 from rfl] at o3
      rw [o3, ← h3, round_k k f m b (by omega) (by omega) (by omega) (.inr rfl)]
      have e5 : N * 2 ^ 2 + true.toNat = 4 * N + 1 := by rw [Bool.toNat_true]; omega
      rw [e5]; rfl
    · rw [decide_eq_false c, cond_false]
      have hb : fP f + 2 ≤ bl N := by omega
      have hp : 0 < N := by
        refine Nat.pos_of_ne_zero fun h => ?_
        subst h
        exact c (by decide)
      rw [round_k k f m b hN (by omega) (by omega) (.inl hp), Bool.toNat_true, Rd_stick f m b (cec e) hb (by decide) (by decide)]


theorem Round64 {R : Type} (k : Nat) (f m : Int) (b : Bool) {X : Nat} (hX : X < 2 ^ 64) {e : Int} (h1 : -4000 ≤ e) (h2 : e ≤ 4000) (K : Int → Option R) :
    soft_Round k f m b 0 (X : Int) e false K = K ((Rd f m b X e false : Nat) : Int) := by
  have h := Round_c k f m b (N := X) (by omega) e false K
  have hc : cec e = e := by unfold cec; rw [if_neg (by omega), if_neg (by omega)]
  rw [hi_small hX, lo_small hX, hc, Bool.toNat_false, Nat.add_zero, Rd_scale] at h
  exact h

theorem kd2_c {f : Int} {c : Nat} (h : kd f c = 2) : gg f c = 0 := by
  unfold kd at h
  split at h
  · cases h
  · split at h
    · cases h
    · split at h
      · cases h
      · split at h
        · assumption
        · cases h

theorem cbelow_k {R : Type} (k : Nat) (f : Int) {a : Nat} (ha : a < 2 ^ 64) (hb : bad f a = false) (K : Bool → Option R) : conv_below k f (a : Int) K = K (bw f a) := by
  have h2 := lt_2B ha hb
  have hf := fmt_le f
  have key : (bAnd .u64 (shr .u64 (a : Int) ((fP f + fE f : Nat) : Int)) 1 == 1) = bw f a := by
    rw [shr_pow (by omega), odd_eq (Nat.lt_of_le_of_lt (Nat.div_le_self _ _) ha)]
    unfold bw
    rw [hb]
    have hB : 0 < fB f := Nat.two_pow_pos _
    show (a / fB f % 2 == 1) = decide (fB f ≤ a)
    by_cases c : fB f ≤ a
    · have : a / fB f = 1 := Nat.div_eq_of_lt_le (by omega) (by omega)
      rw [this, decide_eq_true c]; rfl
    · rw [Nat.div_eq_of_lt (by omega), decide_eq_false c]; rfl
  unfold conv_below conv_belowT conv_bits conv_bitsT
  by_cases h : f = 1
  · subst h
    have w : Wi64 (32 - 1) = ((fP 1 + fE 1 : Nat) : Int) := by decide
    rw [show ((1 : Int) == 1) = true from rfl, cond_true]
    dsimp only
    rw [w, decide_eq_false (by decide), cond_false, key]
  · have e : (f == 1) = false := by rw [beq_eq_false_iff_ne]; exact h
    have hp : fP f + fE f = 63 := by rcases fmt f with ⟨h1, _⟩ | ⟨_, h1, h2, _⟩ <;> omega
    rw [hp] at key
    have w : Wi64 (64 - 1) = ((63 : Nat) : Int) := by decide
    rw [e, cond_false]
    dsimp only
    rw [w, decide_eq_false (by decide), cond_false, key]

end Go.Proofs.Ytelifkahdhhmoaa.N

/- Package conv: floats in the other format, ints, neighbours. Conditions: none. -/
namespace Go.Proofs.Ytelifkahdhhmoaa.N
set_option linter.unusedVariables false
set_option linter.unusedSimpArgs false
open Go Go.Ab

theorem e2_bnd (f : Int) (a : Nat) : -1074 ≤ e2 f a ∧ e2 f a ≤ 1897 := by
  have := fmt_le f
  have := ee_bounds f a
  unfold e2; split <;> omega

theorem cfraction_k {R : Type} (k : Nat) (f : Int) (J : Int → Int → Option R) : conv_fraction k f J = J ((fP f : Nat) : Int) (fL f) := by
  unfold conv_fraction conv_fractionT fP fL
  by_cases h : f = 1
  · subst h; rfl
  · have : (f == 1) = false := by rw [beq_eq_false_iff_ne]; exact h
    rw [this]; simp [h]

theorem cvalue_k {R : Type} (k : Nat) (f : Int) {a : Nat} (ha : a < 2 ^ 64) (hk : 2 ≤ kd f a) (K : Int → Int → Option R) : conv_value k f (a : Int) K = K ((nn f a : Nat) : Int) (e2 f a) := by
  unfold conv_value conv_valueT
  have hf := fmt_le f
  have hp := fP_pos f
  have hg := gg_lt f a
  have hB := fB_le f
  have hA : AbsS f a = gg f a := by unfold AbsS; rw [if_neg (by omega)]
  have nP : ¬ (((fP f : Nat) : Int) < 0) := by omega
  rw [cfraction_k, Abs_k k f ha, hA, decide_eq_false nP, cond_false, cond_false, cond_false, shr_pow (by omega)]
  by_cases c : gg f a < 2 ^ fP f
  · have h0 : gg f a / 2 ^ fP f = 0 := Nat.div_eq_of_lt c
    rw [h0, decide_eq_false (by decide), cond_false]
    rcases kd_vals f a with h | h | h | h
    · omega
    · omega
    · rw [(nn_zero (by rw [h]; decide)).1, kd2_c h]
      have e : e2 f a = fL f := by unfold e2; rw [h]; rfl
      rw [e]
    · have hn : nn f a = gg f a := by unfold nn nG; rw [if_pos h, if_pos c]
      have he : e2 f a = fL f := by unfold e2 ee eG; rw [if_pos h, if_pos h, if_pos c]
      rw [hn, he]
  · have h : kd f a = 3 := by
      rcases kd_vals f a with h | h | h | h
      · omega
      · omega
      · exact absurd (kd2_c h) (by omega)
      · exact h
    have h3 := kd3 h
    have hd : 0 < gg f a / 2 ^ fP f := Nat.div_pos (by omega) hp
    have hM : gg f a % 2 ^ fP f < 2 ^ fP f := Nat.mod_lt _ hp
    have hdl : gg f a / 2 ^ fP f < 2 ^ fE f := by rw [Nat.div_lt_iff_lt_mul hp]; unfold fB at hg; rw [Nat.add_comm, Nat.pow_add] at hg; exact hg
    have hexp2 : 2 ^ fE f ≤ 2 ^ 11 := Nat.pow_le_pow_right (by decide) (by omega)
    have hn : nn f a = gg f a % 2 ^ fP f + 2 ^ fP f := by unfold nn nG; rw [if_pos h, if_neg c, Nat.add_comm]
    have he : e2 f a = ((gg f a / 2 ^ fP f : Nat) : Int) - 1 + fL f := by unfold e2 ee eG; rw [if_pos h, if_pos h, if_neg c]
    have e1 : bOr .u64 ((gg f a % 2 ^ fP f : Nat) : Int) (shl .u64 1 ((fP f : Nat) : Int)) = ((gg f a % 2 ^ fP f + 2 ^ fP f : Nat) : Int) := bit_or hM (by omega)
    have ew : Wi64 (Wi64 (Wi64 ((gg f a / 2 ^ fP f : Nat) : Int) - 1) + fL f) = ((gg f a / 2 ^ fP f : Nat) : Int) - 1 + fL f := by
      rw [Wi64_nat (by omega), wrap_i64 (x := ((gg f a / 2 ^ fP f : Nat) : Int) - 1) (by omega) (by omega), wrap_i64 (by omega) (by omega)]
    rw [decide_eq_true (show ((gg f a / 2 ^ fP f : Nat) : Int) > 0 by omega), cond_true, low_bits (by omega) (by omega), e1, ew, hn, he]

/-- A float in another format. -/
def TurnS (f g m : Int) (a : Nat) : Nat := if kd f a = 0 then NAN g else if kd f a = 1 then sg g (bw f a) + fI g else Rd g m (bw f a) (nn f a) (e2 f a) false

theorem cturned_k {R : Type} (k : Nat) (f g m : Int) {a : Nat} (ha : a < 2 ^ 64) (K : Int → Option R) : conv_turned k f g m (a : Int) K = K ((TurnS f g m a : Nat) : Int) := by
  unfold conv_turned conv_turnedT TurnS
  have hb := e2_bnd f a
  have n1 := nn_lt64 f a
  have hI := fB_double g
  have hIp : 0 < fI g := Nat.lt_of_le_of_lt (Nat.zero_le _) (fI_pos g)
  rw [Finite_k k f ha]
  rcases kd_vals f a with h | h | h | h
  · have e : FinS f a = false := by unfold FinS; rw [h]; rfl
    have c : (ClassS f a != 4) = true := by rw [bne_iff_ne]; intro hh; have := (Class_kd f a).2.1.1 hh; omega
    rw [e, Bool.not_false, cond_true, Class_k k f ha, c, cond_true, Nan_k, if_pos h]
  · have e : FinS f a = false := by unfold FinS; rw [h]; rfl
    have c : (ClassS f a != 4) = false := by rw [(Class_kd f a).2.1.2 h]; rfl
    have w : Wu64 (((fI g - 1 : Nat) : Int) + 1) = ((fI g : Nat) : Int) := by
      rw [show ((fI g - 1 : Nat) : Int) + 1 = ((fI g : Nat) : Int) by omega, Wu64_lt (by omega)]
    rw [e, Bool.not_false, cond_true, Class_k k f ha, c, cond_false, Most_k, cbelow_k k f ha (bad_of_kd (by rw [h]; decide)), w, if_neg (by omega), if_pos h]
    have hN := Neg_sg (f := g) false (x := fI g) (Nat.le_refl _)
    have z : sg g false = 0 := rfl
    rw [z, Nat.zero_add] at hN
    cases bw f a with
    | true => rw [cond_true, Neg_k k g (by omega), hN]; rfl
    | false => rw [cond_false, z, Nat.zero_add]
  · have e : FinS f a = true := by unfold FinS; rw [h]; rfl
    rw [e, Bool.not_true, cond_false, cvalue_k k f ha (by omega), cbelow_k k f ha (bad_of_kd (by rw [h]; decide)), Round64 k g m _ (by omega) (by omega) (by omega), if_neg (by omega), if_neg (by omega)]
  · have e : FinS f a = true := by unfold FinS; rw [h]; rfl
    rw [e, Bool.not_true, cond_false, cvalue_k k f ha (by omega), cbelow_k k f ha (bad_of_kd (by rw [h]; decide)), Round64 k g m _ (by omega) (by omega) (by omega), if_neg (by omega), if_neg (by omega)]

theorem TurnS_lt (f g m : Int) (a : Nat) : TurnS f g m a < 2 ^ 64 := by
  unfold TurnS
  split
  · exact NAN_lt64 g
  · split
    · exact form_lt ⟨_, _, Nat.le_refl _, rfl⟩
    · exact form_lt ⟨_, Rd_form ..⟩

def PlainS (f : Int) (a : Nat) : Nat := if kd f a = 0 then NAN f else if kd f a = 2 then 0 else a

theorem cPlain_k {R : Type} (k : Nat) (f : Int) {a : Nat} (ha : a < 2 ^ 64) (K : Int → Option R) : conv_Plain k f (a : Int) K = K ((PlainS f a : Nat) : Int) := by
  unfold conv_Plain conv_PlainT PlainS
  obtain ⟨c0, c1, c2, c3⟩ := Class_kd f a
  rw [Class_k k f ha, Nan_k]
  by_cases h : kd f a = 0
  · rw [if_pos h]
    rcases c0.2 h with e | e
    · rw [e, show ((5 : Int) == 0) = false from rfl, cond_false, show ((5 : Int) == 5) = true from rfl, cond_true]
    · rw [e, show ((0 : Int) == 0) = true from rfl, cond_true]
  · have d0 : (ClassS f a == 0) = false := by rw [beq_eq_false_iff_ne]; exact fun e => h (c0.1 (.inr e))
    have d5 : (ClassS f a == 5) = false := by rw [beq_eq_false_iff_ne]; exact fun e => h (c0.1 (.inl e))
    rw [if_neg h, d0, cond_false, d5, cond_false]
    by_cases h2 : kd f a = 2
    · rw [c2.2 h2, if_pos h2]; rfl
    · have d1 : (ClassS f a == 1) = false := by rw [beq_eq_false_iff_ne]; exact fun e => h2 (c2.1 e)
      rw [d1, cond_false, if_neg h2]

theorem PlainS_lt (f : Int) {a : Nat} (ha : a < 2 ^ 64) : PlainS f a < 2 ^ 64 := by
  unfold PlainS; split
  · exact NAN_lt64 f
  · split
    · decide
    · exact ha

def NextS (f : Int) (a : Nat) : Nat := if kd f a < 2 then NAN f else if kd f a = 2 then 1 else if bw f a = true then PlainS f (a - 1) else if a = fI f - 1 then a else a + 1

theorem kd3_pos {f : Int} {a : Nat} (h : kd f a = 3) : 0 < a := by
  refine Nat.pos_of_ne_zero fun h0 => ?_
  have := (kd3 h).2.1
  rw [h0] at this
  unfold gg at this
  rw [Nat.zero_mod] at this
  omega

theorem Plain3 {f : Int} {a : Nat} (h : kd f a = 3) : PlainS f a = a := by unfold PlainS; rw [if_neg (by omega), if_neg (by omega)]

theorem bw_pos {f : Int} {a : Nat} (h : bw f a = true) : fB f ≤ a := by
  unfold bw at h; split at h
  · cases h
  · simpa using h

theorem kd3_above {f : Int} {a : Nat} (ha : a < 2 ^ 64) (h : kd f a = 3) (hb : bw f a = false) : a < fI f := by
  have h3 := kd3 h
  have := parts_of ha h3.1
  rw [hb] at this
  have z : sg f false = 0 := rfl
  omega

theorem cNext_k {R : Type} (k : Nat) (f : Int) {a : Nat} (ha : a < 2 ^ 64) (K : Int → Option R) : conv_Next k f (a : Int) K = K ((NextS f a : Nat) : Int) := by
  unfold conv_Next conv_NextT NextS
  have hI := fB_double f
  rw [Finite_k k f ha]
  by_cases h : kd f a < 2
  · have e : FinS f a = false := by unfold FinS; exact decide_eq_false (by omega)
    rw [e, Bool.not_false, cond_true, Nan_k, if_pos h]
  · have e : FinS f a = true := by unfold FinS; exact decide_eq_true (by omega)
    rw [e, Bool.not_true, cond_false, cPlain_k k f ha, if_neg h]
    by_cases h2 : kd f a = 2
    · have p : PlainS f a = 0 := by unfold PlainS; rw [if_neg (by omega), if_pos h2]
      rw [p, if_pos h2]; rfl
    · have h3 : kd f a = 3 := by rcases kd_vals f a with h | h | h | h <;> omega
      have hp := kd3_pos h3
      have d : (((a : Nat) : Int) == 0) = false := by rw [beq_eq_false_iff_ne]; omega
      rw [Plain3 h3, d, cond_false, if_neg h2, cbelow_k k f ha (kd3 h3).1]
      cases hb : bw f a with
      | true =>
        have w : Wu64 ((a : Int) - 1) = ((a - 1 : Nat) : Int) := Wu64_pred hp (by omega)
        rw [cond_true, w, cPlain_k k f (by omega), if_pos rfl]
      | false =>
        have hlt := kd3_above ha h3 hb
        have w : Wu64 ((a : Int) + 1) = ((a + 1 : Nat) : Int) := Wu64_lt (x := a + 1) (by omega)
        rw [cond_false, Most_k, if_neg (by decide), w]
        by_cases c : a = fI f - 1
        · have : (((a : Nat) : Int) == ((fI f - 1 : Nat) : Int)) = true := by rw [beq_iff_eq]; omega
          rw [this, cond_true, if_pos c]
        · have : (((a : Nat) : Int) == ((fI f - 1 : Nat) : Int)) = false := by rw [beq_eq_false_iff_ne]; omega
          rw [this, cond_false, if_neg c]

theorem NextS_lt (f : Int) {a : Nat} (ha : a < 2 ^ 64) : NextS f a < 2 ^ 64 := by
  have hI := fB_double f
  unfold NextS
  split
  · exact NAN_lt64 f
  · split
    · decide
    · split
      · exact PlainS_lt f (by omega)
      · split
        · exact ha
        · rename_i h1 h2 h3 h4
          have : kd f a = 3 := by rcases kd_vals f a with h | h | h | h <;> omega
          have := kd3_above ha this (by simpa using h3)
          omega

def PrevS (f : Int) (a : Nat) : Nat := if kd f a < 2 then NAN f else PlainS f (NegS f (NextS f (NegS f a)))

theorem cPrev_k {R : Type} (k : Nat) (f : Int) {a : Nat} (ha : a < 2 ^ 64) (K : Int → Option R) : conv_Prev k f (a : Int) K = K ((PrevS f a : Nat) : Int) := by
  unfold conv_Prev conv_PrevT PrevS
  have h1 := Neg_lt f ha
  have h2 := NextS_lt f h1
  rw [Finite_k k f ha]
  by_cases h : kd f a < 2
  · have e : FinS f a = false := by unfold FinS; exact decide_eq_false (by omega)
    rw [e, Bool.not_false, cond_true, Nan_k, if_pos h]
  · have e : FinS f a = true := by unfold FinS; exact decide_eq_true (by omega)
    rw [e, Bool.not_true, cond_false, Neg_k k f ha, cNext_k k f h1, Neg_k k f h2, cPlain_k k f (Neg_lt f h2), if_neg h]

/-- An int as a float. -/
def FromS (f m : Int) (n : Int) : Nat := Rd f m (decide (n < 0)) n.natAbs 0 false

theorem cFromInt_k {R : Type} (k : Nat) (f m : Int) {n : Int} (hn : -9223372036854775808 ≤ n ∧ n ≤ 9223372036854775807) (K : Int → Option R) : conv_FromInt k f m n K = K ((FromS f m n : Nat) : Int) := by
  unfold conv_FromInt conv_FromIntT FromS
  by_cases h : n < 0
  · have w : Wu64 (0 - Wu64 n) = ((n.natAbs : Nat) : Int) := by unfold Wu64; rw [wrap_u64, wrap_u64]; omega
    rw [decide_eq_true h, cond_true, w, Round64 k f m _ (by omega) (by omega) (by omega)]
  · have w : Wu64 n = ((n.natAbs : Nat) : Int) := by unfold Wu64; rw [wrap_u64]; omega
    rw [decide_eq_false h, cond_false, w, Round64 k f m _ (by omega) (by omega) (by omega)]

theorem FromS_lt (f m n : Int) : FromS f m n < 2 ^ 64 := form_lt ⟨_, Rd_form ..⟩

end Go.Proofs.Ytelifkahdhhmoaa.N

/- Package conv: hex. Conditions: none. -/
namespace Go.Proofs.Ytelifkahdhhmoaa.N
set_option linter.unusedVariables false
set_option linter.unusedSimpArgs false
open Go Go.Ab

/-! ### Texts -/

theorem toList_loop (bs : ByteArray) : ∀ (n i : Nat) (r : List UInt8), n + i = bs.size → ByteArray.toList.loop bs i r = r.reverse ++ bs.data.toList.drop i
  | 0, i, r, h => by
    rw [ByteArray.toList.loop, if_neg (by omega), List.drop_of_length_le (by rw [Array.length_toList]; show bs.size ≤ i; omega), List.append_nil]
  | n + 1, i, r, h => by
    have hi : i < bs.data.toList.length := by rw [Array.length_toList]; show i < bs.size; omega
    rw [ByteArray.toList.loop, if_pos (by omega), toList_loop bs n (i + 1) _ (by omega), List.reverse_cons, List.append_assoc]
    congr 1
    rw [List.drop_eq_getElem_cons hi]
    show bs.data[i]! :: _ = _
    rw [getElem!_pos bs.data i (by simpa using hi)]
    simp

theorem toList_data (bs : ByteArray) : bs.toList = bs.data.toList := by
  have := toList_loop bs bs.size 0 [] rfl
  simpa [ByteArray.toList] using this

theorem toList_beq (a b : ByteArray) : (a.toList == b.toList) = decide (a = b) := by
  by_cases h : a = b
  · subst h; simp
  · rw [decide_eq_false h, beq_eq_false_iff_ne, toList_data, toList_data]
    intro h2
    exact h (ByteArray.ext (Array.ext' h2))

theorem bytesOf_size (l : List Int) : (bytesOf l).size = l.length := by simp [bytesOf, ByteArray.size]

theorem bytesOf_cons (c : Int) (l : List Int) : bytesOf [c] ++ bytesOf l = bytesOf (c :: l) := by
  apply ByteArray.ext
  rw [ByteArray.data_append]
  simp [bytesOf]

theorem bytesOf_inj : ∀ {l m : List Int}, (∀ x ∈ l, 0 ≤ x ∧ x < 256) → (∀ x ∈ m, 0 ≤ x ∧ x < 256) → bytesOf l = bytesOf m → l = m := by
  intro l m hl hm h
  have h1 : l.map (fun n : Int => UInt8.ofNat n.toNat) = m.map (fun n : Int => UInt8.ofNat n.toNat) := by
    have := congrArg (fun b : ByteArray => b.data.toList) h
    simpa [bytesOf] using this
  have hlen : l.length = m.length := by simpa using congrArg List.length h1
  apply List.ext_getElem hlen
  intro i p q
  have h2 : (l.map (fun n : Int => UInt8.ofNat n.toNat))[i]'(by simpa using p) = (m.map (fun n : Int => UInt8.ofNat n.toNat))[i]'(by simpa using q) := by simp [h1]
  simp only [List.getElem_map] at h2
  have h3 := congrArg UInt8.toNat h2
  have a1 := hl _ (List.getElem_mem p); have a2 := hm _ (List.getElem_mem q)
  simp only [UInt8.toNat_ofNat'] at h3
  omega

/-- A table of ints. -/
def tabI (n : Nat) (f : Nat → Int) : List Int := (List.range n).map f
@[simp] theorem tabI_length (n : Nat) (f : Nat → Int) : (tabI n f).length = n := by simp [tabI]
theorem tabI_get (n : Nat) (f : Nat → Int) (i : Nat) : (tabI n f)[i]? = if i < n then some (f i) else none := by
  unfold tabI
  by_cases h : i < n
  · rw [if_pos h]; simp [h]
  · rw [if_neg h]; simp; omega
theorem tabI_set (n : Nat) (f : Nat → Int) (i : Nat) (b : Int) : (tabI n f).set i b = tabI n (fun j => if j = i then b else f j) := by
  apply List.ext_getElem?
  intro j
  rw [List.getElem?_set, tabI_get, tabI_get, tabI_length]
  by_cases h : i = j
  · subst h; simp
  · have : ¬ j = i := fun e => h e.symm
    simp [h, this]
theorem tabI_congr {n : Nat} {f g : Nat → Int} (h : ∀ i, i < n → f i = g i) : tabI n f = tabI n g := by
  apply List.ext_getElem?
  intro j
  rw [tabI_get, tabI_get]
  by_cases c : j < n
  · rw [if_pos c, if_pos c, h j c]
  · rw [if_neg c, if_neg c]
theorem tabI_zero (n : Nat) : List.replicate n (0 : Int) = tabI n (fun _ => 0) := by
  apply List.ext_getElem?
  intro j
  rw [List.getElem?_replicate, tabI_get]

/-! ### Digits -/

def hexd (d : Nat) : Int := if d < 10 then ((48 + d : Nat) : Int) else ((87 + d : Nat) : Int)
theorem hexd_at : ∀ n : Fin 16, strAt ⟨#[48, 49, 50, 51, 52, 53, 54, 55, 56, 57, 97, 98, 99, 100, 101, 102]⟩ ((n.val : Nat) : Int) = some (hexd n.val) := by decide +kernel
theorem hexd_bnd {d : Nat} (h : d < 16) : 0 ≤ hexd d ∧ hexd d < 256 := by unfold hexd; split <;> omega
theorem hexd_inj {d e : Nat} (h : d < 16) (h' : e < 16) (hh : hexd d = hexd e) : d = e := by unfold hexd at hh; split at hh <;> split at hh <;> omega

theorem and15 {x : Nat} (hx : x < 2 ^ 64) : bAnd .u64 (x : Int) 15 = ((x % 16 : Nat) : Int) := by
  rw [show (15 : Int) = ((2 ^ 4 - 1 : Nat) : Int) from by decide, bAnd_nat hx (by decide), Nat.and_two_pow_sub_one_eq_mod]

theorem chex_loop {R : Type} (k : Nat) {a : Nat} (ha : a < 2 ^ 64) (n : Int) (K : List Int → Option R) : ∀ (m f i : Nat), m + i = 16 → m < f →
    conv_Hex_l0 k f (a : Int) n 16 (i : Int) (tabI 16 fun j => if j < i then hexd (a / 2 ^ (4 * (15 - j)) % 16) else 0) K = K (tabI 16 fun j => hexd (a / 2 ^ (4 * (15 - j)) % 16))
  | m, 0, i, h1, h2 => by omega
  | 0, f + 1, i, h1, h2 => by
    have : i = 16 := by omega
    subst this
    rw [conv_Hex_l0, conv_Hex_l0B, decide_eq_false (by decide), cond_false]
    exact congrArg K (tabI_congr fun j hj => if_pos hj)
  | m + 1, f + 1, i, h1, h2 => by
    rw [conv_Hex_l0, conv_Hex_l0B]
    have e1 : (i : Int) < 16 := by omega
    have w : Wi64 (4 * Wi64 (15 - (i : Int))) = ((4 * (15 - i) : Nat) : Int) := by
      rw [wrap_i64 (x := 15 - (i : Int)) (by omega) (by omega), wrap_i64 (by omega) (by omega)]; omega
    have e2 : ¬ (((4 * (15 - i) : Nat) : Int) < 0) := by omega
    have hq : a / 2 ^ (4 * (15 - i)) < 2 ^ 64 := Nat.lt_of_le_of_lt (Nat.div_le_self _ _) ha
    have hd := hexd_at ⟨a / 2 ^ (4 * (15 - i)) % 16, Nat.mod_lt _ (by decide)⟩
    have e3 : (0 : Int) ≤ (i : Int) := by omega
    have e4 : (i : Int) < ((16 : Nat) : Int) := by omega
    have e5 : i < 16 := by omega
    have ih := chex_loop k ha n K m f (i + 1) (by omega) (by omega)
    rw [decide_eq_true e1, cond_true, w, decide_eq_false e2, cond_false, shr_nat a _ (by omega), and15 hq, hd, Option.bind_some, decide_eq_true e3, cond_true, tabI_length, decide_eq_true e4, cond_true, Int.toNat_natCast, tabI_get, if_pos e5, Option.bind_some, tabI_set, Wi64_succ (by omega)]
    refine Eq.trans ?_ ih
    congr 1
    refine tabI_congr fun j hj => ?_
    by_cases c : j = i
    · subst c; rw [if_pos rfl, if_pos (by omega)]
    · rw [if_neg c]
      by_cases c2 : j < i
      · rw [if_pos c2, if_pos (by omega)]
      · rw [if_neg c2, if_neg (by omega)]

/-- A float's digits. -/
def hexL (f : Int) (a : Nat) : List Int := tabI (if f = 1 then 8 else 16) fun j => hexd (a / 2 ^ (4 * ((if f = 1 then 8 else 16) - 1 - j)) % 16)
def HexS (f : Int) (a : Nat) : ByteArray := bytesOf (hexL f (if bad f a = true then NAN f else a))

theorem tabI_drop (f : Nat → Int) : (tabI 16 f).drop 8 = tabI 8 (fun j => f (8 + j)) := by
  apply List.ext_getElem?
  intro j
  rw [List.getElem?_drop, tabI_get, tabI_get]
  by_cases c : j < 8
  · rw [if_pos c, if_pos (by omega)]
  · rw [if_neg c, if_neg (by omega)]

theorem Class_bad (f : Int) (a : Nat) : (ClassS f a == 0) = bad f a := by
  unfold ClassS
  cases hb : bad f a with
  | true => rw [if_pos rfl]; rfl
  | false =>
    rw [if_neg (by decide)]
    split
    · rfl
    · split
      · rfl
      · split
        · rfl
        · split <;> rfl

theorem cHex_k {R : Type} {k : Nat} (hk : 5000 ≤ k) (f : Int) {a : Nat} (ha : a < 2 ^ 64) (K : ByteArray → Option R) : conv_Hex k f (a : Int) K = K (HexS f a) := by
  unfold conv_Hex conv_HexT conv_bits conv_bitsT HexS
  have loop : ∀ (x : Nat), x < 2 ^ 64 → ∀ (n : Int) (J : List Int → Option R), conv_Hex_l0 k k (x : Int) n (((List.length (List.replicate 16 (0 : Int))) : Nat) : Int) 0 (List.replicate 16 0) J = J (tabI 16 fun j => hexd (x / 2 ^ (4 * (15 - j)) % 16)) := by
    intro x hx n J
    have h := chex_loop (R := R) k hx n J 16 k 0 (by omega) (by omega)
    rw [List.length_replicate, tabI_zero]
    refine Eq.trans ?_ h
    congr 1
  have key : ∀ (x : Nat), x < 2 ^ 64 → ∀ r1 : Int, (r1 = if f = 1 then 32 else 64) →
      conv_Hex_l0 k k (x : Int) (Wi64 (Int.tdiv r1 4)) (((List.length (List.replicate 16 (0 : Int))) : Nat) : Int) 0 (List.replicate 16 0) (fun r4 =>
            cond (decide (16 ≤ (((List.length r4) : Nat) : Int))) (
              cond (decide (0 ≤ (Wi64 (16 - (Wi64 (Int.tdiv r1 4)))))) (
                cond (decide ((Wi64 (16 - (Wi64 (Int.tdiv r1 4)))) ≤ 16)) (
                  cond (decide ((Int.toNat (Wi64 (16 - (Wi64 (Int.tdiv r1 4))))) + (16 - (Int.toNat (Wi64 (16 - (Wi64 (Int.tdiv r1 4)))))) ≤ (List.length r4))) (
                  K (bytesOf (List.take (16 - (Int.toNat (Wi64 (16 - (Wi64 (Int.tdiv r1 4)))))) (List.drop (Int.toNat (Wi64 (16 - (Wi64 (Int.tdiv r1 4))))) r4)))) none) (
                  none)) (
                none)) (
              none)) = K (bytesOf (hexL f x)) := by
    intro x hx r1 hr
    rw [loop x hx, tabI_length, decide_eq_true (show (16 : Int) ≤ ((16 : Nat) : Int) by decide), cond_true]
    unfold hexL
    by_cases h : f = 1
    · rw [if_pos h] at hr
      rw [if_pos h, hr]
      have w : Wi64 (16 - Wi64 (Int.tdiv 32 4)) = 8 := by decide
      rw [w, decide_eq_true (by decide), cond_true, decide_eq_true (by decide), cond_true, decide_eq_true (by decide), cond_true, show (8 : Int).toNat = 8 from rfl, tabI_drop]
      rfl
    · rw [if_neg h] at hr
      rw [if_neg h, hr]
      have w : Wi64 (16 - Wi64 (Int.tdiv 64 4)) = 0 := by decide
      rw [w, decide_eq_true (by decide), cond_true, decide_eq_true (by decide), cond_true, decide_eq_true (by decide), cond_true, show (0 : Int).toNat = 0 from rfl, List.drop_zero]
      rfl
  have fin : ∀ r1 : Int, (r1 = if f = 1 then 32 else 64) → (cond (bad f a) (soft_Nan k f (fun r3 => conv_Hex_l0 k k r3 (Wi64 (Int.tdiv r1 4)) (((List.length (List.replicate 16 (0 : Int))) : Nat) : Int) 0 (List.replicate 16 0) (fun r4 =>
            cond (decide (16 ≤ (((List.length r4) : Nat) : Int))) (
              cond (decide (0 ≤ (Wi64 (16 - (Wi64 (Int.tdiv r1 4)))))) (
                cond (decide ((Wi64 (16 - (Wi64 (Int.tdiv r1 4)))) ≤ 16)) (
                  cond (decide ((Int.toNat (Wi64 (16 - (Wi64 (Int.tdiv r1 4))))) + (16 - (Int.toNat (Wi64 (16 - (Wi64 (Int.tdiv r1 4)))))) ≤ (List.length r4))) (
                  K (bytesOf (List.take (16 - (Int.toNat (Wi64 (16 - (Wi64 (Int.tdiv r1 4)))))) (List.drop (Int.toNat (Wi64 (16 - (Wi64 (Int.tdiv r1 4))))) r4)))) none) (
                  none)) (
                none)) (
              none))))
      (conv_Hex_l0 k k (a : Int) (Wi64 (Int.tdiv r1 4)) (((List.length (List.replicate 16 (0 : Int))) : Nat) : Int) 0 (List.replicate 16 0) (fun r4 =>
            cond (decide (16 ≤ (((List.length r4) : Nat) : Int))) (
              cond (decide (0 ≤ (Wi64 (16 - (Wi64 (Int.tdiv r1 4)))))) (
                cond (decide ((Wi64 (16 - (Wi64 (Int.tdiv r1 4)))) ≤ 16)) (
                  cond (decide ((Int.toNat (Wi64 (16 - (Wi64 (Int.tdiv r1 4))))) + (16 - (Int.toNat (Wi64 (16 - (Wi64 (Int.tdiv r1 4)))))) ≤ (List.length r4))) (
                  K (bytesOf (List.take (16 - (Int.toNat (Wi64 (16 - (Wi64 (Int.tdiv r1 4)))))) (List.drop (Int.toNat (Wi64 (16 - (Wi64 (Int.tdiv r1 4))))) r4)))) none) (
                  none)) (
                none)) (
              none)))) = K (bytesOf (hexL f (if bad f a = true then NAN f else a))) := by
    intro r1 hr
    cases hb : bad f a with
    | true => rw [cond_true, Nan_k, if_pos rfl]; exact key (NAN f) (NAN_lt64 f) r1 hr
    | false => rw [cond_false, if_neg (by decide)]; exact key a ha r1 hr
  rw [← Class_bad] at fin ⊢
  rw [Class_bad f a] at fin
  by_cases h : f = 1
  · have e : (f == 1) = true := beq_iff_eq.2 h
    rw [e, cond_true]
    dsimp only
    rw [Class_k k f ha, Class_bad]
    have := fin 32 (by rw [if_pos h])
    exact this
  · have e : (f == 1) = false := by rw [beq_eq_false_iff_ne]; exact h
    rw [e, cond_false]
    dsimp only
    rw [Class_k k f ha, Class_bad]
    have := fin 64 (by rw [if_neg h])
    exact this

end Go.Proofs.Ytelifkahdhhmoaa.N

/- Floats: the lowest ones. Conditions: none. -/
namespace Go.Proofs.Ytelifkahdhhmoaa.N
set_option linter.unusedVariables false
set_option linter.unusedSimpArgs false
open Go Go.Ab

theorem nG_small {f : Int} {g : Nat} (h : g < 2 ^ (fP f + 1)) : nG f g = g ∧ eG f g = fL f := by
  have hp := fP_pos f
  rw [Nat.pow_succ] at h
  unfold nG eG
  by_cases c : g < 2 ^ fP f
  · rw [if_pos c, if_pos c]; exact ⟨rfl, rfl⟩
  · rw [if_neg c, if_neg c]
    have h1 : g / 2 ^ fP f = 1 := Nat.div_eq_of_lt_le (by omega) (by omega)
    have h2 := Nat.div_add_mod g (2 ^ fP f)
    rw [h1, Nat.mul_one] at h2
    rw [h1]
    refine ⟨by omega, by omega⟩

theorem fI_two (f : Int) : 2 ^ (fP f + 1) < fI f := by
  rcases fmt f with ⟨_, h1, h2, h3⟩ | ⟨_, h1, h2, h3⟩ <;> unfold fI <;> rw [h1, h2] <;> decide

end Go.Proofs.Ytelifkahdhhmoaa.N

/- Package conv: floats as ints. Conditions: none. -/
namespace Go.Proofs.Ytelifkahdhhmoaa.N
set_option linter.unusedVariables false
set_option linter.unusedSimpArgs false
open Go Go.Ab

/-- A finite float without its places. -/
def truncN (f : Int) (a : Nat) : Nat := if e2 f a ≤ 0 then nn f a / 2 ^ (-(e2 f a)).toNat else nn f a * 2 ^ (e2 f a).toNat
def ToS (f : Int) (a : Nat) : Int × Bool :=
  if kd f a < 2 then (0, false) else if 2 ^ 31 < truncN f a ∨ (truncN f a = 2 ^ 31 ∧ bw f a = false) then (0, false) else (if bw f a = true then -((truncN f a : Nat) : Int) else ((truncN f a : Nat) : Int), true)

theorem cto_fin {R : Type} (N : Nat) (b : Bool) (hN : N < 2 ^ 64) (K : Int → Bool → Option R) (below : (Bool → Option R) → Option R) (hb : ∀ J, below J = J b) :
    (cond (decide ((N : Int) > 2147483648)) (K 0 false) (below (fun r7 => cond r7
      (cond (decide ((Wi64 (0 - (Wi64 (N : Int)))) > 2147483647)) (K 0 false) (K (Wi64 (0 - (Wi64 (N : Int)))) true))
      (cond (decide ((Wi64 (N : Int)) > 2147483647)) (K 0 false) (K (Wi64 (N : Int)) true))))) =
    (fun p : Int × Bool => K p.1 p.2) (if 2 ^ 31 < N ∨ (N = 2 ^ 31 ∧ b = false) then (0, false) else (if b = true then -((N : Nat) : Int) else ((N : Nat) : Int), true)) := by
  by_cases h : 2 ^ 31 < N
  · rw [decide_eq_true (by omega), cond_true, if_pos (.inl h)]
  · have w1 : Wi64 (N : Int) = (N : Int) := wrap_i64 (by omega) (by omega)
    have w2 : Wi64 (0 - (N : Int)) = -(N : Int) := by rw [wrap_i64 (by omega) (by omega)]; omega
    rw [decide_eq_false (by omega), cond_false, hb, w1, w2]
    cases b with
    | true => rw [cond_true, decide_eq_false (by omega), cond_false, if_neg (fun hh => hh.elim h (fun q => by cases q.2)), if_pos rfl]
    | false =>
      rw [cond_false]
      by_cases h2 : N = 2 ^ 31
      · rw [decide_eq_true (by omega), cond_true, if_pos (.inr ⟨h2, rfl⟩)]
      · rw [decide_eq_false (by omega), cond_false, if_neg (fun hh => hh.elim h (fun q => h2 q.1)), if_neg (by decide)]

theorem Shr_c {R : Type} (k : Nat) {X : Nat} {n : Int} (h : X < 2 ^ 64) (hn : (Lit.int .i64 n).wf = true) (h0 : 0 ≤ n) (K : Int → Int → Bool → Option R) :
    ∃ x, wide_Shr k 0 (X : Int) n K = K 0 ((X / 2 ^ n.toNat : Nat) : Int) x := by
  have := Shr_hl k (A := X) (n := n) (by omega) hn K
  rw [hi_small h, lo_small h] at this
  have hq : X / 2 ^ n.toNat < 2 ^ 64 := Nat.lt_of_le_of_lt (Nat.div_le_self _ _) h
  rw [hi_small hq, lo_small hq] at this
  exact ⟨_, this⟩

theorem kd3_nn {f : Int} {a : Nat} (h : kd f a = 3) (he : fL f < e2 f a) : 2 ^ 23 ≤ nn f a := by
  have h1 : 2 ^ 23 ≤ 2 ^ fP f := Nat.pow_le_pow_right (by decide) (fmt_le f).1
  unfold e2 ee at he
  rw [if_pos h, if_pos h] at he
  unfold nn
  rw [if_pos h]
  unfold eG at he; unfold nG
  split at he
  · omega
  · rename_i c; rw [if_neg c]; omega

theorem cToInt_k {R : Type} (k : Nat) (f : Int) {a : Nat} (ha : a < 2 ^ 64) (K : Int → Bool → Option R) : conv_ToInt k f (a : Int) K = K (ToS f a).1 (ToS f a).2 := by
  unfold conv_ToInt conv_ToIntT ToS
  have hf := fmt_le f
  have hb := e2_bnd f a
  have n1 := nn_lt64 f a
  rw [Finite_k k f ha]
  by_cases h : kd f a < 2
  · have e : FinS f a = false := by unfold FinS; exact decide_eq_false (by omega)
    rw [e, Bool.not_false, cond_true, if_pos h]
  · have e : FinS f a = true := by unfold FinS; exact decide_eq_true (by omega)
    have hbl := fun J : Bool → Option R => cbelow_k (R := R) k f ha (bad_of_kd (f := f) (a := a) (by omega)) J
    rw [e, Bool.not_true, cond_false, cvalue_k k f ha (by omega), if_neg h]
    unfold truncN
    by_cases c1 : e2 f a ≤ 0
    · have w : Wi64 (0 - e2 f a) = ((-(e2 f a)).toNat : Int) := by rw [wrap_i64 (by omega) (by omega)]; omega
      rw [decide_eq_true c1, cond_true, if_pos c1, w]
      have hq : nn f a / 2 ^ (-(e2 f a)).toNat < 2 ^ 64 := Nat.lt_of_le_of_lt (Nat.div_le_self _ _) (by omega)
      obtain ⟨x, hx⟩ := Shr_c (R := R) k (X := nn f a) (n := ((-(e2 f a)).toNat : Int)) (by omega) (wf_nat (by omega)) (by omega) (fun r4 r5 r6 =>
            cond (decide (r5 > 2147483648)) (
              K 0 false) (
              conv_below k f (a : Int) (fun r7 =>
                cond r7 (
                  cond (decide ((Wi64 (0 - (Wi64 r5))) > 2147483647)) (
                    K 0 false) (
                    K (Wi64 (0 - (Wi64 r5))) true)) (
                  cond (decide ((Wi64 r5) > 2147483647)) (
                    K 0 false) (
                    K (Wi64 r5) true)))))
      rw [hx, Int.toNat_natCast]
      exact cto_fin _ (bw f a) hq K _ hbl
    · rw [decide_eq_false c1, cond_false, if_neg c1]
      have h3 : kd f a = 3 := by
        rcases kd_vals f a with h' | h' | h' | h'
        · omega
        · omega
        · exfalso; unfold e2 at c1; rw [h'] at c1; simp at c1; omega
        · exact h'
      have hn := kd3_nn h3 (by omega)
      by_cases c2 : e2 f a < 11
      · have hs : shl .u64 ((nn f a : Nat) : Int) (e2 f a) = ((nn f a * 2 ^ (e2 f a).toNat : Nat) : Int) := by
          have e3 : e2 f a = ((e2 f a).toNat : Int) := by omega
          have hp : 2 ^ (e2 f a).toNat ≤ 2 ^ 10 := Nat.pow_le_pow_right (by decide) (by omega)
          have hm := Nat.mul_le_mul (show nn f a ≤ 2 ^ 53 by omega) hp
          rw [← Nat.pow_add] at hm
          rw [e3, shl_pow (by omega) (Nat.lt_of_le_of_lt hm (by decide)), ← e3]
        have hlt : nn f a * 2 ^ (e2 f a).toNat < 2 ^ 64 := by
          have hp : 2 ^ (e2 f a).toNat ≤ 2 ^ 10 := Nat.pow_le_pow_right (by decide) (by omega)
          have hm := Nat.mul_le_mul (show nn f a ≤ 2 ^ 53 by omega) hp
          rw [← Nat.pow_add] at hm
          exact Nat.lt_of_le_of_lt hm (by decide)
        rw [decide_eq_true c2, cond_true, decide_eq_false (by omega), cond_false, hs]
        exact cto_fin _ (bw f a) hlt K _ hbl
      · have hlt : 2 ^ 31 < nn f a * 2 ^ (e2 f a).toNat := by
          have hp : 2 ^ 11 ≤ 2 ^ (e2 f a).toNat := Nat.pow_le_pow_right (by decide) (by omega)
          have hm := Nat.mul_le_mul hn hp
          rw [← Nat.pow_add] at hm
          exact Nat.lt_of_lt_of_le (by decide) hm
        rw [decide_eq_false c2, cond_false, decide_eq_true (by omega), cond_true, if_pos (.inl hlt)]

end Go.Proofs.Ytelifkahdhhmoaa.N

/- The laws of package conv: what they share. Conditions: none. -/
namespace Go.Proofs.Ytelifkahdhhmoaa.N
set_option linter.unusedVariables false
set_option linter.unusedSimpArgs false
open Go Go.Ab

theorem dig01 {R : Type} (n : Nat) (K : Int → Int → Int → Bool → Option R) : conv_digits (n + 4) ⟨#[48, 46, 49]⟩ K = K 1 2 1 true := by kernel_rfl
theorem pt01 {R : Type} (n : Nat) (K : Bool → Option R) : conv_point (n + 4) ⟨#[48, 46, 49]⟩ K = K true := by kernel_rfl
theorem by01 {R : Type} (k n : Nat) (x1 x2 : Int) (K : Int → Option R) : conv_Literal_l0 k (n + 4) x1 x2 1 1 0 K = K 10 := by kernel_rfl

theorem cformat_k {R : Type} (k : Nat) (f : Int) (K : Int → Option R) : plumblinelaw03_format k f K = K (fm f) := by
  unfold plumblinelaw03_format plumblinelaw03_formatT fm
  by_cases h : f = 1
  · subst h; rfl
  · have : (f == 1) = false := by rw [beq_eq_false_iff_ne]; exact h
    rw [this, cond_false, if_neg h]

theorem clit01 {R : Type} {k : Nat} (hk : 5000 ≤ k) (K : Int → Int → Option R) : conv_Literal k 0 ⟨#[48, 46, 49]⟩ K = K 4591870180066957722 0 := by
  obtain ⟨n, rfl⟩ : ∃ n, k = n + 4 := ⟨k - 4, by omega⟩
  unfold conv_Literal conv_LiteralT
  rw [dig01, Bool.not_true, cond_false, pt01, Bool.not_true, cond_false, decide_eq_false (by decide), cond_false, by01]
  have l1 := Len_c (R := R) (n + 4) (X := 1) (by decide)
  have b1 : bl 1 = 1 := by decide
  rw [show (1 : Int) = ((1 : Nat) : Int) from rfl, l1, b1]
  have w1 : Wi64 (127 - ((1 : Nat) : Int)) = ((126 : Nat) : Int) := by decide
  have w2 : Wi64 (0 - ((126 : Nat) : Int)) = -126 := by decide
  have hs := fun J => Shl_c (R := R) (n + 4) (X := 1) (n := ((126 : Nat) : Int)) (by decide) (by decide) J
  rw [w1, hs, w2]
  have e1 : 1 * 2 ^ ((126 : Nat) : Int).toNat % 2 ^ 128 = 2 ^ 126 := by decide
  have hd := fun J => Div_hl (R := R) (k := n + 4) hk (A := 2 ^ 126) (b := 10) (by decide) (by decide) (by decide) J
  rw [e1, show (10 : Int) = ((10 : Nat) : Int) from rfl, hd]
  have hr := fun J => Round_c (R := R) (n + 4) 0 0 false (N := 2 ^ 126 / 10) (by decide) (-126) true J
  have hne : (((2 ^ 126 % 10 : Nat) : Int) != 0) = true := by decide
  have d1 : Rd 0 0 false (2 ^ 126 / 10 * 2 ^ 2 + true.toNat) (cec (-126) - ((2 : Nat) : Int)) false = 4591870180066957722 := by decide +kernel
  rw [hne, hr, d1]
  rfl

theorem clive_k {R : Type} {k : Nat} (hk : 5000 ≤ k) (K : Bool → Option R) : plumblinelaw03_live k K = K true := by
  unfold plumblinelaw03_live plumblinelaw03_liveT
  rw [clit01 hk]
  have q1 : ((4591870180066957722 : Int) == 4591870180066957722) = true := by decide
  have d2 : FromS 1 0 3 = 1077936128 := by decide +kernel
  have hF := fun J => cFromInt_k (R := R) k 1 0 (n := 3) (by decide) J
  have q2 : (((1077936128 : Nat) : Int) == 1077936128) = true := by decide
  have d3 : NextS 1 0 = 1 := by decide +kernel
  have hN : ∀ J : Int → Option R, conv_Next k 1 0 J = J 1 := fun J => (cNext_k (R := R) k 1 (a := 0) (by decide) J).trans (by rw [d3]; rfl)
  have d4 : HexS 1 1 = ⟨#[48, 48, 48, 48, 48, 48, 48, 49]⟩ := by decide +kernel
  have hH : ∀ J : ByteArray → Option R, conv_Hex k 1 1 J = J ⟨#[48, 48, 48, 48, 48, 48, 48, 49]⟩ := fun J => (cHex_k (R := R) hk 1 (a := 1) (by decide) J).trans (by rw [d4])
  rw [show ((0 : Int) == 0) = true from rfl, cond_true, q1, cond_true, hF, d2, q2, cond_true, hN, hH, toList_beq, decide_eq_true rfl]

end Go.Proofs.Ytelifkahdhhmoaa.N

/- What a format that is none counts as, in package conv. Conditions: none. -/
namespace Go.Proofs.Ytelifkahdhhmoaa.N
set_option linter.unusedVariables false
set_option linter.unusedSimpArgs false
open Go Go.Ab

theorem cWiden_k {R : Type} (k : Nat) {a : Nat} (ha : a < 2 ^ 64) (K : Int → Option R) : conv_Widen k (a : Int) K = K ((TurnS 1 0 0 a : Nat) : Int) := by
  unfold conv_Widen conv_WidenT; rw [cturned_k k 1 0 0 ha]
theorem cNarrow_k {R : Type} (k : Nat) (m : Int) {a : Nat} (ha : a < 2 ^ 64) (K : Int → Option R) : conv_Narrow k m (a : Int) K = K ((TurnS 0 1 m a : Nat) : Int) := by
  unfold conv_Narrow conv_NarrowT; rw [cturned_k k 0 1 m ha]
theorem e2_fm (f : Int) (a : Nat) : e2 (fm f) a = e2 f a := by unfold e2; rw [kd_fm, ee_fm, fL_fm]
theorem FromS_fm (f m n : Int) : FromS (fm f) m n = FromS f m n := by unfold FromS; rw [Rd_fm]
theorem truncN_fm (f : Int) (a : Nat) : truncN (fm f) a = truncN f a := by unfold truncN; rw [e2_fm, nn_fm]
theorem ToS_fm (f : Int) (a : Nat) : ToS (fm f) a = ToS f a := by unfold ToS; rw [kd_fm, truncN_fm, bw_fm]
theorem PlainS_fm (f : Int) (a : Nat) : PlainS (fm f) a = PlainS f a := by unfold PlainS; rw [kd_fm, NAN_fm]
theorem NextS_fm (f : Int) (a : Nat) : NextS (fm f) a = NextS f a := by unfold NextS; rw [kd_fm, NAN_fm, bw_fm, PlainS_fm, fI_fm]
theorem PrevS_fm (f : Int) (a : Nat) : PrevS (fm f) a = PrevS f a := by unfold PrevS; rw [kd_fm, NAN_fm, NegS_fm, NextS_fm, NegS_fm, PlainS_fm]
theorem HexS_fm (f : Int) (a : Nat) : HexS (fm f) a = HexS f a := by
  unfold HexS hexL
  rw [bad_fm, NAN_fm]
  by_cases h : f = 1
  · have := (fm_P f).2.2.2.2 h
    rw [if_pos h, if_pos this]
  · have : ¬ fm f = 1 := fun q => h ((fm_P f).2.2.2.1 q)
    rw [if_neg h, if_neg this]

end Go.Proofs.Ytelifkahdhhmoaa.N

/- Texts of digits: what they say, by lists of bytes. Conditions: none. -/
namespace Go.Proofs.Ytelifkahdhhmoaa.N
set_option linter.unusedVariables false
set_option linter.unusedSimpArgs false
open Go Go.Ab

theorem Wi_s {i : Nat} (h : i + 1 < 2 ^ 63) : Wi64 ((i : Int) + 1) = ((i + 1 : Nat) : Int) := (wrap_i64 (by omega) (by omega)).trans (by omega)

def dg (c : Nat) : Bool := decide (48 ≤ c) && decide (c ≤ 57)

/-- What stands ahead of the point, and behind it, if there is one. -/
def decode (L : List Nat) : Option (List Nat × Option (List Nat)) :=
  match L.dropWhile dg with
  | [] => if L = [] then none else some (L, none)
  | c :: R => if c = 46 ∧ L.takeWhile dg ≠ [] ∧ R ≠ [] ∧ R.all dg = true then some (L.takeWhile dg, some R) else none

def scanD (len : Nat) : List Nat → Nat → Nat → Nat → Int → Nat → Option (Nat × Nat × Int × Nat)
  | [], _, n, all, beh, pts => some (n, all, beh, pts)
  | c :: r, i, n, all, beh, pts =>
    if c = 46 ∧ 0 < i ∧ i + 1 < len then scanD len r (i + 1) n all beh (pts + 1)
    else if c < 48 ∨ 57 < c then none
    else scanD len r (i + 1) (if all + 1 ≤ 18 then (10 * n + (c - 48)) % 2 ^ 64 else n) (all + 1) (Wi64 (beh + (pts : Int))) pts

def cap : Nat → Nat → List Nat → Nat
  | n, _, [] => n
  | n, all, c :: D => cap (if all + 1 ≤ 18 then (10 * n + (c - 48)) % 2 ^ 64 else n) (all + 1) D

theorem dg_spec {c : Nat} : dg c = true ↔ 48 ≤ c ∧ c ≤ 57 := by unfold dg; simp

theorem scan_dig (len : Nat) (R : List Nat) : ∀ (D : List Nat) (i n all : Nat) (b p : Nat), D.all dg = true → p ≤ 1 → b + p * D.length < 2 ^ 63 →
    scanD len (D ++ R) i n all (b : Int) p = scanD len R (i + D.length) (cap n all D) (all + D.length) ((b + p * D.length : Nat) : Int) p
  | [], i, n, all, b, p, _, _, _ => by simp [cap]
  | c :: D, i, n, all, b, p, h, hp, hb => by
    rw [List.all_cons, Bool.and_eq_true] at h
    have hc := dg_spec.1 h.1
    have hl : (c :: D).length = D.length + 1 := rfl
    rw [hl] at hb ⊢
    have hm : p * (D.length + 1) = p + p * D.length := by rw [Nat.mul_add, Nat.mul_one, Nat.add_comm]
    have w : Wi64 ((b : Int) + (p : Int)) = ((b + p : Nat) : Int) := (wrap_i64 (by omega) (by omega)).trans (by omega)
    rw [List.cons_append, scanD, if_neg (by omega), if_neg (by omega), w, scan_dig len R D (i + 1) _ (all + 1) (b + p) p h.2 hp (by omega), cap, hm]
    congr 1
    · omega
    · omega
    · omega

theorem scan_pts (len : Nat) : ∀ (L : List Nat) (i n all : Nat) (b : Int) (p : Nat) (q : Nat × Nat × Int × Nat), scanD len L i n all b p = some q → p ≤ q.2.2.2
  | [], i, n, all, b, p, q, h => by rw [scanD] at h; cases h; exact Nat.le_refl _
  | c :: L, i, n, all, b, p, q, h => by
    rw [scanD] at h
    split at h
    · have := scan_pts len L _ _ _ _ _ q h; omega
    · split at h
      · cases h
      · exact scan_pts len L _ _ _ _ _ q h

theorem dropWhile_head {L : List Nat} {c : Nat} {R : List Nat} (h : L.dropWhile dg = c :: R) : dg c = false := by
  induction L with
  | nil => cases h
  | cons x L ih =>
    rw [List.dropWhile_cons] at h
    by_cases hx : dg x = true
    · rw [if_pos hx] at h; exact ih h
    · rw [if_neg hx] at h; cases h; simpa using hx

theorem takeWhile_all (L : List Nat) : (L.takeWhile dg).all dg = true := by
  induction L with
  | nil => rfl
  | cons x L ih =>
    rw [List.takeWhile_cons]
    by_cases hx : dg x = true
    · rw [if_pos hx, List.all_cons, hx, ih]; rfl
    · rw [if_neg hx]; rfl

theorem split_at (L : List Nat) : L = L.takeWhile dg ++ L.dropWhile dg := List.takeWhile_append_dropWhile.symm

theorem dropWhile_nil {L : List Nat} (h : L.dropWhile dg = []) : L.takeWhile dg = L ∧ L.all dg = true := by
  have := split_at L
  rw [h, List.append_nil] at this
  exact ⟨this.symm, by rw [this]; exact takeWhile_all L⟩

theorem not_dg {c : Nat} (h : dg c = false) : c < 48 ∨ 57 < c := by
  have : ¬ (48 ≤ c ∧ c ≤ 57) := fun q => by rw [dg_spec.2 q] at h; cases h
  omega

/-- What a scan of the digits comes to. -/
theorem scan_decode {L : List Nat} (hl : L.length < 2 ^ 63) :
    (decode L = none → (∀ q, scanD L.length L 0 0 0 0 0 = some q → 1 < q.2.2.2 ∨ q.2.1 = 0)) ∧
    (∀ A, decode L = some (A, none) → A = L ∧ A ≠ [] ∧ A.all dg = true ∧ scanD L.length L 0 0 0 0 0 = some (cap 0 0 A, A.length, 0, 0)) ∧
    (∀ A B, decode L = some (A, some B) → L = A ++ 46 :: B ∧ A ≠ [] ∧ B ≠ [] ∧ A.all dg = true ∧ B.all dg = true ∧ scanD L.length L 0 0 0 0 0 = some (cap 0 0 (A ++ B), A.length + B.length, (B.length : Int), 1)) := by
  have hs := split_at L
  have hA := takeWhile_all L
  obtain ⟨A, hAe⟩ : ∃ A, A = L.takeWhile dg := ⟨_, rfl⟩
  obtain ⟨R, hRe⟩ : ∃ R, R = L.dropWhile dg := ⟨_, rfl⟩
  rw [← hAe, ← hRe] at hs
  rw [← hAe] at hA
  have hlen : L.length = A.length + R.length := by rw [hs, List.length_append]
  have h1 : scanD L.length L 0 0 0 0 0 = scanD L.length R A.length (cap 0 0 A) A.length 0 0 := by
    have h := scan_dig L.length R A 0 0 0 0 0 hA (by decide) (by omega)
    rw [Nat.zero_mul, Nat.zero_add, Nat.zero_add, ← hs] at h
    exact h
  have capp : ∀ (D E : List Nat) (n all : Nat), cap n all (D ++ E) = cap (cap n all D) (all + D.length) E := by
    intro D
    induction D with
    | nil => intro E n all; rfl
    | cons c D ih =>
      intro E n all
      rw [List.cons_append, cap, ih, cap]
      congr 1
      simp; omega
  have hd : decode L = match (generalizing := false) R with
      | [] => if L = [] then none else some (L, none)
      | c :: R => if c = 46 ∧ A ≠ [] ∧ R ≠ [] ∧ R.all dg = true then some (A, some R) else none := by
    unfold decode; rw [← hRe, ← hAe]
  cases R with
  | nil =>
    have e : A = L := by rw [List.append_nil] at hs; exact hs.symm
    rw [scanD] at h1
    by_cases c : L = []
    · rw [hd]; simp only [c, if_true]
      refine ⟨fun _ q hq => ?_, fun A h => (by cases h), fun A B h => (by cases h)⟩
      rw [c] at h1
      have : A = [] := by rw [e, c]
      rw [h1, this] at hq
      cases hq
      exact .inr rfl
    · rw [hd]; simp only [c, if_false]
      refine ⟨fun h => (by cases h), fun A' h => ?_, fun A' B h => (by cases h)⟩
      cases h
      rw [e] at hA h1
      exact ⟨rfl, c, hA, h1⟩
  | cons c R' =>
    have hc := not_dg (dropWhile_head hRe.symm)
    have hR : (c :: R').length = R'.length + 1 := rfl
    rw [hR] at hlen
    by_cases g : c = 46 ∧ A ≠ [] ∧ R' ≠ []
    · obtain ⟨rfl, g1, g2⟩ := g
      have hAp : 0 < A.length := List.length_pos_iff.2 g1
      have hRp : 0 < R'.length := List.length_pos_iff.2 g2
      rw [scanD, if_pos ⟨rfl, hAp, by omega⟩] at h1
      have hs2 := split_at R'
      obtain ⟨B, hBe⟩ : ∃ B, B = R'.takeWhile dg := ⟨_, rfl⟩
      obtain ⟨R2, hR2e⟩ : ∃ R2, R2 = R'.dropWhile dg := ⟨_, rfl⟩
      rw [← hBe, ← hR2e] at hs2
      have hB : B.all dg = true := hBe ▸ takeWhile_all R'
      have hl2 : R'.length = B.length + R2.length := by rw [hs2, List.length_append]
      have h2 := scan_dig L.length R2 B (A.length + 1) (cap 0 0 A) A.length 0 1 hB (by decide) (by omega)
      rw [← hs2] at h2
      have e0 : 0 + 1 * B.length = B.length := by omega
      rw [e0] at h2
      replace h1 := h1.trans h2
      cases R2 with
      | nil =>
        have eB : B = R' := by rw [List.append_nil] at hs2; exact hs2.symm
        have al : R'.all dg = true := eB ▸ hB
        rw [hd]; simp only [g1, g2, al, ne_eq, not_false_eq_true, and_self, if_true]
        refine ⟨fun h => (by cases h), fun A' h => (by cases h), fun A' B' h => ?_⟩
        cases h
        refine ⟨hs, g1, g2, hA, al, ?_⟩
        rw [h1, scanD, capp, Nat.zero_add, eB]
      | cons c2 R3 =>
        have hc2 := dropWhile_head hR2e.symm
        have al : R'.all dg = false := by
          rw [hs2, List.all_append, List.all_cons, hc2]; simp
        rw [hd]; simp only [al, Bool.false_eq_true, and_false, if_false]
        refine ⟨fun _ q hq => ?_, fun A' h => (by cases h), fun A' B' h => (by cases h)⟩
        rw [h1, scanD] at hq
        split at hq
        · have := scan_pts _ _ _ _ _ _ _ _ hq; exact .inl (by omega)
        · rw [if_pos (not_dg hc2)] at hq; cases hq
    · have gd : ¬ (c = 46 ∧ A ≠ [] ∧ R' ≠ [] ∧ R'.all dg = true) := fun q => g ⟨q.1, q.2.1, q.2.2.1⟩
      rw [hd]; simp only [gd, if_false]
      refine ⟨fun _ q hq => ?_, fun A' h => (by cases h), fun A' B' h => (by cases h)⟩
      have gn : ¬ (c = 46 ∧ 0 < A.length ∧ A.length + 1 < L.length) := by
        rintro ⟨q1, q2, q3⟩
        exact g ⟨q1, List.length_pos_iff.1 q2, List.length_pos_iff.1 (by omega)⟩
      rw [h1, scanD, if_neg gn, if_pos hc] at hq
      cases hq

/-- The number of digits. -/
def vd (n : Nat) (D : List Nat) : Nat := D.foldl (fun n c => 10 * n + (c - 48)) n
theorem vd_nil (n : Nat) : vd n [] = n := rfl
theorem vd_cons (n c : Nat) (D : List Nat) : vd n (c :: D) = vd (10 * n + (c - 48)) D := by unfold vd; rw [List.foldl_cons]
theorem vd_app (n : Nat) (D E : List Nat) : vd n (D ++ E) = vd (vd n D) E := List.foldl_append

theorem vd_lt : ∀ (D : List Nat) (n a : Nat), D.all dg = true → n < 10 ^ a → vd n D < 10 ^ (a + D.length)
  | [], n, a, _, h => by rw [vd_nil, List.length_nil, Nat.add_zero]; exact h
  | c :: D, n, a, hD, h => by
    rw [List.all_cons, Bool.and_eq_true] at hD
    have hc := dg_spec.1 hD.1
    have h1 : 10 * n + (c - 48) < 10 ^ (a + 1) := by
      have : 10 ^ (a + 1) = 10 * 10 ^ a := by rw [Nat.pow_succ, Nat.mul_comm]
      omega
    have h2 := vd_lt D _ (a + 1) hD.2 h1
    rw [vd_cons, List.length_cons, show a + (D.length + 1) = a + 1 + D.length by omega]
    exact h2

theorem cap_vd : ∀ (D : List Nat) (n a : Nat), D.all dg = true → n < 10 ^ a → a + D.length ≤ 18 → cap n a D = vd n D
  | [], n, a, _, _, _ => rfl
  | c :: D, n, a, hD, h, hl => by
    rw [List.all_cons, Bool.and_eq_true] at hD
    have hc := dg_spec.1 hD.1
    rw [List.length_cons] at hl
    have h1 : 10 * n + (c - 48) < 10 ^ (a + 1) := by
      have : 10 ^ (a + 1) = 10 * 10 ^ a := by rw [Nat.pow_succ, Nat.mul_comm]
      omega
    have h2 : 10 ^ (a + 1) ≤ 10 ^ 18 := Nat.pow_le_pow_right (by decide) (by omega)
    have h3 : (10 : Nat) ^ 18 < 2 ^ 64 := by decide
    have h4 : (10 * n + (c - 48)) % 2 ^ 64 = 10 * n + (c - 48) := Nat.mod_eq_of_lt (by omega)
    have h5 : a + 1 ≤ 18 := by omega
    rw [vd_cons, ← cap_vd D _ (a + 1) hD.2 h1 (by omega)]
    show cap (if a + 1 ≤ 18 then (10 * n + (c - 48)) % 2 ^ 64 else n) (a + 1) D = _
    rw [if_pos h5, h4]

end Go.Proofs.Ytelifkahdhhmoaa.N

/- Package conv: digits, points, ints and literals. Conditions: none. -/
namespace Go.Proofs.Ytelifkahdhhmoaa.N
set_option linter.unusedVariables false
set_option linter.unusedSimpArgs false
open Go Go.Ab

/-- A text's bytes. -/
def bys (s : ByteArray) : List Nat := s.data.toList.map UInt8.toNat

theorem strInts_bys (s : ByteArray) : strInts s = (bys s).map (fun n : Nat => (n : Int)) := by
  unfold strInts bys; rw [List.map_map]; rfl
theorem size_bys (s : ByteArray) : s.size = (bys s).length := by unfold bys; rw [List.length_map, Array.length_toList]; rfl
theorem bys_lt (s : ByteArray) : ∀ c ∈ bys s, c < 256 := by
  intro c hc
  unfold bys at hc
  rw [List.mem_map] at hc
  obtain ⟨b, _, rfl⟩ := hc
  exact b.toNat_lt

theorem bys_get {s : ByteArray} {i : Nat} (h : i < (bys s).length) : ∃ hi : i < s.data.size, (bys s)[i] = (s.data[i]).toNat := by
  have hi : i < s.data.size := by rw [← size_bys] at h; exact h
  exact ⟨hi, by simp [bys]⟩

theorem strAt_bys {s : ByteArray} {i : Nat} (h : i < (bys s).length) : strAt s (i : Int) = some (((bys s)[i] : Nat) : Int) := by
  obtain ⟨hi, he⟩ := bys_get h
  unfold strAt
  have hs : i < s.size := hi
  rw [if_pos (by omega), Int.toNat_natCast, getElem?_pos s i hs, Option.map_some, he]
  rfl

theorem decode_ascii {s : ByteArray} {i : Nat} (h : i < (bys s).length) (hc : (bys s)[i] < 128) : runeAt s (i : Int) = (((bys s)[i] : Nat) : Int) ∧ runeW s (i : Int) = 1 := by
  obtain ⟨hi, he⟩ := bys_get h
  have hg : (s.get! (i + 0)).toNat = (bys s)[i] := by
    rw [he, Nat.add_zero]
    show (s.data[i]!).toNat = _
    rw [getElem!_pos s.data i hi]
  have hd : Utf8.decode s i = ((bys s)[i], 1) := by
    unfold Utf8.decode
    simp only [hg, if_pos hc]
  unfold runeAt runeW
  rw [Int.toNat_natCast, hd]
  exact ⟨rfl, rfl⟩

theorem drop_at {L : List Nat} {i : Nat} (h : i < L.length) : L.drop i = L[i] :: L.drop (i + 1) := List.drop_eq_getElem_cons h

theorem cdig_loop {R : Type} (k : Nat) (s : ByteArray) (hl : (bys s).length < 2 ^ 63) (K0 : Option R) (K1 : Int → Int → Int → Int → Option R) : ∀ (fu i n all : Nat) (b : Int) (p : Nat), i ≤ (bys s).length → (bys s).length - i < fu → all ≤ i → p ≤ i →
    conv_digits_l0 k fu s (n : Int) (all : Int) b (p : Int) ((bys s).length : Int) (i : Int) (strInts s) K0 K1 =
      (scanD (bys s).length ((bys s).drop i) i n all b p).elim K0 (fun q => K1 (q.1 : Int) (q.2.1 : Int) q.2.2.1 (q.2.2.2 : Int))
  | 0, i, n, all, b, p, h1, h2, _, _ => by omega
  | fu + 1, i, n, all, b, p, h1, h2, h3, h4 => by
    rw [conv_digits_l0, conv_digits_l0B]
    by_cases c : i < (bys s).length
    · have hx : (strInts s)[i]? = some (((bys s)[i] : Nat) : Int) := by rw [strInts_bys, List.getElem?_map, List.getElem?_eq_getElem c]; rfl
      have hlen : (strInts s).length = (bys s).length := by rw [strInts_bys, List.length_map]
      have hc256 := bys_lt s _ (List.getElem_mem c)
      obtain ⟨d, hd⟩ : ∃ d, d = (bys s)[i] := ⟨_, rfl⟩
      rw [← hd] at hx hc256
      rw [drop_at c, scanD, ← hd, decide_eq_true (show (i : Int) < ((bys s).length : Int) by omega), cond_true, decide_eq_true (show (0 : Int) ≤ (i : Int) by omega), cond_true, hlen,
        decide_eq_true (show (i : Int) < (((bys s).length : Nat) : Int) by omega), cond_true, Int.toNat_natCast, hx, Option.bind_some]
      have wi : Wi64 ((i : Int) + 1) = ((i + 1 : Nat) : Int) := Wi_s (by omega)
      have wa : Wi64 ((all : Int) + 1) = ((all + 1 : Nat) : Int) := Wi_s (by omega)
      have wp : Wi64 ((p : Int) + 1) = ((p + 1 : Nat) : Int) := Wi_s (by omega)
      rw [wi, wa, wp]
      have DIG : (cond (decide ((d : Int) < 48)) K0 (cond (decide ((d : Int) > 57)) K0 (cond (decide (((all + 1 : Nat) : Int) ≤ 18))
            (conv_digits_l0 k fu s (Wu64 ((Wu64 (10 * (n : Int))) + (Wu64 (Wu8 ((d : Int) - 48))))) ((all + 1 : Nat) : Int) (Wi64 (b + (p : Int))) (p : Int) ((bys s).length : Int) ((i + 1 : Nat) : Int) (strInts s) K0 K1)
            (conv_digits_l0 k fu s (n : Int) ((all + 1 : Nat) : Int) (Wi64 (b + (p : Int))) (p : Int) ((bys s).length : Int) ((i + 1 : Nat) : Int) (strInts s) K0 K1)))) =
          (if d < 48 ∨ 57 < d then none else scanD (bys s).length ((bys s).drop (i + 1)) (i + 1) (if all + 1 ≤ 18 then (10 * n + (d - 48)) % 2 ^ 64 else n) (all + 1) (Wi64 (b + (p : Int))) p).elim K0 (fun q => K1 (q.1 : Int) (q.2.1 : Int) q.2.2.1 (q.2.2.2 : Int)) := by
        by_cases c1 : d < 48
        · rw [decide_eq_true (show (d : Int) < 48 by omega), cond_true, if_pos (.inl c1)]; rfl
        · rw [decide_eq_false (show ¬ (d : Int) < 48 by omega), cond_false]
          by_cases c2 : 57 < d
          · rw [decide_eq_true (show (d : Int) > 57 by omega), cond_true, if_pos (.inr c2)]; rfl
          · rw [decide_eq_false (show ¬ (d : Int) > 57 by omega), cond_false, if_neg (by omega)]
            by_cases c3 : all + 1 ≤ 18
            · have w8 : Wu8 ((d : Int) - 48) = ((d - 48 : Nat) : Int) := by
                rw [show (d : Int) - 48 = ((d - 48 : Nat) : Int) by omega]; exact Wu8_nat (by omega)
              have wn : Wu64 ((Wu64 (10 * (n : Int))) + (Wu64 (Wu8 ((d : Int) - 48)))) = (((10 * n + (d - 48)) % 2 ^ 64 : Nat) : Int) := by
                rw [w8, show 10 * (n : Int) = ((10 * n : Nat) : Int) by omega, Wu64_nat, Wu64_nat, ← Int.natCast_add, Wu64_nat]
                congr 1
                omega
              rw [decide_eq_true (show ((all + 1 : Nat) : Int) ≤ 18 by omega), cond_true, if_pos c3, wn]
              exact cdig_loop k s hl K0 K1 fu (i + 1) _ (all + 1) _ p (by omega) (by omega) (by omega) (by omega)
            · rw [decide_eq_false (show ¬ ((all + 1 : Nat) : Int) ≤ 18 by omega), cond_false, if_neg c3]
              exact cdig_loop k s hl K0 K1 fu (i + 1) _ (all + 1) _ p (by omega) (by omega) (by omega) (by omega)
      by_cases g : d = 46 ∧ 0 < i ∧ i + 1 < (bys s).length
      · have w : Wi64 (((s.size : Nat) : Int) - 1) = (((bys s).length - 1 : Nat) : Int) := by
          rw [size_bys]; exact (wrap_i64 (by omega) (by omega)).trans (by omega)
        rw [if_pos g, g.1, show (((46 : Nat) : Int) == 46) = true from rfl, cond_true, decide_eq_true (show (i : Int) > 0 by omega), cond_true, w,
          decide_eq_true (show (i : Int) < (((bys s).length - 1 : Nat) : Int) by omega), cond_true]
        exact cdig_loop k s hl K0 K1 fu (i + 1) n all b (p + 1) (by omega) (by omega) (by omega) (by omega)
      · rw [if_neg g]
        by_cases e1 : d = 46
        · have : ((d : Int) == 46) = true := by rw [beq_iff_eq]; omega
          rw [this, cond_true]
          by_cases e2 : 0 < i
          · have w : Wi64 (((s.size : Nat) : Int) - 1) = (((bys s).length - 1 : Nat) : Int) := by
              rw [size_bys]; exact (wrap_i64 (by omega) (by omega)).trans (by omega)
            rw [decide_eq_true (show (i : Int) > 0 by omega), cond_true, w, decide_eq_false (show ¬ (i : Int) < (((bys s).length - 1 : Nat) : Int) by omega), cond_false]
            exact DIG
          · rw [decide_eq_false (show ¬ (i : Int) > 0 by omega), cond_false]
            exact DIG
        · have : ((d : Int) == 46) = false := by rw [beq_eq_false_iff_ne]; omega
          rw [this, cond_false]
          exact DIG
    · rw [decide_eq_false (by omega), cond_false, List.drop_of_length_le (by omega), scanD]
      rfl

theorem cdig_l1 {R : Type} {k : Nat} (hk : 5000 ≤ k) (K : Int → Int → Int → Bool → Option R) : conv_digits_l1 k k K = K 0 0 0 false := by
  obtain ⟨k', rfl⟩ : ∃ k', k = k' + 1 := ⟨k - 1, by omega⟩
  rw [conv_digits_l1, conv_digits_l1B]

theorem cdigits_k {R : Type} {k : Nat} (hk : 5000 ≤ k) (s : ByteArray) (hl : (bys s).length < 2 ^ 63) (hk2 : (bys s).length < k) (K : Int → Int → Int → Bool → Option R) :
    (decode (bys s) = none → conv_digits k s K = K 0 0 0 false) ∧
    (∀ A, decode (bys s) = some (A, none) → conv_digits k s K = K ((cap 0 0 A : Nat) : Int) (A.length : Int) 0 true) ∧
    (∀ A B, decode (bys s) = some (A, some B) → conv_digits k s K = K ((cap 0 0 (A ++ B) : Nat) : Int) ((A.length + B.length : Nat) : Int) (B.length : Int) true) := by
  have hlen : (strInts s).length = (bys s).length := by rw [strInts_bys, List.length_map]
  obtain ⟨d1, d2, d3⟩ := scan_decode hl
  have h := cdig_loop (R := R) k s hl (conv_digits_l1 k k (fun r1 r2 r3 r4 => K r1 r2 r3 r4)) (fun r5 r6 r7 r8 =>
    cond (decide (r8 > 1)) (
      conv_digits_l1 k k (fun r9 r10 r11 r12 =>
        K r9 r10 r11 r12)) (
      cond (r6 == 0) (
        conv_digits_l1 k k (fun r13 r14 r15 r16 =>
          K r13 r14 r15 r16)) (
        K r5 r6 r7 true))) k 0 0 0 0 0 (by omega) (by omega) (by omega) (by omega)
  rw [List.drop_zero, ← hlen] at h
  have h0 : conv_digits k s K = _ := h
  rw [hlen] at h0
  rw [h0]
  refine ⟨fun hd => ?_, fun A hd => ?_, fun A B hd => ?_⟩
  · cases hq : scanD (bys s).length (bys s) 0 0 0 0 0 with
    | none => exact cdig_l1 hk _
    | some q =>
      rw [Option.elim_some]
      rcases d1 hd q hq with g | g
      · rw [decide_eq_true (by omega), cond_true, cdig_l1 hk]
      · by_cases g2 : (q.2.2.2 : Int) > 1
        · rw [decide_eq_true g2, cond_true, cdig_l1 hk]
        · have : ((q.2.1 : Int) == 0) = true := by rw [beq_iff_eq]; omega
          rw [decide_eq_false g2, cond_false, this, cond_true, cdig_l1 hk]
  · obtain ⟨e1, e2, e3, e4⟩ := d2 A hd
    have hp : 0 < A.length := List.length_pos_iff.2 e2
    rw [e4, Option.elim_some]
    dsimp only
    have : (((A.length : Nat) : Int) == 0) = false := by rw [beq_eq_false_iff_ne]; omega
    rw [decide_eq_false (by decide), cond_false, this, cond_false]
  · obtain ⟨e1, e2, e3, e4, e5, e6⟩ := d3 A B hd
    have hp : 0 < A.length := List.length_pos_iff.2 e2
    rw [e6, Option.elim_some]
    dsimp only
    have : (((A.length + B.length : Nat) : Int) == 0) = false := by rw [beq_eq_false_iff_ne]; omega
    rw [decide_eq_false (by decide), cond_false, this, cond_false]

theorem cpt_loop {R : Type} (k : Nat) (s : ByteArray) (hb : ∀ c ∈ bys s, c < 128) (K0 : Bool → Option R) (K1 : Option R) : ∀ (fu i : Nat), i ≤ (bys s).length → (bys s).length - i < fu →
    conv_point_l0 k fu s (i : Int) K0 K1 = if 46 ∈ (bys s).drop i then K0 true else K1
  | 0, i, h1, h2 => by omega
  | fu + 1, i, h1, h2 => by
    rw [conv_point_l0, conv_point_l0B, size_bys]
    by_cases c : i < (bys s).length
    · obtain ⟨r1, r2⟩ := decode_ascii c (hb _ (List.getElem_mem c))
      have hd := drop_at c
      rw [decide_eq_true (show (i : Int) < (((bys s).length : Nat) : Int) by omega), cond_true, r1, r2]
      by_cases e : (bys s)[i] = 46
      · have : ((((bys s)[i] : Nat) : Int) == 46) = true := by rw [e]; rfl
        rw [this, cond_true, if_pos (by rw [hd, e]; exact List.mem_cons_self)]
      · have : ((((bys s)[i] : Nat) : Int) == 46) = false := by rw [beq_eq_false_iff_ne]; omega
        have ih := cpt_loop k s hb K0 K1 fu (i + 1) (by omega) (by omega)
        rw [this, cond_false, show (i : Int) + 1 = ((i + 1 : Nat) : Int) by omega, ih, hd]
        have hm : (46 ∈ (bys s)[i] :: (bys s).drop (i + 1)) ↔ 46 ∈ (bys s).drop (i + 1) := by
          rw [List.mem_cons]
          exact ⟨fun q => q.elim (fun q => absurd q.symm e) id, .inr⟩
        simp only [hm]
    · rw [decide_eq_false (by omega), cond_false, List.drop_of_length_le (by omega), if_neg (by simp)]

theorem cpoint_k {R : Type} {k : Nat} (s : ByteArray) (hb : ∀ c ∈ bys s, c < 128) (hk2 : (bys s).length < k) (K : Bool → Option R) : conv_point k s K = K (decide (46 ∈ bys s)) := by
  have h := cpt_loop (R := R) k s hb (fun r1 => K r1) (K false) k 0 (by omega) (by omega)
  rw [List.drop_zero] at h
  refine Eq.trans h ?_
  by_cases c : 46 ∈ bys s
  · rw [if_pos c, decide_eq_true c]
  · rw [if_neg c, decide_eq_false c]

theorem all_dg_lt {D : List Nat} (h : D.all dg = true) : ∀ c ∈ D, 48 ≤ c ∧ c ≤ 57 := fun c hc => dg_spec.1 (List.all_eq_true.1 h c hc)

theorem cby_loop {R : Type} (k : Nat) (x1 x2 : Int) {n : Nat} (hn : n < 2 ^ 60) (K : Int → Option R) : ∀ (d fu i b : Nat), d + i = n → d < fu → b * 10 ^ d < 2 ^ 64 →
    conv_Literal_l0 k fu x1 x2 (b : Int) (n : Int) (i : Int) K = K ((b * 10 ^ d : Nat) : Int)
  | d, 0, i, b, h1, h2, _ => by omega
  | 0, fu + 1, i, b, h1, h2, _ => by
    rw [conv_Literal_l0, conv_Literal_l0B, decide_eq_false (by omega), cond_false, Nat.pow_zero, Nat.mul_one]
  | d + 1, fu + 1, i, b, h1, h2, h3 => by
    have e : b * 10 ^ (d + 1) = b * 10 * 10 ^ d := by rw [Nat.pow_succ, Nat.mul_assoc, Nat.mul_comm 10]
    have hp : 0 < 10 ^ d := Nat.pow_pos (by decide)
    have hle : b * 10 * 1 ≤ b * 10 * 10 ^ d := Nat.mul_le_mul_left _ hp
    have w : Wu64 ((b : Int) * 10) = ((b * 10 : Nat) : Int) := by
      rw [show (b : Int) * 10 = ((b * 10 : Nat) : Int) by omega]; exact Wu64_lt (by omega)
    rw [conv_Literal_l0, conv_Literal_l0B, decide_eq_true (by omega), cond_true, w, Wi_s (by omega), cby_loop k x1 x2 hn K d fu (i + 1) (b * 10) (by omega) (by omega) (by omega), e]

/-- A quotient, rounded. -/
def LitX (f : Int) (X Y : Nat) : Nat := if X = 0 then 0 else DivX f 0 false X Y 0 (127 - bl X)
def LitS (f : Int) (L : List Nat) : Int × Int :=
  match decode L with
  | some (A, some B) => if 18 < A.length + B.length then (0, 9) else (((LitX f (vd 0 (A ++ B)) (10 ^ B.length) : Nat) : Int), 0)
  | _ => (0, 4)
def IntS (L : List Nat) : Int × Int :=
  match decode L with
  | some (A, none) => if 18 < A.length then (0, 9) else if 2147483647 < vd 0 A then (0, 2) else (((vd 0 A : Nat) : Int), 0)
  | _ => (0, 4)

theorem lit_core {R : Type} {k : Nat} (hk : 5000 ≤ k) (f : Int) {X Y : Nat} (hX : X < 2 ^ 60) (hY : Y < 2 ^ 57) (hY0 : 0 < Y) (K : Int → Int → Option R) :
    wide_Len k 0 (X : Int) (fun r7 => wide_Shl k 0 (X : Int) (Wi64 (127 - r7)) (fun r8 r9 => wide_Div k r8 r9 (Y : Int) (fun r10 r11 r12 =>
      soft_Round k f 0 false r10 r11 (Wi64 (0 - (Wi64 (127 - r7)))) (r12 != 0) (fun r13 => K r13 0)))) = K ((LitX f X Y : Nat) : Int) 0 := by
  have bx : bl X ≤ 60 := bl_le_iff.2 hX
  obtain ⟨up, hup⟩ : ∃ up, up = 127 - bl X := ⟨_, rfl⟩
  have w1 : Wi64 (127 - ((bl X : Nat) : Int)) = (up : Int) := (wrap_i64 (by omega) (by omega)).trans (by omega)
  have w2 : Wi64 (0 - (up : Int)) = -(up : Int) := (wrap_i64 (by omega) (by omega)).trans (by omega)
  have hN : X * 2 ^ up < 2 ^ 128 := by
    have := (Nat.mul_lt_mul_right (Nat.two_pow_pos up)).2 (bl_up X)
    rw [← Nat.pow_add] at this
    exact Nat.lt_of_lt_of_le this (Nat.pow_le_pow_right (by decide) (by omega))
  have hQ : X * 2 ^ up / Y < 2 ^ 128 := Nat.lt_of_le_of_lt (Nat.div_le_self _ _) hN
  have hc : cec (-(up : Int)) = -(up : Int) := by unfold cec; rw [if_neg (by omega), if_neg (by omega)]
  have hx : (((X * 2 ^ up % Y : Nat) : Int) != 0) = decide (X * 2 ^ up % Y ≠ 0) := by
    by_cases c : X * 2 ^ up % Y = 0
    · rw [c]; rfl
    · rw [decide_eq_true c, bne_iff_ne]; omega
  rw [Len_c k (by omega), w1, Shl_c k (by omega) (wf_nat (by omega)), Int.toNat_natCast, Nat.mod_eq_of_lt hN, Div_hl hk hN (by omega) (by omega), w2, hx, Round_c k f 0 false hQ, hc]
  congr 2
  unfold LitX DivX
  rw [← hup, Int.zero_sub]
  by_cases c : X = 0
  · subst c
    rw [if_pos rfl, Nat.zero_mul, Nat.zero_div, Nat.zero_mod]
    unfold Rd
    rw [if_pos ⟨rfl, rfl⟩]; rfl
  · rw [if_neg c]
    cases hb : decide (X * 2 ^ up % Y ≠ 0) with
    | false => rw [Bool.toNat_false, Nat.add_zero, Rd_scale]
    | true =>
      refine Rd_stick f 0 false _ ?_ (by decide) (by decide)
      have hf : fP f ≤ 52 := (fmt_le f).2.1
      have hlow : 2 ^ 126 ≤ X * 2 ^ up := by
        have := Nat.mul_le_mul_right (2 ^ up) (bl_low (show 0 < X by omega))
        have b1 := bl_pos (show 0 < X by omega)
        rw [← Nat.pow_add, show bl X - 1 + up = 126 by omega] at this
        exact this
      have hq : 2 ^ 54 ≤ X * 2 ^ up / Y := by
        rw [Nat.le_div_iff_mul_le hY0]
        have : 2 ^ 54 * Y ≤ 2 ^ 54 * 2 ^ 57 := Nat.mul_le_mul_left _ (by omega)
        rw [← Nat.pow_add] at this
        exact Nat.le_trans this (Nat.le_trans (Nat.pow_le_pow_right (by decide) (by decide)) hlow)
      refine Nat.le_of_not_lt fun hh => ?_
      have : X * 2 ^ up / Y < 2 ^ 54 := bl_le_iff.1 (by omega)
      omega

theorem ten_lt {a : Nat} (h : a ≤ 18) : 10 ^ a < 2 ^ 60 := Nat.lt_of_le_of_lt (Nat.pow_le_pow_right (by decide) h) (by decide)
theorem ten_lt17 {a : Nat} (h : a ≤ 17) : 10 ^ a < 2 ^ 57 := Nat.lt_of_le_of_lt (Nat.pow_le_pow_right (by decide) h) (by decide)

theorem cLiteral_k {R : Type} {k : Nat} (hk : 5000 ≤ k) (f : Int) (s : ByteArray) (hl : (bys s).length < 2 ^ 63) (hk2 : (bys s).length < k) (K : Int → Int → Option R) :
    conv_Literal k f s K = K (LitS f (bys s)).1 (LitS f (bys s)).2 := by
  unfold conv_Literal conv_LiteralT LitS
  have hd := fun J => cdigits_k (R := R) hk s hl hk2 J
  obtain ⟨d1, d2, d3⟩ := scan_decode hl
  cases h : decode (bys s) with
  | none => rw [(hd _).1 h, Bool.not_false, cond_true]
  | some p =>
    obtain ⟨A, B⟩ := p
    cases B with
    | none =>
      obtain ⟨e1, e2, e3, e4⟩ := d2 A h
      have hb : ∀ c ∈ bys s, c < 128 := fun c hc => by have := all_dg_lt e3 c (e1 ▸ hc); omega
      have hn : ¬ 46 ∈ bys s := fun q => by have := all_dg_lt e3 46 (e1 ▸ q); omega
      rw [(hd _).2.1 A h, Bool.not_true, cond_false, cpoint_k s hb hk2, decide_eq_false hn, Bool.not_false, cond_true]
    | some B =>
      obtain ⟨e1, e2, e3, e4, e5, e6⟩ := d3 A B h
      have hA : 0 < A.length := List.length_pos_iff.2 e2
      have hb : ∀ c ∈ bys s, c < 128 := fun c hc => by
        rw [e1, List.mem_append, List.mem_cons] at hc
        rcases hc with hc | hc | hc
        · have := all_dg_lt e4 c hc; omega
        · omega
        · have := all_dg_lt e5 c hc; omega
      have hn : 46 ∈ bys s := by rw [e1]; simp
      rw [(hd _).2.2 A B h, Bool.not_true, cond_false, cpoint_k s hb hk2, decide_eq_true hn, Bool.not_true, cond_false]
      dsimp only
      by_cases c : 18 < A.length + B.length
      · rw [decide_eq_true (show ((A.length + B.length : Nat) : Int) > 18 by omega), cond_true, if_pos c]
      · rw [decide_eq_false (show ¬ ((A.length + B.length : Nat) : Int) > 18 by omega), cond_false, if_neg c]
        have hall : (A ++ B).all dg = true := by rw [List.all_append, e4, e5]; rfl
        have hv := vd_lt (A ++ B) 0 0 hall (by decide)
        rw [Nat.zero_add, List.length_append] at hv
        have hcap := cap_vd (A ++ B) 0 0 hall (by decide) (by rw [List.length_append]; omega)
        have t1 := ten_lt (a := A.length + B.length) (by omega)
        have t2 := ten_lt17 (a := B.length) (by omega)
        have hby := fun J => cby_loop (R := R) k f ((cap 0 0 (A ++ B) : Nat) : Int) (n := B.length) (by omega) J B.length k 0 1 (by omega) (by omega) (by omega)
        have hby2 : ∀ J : Int → Option R, conv_Literal_l0 k k f ((cap 0 0 (A ++ B) : Nat) : Int) 1 (B.length : Int) 0 J = J ((10 ^ B.length : Nat) : Int) := fun J => (hby J).trans (by rw [Nat.one_mul])
        rw [hby2, hcap]
        exact lit_core hk f (by omega) t2 (Nat.pow_pos (by decide)) K

theorem cInt_k {R : Type} {k : Nat} (hk : 5000 ≤ k) (s : ByteArray) (hl : (bys s).length < 2 ^ 63) (hk2 : (bys s).length < k) (K : Int → Int → Option R) :
    conv_Int k s K = K (IntS (bys s)).1 (IntS (bys s)).2 := by
  unfold conv_Int conv_IntT IntS
  have hd := fun J => cdigits_k (R := R) hk s hl hk2 J
  obtain ⟨d1, d2, d3⟩ := scan_decode hl
  cases h : decode (bys s) with
  | none => rw [(hd _).1 h, Bool.not_false, cond_true]
  | some p =>
    obtain ⟨A, B⟩ := p
    cases B with
    | none =>
      obtain ⟨e1, e2, e3, e4⟩ := d2 A h
      have hb : ∀ c ∈ bys s, c < 128 := fun c hc => by have := all_dg_lt e3 c (e1 ▸ hc); omega
      have hn : ¬ 46 ∈ bys s := fun q => by have := all_dg_lt e3 46 (e1 ▸ q); omega
      rw [(hd _).2.1 A h, Bool.not_true, cond_false, cpoint_k s hb hk2, decide_eq_false hn, cond_false]
      dsimp only
      by_cases c : 18 < A.length
      · rw [decide_eq_true (show ((A.length : Nat) : Int) > 18 by omega), cond_true, if_pos c]
      · rw [decide_eq_false (show ¬ ((A.length : Nat) : Int) > 18 by omega), cond_false, if_neg c, cap_vd A 0 0 e3 (by decide) (by omega)]
        have hv := vd_lt A 0 0 e3 (by decide)
        rw [Nat.zero_add] at hv
        have t1 := ten_lt (a := A.length) (by omega)
        by_cases c2 : 2147483647 < vd 0 A
        · rw [decide_eq_true (show ((vd 0 A : Nat) : Int) > 2147483647 by omega), cond_true, if_pos c2]
        · have w : Wi64 ((vd 0 A : Nat) : Int) = ((vd 0 A : Nat) : Int) := wrap_i64 (by omega) (by omega)
          rw [decide_eq_false (show ¬ ((vd 0 A : Nat) : Int) > 2147483647 by omega), cond_false, if_neg c2, w]
    | some B =>
      obtain ⟨e1, e2, e3, e4, e5, e6⟩ := d3 A B h
      have hb : ∀ c ∈ bys s, c < 128 := fun c hc => by
        rw [e1, List.mem_append, List.mem_cons] at hc
        rcases hc with hc | hc | hc
        · have := all_dg_lt e4 c hc; omega
        · omega
        · have := all_dg_lt e5 c hc; omega
      have hn : 46 ∈ bys s := by rw [e1]; simp
      rw [(hd _).2.2 A B h, Bool.not_true, cond_false, cpoint_k s hb hk2, decide_eq_true hn, cond_true]

end Go.Proofs.Ytelifkahdhhmoaa.N

/- A number's digits, and what they say. Conditions: none. -/
namespace Go.Proofs.Ytelifkahdhhmoaa.N
set_option linter.unusedVariables false
set_option linter.unusedSimpArgs false
open Go Go.Ab

/-- A text of bytes. -/
def txt (L : List Nat) : ByteArray := bytesOf (L.map fun n : Nat => (n : Int))

theorem bys_txt {L : List Nat} (h : ∀ c ∈ L, c < 256) : bys (txt L) = L := by
  unfold bys txt bytesOf
  simp only [List.map_map, List.map_toArray]
  conv => rhs; rw [← List.map_id L]
  apply List.map_congr_left
  intro c hc
  have := h c hc
  simp; omega

theorem txt_app (L M : List Nat) : txt L ++ txt M = txt (L ++ M) := by
  apply ByteArray.ext
  rw [ByteArray.data_append]
  simp [txt, bytesOf]

theorem txt_size (L : List Nat) : (txt L).size = L.length := by unfold txt; rw [bytesOf_size, List.length_map]

/-- The digits of a number below 10 to the f + 1. -/
def decL : Nat → Nat → List Nat
  | 0, n => [48 + n % 10]
  | f + 1, n => if n < 10 then [48 + n] else decL f (n / 10) ++ [48 + n % 10]

theorem decL_dg : ∀ (f n : Nat), (decL f n).all dg = true
  | 0, n => by
    have := Nat.mod_lt n (show 0 < 10 by decide)
    rw [decL, List.all_cons, List.all_nil, Bool.and_true]
    exact dg_spec.2 (by omega)
  | f + 1, n => by
    rw [decL]
    split
    · rw [List.all_cons, List.all_nil, Bool.and_true]; exact dg_spec.2 (by omega)
    · have := Nat.mod_lt n (show 0 < 10 by decide)
      rw [List.all_append, decL_dg f, Bool.true_and, List.all_cons, List.all_nil, Bool.and_true]
      exact dg_spec.2 (by omega)

theorem decL_len : ∀ (f n : Nat), 1 ≤ (decL f n).length ∧ (decL f n).length ≤ f + 1
  | 0, n => by rw [decL]; exact ⟨Nat.le_refl _, Nat.le_refl _⟩
  | f + 1, n => by
    rw [decL]
    split
    · simp
    · have := decL_len f (n / 10)
      rw [List.length_append, List.length_cons, List.length_nil]; omega

theorem decL_vd : ∀ (f n : Nat), n < 10 ^ (f + 1) → vd 0 (decL f n) = n
  | 0, n, h => by
    rw [decL, vd_cons, vd_nil]; omega
  | f + 1, n, h => by
    rw [decL]
    split
    · rw [vd_cons, vd_nil]; omega
    · rw [vd_app, decL_vd f (n / 10) (by rw [Nat.pow_succ] at h; omega), vd_cons, vd_nil]; omega

theorem digits_n {R : Type} (k : Nat) : ∀ (f fu n : Nat) (K : ByteArray → Option R), n < 10 ^ (f + 1) → f < fu → n < 2 ^ 60 → f < 1000 →
    plumblinelaw03_digits_n k fu (n : Int) K = K (txt (decL f n))
  | f, 0, n, K, _, h, _, _ => by omega
  | 0, fu + 1, n, K, h, _, _, _ => by
    have w : Wu8 (Wi64 (48 + (n : Int))) = ((48 + n % 10 : Nat) : Int) := by
      rw [wrap_i64 (by omega) (by omega), show (48 + (n : Int)) = ((48 + n : Nat) : Int) by omega, Wu8_nat (by omega)]; omega
    rw [plumblinelaw03_digits_n]
    unfold plumblinelaw03_digitsT
    rw [decide_eq_true (show (n : Int) < 10 by omega), cond_true, w]; rfl
  | f + 1, fu + 1, n, K, h, h2, h3, h4 => by
    rw [plumblinelaw03_digits_n]
    unfold plumblinelaw03_digitsT
    by_cases c : n < 10
    · have w : Wu8 (Wi64 (48 + (n : Int))) = ((48 + n : Nat) : Int) := by
        rw [wrap_i64 (by omega) (by omega), show (48 + (n : Int)) = ((48 + n : Nat) : Int) by omega, Wu8_nat (by omega)]
      rw [decide_eq_true (show (n : Int) < 10 by omega), cond_true, w, decL, if_pos c]; rfl
    · have wd : Wi64 (Int.tdiv (n : Int) 10) = ((n / 10 : Nat) : Int) := by
        rw [show Int.tdiv (n : Int) 10 = ((n / 10 : Nat) : Int) from rfl, wrap_i64 (by omega) (by omega)]
      have wm : Wu8 (Wi64 (48 + (Int.tmod (n : Int) 10))) = ((48 + n % 10 : Nat) : Int) := by
        rw [show Int.tmod (n : Int) 10 = ((n % 10 : Nat) : Int) from rfl, wrap_i64 (by omega) (by omega), show (48 + ((n % 10 : Nat) : Int)) = ((48 + n % 10 : Nat) : Int) by omega, Wu8_nat (by omega)]
      have hl := decL_len f (n / 10)
      have hx : bytesOf [((48 + n % 10 : Nat) : Int)] = txt [48 + n % 10] := rfl
      have hb : Nat.ble ((txt (decL f (n / 10))).size + (txt [48 + n % 10]).size) 9223372036854775807 = true := by
        rw [txt_size, txt_size]; exact Nat.ble_eq_true_of_le (by simp; omega)
      rw [decide_eq_false (show ¬ (n : Int) < 10 by omega), cond_false, wd, digits_n k f fu (n / 10) _ (by rw [Nat.pow_succ] at h; omega) (by omega) (by omega) (by omega), wm, hx, hb, cond_true, txt_app, decL, if_neg c]

theorem digits_k {R : Type} {k : Nat} (hk : 5000 ≤ k) {n f : Nat} (h : n < 10 ^ (f + 1)) (hf : f ≤ 17) (K : ByteArray → Option R) : plumblinelaw03_digits k (n : Int) K = K (txt (decL f n)) := by
  unfold plumblinelaw03_digits
  have := ten_lt (a := f + 1) (by omega)
  exact digits_n k f k n K h (by omega) (by omega) (by omega)

theorem dw_all {A : List Nat} (h : A.all dg = true) (R : List Nat) : (A ++ R).dropWhile dg = R.dropWhile dg ∧ (A ++ R).takeWhile dg = A ++ R.takeWhile dg := by
  induction A with
  | nil => exact ⟨rfl, rfl⟩
  | cons c A ih =>
    rw [List.all_cons, Bool.and_eq_true] at h
    obtain ⟨i1, i2⟩ := ih h.2
    rw [List.cons_append, List.dropWhile_cons, List.takeWhile_cons, if_pos h.1, if_pos h.1, i1, i2]
    exact ⟨rfl, rfl⟩

theorem decode_real {A B : List Nat} (hA : A.all dg = true) (hB : B.all dg = true) (a0 : A ≠ []) (b0 : B ≠ []) : decode (A ++ 46 :: B) = some (A, some B) := by
  obtain ⟨h1, h2⟩ := dw_all hA (46 :: B)
  have nd : dg 46 = false := rfl
  rw [List.dropWhile_cons, nd, if_neg (by decide)] at h1
  rw [List.takeWhile_cons, nd, if_neg (by decide), List.append_nil] at h2
  unfold decode
  rw [h1, h2]
  dsimp only
  rw [if_pos ⟨rfl, a0, b0, hB⟩]

theorem LitS_real (f : Int) {A B : List Nat} (hA : A.all dg = true) (hB : B.all dg = true) (a0 : A ≠ []) (b0 : B ≠ []) (hl : A.length + B.length ≤ 18) : LitS f (A ++ 46 :: B) = (((LitX f (vd 0 (A ++ B)) (10 ^ B.length) : Nat) : Int), 0) := by
  unfold LitS
  rw [decode_real hA hB a0 b0]
  dsimp only
  rw [if_neg (by omega)]

end Go.Proofs.Ytelifkahdhhmoaa.N
