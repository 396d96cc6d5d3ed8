/- A format that is none counts as a Double. Conditions: none. -/
import Derived.Test.YtelifkahdhhmoaaMs
import Derived.Test.YtelifkahdhhmoaaMd
import Derived.Test.YtelifkahdhhmoaaNconv
import Derived.Test.YtelifkahdhhmoaaRo0
import Derived.Test.YtelifkahdhhmoaaNlaw
import Derived.Test.YtelifkahdhhmoaaEng2
import Derived.Test.YtelifkahdhhmoaaMa
import Derived.Test.YtelifkahdhhmoaaRo3
import Derived.Test.YtelifkahdhhmoaaNr03
namespace Go.Proofs.Ytelifkahdhhmoaa.N
set_option linter.unusedVariables false
set_option linter.unusedSimpArgs false
open Go Go.Ab

/-- A format that is one. -/
def fm (f : Int) : Int := if f = 1 then 1 else 0
theorem fm_P (f : Int) : fP (fm f) = fP f ∧ fE (fm f) = fE f ∧ fL (fm f) = fL f ∧ (fm f = 1 ↔ f = 1) := by
  unfold fm fP fE fL
  by_cases h : f = 1 <;> simp [h]
theorem fP_fm (f : Int) : fP (fm f) = fP f := (fm_P f).1
theorem fE_fm (f : Int) : fE (fm f) = fE f := (fm_P f).2.1
theorem fL_fm (f : Int) : fL (fm f) = fL f := (fm_P f).2.2.1
theorem bad_fm (f : Int) (a : Nat) : bad (fm f) a = bad f a := by unfold bad; rw [Bool.eq_iff_iff]; simp only [decide_eq_true_eq, (fm_P f).2.2.2]
theorem fB_fm (f : Int) : fB (fm f) = fB f := by unfold fB; rw [fP_fm, fE_fm]
theorem fI_fm (f : Int) : fI (fm f) = fI f := by unfold fI; rw [fP_fm, fE_fm]
theorem sg_fm (f : Int) (b : Bool) : sg (fm f) b = sg f b := by unfold sg; rw [fB_fm]
theorem NAN_fm (f : Int) : NAN (fm f) = NAN f := by unfold NAN; rw [fI_fm, fP_fm]
theorem gg_fm (f : Int) (a : Nat) : gg (fm f) a = gg f a := by unfold gg; rw [fB_fm]
theorem kd_fm (f : Int) (a : Nat) : kd (fm f) a = kd f a := by unfold kd; rw [bad_fm, fI_fm, gg_fm]
theorem bw_fm (f : Int) (a : Nat) : bw (fm f) a = bw f a := by unfold bw; rw [bad_fm, fB_fm]
theorem nn_fm (f : Int) (a : Nat) : nn (fm f) a = nn f a := by unfold nn nG; rw [kd_fm, gg_fm, fP_fm]
theorem ee_fm (f : Int) (a : Nat) : ee (fm f) a = ee f a := by unfold ee eG; rw [kd_fm, gg_fm, fP_fm, fL_fm]
theorem clip_fm (f m : Int) (b : Bool) (g : Nat) : clip (fm f) m b g = clip f m b g := by unfold clip; rw [fI_fm]
theorem gOf_fm (f m : Int) (b : Bool) (l : Int) (q : Nat) (h r : Bool) : gOf (fm f) m b l q h r = gOf f m b l q h r := by unfold gOf; rw [fL_fm, fP_fm]
theorem enc_fm (f m : Int) (b : Bool) (l : Int) (q : Nat) (h r : Bool) : enc (fm f) m b l q h r = enc f m b l q h r := by unfold enc; rw [sg_fm, clip_fm, gOf_fm]
theorem lastOf_fm (f : Int) (N : Nat) (e : Int) : lastOf (fm f) N e = lastOf f N e := by unfold lastOf; rw [fP_fm, fL_fm]
theorem Rd_fm (f m : Int) (b : Bool) (N : Nat) (e : Int) (r : Bool) : Rd (fm f) m b N e r = Rd f m b N e r := by unfold Rd; rw [sg_fm, lastOf_fm, enc_fm]
theorem AddX_fm (f m : Int) (bx : Bool) (X : Nat) (ex : Int) (by' : Bool) (Y : Nat) (ey : Int) : AddX (fm f) m bx X ex by' Y ey = AddX f m bx X ex by' Y ey := by unfold AddX; simp only [Rd_fm, sg_fm]
theorem NegS_fm (f : Int) (a : Nat) : NegS (fm f) a = NegS f a := by unfold NegS; rw [kd_fm, NAN_fm, fB_fm]
theorem AbsS_fm (f : Int) (a : Nat) : AbsS (fm f) a = AbsS f a := by unfold AbsS; rw [kd_fm, NAN_fm, gg_fm]
theorem FinS_fm (f : Int) (a : Nat) : FinS (fm f) a = FinS f a := by unfold FinS; rw [kd_fm]
theorem ClassS_fm (f : Int) (a : Nat) : ClassS (fm f) a = ClassS f a := by unfold ClassS; rw [bad_fm, kd_fm, gg_fm, fP_fm]
theorem CmpS_fm (f : Int) (a b : Nat) : CmpS (fm f) a b = CmpS f a b := by unfold CmpS rank; rw [kd_fm, kd_fm, bw_fm, bw_fm, gg_fm, gg_fm]
theorem AddS_fm (f m : Int) (a b : Nat) : AddS (fm f) m a b = AddS f m a b := by unfold AddS; rw [kd_fm, kd_fm, bw_fm, bw_fm, NAN_fm, AddX_fm, nn_fm, nn_fm, ee_fm, ee_fm]
theorem MulS_fm (f m : Int) (a b : Nat) : MulS (fm f) m a b = MulS f m a b := by unfold MulS; rw [kd_fm, kd_fm, bw_fm, bw_fm, NAN_fm, Rd_fm, nn_fm, nn_fm, ee_fm, ee_fm, sg_fm, fI_fm]
theorem DivS_fm (f m : Int) (a b : Nat) : DivS (fm f) m a b = DivS f m a b := by unfold DivS DivX; rw [kd_fm, kd_fm, bw_fm, bw_fm, NAN_fm, Rd_fm, nn_fm, nn_fm, ee_fm, ee_fm, sg_fm, fI_fm]

end Go.Proofs.Ytelifkahdhhmoaa.N

/- Package conv: what it takes from wide and soft. Conditions: none. -/
namespace Go.Proofs.Ytelifkahdhhmoaa.N
set_option linter.unusedVariables false
set_option linter.unusedSimpArgs false
open Go Go.Ab

theorem or_three_c {X t : Nat} (ht : t < 4) : bOr .u64 (lo (4 * X)) (t : Int) = lo (4 * X + t) := by
  unfold lo
  rw [bOr_nat (lo_lt _) (by omega)]
  have : (4 * X % 2 ^ 64) ||| t = 4 * X % 2 ^ 64 + t := or_add (s := 2) (by omega) ht
  rw [this]; congr 1; omega

theorem hi_three_c {X t : Nat} (ht : t < 4) : hi (4 * X + t) = hi (4 * X) := by
  unfold hi; congr 1; omega

theorem Len_c {R : Type} (k : Nat) {X : Nat} (h : X < 2 ^ 64) (J : Int → Option R) : wide_Len k 0 (X : Int) J = J ((bl X : Nat) : Int) := by
  have := Len_hl k (A := X) (by omega) J
  rw [hi_small h, lo_small h] at this; exact this
theorem Shl_c {R : Type} (k : Nat) {X : Nat} {n : Int} (h : X < 2 ^ 64) (hn : (Lit.int .i64 n).wf = true) (J : Int → Int → Option R) : wide_Shl k 0 (X : Int) n J = J (hi (X * 2 ^ n.toNat % 2 ^ 128)) (lo (X * 2 ^ n.toNat % 2 ^ 128)) := by
  have := Shl_hl k (A := X) (by omega) hn J
  rw [hi_small h, lo_small h] at this; exact this

/-- A power that is not too far. -/
def cec (e : Int) : Int := if e < -4000 then -4000 else if e > 4000 then 4000 else e
theorem cec_bounds (e : Int) : -4000 ≤ cec e ∧ cec e ≤ 4000 := by unfold cec; split <;> (try split) <;> omega
theorem cec_eq (e : Int) : (if 4000 < (if (-4000) > e then (-4000) else e) then 4000 else (if (-4000) > e then (-4000) else e)) = cec e := by
  unfold cec
  by_cases h : e < -4000
  · have : (-4000 : Int) > e := h
    rw [if_pos this, if_pos h]; rfl
  · have : ¬ (-4000 : Int) > e := h
    rw [if_neg this, if_neg h]

theorem Round_c {R : Type} (k : Nat) (f m : Int) (b : Bool) {N : Nat} (hN : N < 2 ^ 128) (e : Int) (x : Bool) (K : Int → Option R) :
    soft_Round k f m b (hi N) (lo N) e x K = K ((Rd f m b (N * 2 ^ 2 + x.toNat) (cec e - ((2 : Nat) : Int)) false : Nat) : Int) := by
  have hf := fmt_le f
  have hc := cec_bounds e
  unfold soft_Round soft_RoundT
  rw [shapeOf_k, cec_eq]
  cases x with
  | false =>
    rw [cond_false, round_k k f m b hN (by omega) (by omega) (.inr rfl)]
    rw [Bool.toNat_false, Nat.add_zero, Rd_scale]
  | true =>
    rw [cond_true, Len_hl k hN]
    by_cases c : ((bl N : Nat) : Int) ≤ 126
    · have hN2 : N < 2 ^ 126 := bl_le_iff.1 (by omega)
      have w : Wi64 (cec e - 2) = cec e - 2 := wrap_i64 (by omega) (by omega)
      have e4 : N * 2 ^ (2 : Int).toNat % 2 ^ 128 = 4 * N := by
        have : (2 : Int).toNat = 2 := rfl
        rw [this]; omega
      rw [decide_eq_true c, cond_true, Shl_hl k hN (by decide), e4, w]
      have o3 := or_three_c (X := N) (t := 1) (by decide)
      have h3 := hi_three_c (X := N) (t := 1) (by decide)
      rw [show (((1 : Nat) : Int)) = 1 from rfl] at o3
      rw [o3, ← h3, round_k k f m b (by omega) (by omega) (by omega) (.inr rfl)]
      have e5 : N * 2 ^ 2 + true.toNat = 4 * N + 1 := by rw [Bool.toNat_true]; omega
      rw [e5]; rfl
    · rw [decide_eq_false c, cond_false]
      have hb : fP f + 2 ≤ bl N := by omega
      have hp : 0 < N := by
        refine Nat.pos_of_ne_zero fun h => ?_
        subst h
        exact c (by decide)
      rw [round_k k f m b hN (by omega) (by omega) (.inl hp), Bool.toNat_true, Rd_stick f m b (cec e) hb (by decide) (by decide)]


theorem Round64 {R : Type} (k : Nat) (f m : Int) (b : Bool) {X : Nat} (hX : X < 2 ^ 64) {e : Int} (h1 : -4000 ≤ e) (h2 : e ≤ 4000) (K : Int → Option R) :
    soft_Round k f m b 0 (X : Int) e false K = K ((Rd f m b X e false : Nat) : Int) := by
  have h := Round_c k f m b (N := X) (by omega) e false K
  have hc : cec e = e := by unfold cec; rw [if_neg (by omega), if_neg (by omega)]
  rw [hi_small hX, lo_small hX, hc, Bool.toNat_false, Nat.add_zero, Rd_scale] at h
  exact h

theorem kd2_c {f : Int} {c : Nat} (h : kd f c = 2) : gg f c = 0 := by
  unfold kd at h
  split at h
  · cases h
  · split at h
    · cases h
    · split at h
      · cases h
      · split at h
        · assumption
        · cases h

theorem cbelow_k {R : Type} (k : Nat) (f : Int) {a : Nat} (ha : a < 2 ^ 64) (hb : bad f a = false) (K : Bool → Option R) : conv_below k f (a : Int) K = K (bw f a) := by
  have h2 := lt_2B ha hb
  have hf := fmt_le f
  have key : (bAnd .u64 (shr .u64 (a : Int) ((fP f + fE f : Nat) : Int)) 1 == 1) = bw f a := by
    rw [shr_pow (by omega), odd_eq (Nat.lt_of_le_of_lt (Nat.div_le_self _ _) ha)]
    unfold bw
    rw [hb]
    have hB : 0 < fB f := Nat.two_pow_pos _
    show (a / fB f % 2 == 1) = decide (fB f ≤ a)
    by_cases c : fB f ≤ a
    · have : a / fB f = 1 := Nat.div_eq_of_lt_le (by omega) (by omega)
      rw [this, decide_eq_true c]; rfl
    · rw [Nat.div_eq_of_lt (by omega), decide_eq_false c]; rfl
  unfold conv_below conv_belowT conv_bits conv_bitsT
  by_cases h : f = 1
  · subst h
    have w : Wi64 (32 - 1) = ((fP 1 + fE 1 : Nat) : Int) := by decide
    rw [show ((1 : Int) == 1) = true from rfl, cond_true]
    dsimp only
    rw [w, decide_eq_false (by decide), cond_false, key]
  · have e : (f == 1) = false := by rw [beq_eq_false_iff_ne]; exact h
    have hp : fP f + fE f = 63 := by rcases fmt f with ⟨h1, _⟩ | ⟨_, h1, h2, _⟩ <;> omega
    rw [hp] at key
    have w : Wi64 (64 - 1) = ((63 : Nat) : Int) := by decide
    rw [e, cond_false]
    dsimp only
    rw [w, decide_eq_false (by decide), cond_false, key]

end Go.Proofs.Ytelifkahdhhmoaa.N

/- Package conv: floats in the other format, ints, neighbours. Conditions: none. -/
namespace Go.Proofs.Ytelifkahdhhmoaa.N
set_option linter.unusedVariables false
set_option linter.unusedSimpArgs false
open Go Go.Ab

theorem e2_bnd (f : Int) (a : Nat) : -1074 ≤ e2 f a ∧ e2 f a ≤ 1897 := by
  have := fmt_le f
  have := ee_bounds f a
  unfold e2; split <;> omega

theorem cfraction_k {R : Type} (k : Nat) (f : Int) (J : Int → Int → Option R) : conv_fraction k f J = J ((fP f : Nat) : Int) (fL f) := by
  unfold conv_fraction conv_fractionT fP fL
  by_cases h : f = 1
  · subst h; rfl
  · have : (f == 1) = false := by rw [beq_eq_false_iff_ne]; exact h
    rw [this]; simp [h]

theorem cvalue_k {R : Type} (k : Nat) (f : Int) {a : Nat} (ha : a < 2 ^ 64) (hk : 2 ≤ kd f a) (K : Int → Int → Option R) : conv_value k f (a : Int) K = K ((nn f a : Nat) : Int) (e2 f a) := by
  unfold conv_value conv_valueT
  have hf := fmt_le f
  have hp := fP_pos f
  have hg := gg_lt f a
  have hB := fB_le f
  have hA : AbsS f a = gg f a := by unfold AbsS; rw [if_neg (by omega)]
  have nP : ¬ (((fP f : Nat) : Int) < 0) := by omega
  rw [cfraction_k, Abs_k k f ha, hA, decide_eq_false nP, cond_false, cond_false, cond_false, shr_pow (by omega)]
  by_cases c : gg f a < 2 ^ fP f
  · have h0 : gg f a / 2 ^ fP f = 0 := Nat.div_eq_of_lt c
    rw [h0, decide_eq_false (by decide), cond_false]
    rcases kd_vals f a with h | h | h | h
    · omega
    · omega
    · rw [(nn_zero (by rw [h]; decide)).1, kd2_c h]
      have e : e2 f a = fL f := by unfold e2; rw [h]; rfl
      rw [e]
    · have hn : nn f a = gg f a := by unfold nn nG; rw [if_pos h, if_pos c]
      have he : e2 f a = fL f := by unfold e2 ee eG; rw [if_pos h, if_pos h, if_pos c]
      rw [hn, he]
  · have h : kd f a = 3 := by
      rcases kd_vals f a with h | h | h | h
      · omega
      · omega
      · exact absurd (kd2_c h) (by omega)
      · exact h
    have h3 := kd3 h
    have hd : 0 < gg f a / 2 ^ fP f := Nat.div_pos (by omega) hp
    have hM : gg f a % 2 ^ fP f < 2 ^ fP f := Nat.mod_lt _ hp
    have hdl : gg f a / 2 ^ fP f < 2 ^ fE f := by rw [Nat.div_lt_iff_lt_mul hp]; unfold fB at hg; rw [Nat.add_comm, Nat.pow_add] at hg; exact hg
    have hexp2 : 2 ^ fE f ≤ 2 ^ 11 := Nat.pow_le_pow_right (by decide) (by omega)
    have hn : nn f a = gg f a % 2 ^ fP f + 2 ^ fP f := by unfold nn nG; rw [if_pos h, if_neg c, Nat.add_comm]
    have he : e2 f a = ((gg f a / 2 ^ fP f : Nat) : Int) - 1 + fL f := by unfold e2 ee eG; rw [if_pos h, if_pos h, if_neg c]
    have e1 : bOr .u64 ((gg f a % 2 ^ fP f : Nat) : Int) (shl .u64 1 ((fP f : Nat) : Int)) = ((gg f a % 2 ^ fP f + 2 ^ fP f : Nat) : Int) := bit_or hM (by omega)
    have ew : Wi64 (Wi64 (Wi64 ((gg f a / 2 ^ fP f : Nat) : Int) - 1) + fL f) = ((gg f a / 2 ^ fP f : Nat) : Int) - 1 + fL f := by
      rw [Wi64_nat (by omega), wrap_i64 (x := ((gg f a / 2 ^ fP f : Nat) : Int) - 1) (by omega) (by omega), wrap_i64 (by omega) (by omega)]
    rw [decide_eq_true (show ((gg f a / 2 ^ fP f : Nat) : Int) > 0 by omega), cond_true, low_bits (by omega) (by omega), e1, ew, hn, he]

/-- A float in another format. -/
def TurnS (f g m : Int) (a : Nat) : Nat := if kd f a = 0 then NAN g else if kd f a = 1 then sg g (bw f a) + fI g else Rd g m (bw f a) (nn f a) (e2 f a) false

theorem cturned_k {R : Type} (k : Nat) (f g m : Int) {a : Nat} (ha : a < 2 ^ 64) (K : Int → Option R) : conv_turned k f g m (a : Int) K = K ((TurnS f g m a : Nat) : Int) := by
  unfold conv_turned conv_turnedT TurnS
  have hb := e2_bnd f a
  have n1 := nn_lt64 f a
  have hI := fB_double g
  have hIp : 0 < fI g := Nat.lt_of_le_of_lt (Nat.zero_le _) (fI_pos g)
  rw [Finite_k k f ha]
  rcases kd_vals f a with h | h | h | h
  · have e : FinS f a = false := by unfold FinS; rw [h]; rfl
    have c : (ClassS f a != 4) = true := by rw [bne_iff_ne]; intro hh; have := (Class_kd f a).2.1.1 hh; omega
    rw [e, Bool.not_false, cond_true, Class_k k f ha, c, cond_true, Nan_k, if_pos h]
  · have e : FinS f a = false := by unfold FinS; rw [h]; rfl
    have c : (ClassS f a != 4) = false := by rw [(Class_kd f a).2.1.2 h]; rfl
    have w : Wu64 (((fI g - 1 : Nat) : Int) + 1) = ((fI g : Nat) : Int) := by
      rw [show ((fI g - 1 : Nat) : Int) + 1 = ((fI g : Nat) : Int) by omega, Wu64_lt (by omega)]
    rw [e, Bool.not_false, cond_true, Class_k k f ha, c, cond_false, Most_k, cbelow_k k f ha (bad_of_kd (by rw [h]; decide)), w, if_neg (by omega), if_pos h]
    have hN := Neg_sg (f := g) false (x := fI g) (Nat.le_refl _)
    have z : sg g false = 0 := rfl
    rw [z, Nat.zero_add] at hN
    cases bw f a with
    | true => rw [cond_true, Neg_k k g (by omega), hN]; rfl
    | false => rw [cond_false, z, Nat.zero_add]
  · have e : FinS f a = true := by unfold FinS; rw [h]; rfl
    rw [e, Bool.not_true, cond_false, cvalue_k k f ha (by omega), cbelow_k k f ha (bad_of_kd (by rw [h]; decide)), Round64 k g m _ (by omega) (by omega) (by omega), if_neg (by omega), if_neg (by omega)]
  · have e : FinS f a = true := by unfold FinS; rw [h]; rfl
    rw [e, Bool.not_true, cond_false, cvalue_k k f ha (by omega), cbelow_k k f ha (bad_of_kd (by rw [h]; decide)), Round64 k g m _ (by omega) (by omega) (by omega), if_neg (by omega), if_neg (by omega)]

theorem TurnS_lt (f g m : Int) (a : Nat) : TurnS f g m a < 2 ^ 64 := by
  unfold TurnS
  split
  · exact NAN_lt64 g
  · split
    · exact form_lt ⟨_, _, Nat.le_refl _, rfl⟩
    · exact form_lt ⟨_, Rd_form ..⟩

def PlainS (f : Int) (a : Nat) : Nat := if kd f a = 0 then NAN f else if kd f a = 2 then 0 else a

theorem cPlain_k {R : Type} (k : Nat) (f : Int) {a : Nat} (ha : a < 2 ^ 64) (K : Int → Option R) : conv_Plain k f (a : Int) K = K ((PlainS f a : Nat) : Int) := by
  unfold conv_Plain conv_PlainT PlainS
  obtain ⟨c0, c1, c2, c3⟩ := Class_kd f a
  rw [Class_k k f ha, Nan_k]
  by_cases h : kd f a = 0
  · rw [if_pos h]
    rcases c0.2 h with e | e
    · rw [e, show ((5 : Int) == 0) = false from rfl, cond_false, show ((5 : Int) == 5) = true from rfl, cond_true]
    · rw [e, show ((0 : Int) == 0) = true from rfl, cond_true]
  · have d0 : (ClassS f a == 0) = false := by rw [beq_eq_false_iff_ne]; exact fun e => h (c0.1 (.inr e))
    have d5 : (ClassS f a == 5) = false := by rw [beq_eq_false_iff_ne]; exact fun e => h (c0.1 (.inl e))
    rw [if_neg h, d0, cond_false, d5, cond_false]
    by_cases h2 : kd f a = 2
    · rw [c2.2 h2, if_pos h2]; rfl
    · have d1 : (ClassS f a == 1) = false := by rw [beq_eq_false_iff_ne]; exact fun e => h2 (c2.1 e)
      rw [d1, cond_false, if_neg h2]

theorem PlainS_lt (f : Int) {a : Nat} (ha : a < 2 ^ 64) : PlainS f a < 2 ^ 64 := by
  unfold PlainS; split
  · exact NAN_lt64 f
  · split
    · decide
    · exact ha

def NextS (f : Int) (a : Nat) : Nat := if kd f a < 2 then NAN f else if kd f a = 2 then 1 else if bw f a = true then PlainS f (a - 1) else if a = fI f - 1 then a else a + 1

theorem kd3_pos {f : Int} {a : Nat} (h : kd f a = 3) : 0 < a := by
  refine Nat.pos_of_ne_zero fun h0 => ?_
  have := (kd3 h).2.1
  rw [h0] at this
  unfold gg at this
  rw [Nat.zero_mod] at this
  omega

theorem Plain3 {f : Int} {a : Nat} (h : kd f a = 3) : PlainS f a = a := by unfold PlainS; rw [if_neg (by omega), if_neg (by omega)]

theorem bw_pos {f : Int} {a : Nat} (h : bw f a = true) : fB f ≤ a := by
  unfold bw at h; split at h
  · cases h
  · simpa using h

theorem kd3_above {f : Int} {a : Nat} (ha : a < 2 ^ 64) (h : kd f a = 3) (hb : bw f a = false) : a < fI f := by
  have h3 := kd3 h
  have := parts_of ha h3.1
  rw [hb] at this
  have z : sg f false = 0 := rfl
  omega

theorem cNext_k {R : Type} (k : Nat) (f : Int) {a : Nat} (ha : a < 2 ^ 64) (K : Int → Option R) : conv_Next k f (a : Int) K = K ((NextS f a : Nat) : Int) := by
  unfold conv_Next conv_NextT NextS
  have hI := fB_double f
  rw [Finite_k k f ha]
  by_cases h : kd f a < 2
  · have e : FinS f a = false := by unfold FinS; exact decide_eq_false (by omega)
    rw [e, Bool.not_false, cond_true, Nan_k, if_pos h]
  · have e : FinS f a = true := by unfold FinS; exact decide_eq_true (by omega)
    rw [e, Bool.not_true, cond_false, cPlain_k k f ha, if_neg h]
    by_cases h2 : kd f a = 2
    · have p : PlainS f a = 0 := by unfold PlainS; rw [if_neg (by omega), if_pos h2]
      rw [p, if_pos h2]; rfl
    · have h3 : kd f a = 3 := by rcases kd_vals f a with h | h | h | h <;> omega
      have hp := kd3_pos h3
      have d : (((a : Nat) : Int) == 0) = false := by rw [beq_eq_false_iff_ne]; omega
      rw [Plain3 h3, d, cond_false, if_neg h2, cbelow_k k f ha (kd3 h3).1]
      cases hb : bw f a with
      | true =>
        have w : Wu64 ((a : Int) - 1) = ((a - 1 : Nat) : Int) := Wu64_pred hp (by omega)
        rw [cond_true, w, cPlain_k k f (by omega), if_pos rfl]
      | false =>
        have hlt := kd3_above ha h3 hb
        have w : Wu64 ((a : Int) + 1) = ((a + 1 : Nat) : Int) := Wu64_lt (x := a + 1) (by omega)
        rw [cond_false, Most_k, if_neg (by decide), w]
        by_cases c : a = fI f - 1
        · have : (((a : Nat) : Int) == ((fI f - 1 : Nat) : Int)) = true := by rw [beq_iff_eq]; omega
          rw [this, cond_true, if_pos c]
        · have : (((a : Nat) : Int) == ((fI f - 1 : Nat) : Int)) = false := by rw [beq_eq_false_iff_ne]; omega
          rw [this, cond_false, if_neg c]

theorem NextS_lt (f : Int) {a : Nat} (ha : a < 2 ^ 64) : NextS f a < 2 ^ 64 := by
  have hI := fB_double f
  unfold NextS
  split
  · exact NAN_lt64 f
  · split
    · decide
    · split
      · exact PlainS_lt f (by omega)
      · split
        · exact ha
        · rename_i h1 h2 h3 h4
          have : kd f a = 3 := by rcases kd_vals f a with h | h | h | h <;> omega
          have := kd3_above ha this (by simpa using h3)
          omega

def PrevS (f : Int) (a : Nat) : Nat := if kd f a < 2 then NAN f else PlainS f (NegS f (NextS f (NegS f a)))

theorem cPrev_k {R : Type} (k : Nat) (f : Int) {a : Nat} (ha : a < 2 ^ 64) (K : Int → Option R) : conv_Prev k f (a : Int) K = K ((PrevS f a : Nat) : Int) := by
  unfold conv_Prev conv_PrevT PrevS
  have h1 := Neg_lt f ha
  have h2 := NextS_lt f h1
  rw [Finite_k k f ha]
  by_cases h : kd f a < 2
  · have e : FinS f a = false := by unfold FinS; exact decide_eq_false (by omega)
    rw [e, Bool.not_false, cond_true, Nan_k, if_pos h]
  · have e : FinS f a = true := by unfold FinS; exact decide_eq_true (by omega)
    rw [e, Bool.not_true, cond_false, Neg_k k f ha, cNext_k k f h1, Neg_k k f h2, cPlain_k k f (Neg_lt f h2), if_neg h]

/-- An int as a float. -/
def FromS (f m : Int) (n : Int) : Nat := Rd f m (decide (n < 0)) n.natAbs 0 false

theorem cFromInt_k {R : Type} (k : Nat) (f m : Int) {n : Int} (hn : -9223372036854775808 ≤ n ∧ n ≤ 9223372036854775807) (K : Int → Option R) : conv_FromInt k f m n K = K ((FromS f m n : Nat) : Int) := by
  unfold conv_FromInt conv_FromIntT FromS
  by_cases h : n < 0
  · have w : Wu64 (0 - Wu64 n) = ((n.natAbs : Nat) : Int) := by unfold Wu64; rw [wrap_u64, wrap_u64]; omega
    rw [decide_eq_true h, cond_true, w, Round64 k f m _ (by omega) (by omega) (by omega)]
  · have w : Wu64 n = ((n.natAbs : Nat) : Int) := by unfold Wu64; rw [wrap_u64]; omega
    rw [decide_eq_false h, cond_false, w, Round64 k f m _ (by omega) (by omega) (by omega)]

theorem FromS_lt (f m n : Int) : FromS f m n < 2 ^ 64 := form_lt ⟨_, Rd_form ..⟩

end Go.Proofs.Ytelifkahdhhmoaa.N

/- Package conv: hex. Conditions: none. -/
namespace Go.Proofs.Ytelifkahdhhmoaa.N
set_option linter.unusedVariables false
set_option linter.unusedSimpArgs false
open Go Go.Ab

/-! ### Texts -/

theorem toList_loop (bs : ByteArray) : ∀ (n i : Nat) (r : List UInt8), n + i = bs.size → ByteArray.toList.loop bs i r = r.reverse ++ bs.data.toList.drop i
  | 0, i, r, h => by
    rw [ByteArray.toList.loop, if_neg (by omega), List.drop_of_length_le (by rw [Array.length_toList]; show bs.size ≤ i; omega), List.append_nil]
  | n + 1, i, r, h => by
    have hi : i < bs.data.toList.length := by rw [Array.length_toList]; show i < bs.size; omega
    rw [ByteArray.toList.loop, if_pos (by omega), toList_loop bs n (i + 1) _ (by omega), List.reverse_cons, List.append_assoc]
    congr 1
    rw [List.drop_eq_getElem_cons hi]
    show bs.data[i]! :: _ = _
    rw [getElem!_pos bs.data i (by simpa using hi)]
    simp

theorem toList_data (bs : ByteArray) : bs.toList = bs.data.toList := by
  have := toList_loop bs bs.size 0 [] rfl
  simpa [ByteArray.toList] using this

theorem toList_beq (a b : ByteArray) : (a.toList == b.toList) = decide (a = b) := by
  by_cases h : a = b
  · subst h; simp
  · rw [decide_eq_false h, beq_eq_false_iff_ne, toList_data, toList_data]
    intro h2
    exact h (ByteArray.ext (Array.ext' h2))

theorem bytesOf_size (l : List Int) : (bytesOf l).size = l.length := by simp [bytesOf, ByteArray.size]

theorem bytesOf_cons (c : Int) (l : List Int) : bytesOf [c] ++ bytesOf l = bytesOf (c :: l) := by
  apply ByteArray.ext
  rw [ByteArray.data_append]
  simp [bytesOf]

theorem bytesOf_inj : ∀ {l m : List Int}, (∀ x ∈ l, 0 ≤ x ∧ x < 256) → (∀ x ∈ m, 0 ≤ x ∧ x < 256) → bytesOf l = bytesOf m → l = m := by
  intro l m hl hm h
  have h1 : l.map (fun n : Int => UInt8.ofNat n.toNat) = m.map (fun n : Int => UInt8.ofNat n.toNat) := by
    have := congrArg (fun b : ByteArray => b.data.toList) h
    simpa [bytesOf] using this
  have hlen : l.length = m.length := by simpa using congrArg List.length h1
  apply List.ext_getElem hlen
  intro i p q
  have h2 : (l.map (fun n : Int => UInt8.ofNat n.toNat))[i]'(by simpa using p) = (m.map (fun n : Int => UInt8.ofNat n.toNat))[i]'(by simpa using q) := by simp [h1]
  simp only [List.getElem_map] at h2
  have h3 := congrArg UInt8.toNat h2
  have a1 := hl _ (List.getElem_mem p); have a2 := hm _ (List.getElem_mem q)
  simp only [UInt8.toNat_ofNat'] at h3
  omega

/-- A table of ints. -/
def tabI (n : Nat) (f : Nat → Int) : List Int := (List.range n).map f
@[simp] theorem tabI_length (n : Nat) (f : Nat → Int) : (tabI n f).length = n := by simp [tabI]
theorem tabI_get (n : Nat) (f : Nat → Int) (i : Nat) : (tabI n f)[i]? = if i < n then some (f i) else none := by
  unfold tabI
  by_cases h : i < n
  · rw [if_pos h]; simp [h]
  · rw [if_neg h]; simp; omega
theorem tabI_set (n : Nat) (f : Nat → Int) (i : Nat) (b : Int) : (tabI n f).set i b = tabI n (fun j => if j = i then b else f j) := by
  apply List.ext_getElem?
  intro j
  rw [List.getElem?_set, tabI_get, tabI_get, tabI_length]
  by_cases h : i = j
  · subst h; simp
  · have : ¬ j = i := fun e => h e.symm
    simp [h, this]
theorem tabI_congr {n : Nat} {f g : Nat → Int} (h : ∀ i, i < n → f i = g i) : tabI n f = tabI n g := by
  apply List.ext_getElem?
  intro j
  rw [tabI_get, tabI_get]
  by_cases c : j < n
  · rw [if_pos c, if_pos c, h j c]
  · rw [if_neg c, if_neg c]
theorem tabI_zero (n : Nat) : List.replicate n (0 : Int) = tabI n (fun _ => 0) := by
  apply List.ext_getElem?
  intro j
  rw [List.getElem?_replicate, tabI_get]

/-! ### Digits -/

def hexd (d : Nat) : Int := if d < 10 then ((48 + d : Nat) : Int) else ((87 + d : Nat) : Int)
theorem hexd_at : ∀ n : Fin 16, strAt ⟨#[48, 49, 50, 51, 52, 53, 54, 55, 56, 57, 97, 98, 99, 100, 101, 102]⟩ ((n.val : Nat) : Int) = some (hexd n.val) := by decide +kernel
theorem hexd_bnd {d : Nat} (h : d < 16) : 0 ≤ hexd d ∧ hexd d < 256 := by unfold hexd; split <;> omega
theorem hexd_inj {d e : Nat} (h : d < 16) (h' : e < 16) (hh : hexd d = hexd e) : d = e := by unfold hexd at hh; split at hh <;> split at hh <;> omega

theorem and15 {x : Nat} (hx : x < 2 ^ 64) : bAnd .u64 (x : Int) 15 = ((x % 16 : Nat) : Int) := by
  rw [show (15 : Int) = ((2 ^ 4 - 1 : Nat) : Int) from by decide, bAnd_nat hx (by decide), Nat.and_two_pow_sub_one_eq_mod]

theorem chex_loop {R : Type} (k : Nat) {a : Nat} (ha : a < 2 ^ 64) (n : Int) (K : List Int → Option R) : ∀ (m f i : Nat), m + i = 16 → m < f →
    conv_Hex_l0 k f (a : Int) n 16 (i : Int) (tabI 16 fun j => if j < i then hexd (a / 2 ^ (4 * (15 - j)) % 16) else 0) K = K (tabI 16 fun j => hexd (a / 2 ^ (4 * (15 - j)) % 16))
  | m, 0, i, h1, h2 => by omega
  | 0, f + 1, i, h1, h2 => by
    have : i = 16 := by omega
    subst this
    rw [conv_Hex_l0, conv_Hex_l0B, decide_eq_false (by decide), cond_false]
    exact congrArg K (tabI_congr fun j hj => if_pos hj)
  | m + 1, f + 1, i, h1, h2 => by
    rw [conv_Hex_l0, conv_Hex_l0B]
    have e1 : (i : Int) < 16 := by omega
    have w : Wi64 (4 * Wi64 (15 - (i : Int))) = ((4 * (15 - i) : Nat) : Int) := by
      rw [wrap_i64 (x := 15 - (i : Int)) (by omega) (by omega), wrap_i64 (by omega) (by omega)]; omega
    have e2 : ¬ (((4 * (15 - i) : Nat) : Int) < 0) := by omega
    have hq : a / 2 ^ (4 * (15 - i)) < 2 ^ 64 := Nat.lt_of_le_of_lt (Nat.div_le_self _ _) ha
    have hd := hexd_at ⟨a / 2 ^ (4 * (15 - i)) % 16, Nat.mod_lt _ (by decide)⟩
    have e3 : (0 : Int) ≤ (i : Int) := by omega
    have e4 : (i : Int) < ((16 : Nat) : Int) := by omega
    have e5 : i < 16 := by omega
    have ih := chex_loop k ha n K m f (i + 1) (by omega) (by omega)
    rw [decide_eq_true e1, cond_true, w, decide_eq_false e2, cond_false, shr_nat a _ (by omega), and15 hq, hd, Option.bind_some, decide_eq_true e3, cond_true, tabI_length, decide_eq_true e4, cond_true, Int.toNat_natCast, tabI_get, if_pos e5, Option.bind_some, tabI_set, Wi64_succ (by omega)]
    refine Eq.trans ?_ ih
    congr 1
    refine tabI_congr fun j hj => ?_
    by_cases c : j = i
    · subst c; rw [if_pos rfl, if_pos (by omega)]
    · rw [if_neg c]
      by_cases c2 : j < i
      · rw [if_pos c2, if_pos (by omega)]
      · rw [if_neg c2, if_neg (by omega)]

/-- A float's digits. -/
def hexL (f : Int) (a : Nat) : List Int := tabI (if f = 1 then 8 else 16) fun j => hexd (a / 2 ^ (4 * ((if f = 1 then 8 else 16) - 1 - j)) % 16)
def HexS (f : Int) (a : Nat) : ByteArray := bytesOf (hexL f (if bad f a = true then NAN f else a))

theorem tabI_drop (f : Nat → Int) : (tabI 16 f).drop 8 = tabI 8 (fun j => f (8 + j)) := by
  apply List.ext_getElem?
  intro j
  rw [List.getElem?_drop, tabI_get, tabI_get]
  by_cases c : j < 8
  · rw [if_pos c, if_pos (by omega)]
  · rw [if_neg c, if_neg (by omega)]

theorem Class_bad (f : Int) (a : Nat) : (ClassS f a == 0) = bad f a := by
  unfold ClassS
  cases hb : bad f a with
  | true => rw [if_pos rfl]; rfl
  | false =>
    rw [if_neg (by decide)]
    split
    · rfl
    · split
      · rfl
      · split
        · rfl
        · split <;> rfl

theorem cHex_k {R : Type} {k : Nat} (hk : 5000 ≤ k) (f : Int) {a : Nat} (ha : a < 2 ^ 64) (K : ByteArray → Option R) : conv_Hex k f (a : Int) K = K (HexS f a) := by
  unfold conv_Hex conv_HexT conv_bits conv_bitsT HexS
  have loop : ∀ (x : Nat), x < 2 ^ 64 → ∀ (n : Int) (J : List Int → Option R), conv_Hex_l0 k k (x : Int) n (((List.length (List.replicate 16 (0 : Int))) : Nat) : Int) 0 (List.replicate 16 0) J = J (tabI 16 fun j => hexd (x / 2 ^ (4 * (15 - j)) % 16)) := by
    intro x hx n J
    have h := chex_loop (R := R) k hx n J 16 k 0 (by omega) (by omega)
    rw [List.length_replicate, tabI_zero]
    refine Eq.trans ?_ h
    congr 1
  have key : ∀ (x : Nat), x < 2 ^ 64 → ∀ r1 : Int, (r1 = if f = 1 then 32 else 64) →
      conv_Hex_l0 k k (x : Int) (Wi64 (Int.tdiv r1 4)) (((List.length (List.replicate 16 (0 : Int))) : Nat) : Int) 0 (List.replicate 16 0) (fun r4 =>
            cond (decide (16 ≤ (((List.length r4) : Nat) : Int))) (
              cond (decide (0 ≤ (Wi64 (16 - (Wi64 (Int.tdiv r1 4)))))) (
                cond (decide ((Wi64 (16 - (Wi64 (Int.tdiv r1 4)))) ≤ 16)) (
                  cond (decide ((Int.toNat (Wi64 (16 - (Wi64 (Int.tdiv r1 4))))) + (16 - (Int.toNat (Wi64 (16 - (Wi64 (Int.tdiv r1 4)))))) ≤ (List.length r4))) (
                  K (bytesOf (List.take (16 - (Int.toNat (Wi64 (16 - (Wi64 (Int.tdiv r1 4)))))) (List.drop (Int.toNat (Wi64 (16 - (Wi64 (Int.tdiv r1 4))))) r4)))) none) (
                  none)) (
                none)) (
              none)) = K (bytesOf (hexL f x)) := by
    intro x hx r1 hr
    rw [loop x hx, tabI_length, decide_eq_true (show (16 : Int) ≤ ((16 : Nat) : Int) by decide), cond_true]
    unfold hexL
    by_cases h : f = 1
    · rw [if_pos h] at hr
      rw [if_pos h, hr]
      have w : Wi64 (16 - Wi64 (Int.tdiv 32 4)) = 8 := by decide
      rw [w, decide_eq_true (by decide), cond_true, decide_eq_true (by decide), cond_true, decide_eq_true (by decide), cond_true, show (8 : Int).toNat = 8 from rfl, tabI_drop]
      rfl
    · rw [if_neg h] at hr
      rw [if_neg h, hr]
      have w : Wi64 (16 - Wi64 (Int.tdiv 64 4)) = 0 := by decide
      rw [w, decide_eq_true (by decide), cond_true, decide_eq_true (by decide), cond_true, decide_eq_true (by decide), cond_true, show (0 : Int).toNat = 0 from rfl, List.drop_zero]
      rfl
  have fin : ∀ r1 : Int, (r1 = if f = 1 then 32 else 64) → (cond (bad f a) (soft_Nan k f (fun r3 => conv_Hex_l0 k k r3 (Wi64 (Int.tdiv r1 4)) (((List.length (List.replicate 16 (0 : Int))) : Nat) : Int) 0 (List.replicate 16 0) (fun r4 =>
            cond (decide (16 ≤ (((List.length r4) : Nat) : Int))) (
              cond (decide (0 ≤ (Wi64 (16 - (Wi64 (Int.tdiv r1 4)))))) (
                cond (decide ((Wi64 (16 - (Wi64 (Int.tdiv r1 4)))) ≤ 16)) (
                  cond (decide ((Int.toNat (Wi64 (16 - (Wi64 (Int.tdiv r1 4))))) + (16 - (Int.toNat (Wi64 (16 - (Wi64 (Int.tdiv r1 4)))))) ≤ (List.length r4))) (
                  K (bytesOf (List.take (16 - (Int.toNat (Wi64 (16 - (Wi64 (Int.tdiv r1 4)))))) (List.drop (Int.toNat (Wi64 (16 - (Wi64 (Int.tdiv r1 4))))) r4)))) none) (
                  none)) (
                none)) (
              none))))
      (conv_Hex_l0 k k (a : Int) (Wi64 (Int.tdiv r1 4)) (((List.length (List.replicate 16 (0 : Int))) : Nat) : Int) 0 (List.replicate 16 0) (fun r4 =>
            cond (decide (16 ≤ (((List.length r4) : Nat) : Int))) (
              cond (decide (0 ≤ (Wi64 (16 - (Wi64 (Int.tdiv r1 4)))))) (
                cond (decide ((Wi64 (16 - (Wi64 (Int.tdiv r1 4)))) ≤ 16)) (
                  cond (decide ((Int.toNat (Wi64 (16 - (Wi64 (Int.tdiv r1 4))))) + (16 - (Int.toNat (Wi64 (16 - (Wi64 (Int.tdiv r1 4)))))) ≤ (List.length r4))) (
                  K (bytesOf (List.take (16 - (Int.toNat (Wi64 (16 - (Wi64 (Int.tdiv r1 4)))))) (List.drop (Int.toNat (Wi64 (16 - (Wi64 (Int.tdiv r1 4))))) r4)))) none) (
                  none)) (
                none)) (
              none)))) = K (bytesOf (hexL f (if bad f a = true then NAN f else a))) := by
    intro r1 hr
    cases hb : bad f a with
    | true => rw [cond_true, Nan_k, if_pos rfl]; exact key (NAN f) (NAN_lt64 f) r1 hr
    | false => rw [cond_false, if_neg (by decide)]; exact key a ha r1 hr
  rw [← Class_bad] at fin ⊢
  rw [Class_bad f a] at fin
  by_cases h : f = 1
  · have e : (f == 1) = true := beq_iff_eq.2 h
    rw [e, cond_true]
    dsimp only
    rw [Class_k k f ha, Class_bad]
    have := fin 32 (by rw [if_pos h])
    exact this
  · have e : (f == 1) = false := by rw [beq_eq_false_iff_ne]; exact h
    rw [e, cond_false]
    dsimp only
    rw [Class_k k f ha, Class_bad]
    have := fin 64 (by rw [if_neg h])
    exact this

end Go.Proofs.Ytelifkahdhhmoaa.N

/- Floats: the lowest ones. Conditions: none. -/
namespace Go.Proofs.Ytelifkahdhhmoaa.N
set_option linter.unusedVariables false
set_option linter.unusedSimpArgs false
open Go Go.Ab

theorem nG_small {f : Int} {g : Nat} (h : g < 2 ^ (fP f + 1)) : nG f g = g ∧ eG f g = fL f := by
  have hp := fP_pos f
  rw [Nat.pow_succ] at h
  unfold nG eG
  by_cases c : g < 2 ^ fP f
  · rw [if_pos c, if_pos c]; exact ⟨rfl, rfl⟩
  · rw [if_neg c, if_neg c]
    have h1 : g / 2 ^ fP f = 1 := Nat.div_eq_of_lt_le (by omega) (by omega)
    have h2 := Nat.div_add_mod g (2 ^ fP f)
    rw [h1, Nat.mul_one] at h2
    rw [h1]
    refine ⟨by omega, by omega⟩

theorem fI_two (f : Int) : 2 ^ (fP f + 1) < fI f := by
  rcases fmt f with ⟨_, h1, h2, h3⟩ | ⟨_, h1, h2, h3⟩ <;> unfold fI <;> rw [h1, h2] <;> decide

end Go.Proofs.Ytelifkahdhhmoaa.N

/- Package conv: floats as ints. Conditions: none. -/
namespace Go.Proofs.Ytelifkahdhhmoaa.N
set_option linter.unusedVariables false
set_option linter.unusedSimpArgs false
open Go Go.Ab

/-- A finite float without its places. -/
def truncN (f : Int) (a : Nat) : Nat := if e2 f a ≤ 0 then nn f a / 2 ^ (-(e2 f a)).toNat else nn f a * 2 ^ (e2 f a).toNat
def ToS (f : Int) (a : Nat) : Int × Bool :=
  if kd f a < 2 then (0, false) else if 2 ^ 31 < truncN f a ∨ (truncN f a = 2 ^ 31 ∧ bw f a = false) then (0, false) else (if bw f a = true then -((truncN f a : Nat) : Int) else ((truncN f a : Nat) : Int), true)

theorem cto_fin {R : Type} (N : Nat) (b : Bool) (hN : N < 2 ^ 64) (K : Int → Bool → Option R) (below : (Bool → Option R) → Option R) (hb : ∀ J, below J = J b) :
    (cond (decide ((N : Int) > 2147483648)) (K 0 false) (below (fun r7 => cond r7
      (cond (decide ((Wi64 (0 - (Wi64 (N : Int)))) > 2147483647)) (K 0 false) (K (Wi64 (0 - (Wi64 (N : Int)))) true))
      (cond (decide ((Wi64 (N : Int)) > 2147483647)) (K 0 false) (K (Wi64 (N : Int)) true))))) =
    (fun p : Int × Bool => K p.1 p.2) (if 2 ^ 31 < N ∨ (N = 2 ^ 31 ∧ b = false) then (0, false) else (if b = true then -((N : Nat) : Int) else ((N : Nat) : Int), true)) := by
  by_cases h : 2 ^ 31 < N
  · rw [decide_eq_true (by omega), cond_true, if_pos (.inl h)]
  · have w1 : Wi64 (N : Int) = (N : Int) := wrap_i64 (by omega) (by omega)
    have w2 : Wi64 (0 - (N : Int)) = -(N : Int) := by rw [wrap_i64 (by omega) (by omega)]; omega
    rw [decide_eq_false (by omega), cond_false, hb, w1, w2]
    cases b with
    | true => rw [cond_true, decide_eq_false (by omega), cond_false, if_neg (fun hh => hh.elim h (fun q => by cases q.2)), if_pos rfl]
    | false =>
      rw [cond_false]
      by_cases h2 : N = 2 ^ 31
      · rw [decide_eq_true (by omega), cond_true, if_pos (.inr ⟨h2, rfl⟩)]
      · rw [decide_eq_false (by omega), cond_false, if_neg (fun hh => hh.elim h (fun q => h2 q.1)), if_neg (by decide)]

theorem Shr_c {R : Type} (k : Nat) {X : Nat} {n : Int} (h : X < 2 ^ 64) (hn : (Lit.int .i64 n).wf = true) (h0 : 0 ≤ n) (K : Int → Int → Bool → Option R) :
    ∃ x, wide_Shr k 0 (X : Int) n K = K 0 ((X / 2 ^ n.toNat : Nat) : Int) x := by
  have := Shr_hl k (A := X) (n := n) (by omega) hn K
  rw [hi_small h, lo_small h] at this
  have hq : X / 2 ^ n.toNat < 2 ^ 64 := Nat.lt_of_le_of_lt (Nat.div_le_self _ _) h
  rw [hi_small hq, lo_small hq] at this
  exact ⟨_, this⟩

theorem kd3_nn {f : Int} {a : Nat} (h : kd f a = 3) (he : fL f < e2 f a) : 2 ^ 23 ≤ nn f a := by
  have h1 : 2 ^ 23 ≤ 2 ^ fP f := Nat.pow_le_pow_right (by decide) (fmt_le f).1
  unfold e2 ee at he
  rw [if_pos h, if_pos h] at he
  unfold nn
  rw [if_pos h]
  unfold eG at he; unfold nG
  split at he
  · omega
  · rename_i c; rw [if_neg c]; omega

theorem cToInt_k {R : Type} (k : Nat) (f : Int) {a : Nat} (ha : a < 2 ^ 64) (K : Int → Bool → Option R) : conv_ToInt k f (a : Int) K = K (ToS f a).1 (ToS f a).2 := by
  unfold conv_ToInt conv_ToIntT ToS
  have hf := fmt_le f
  have hb := e2_bnd f a
  have n1 := nn_lt64 f a
  rw [Finite_k k f ha]
  by_cases h : kd f a < 2
  · have e : FinS f a = false := by unfold FinS; exact decide_eq_false (by omega)
    rw [e, Bool.not_false, cond_true, if_pos h]
  · have e : FinS f a = true := by unfold FinS; exact decide_eq_true (by omega)
    have hbl := fun J : Bool → Option R => cbelow_k (R := R) k f ha (bad_of_kd (f := f) (a := a) (by omega)) J
    rw [e, Bool.not_true, cond_false, cvalue_k k f ha (by omega), if_neg h]
    unfold truncN
    by_cases c1 : e2 f a ≤ 0
    · have w : Wi64 (0 - e2 f a) = ((-(e2 f a)).toNat : Int) := by rw [wrap_i64 (by omega) (by omega)]; omega
      rw [decide_eq_true c1, cond_true, if_pos c1, w]
      have hq : nn f a / 2 ^ (-(e2 f a)).toNat < 2 ^ 64 := Nat.lt_of_le_of_lt (Nat.div_le_self _ _) (by omega)
      obtain ⟨x, hx⟩ := Shr_c (R := R) k (X := nn f a) (n := ((-(e2 f a)).toNat : Int)) (by omega) (wf_nat (by omega)) (by omega) (fun r4 r5 r6 =>
            cond (decide (r5 > 2147483648)) (
              K 0 false) (
              conv_below k f (a : Int) (fun r7 =>
                cond r7 (
                  cond (decide ((Wi64 (0 - (Wi64 r5))) > 2147483647)) (
                    K 0 false) (
                    K (Wi64 (0 - (Wi64 r5))) true)) (
                  cond (decide ((Wi64 r5) > 2147483647)) (
                    K 0 false) (
                    K (Wi64 r5) true)))))
      rw [hx, Int.toNat_natCast]
      exact cto_fin _ (bw f a) hq K _ hbl
    · rw [decide_eq_false c1, cond_false, if_neg c1]
      have h3 : kd f a = 3 := by
        rcases kd_vals f a with h' | h' | h' | h'
        · omega
        · omega
        · exfalso; unfold e2 at c1; rw [h'] at c1; simp at c1; omega
        · exact h'
      have hn := kd3_nn h3 (by omega)
      by_cases c2 : e2 f a < 11
      · have hs : shl .u64 ((nn f a : Nat) : Int) (e2 f a) = ((nn f a * 2 ^ (e2 f a).toNat : Nat) : Int) := by
          have e3 : e2 f a = ((e2 f a).toNat : Int) := by omega
          have hp : 2 ^ (e2 f a).toNat ≤ 2 ^ 10 := Nat.pow_le_pow_right (by decide) (by omega)
          have hm := Nat.mul_le_mul (show nn f a ≤ 2 ^ 53 by omega) hp
          rw [← Nat.pow_add] at hm
          rw [e3, shl_pow (by omega) (Nat.lt_of_le_of_lt hm (by decide)), ← e3]
        have hlt : nn f a * 2 ^ (e2 f a).toNat < 2 ^ 64 := by
          have hp : 2 ^ (e2 f a).toNat ≤ 2 ^ 10 := Nat.pow_le_pow_right (by decide) (by omega)
          have hm := Nat.mul_le_mul (show nn f a ≤ 2 ^ 53 by omega) hp
          rw [← Nat.pow_add] at hm
          exact Nat.lt_of_le_of_lt hm (by decide)
        rw [decide_eq_true c2, cond_true, decide_eq_false (by omega), cond_false, hs]
        exact cto_fin _ (bw f a) hlt K _ hbl
      · have hlt : 2 ^ 31 < nn f a * 2 ^ (e2 f a).toNat := by
          have hp : 2 ^ 11 ≤ 2 ^ (e2 f a).toNat := Nat.pow_le_pow_right (by decide) (by omega)
          have hm := Nat.mul_le_mul hn hp
          rw [← Nat.pow_add] at hm
          exact Nat.lt_of_lt_of_le (by decide) hm
        rw [decide_eq_false c2, cond_false, decide_eq_true (by omega), cond_true, if_pos (.inl hlt)]

end Go.Proofs.Ytelifkahdhhmoaa.N

/- The laws of package conv: what they share. Conditions: none. -/
namespace Go.Proofs.Ytelifkahdhhmoaa.N
set_option linter.unusedVariables false
set_option linter.unusedSimpArgs false
open Go Go.Ab

theorem dig01 {R : Type} (n : Nat) (K : Int → Int → Int → Bool → Option R) : conv_digits (n + 4) ⟨#[48, 46, 49]⟩ K = K 1 2 1 true := by kernel_rfl
theorem pt01 {R : Type} (n : Nat) (K : Bool → Option R) : conv_point (n + 4) ⟨#[48, 46, 49]⟩ K = K true := by kernel_rfl
theorem by01 {R : Type} (k n : Nat) (x1 x2 : Int) (K : Int → Option R) : conv_Literal_l0 k (n + 4) x1 x2 1 1 0 K = K 10 := by kernel_rfl

theorem cformat_k {R : Type} (k : Nat) (f : Int) (K : Int → Option R) : plumblinelaw03_format k f K = K (fm f) := by
  unfold plumblinelaw03_format plumblinelaw03_formatT fm
  by_cases h : f = 1
  · subst h; rfl
  · have : (f == 1) = false := by rw [beq_eq_false_iff_ne]; exact h
    rw [this, cond_false, if_neg h]

theorem clit01 {R : Type} {k : Nat} (hk : 5000 ≤ k) (K : Int → Int → Option R) : conv_Literal k 0 ⟨#[48, 46, 49]⟩ K = K 4591870180066957722 0 := by
  obtain ⟨n, rfl⟩ : ∃ n, k = n + 4 := ⟨k - 4, by omega⟩
  unfold conv_Literal conv_LiteralT
  rw [dig01, Bool.not_true, cond_false, pt01, Bool.not_true, cond_false, decide_eq_false (by decide), cond_false, by01]
  have l1 := Len_c (R := R) (n + 4) (X := 1) (by decide)
  have b1 : bl 1 = 1 := by decide
  rw [show (1 : Int) = ((1 : Nat) : Int) from rfl, l1, b1]
  have w1 : Wi64 (127 - ((1 : Nat) : Int)) = ((126 : Nat) : Int) := by decide
  have w2 : Wi64 (0 - ((126 : Nat) : Int)) = -126 := by decide
  have hs := fun J => Shl_c (R := R) (n + 4) (X := 1) (n := ((126 : Nat) : Int)) (by decide) (by decide) J
  rw [w1, hs, w2]
  have e1 : 1 * 2 ^ ((126 : Nat) : Int).toNat % 2 ^ 128 = 2 ^ 126 := by decide
  have hd := fun J => Div_hl (R := R) (k := n + 4) hk (A := 2 ^ 126) (b := 10) (by decide) (by decide) (by decide) J
  rw [e1, show (10 : Int) = ((10 : Nat) : Int) from rfl, hd]
  have hr := fun J => Round_c (R := R) (n + 4) 0 0 false (N := 2 ^ 126 / 10) (by decide) (-126) true J
  have hne : (((2 ^ 126 % 10 : Nat) : Int) != 0) = true := by decide
  have d1 : Rd 0 0 false (2 ^ 126 / 10 * 2 ^ 2 + true.toNat) (cec (-126) - ((2 : Nat) : Int)) false = 4591870180066957722 := by decide +kernel
  rw [hne, hr, d1]
  rfl

theorem clive_k {R : Type} {k : Nat} (hk : 5000 ≤ k) (K : Bool → Option R) : plumblinelaw03_live k K = K true := by
  unfold plumblinelaw03_live plumblinelaw03_liveT
  rw [clit01 hk]
  have q1 : ((4591870180066957722 : Int) == 4591870180066957722) = true := by decide
  have d2 : FromS 1 0 3 = 1077936128 := by decide +kernel
  have hF := fun J => cFromInt_k (R := R) k 1 0 (n := 3) (by decide) J
  have q2 : (((1077936128 : Nat) : Int) == 1077936128) = true := by decide
  have d3 : NextS 1 0 = 1 := by decide +kernel
  have hN : ∀ J : Int → Option R, conv_Next k 1 0 J = J 1 := fun J => (cNext_k (R := R) k 1 (a := 0) (by decide) J).trans (by rw [d3]; rfl)
  have d4 : HexS 1 1 = ⟨#[48, 48, 48, 48, 48, 48, 48, 49]⟩ := by decide +kernel
  have hH : ∀ J : ByteArray → Option R, conv_Hex k 1 1 J = J ⟨#[48, 48, 48, 48, 48, 48, 48, 49]⟩ := fun J => (cHex_k (R := R) hk 1 (a := 1) (by decide) J).trans (by rw [d4])
  rw [show ((0 : Int) == 0) = true from rfl, cond_true, q1, cond_true, hF, d2, q2, cond_true, hN, hH, toList_beq, decide_eq_true rfl]

end Go.Proofs.Ytelifkahdhhmoaa.N

/- What a format that is none counts as, in package conv. Conditions: none. -/
namespace Go.Proofs.Ytelifkahdhhmoaa.N
set_option linter.unusedVariables false
set_option linter.unusedSimpArgs false
open Go Go.Ab

theorem cWiden_k {R : Type} (k : Nat) {a : Nat} (ha : a < 2 ^ 64) (K : Int → Option R) : conv_Widen k (a : Int) K = K ((TurnS 1 0 0 a : Nat) : Int) := by
  unfold conv_Widen conv_WidenT; rw [cturned_k k 1 0 0 ha]
theorem cNarrow_k {R : Type} (k : Nat) (m : Int) {a : Nat} (ha : a < 2 ^ 64) (K : Int → Option R) : conv_Narrow k m (a : Int) K = K ((TurnS 0 1 m a : Nat) : Int) := by
  unfold conv_Narrow conv_NarrowT; rw [cturned_k k 0 1 m ha]
theorem e2_fm (f : Int) (a : Nat) : e2 (fm f) a = e2 f a := by unfold e2; rw [kd_fm, ee_fm, fL_fm]
theorem FromS_fm (f m n : Int) : FromS (fm f) m n = FromS f m n := by unfold FromS; rw [Rd_fm]
theorem truncN_fm (f : Int) (a : Nat) : truncN (fm f) a = truncN f a := by unfold truncN; rw [e2_fm, nn_fm]
theorem ToS_fm (f : Int) (a : Nat) : ToS (fm f) a = ToS f a := by unfold ToS; rw [kd_fm, truncN_fm, bw_fm]
theorem PlainS_fm (f : Int) (a : Nat) : PlainS (fm f) a = PlainS f a := by unfold PlainS; rw [kd_fm, NAN_fm]
theorem NextS_fm (f : Int) (a : Nat) : NextS (fm f) a = NextS f a := by unfold NextS; rw [kd_fm, NAN_fm, bw_fm, PlainS_fm, fI_fm]
theorem PrevS_fm (f : Int) (a : Nat) : PrevS (fm f) a = PrevS f a := by unfold PrevS; rw [kd_fm, NAN_fm, NegS_fm, NextS_fm, NegS_fm, PlainS_fm]
theorem HexS_fm (f : Int) (a : Nat) : HexS (fm f) a = HexS f a := by
  unfold HexS hexL
  rw [bad_fm, NAN_fm]
  by_cases h : f = 1
  · have := (fm_P f).2.2.2.2 h
    rw [if_pos h, if_pos this]
  · have : ¬ fm f = 1 := fun q => h ((fm_P f).2.2.2.1 q)
    rw [if_neg h, if_neg this]

end Go.Proofs.Ytelifkahdhhmoaa.N

/- Texts of digits: what they say, by lists of bytes. Conditions: none. -/
namespace Go.Proofs.Ytelifkahdhhmoaa.N
set_option linter.unusedVariables false
set_option linter.unusedSimpArgs false
open Go Go.Ab

theorem Wi_s {i : Nat} (h : i + 1 < 2 ^ 63) : Wi64 ((i : Int) + 1) = ((i + 1 : Nat) : Int) := (wrap_i64 (by omega) (by omega)).trans (by omega)

def dg (c : Nat) : Bool := decide (48 ≤ c) && decide (c ≤ 57)

/-- What stands ahead of the point, and behind it, if there is one. -/
def decode (L : List Nat) : Option (List Nat × Option (List Nat)) :=
  match L.dropWhile dg with
  | [] => if L = [] then none else some (L, none)
  | c :: R => if c = 46 ∧ L.takeWhile dg ≠ [] ∧ R ≠ [] ∧ R.all dg = true then some (L.takeWhile dg, some R) else none

def scanD (len : Nat) : List Nat → Nat → Nat → Nat → Int → Nat → Option (Nat × Nat × Int × Nat)
  | [], _, n, all, beh, pts => some (n, all, beh, pts)
  | c :: r, i, n, all, beh, pts =>
    if c = 46 ∧ 0 < i ∧ i + 1 < len then scanD len r (i + 1) n all beh (pts + 1)
    else if c < 48 ∨ 57 < c then none
    else scanD len r (i + 1) (if all + 1 ≤ 18 then (10 * n + (c - 48)) % 2 ^ 64 else n) (all + 1) (Wi64 (beh + (pts : Int))) pts

def cap : Nat → Nat → List Nat → Nat
  | n, _, [] => n
  | n, all, c :: D => cap (if all + 1 ≤ 18 then (10 * n + (c - 48)) % 2 ^ 64 else n) (all + 1) D

theorem dg_spec {c : Nat} : dg c = true ↔ 48 ≤ c ∧ c ≤ 57 := by unfold dg; simp

theorem scan_dig (len : Nat) (R : List Nat) : ∀ (D : List Nat) (i n all : Nat) (b p : Nat), D.all dg = true → p ≤ 1 → b + p * D.length < 2 ^ 63 →
    scanD len (D ++ R) i n all (b : Int) p = scanD len R (i + D.length) (cap n all D) (all + D.length) ((b + p * D.length : Nat) : Int) p
  | [], i, n, all, b, p, _, _, _ => by simp [cap]
  | c :: D, i, n, all, b, p, h, hp, hb => by
    rw [List.all_cons, Bool.and_eq_true] at h
    have hc := dg_spec.1 h.1
    have hl : (c :: D).length = D.length + 1 := rfl
    rw [hl] at hb ⊢
    have hm : p * (D.length + 1) = p + p * D.length := by rw [Nat.mul_add, Nat.mul_one, Nat.add_comm]
    have w : Wi64 ((b : Int) + (p : Int)) = ((b + p : Nat) : Int) := (wrap_i64 (by omega) (by omega)).trans (by omega)
    rw [List.cons_append, scanD, if_neg (by omega), if_neg (by omega), w, scan_dig len R D (i + 1) _ (all + 1) (b + p) p h.2 hp (by omega), cap, hm]
    congr 1
    · omega
    · omega
    · omega

theorem scan_pts (len : Nat) : ∀ (L : List Nat) (i n all : Nat) (b : Int) (p : Nat) (q : Nat × Nat × Int × Nat), scanD len L i n all b p = some q → p ≤ q.2.2.2
  | [], i, n, all, b, p, q, h => by rw [scanD] at h; cases h; exact Nat.le_refl _
  | c :: L, i, n, all, b, p, q, h => by
    rw [scanD] at h
    split at h
    · have := scan_pts len L _ _ _ _ _ q h; omega
    · split at h
      · cases h
      · exact scan_pts len L _ _ _ _ _ q h

theorem dropWhile_head {L : List Nat} {c : Nat} {R : List Nat} (h : L.dropWhile dg = c :: R) : dg c = false := by
  induction L with
  | nil => cases h
  | cons x L ih =>
    rw [List.dropWhile_cons] at h
    by_cases hx : dg x = true
    · rw [if_pos hx] at h; exact ih h
    · rw [if_neg hx] at h; cases h; simpa using hx

theorem takeWhile_all (L : List Nat) : (L.takeWhile dg).all dg = true := by
  induction L with
  | nil => rfl
  | cons x L ih =>
    rw [List.takeWhile_cons]
    by_cases hx : dg x = true
    · rw [if_pos hx, List.all_cons, hx, ih]; rfl
    · rw [if_neg hx]; rfl

theorem split_at (L : List Nat) : L = L.takeWhile dg ++ L.dropWhile dg := List.takeWhile_append_dropWhile.symm

theorem dropWhile_nil {L : List Nat} (h : L.dropWhile dg = []) : L.takeWhile dg = L ∧ L.all dg = true := by
  have := split_at L
  rw [h, List.append_nil] at this
  exact ⟨this.symm, by rw [this]; exact takeWhile_all L⟩

theorem not_dg {c : Nat} (h : dg c = false) : c < 48 ∨ 57 < c := by
  have : ¬ (48 ≤ c ∧ c ≤ 57) := fun q => by rw [dg_spec.2 q] at h; cases h
  omega

/-- What a scan of the digits comes to. -/
theorem scan_decode {L : List Nat} (hl : L.length < 2 ^ 63) :
    (decode L = none → (∀ q, scanD L.length L 0 0 0 0 0 = some q → 1 < q.2.2.2 ∨ q.2.1 = 0)) ∧
    (∀ A, decode L = some (A, none) → A = L ∧ A ≠ [] ∧ A.all dg = true ∧ scanD L.length L 0 0 0 0 0 = some (cap 0 0 A, A.length, 0, 0)) ∧
    (∀ A B, decode L = some (A, some B) → L = A ++ 46 :: B ∧ A ≠ [] ∧ B ≠ [] ∧ A.all dg = true ∧ B.all dg = true ∧ scanD L.length L 0 0 0 0 0 = some (cap 0 0 (A ++ B), A.length + B.length, (B.length : Int), 1)) := by
  have hs := split_at L
  have hA := takeWhile_all L
  obtain ⟨A, hAe⟩ : ∃ A, A = L.takeWhile dg := ⟨_, rfl⟩
  obtain ⟨R, hRe⟩ : ∃ R, R = L.dropWhile dg := ⟨_, rfl⟩
  rw [← hAe, ← hRe] at hs
  rw [← hAe] at hA
  have hlen : L.length = A.length + R.length := by rw [hs, List.length_append]
  have h1 : scanD L.length L 0 0 0 0 0 = scanD L.length R A.length (cap 0 0 A) A.length 0 0 := by
    have h := scan_dig L.length R A 0 0 0 0 0 hA (by decide) (by omega)
    rw [Nat.zero_mul, Nat.zero_add, Nat.zero_add, ← hs] at h
    exact h
  have capp : ∀ (D E : List Nat) (n all : Nat), cap n all (D ++ E) = cap (cap n all D) (all + D.length) E := by
    intro D
    induction D with
    | nil => intro E n all; rfl
    | cons c D ih =>
      intro E n all
      rw [List.cons_append, cap, ih, cap]
      congr 1
      simp; omega
  have hd : decode L = match (generalizing := false) R with
      | [] => if L = [] then none else some (L, none)
      | c :: R => if c = 46 ∧ A ≠ [] ∧ R ≠ [] ∧ R.all dg = true then some (A, some R) else none := by
    unfold decode; rw [← hRe, ← hAe]
  cases R with
  | nil =>
    have e : A = L := by rw [List.append_nil] at hs; exact hs.symm
    rw [scanD] at h1
    by_cases c : L = []
    · rw [hd]; simp only [c, if_true]
      refine ⟨fun _ q hq => ?_, fun A h => (by cases h), fun A B h => (by cases h)⟩
      rw [c] at h1
      have : A = [] := by rw [e, c]
      rw [h1, this] at hq
      cases hq
      exact .inr rfl
    · rw [hd]; simp only [c, if_false]
      refine ⟨fun h => (by cases h), fun A' h => ?_, fun A' B h => (by cases h)⟩
      cases h
      rw [e] at hA h1
      exact ⟨rfl, c, hA, h1⟩
  | cons c R' =>
    have hc := not_dg (dropWhile_head hRe.symm)
    have hR : (c :: R').length = R'.length + 1 := rfl
    rw [hR] at hlen
    by_cases g : c = 46 ∧ A ≠ [] ∧ R' ≠ []
    · obtain ⟨rfl, g1, g2⟩ := g
      have hAp : 0 < A.length := List.length_pos_iff.2 g1
      have hRp : 0 < R'.length := List.length_pos_iff.2 g2
      rw [scanD, if_pos ⟨rfl, hAp, by omega⟩] at h1
      have hs2 := split_at R'
      obtain ⟨B, hBe⟩ : ∃ B, B = R'.takeWhile dg := ⟨_, rfl⟩
      obtain ⟨R2, hR2e⟩ : ∃ R2, R2 = R'.dropWhile dg := ⟨_, rfl⟩
      rw [← hBe, ← hR2e] at hs2
      have hB : B.all dg = true := hBe ▸ takeWhile_all R'
      have hl2 : R'.length = B.length + R2.length := by rw [hs2, List.length_append]
      have h2 := scan_dig L.length R2 B (A.length + 1) (cap 0 0 A) A.length 0 1 hB (by decide) (by omega)
      rw [← hs2] at h2
      have e0 : 0 + 1 * B.length = B.length := by omega
      rw [e0] at h2
      replace h1 := h1.trans h2
      cases R2 with
      | nil =>
        have eB : B = R' := by rw [List.append_nil] at hs2; exact hs2.symm
        have al : R'.all dg = true := eB ▸ hB
        rw [hd]; simp only [g1, g2, al, ne_eq, not_false_eq_true, and_self, if_true]
        refine ⟨fun h => (by cases h), fun A' h => (by cases h), fun A' B' h => ?_⟩
        cases h
        refine ⟨hs, g1, g2, hA, al, ?_⟩
        rw [h1, scanD, capp, Nat.zero_add, eB]
      | cons c2 R3 =>
        have hc2 := dropWhile_head hR2e.symm
        have al : R'.all dg = false := by
          rw [hs2, List.all_append, List.all_cons, hc2]; simp
        rw [hd]; simp only [al, Bool.false_eq_true, and_false, if_false]
        refine ⟨fun _ q hq => ?_, fun A' h => (by cases h), fun A' B' h => (by cases h)⟩
        rw [h1, scanD] at hq
        split at hq
        · have := scan_pts _ _ _ _ _ _ _ _ hq; exact .inl (by omega)
        · rw [if_pos (not_dg hc2)] at hq; cases hq
    · have gd : ¬ (c = 46 ∧ A ≠ [] ∧ R' ≠ [] ∧ R'.all dg = true) := fun q => g ⟨q.1, q.2.1, q.2.2.1⟩
      rw [hd]; simp only [gd, if_false]
      refine ⟨fun _ q hq => ?_, fun A' h => (by cases h), fun A' B' h => (by cases h)⟩
      have gn : ¬ (c = 46 ∧ 0 < A.length ∧ A.length + 1 < L.length) := by
        rintro ⟨q1, q2, q3⟩
        exact g ⟨q1, List.length_pos_iff.1 q2, List.length_pos_iff.1 (by omega)⟩
      rw [h1, scanD, if_neg gn, if_pos hc] at hq
      cases hq

/-- The number of digits. -/
def vd (n : Nat) (D : List Nat) : Nat := D.foldl (fun n c => 10 * n + (c - 48)) n
theorem vd_nil (n : Nat) : vd n [] = n := rfl
theorem vd_cons (n c : Nat) (D : List Nat) : vd n (c :: D) = vd (10 * n + (c - 48)) D := by unfold vd; rw [List.foldl_cons]
theorem vd_app (n : Nat) (D E : List Nat) : vd n (D ++ E) = vd (vd n D) E := List.foldl_append

theorem vd_lt : ∀ (D : List Nat) (n a : Nat), D.all dg = true → n < 10 ^ a → vd n D < 10 ^ (a + D.length)
  | [], n, a, _, h => by rw [vd_nil, List.length_nil, Nat.add_zero]; exact h
  | c :: D, n, a, hD, h => by
    rw [List.all_cons, Bool.and_eq_true] at hD
    have hc := dg_spec.1 hD.1
    have h1 : 10 * n + (c - 48) < 10 ^ (a + 1) := by
      have : 10 ^ (a + 1) = 10 * 10 ^ a := by rw [Nat.pow_succ, Nat.mul_comm]
      omega
    have h2 := vd_lt D _ (a + 1) hD.2 h1
    rw [vd_cons, List.length_cons, show a + (D.length + 1) = a + 1 + D.length by omega]
    exact h2

theorem cap_vd : ∀ (D : List Nat) (n a : Nat), D.all dg = true → n < 10 ^ a → a + D.length ≤ 18 → cap n a D = vd n D
  | [], n, a, _, _, _ => rfl
  | c :: D, n, a, hD, h, hl => by
    rw [List.all_cons, Bool.and_eq_true] at hD
    have hc := dg_spec.1 hD.1
    rw [List.length_cons] at hl
    have h1 : 10 * n + (c - 48) < 10 ^ (a + 1) := by
      have : 10 ^ (a + 1) = 10 * 10 ^ a := by rw [Nat.pow_succ, Nat.mul_comm]
      omega
    have h2 : 10 ^ (a + 1) ≤ 10 ^ 18 := Nat.pow_le_pow_right (by decide) (by omega)
    have h3 : (10 : Nat) ^ 18 < 2 ^ 64 := by decide
    have h4 : (10 * n + (c - 48)) % 2 ^ 64 = 10 * n + (c - 48) := Nat.mod_eq_of_lt (by omega)
    have h5 : a + 1 ≤ 18 := by omega
    rw [vd_cons, ← cap_vd D _ (a + 1) hD.2 h1 (by omega)]
    show cap (if a + 1 ≤ 18 then (10 * n + (c - 48)) % 2 ^ 64 else n) (a + 1) D = _
    rw [if_pos h5, h4]

end Go.Proofs.Ytelifkahdhhmoaa.N

/- Package conv: digits, points, ints and literals. Conditions: none. -/
namespace Go.Proofs.Ytelifkahdhhmoaa.N
set_option linter.unusedVariables false
set_option linter.unusedSimpArgs false
open Go Go.Ab

/-- A text's bytes. -/
def bys (s : ByteArray) : List Nat := s.data.toList.map UInt8.toNat

theorem strInts_bys (s : ByteArray) : strInts s = (bys s).map (fun n : Nat => (n : Int)) := by
  unfold strInts bys; rw [List.map_map]; rfl
theorem size_bys (s : ByteArray) : s.size = (bys s).length := by unfold bys; rw [List.length_map, Array.length_toList]; rfl
theorem bys_lt (s : ByteArray) : ∀ c ∈ bys s, c < 256 := by
  intro c hc
  unfold bys at hc
  rw [List.mem_map] at hc
  obtain ⟨b, _, rfl⟩ := hc
  exact b.toNat_lt

theorem bys_get {s : ByteArray} {i : Nat} (h : i < (bys s).length) : ∃ hi : i < s.data.size, (bys s)[i] = (s.data[i]).toNat := by
  have hi : i < s.data.size := by rw [← size_bys] at h; exact h
  exact ⟨hi, by simp [bys]⟩

theorem strAt_bys {s : ByteArray} {i : Nat} (h : i < (bys s).length) : strAt s (i : Int) = some (((bys s)[i] : Nat) : Int) := by
  obtain ⟨hi, he⟩ := bys_get h
  unfold strAt
  have hs : i < s.size := hi
  rw [if_pos (by omega), Int.toNat_natCast, getElem?_pos s i hs, Option.map_some, he]
  rfl

theorem decode_ascii {s : ByteArray} {i : Nat} (h : i < (bys s).length) (hc : (bys s)[i] < 128) : runeAt s (i : Int) = (((bys s)[i] : Nat) : Int) ∧ runeW s (i : Int) = 1 := by
  obtain ⟨hi, he⟩ := bys_get h
  have hg : (s.get! (i + 0)).toNat = (bys s)[i] := by
    rw [he, Nat.add_zero]
    show (s.data[i]!).toNat = _
    rw [getElem!_pos s.data i hi]
  have hd : Utf8.decode s i = ((bys s)[i], 1) := by
    unfold Utf8.decode
    simp only [hg, if_pos hc]
  unfold runeAt runeW
  rw [Int.toNat_natCast, hd]
  exact ⟨rfl, rfl⟩

theorem drop_at {L : List Nat} {i : Nat} (h : i < L.length) : L.drop i = L[i] :: L.drop (i + 1) := List.drop_eq_getElem_cons h

theorem cdig_loop {R : Type} (k : Nat) (s : ByteArray) (hl : (bys s).length < 2 ^ 63) (K0 : Option R) (K1 : Int → Int → Int → Int → Option R) : ∀ (fu i n all : Nat) (b : Int) (p : Nat), i ≤ (bys s).length → (bys s).length - i < fu → all ≤ i → p ≤ i →
    conv_digits_l0 k fu s (n : Int) (all : Int) b (p : Int) ((bys s).length : Int) (i : Int) (strInts s) K0 K1 =
      (scanD (bys s).length ((bys s).drop i) i n all b p).elim K0 (fun q => K1 (q.1 : Int) (q.2.1 : Int) q.2.2.1 (q.2.2.2 : Int))
  | 0, i, n, all, b, p, h1, h2, _, _ => by omega
  | fu + 1, i, n, all, b, p, h1, h2, h3, h4 => by
    rw [conv_digits_l0, conv_digits_l0B]
    by_cases c : i < (bys s).length
    · have hx : (strInts s)[i]? = some (((bys s)[i] : Nat) : Int) := by rw [strInts_bys, List.getElem?_map, List.getElem?_eq_getElem c]; rfl
      have hlen : (strInts s).length = (bys s).length := by rw [strInts_bys, List.length_map]
      have hc256 := bys_lt s _ (List.getElem_mem c)
      obtain ⟨d, hd⟩ : ∃ d, d = (bys s)[i] := ⟨_, rfl⟩
      rw [← hd] at hx hc256
      rw [drop_at c, scanD, ← hd, decide_eq_true (show (i : Int) < ((bys s).length : Int) by omega), cond_true, decide_eq_true (show (0 : Int) ≤ (i : Int) by omega), cond_true, hlen,
        decide_eq_true (show (i : Int) < (((bys s).length : Nat) : Int) by omega), cond_true, Int.toNat_natCast, hx, Option.bind_some]
      have wi : Wi64 ((i : Int) + 1) = ((i + 1 : Nat) : Int) := Wi_s (by omega)
      have wa : Wi64 ((all : Int) + 1) = ((all + 1 : Nat) : Int) := Wi_s (by omega)
      have wp : Wi64 ((p : Int) + 1) = ((p + 1 : Nat) : Int) := Wi_s (by omega)
      rw [wi, wa, wp]
      have DIG : (cond (decide ((d : Int) < 48)) K0 (cond (decide ((d : Int) > 57)) K0 (cond (decide (((all + 1 : Nat) : Int) ≤ 18))
            (conv_digits_l0 k fu s (Wu64 ((Wu64 (10 * (n : Int))) + (Wu64 (Wu8 ((d : Int) - 48))))) ((all + 1 : Nat) : Int) (Wi64 (b + (p : Int))) (p : Int) ((bys s).length : Int) ((i + 1 : Nat) : Int) (strInts s) K0 K1)
            (conv_digits_l0 k fu s (n : Int) ((all + 1 : Nat) : Int) (Wi64 (b + (p : Int))) (p : Int) ((bys s).length : Int) ((i + 1 : Nat) : Int) (strInts s) K0 K1)))) =
          (if d < 48 ∨ 57 < d then none else scanD (bys s).length ((bys s).drop (i + 1)) (i + 1) (if all + 1 ≤ 18 then (10 * n + (d - 48)) % 2 ^ 64 else n) (all + 1) (Wi64 (b + (p : Int))) p).elim K0 (fun q => K1 (q.1 : Int) (q.2.1 : Int) q.2.2.1 (q.2.2.2 : Int)) := by
        by_cases c1 : d < 48
        · rw [decide_eq_true (show (d : Int) < 48 by omega), cond_true, if_pos (.inl c1)]; rfl
        · rw [decide_eq_false (show ¬ (d : Int) < 48 by omega), cond_false]
          by_cases c2 : 57 < d
          · rw [decide_eq_true (show (d : Int) > 57 by omega), cond_true, if_pos (.inr c2)]; rfl
          · rw [decide_eq_false (show ¬ (d : Int) > 57 by omega), cond_false, if_neg (by omega)]
            by_cases c3 : all + 1 ≤ 18
            · have w8 : Wu8 ((d : Int) - 48) = ((d - 48 : Nat) : Int) := by
                rw [show (d : Int) - 48 = ((d - 48 : Nat) : Int) by omega]; exact Wu8_nat (by omega)
              have wn : Wu64 ((Wu64 (10 * (n : Int))) + (Wu64 (Wu8 ((d : Int) - 48)))) = (((10 * n + (d - 48)) % 2 ^ 64 : Nat) : Int) := by
                rw [w8, show 10 * (n : Int) = ((10 * n : Nat) : Int) by omega, Wu64_nat, Wu64_nat, ← Int.natCast_add, Wu64_nat]
                congr 1
                omega
              rw [decide_eq_true (show ((all + 1 : Nat) : Int) ≤ 18 by omega), cond_true, if_pos c3, wn]
              exact cdig_loop k s hl K0 K1 fu (i + 1) _ (all + 1) _ p (by omega) (by omega) (by omega) (by omega)
            · rw [decide_eq_false (show ¬ ((all + 1 : Nat) : Int) ≤ 18 by omega), cond_false, if_neg c3]
              exact cdig_loop k s hl K0 K1 fu (i + 1) _ (all + 1) _ p (by omega) (by omega) (by omega) (by omega)
      by_cases g : d = 46 ∧ 0 < i ∧ i + 1 < (bys s).length
      · have w : Wi64 (((s.size : Nat) : Int) - 1) = (((bys s).length - 1 : Nat) : Int) := by
          rw [size_bys]; exact (wrap_i64 (by omega) (by omega)).trans (by omega)
        rw [if_pos g, g.1, show (((46 : Nat) : Int) == 46) = true from rfl, cond_true, decide_eq_true (show (i : Int) > 0 by omega), cond_true, w,
          decide_eq_true (show (i : Int) < (((bys s).length - 1 : Nat) : Int) by omega), cond_true]
        exact cdig_loop k s hl K0 K1 fu (i + 1) n all b (p + 1) (by omega) (by omega) (by omega) (by omega)
      · rw [if_neg g]
        by_cases e1 : d = 46
        · have : ((d : Int) == 46) = true := by rw [beq_iff_eq]; omega
          rw [this, cond_true]
          by_cases e2 : 0 < i
          · have w : Wi64 (((s.size : Nat) : Int) - 1) = (((bys s).length - 1 : Nat) : Int) := by
              rw [size_bys]; exact (wrap_i64 (by omega) (by omega)).trans (by omega)
            rw [decide_eq_true (show (i : Int) > 0 by omega), cond_true, w, decide_eq_false (show ¬ (i : Int) < (((bys s).length - 1 : Nat) : Int) by omega), cond_false]
            exact DIG
          · rw [decide_eq_false (show ¬ (i : Int) > 0 by omega), cond_false]
            exact DIG
        · have : ((d : Int) == 46) = false := by rw [beq_eq_false_iff_ne]; omega
          rw [this, cond_false]
          exact DIG
    · rw [decide_eq_false (by omega), cond_false, List.drop_of_length_le (by omega), scanD]
      rfl

theorem cdig_l1 {R : Type} {k : Nat} (hk : 5000 ≤ k) (K : Int → Int → Int → Bool → Option R) : conv_digits_l1 k k K = K 0 0 0 false := by
  obtain ⟨k', rfl⟩ : ∃ k', k = k' + 1 := ⟨k - 1, by omega⟩
  rw [conv_digits_l1, conv_digits_l1B]

theorem cdigits_k {R : Type} {k : Nat} (hk : 5000 ≤ k) (s : ByteArray) (hl : (bys s).length < 2 ^ 63) (hk2 : (bys s).length < k) (K : Int → Int → Int → Bool → Option R) :
    (decode (bys s) = none → conv_digits k s K = K 0 0 0 false) ∧
    (∀ A, decode (bys s) = some (A, none) → conv_digits k s K = K ((cap 0 0 A : Nat) : Int) (A.length : Int) 0 true) ∧
    (∀ A B, decode (bys s) = some (A, some B) → conv_digits k s K = K ((cap 0 0 (A ++ B) : Nat) : Int) ((A.length + B.length : Nat) : Int) (B.length : Int) true) := by
  have hlen : (strInts s).length = (bys s).length := by rw [strInts_bys, List.length_map]
  obtain ⟨d1, d2, d3⟩ := scan_decode hl
  have h := cdig_loop (R := R) k s hl (conv_digits_l1 k k (fun r1 r2 r3 r4 => K r1 r2 r3 r4)) (fun r5 r6 r7 r8 =>
    cond (decide (r8 > 1)) (
      conv_digits_l1 k k (fun r9 r10 r11 r12 =>
        K r9 r10 r11 r12)) (
      cond (r6 == 0) (
        conv_digits_l1 k k (fun r13 r14 r15 r16 =>
          K r13 r14 r15 r16)) (
        K r5 r6 r7 true))) k 0 0 0 0 0 (by omega) (by omega) (by omega) (by omega)
  rw [List.drop_zero, ← hlen] at h
  have h0 : conv_digits k s K = _ := h
  rw [hlen] at h0
  rw [h0]
  refine ⟨fun hd => ?_, fun A hd => ?_, fun A B hd => ?_⟩
  · cases hq : scanD (bys s).length (bys s) 0 0 0 0 0 with
    | none => exact cdig_l1 hk _
    | some q =>
      rw [Option.elim_some]
      rcases d1 hd q hq with g | g
      · rw [decide_eq_true (by omega), cond_true, cdig_l1 hk]
      · by_cases g2 : (q.2.2.2 : Int) > 1
        · rw [decide_eq_true g2, cond_true, cdig_l1 hk]
        · have : ((q.2.1 : Int) == 0) = true := by rw [beq_iff_eq]; omega
          rw [decide_eq_false g2, cond_false, this, cond_true, cdig_l1 hk]
  · obtain ⟨e1, e2, e3, e4⟩ := d2 A hd
    have hp : 0 < A.length := List.length_pos_iff.2 e2
    rw [e4, Option.elim_some]
    dsimp only
    have : (((A.length : Nat) : Int) == 0) = false := by rw [beq_eq_false_iff_ne]; omega
    rw [decide_eq_false (by decide), cond_false, this, cond_false]
  · obtain ⟨e1, e2, e3, e4, e5, e6⟩ := d3 A B hd
    have hp : 0 < A.length := List.length_pos_iff.2 e2
    rw [e6, Option.elim_some]
    dsimp only
    have : (((A.length + B.length : Nat) : Int) == 0) = false := by rw [beq_eq_false_iff_ne]; omega
    rw [decide_eq_false (by decide), cond_false, this, cond_false]

theorem cpt_loop {R : Type} (k : Nat) (s : ByteArray) (hb : ∀ c ∈ bys s, c < 128) (K0 : Bool → Option R) (K1 : Option R) : ∀ (fu i : Nat), i ≤ (bys s).length → (bys s).length - i < fu →
    conv_point_l0 k fu s (i : Int) K0 K1 = if 46 ∈ (bys s).drop i then K0 true else K1
  | 0, i, h1, h2 => by omega
  | fu + 1, i, h1, h2 => by
    rw [conv_point_l0, conv_point_l0B, size_bys]
    by_cases c : i < (bys s).length
    · obtain ⟨r1, r2⟩ := decode_ascii c (hb _ (List.getElem_mem c))
      have hd := drop_at c
      rw [decide_eq_true (show (i : Int) < (((bys s).length : Nat) : Int) by omega), cond_true, r1, r2]
      by_cases e : (bys s)[i] = 46
      · have : ((((bys s)[i] : Nat) : Int) == 46) = true := by rw [e]; rfl
        rw [this, cond_true, if_pos (by rw [hd, e]; exact List.mem_cons_self)]
      · have : ((((bys s)[i] : Nat) : Int) == 46) = false := by rw [beq_eq_false_iff_ne]; omega
        have ih := cpt_loop k s hb K0 K1 fu (i + 1) (by omega) (by omega)
        rw [this, cond_false, show (i : Int) + 1 = ((i + 1 : Nat) : Int) by omega, ih, hd]
        have hm : (46 ∈ (bys s)[i] :: (bys s).drop (i + 1)) ↔ 46 ∈ (bys s).drop (i + 1) := by
          rw [List.mem_cons]
          exact ⟨fun q => q.elim (fun q => absurd q.symm e) id, .inr⟩
        simp only [hm]
    · rw [decide_eq_false (by omega), cond_false, List.drop_of_length_le (by omega), if_neg (by simp)]

theorem cpoint_k {R : Type} {k : Nat} (s : ByteArray) (hb : ∀ c ∈ bys s, c < 128) (hk2 : (bys s).length < k) (K : Bool → Option R) : conv_point k s K = K (decide (46 ∈ bys s)) := by
  have h := cpt_loop (R := R) k s hb (fun r1 => K r1) (K false) k 0 (by omega) (by omega)
  rw [List.drop_zero] at h
  refine Eq.trans h ?_
  by_cases c : 46 ∈ bys s
  · rw [if_pos c, decide_eq_true c]
  · rw [if_neg c, decide_eq_false c]

theorem all_dg_lt {D : List Nat} (h : D.all dg = true) : ∀ c ∈ D, 48 ≤ c ∧ c ≤ 57 := fun c hc => dg_spec.1 (List.all_eq_true.1 h c hc)

theorem cby_loop {R : Type} (k : Nat) (x1 x2 : Int) {n : Nat} (hn : n < 2 ^ 60) (K : Int → Option R) : ∀ (d fu i b : Nat), d + i = n → d < fu → b * 10 ^ d < 2 ^ 64 →
    conv_Literal_l0 k fu x1 x2 (b : Int) (n : Int) (i : Int) K = K ((b * 10 ^ d : Nat) : Int)
  | d, 0, i, b, h1, h2, _ => by omega
  | 0, fu + 1, i, b, h1, h2, _ => by
    rw [conv_Literal_l0, conv_Literal_l0B, decide_eq_false (by omega), cond_false, Nat.pow_zero, Nat.mul_one]
  | d + 1, fu + 1, i, b, h1, h2, h3 => by
    have e : b * 10 ^ (d + 1) = b * 10 * 10 ^ d := by rw [Nat.pow_succ, Nat.mul_assoc, Nat.mul_comm 10]
    have hp : 0 < 10 ^ d := Nat.pow_pos (by decide)
    have hle : b * 10 * 1 ≤ b * 10 * 10 ^ d := Nat.mul_le_mul_left _ hp
    have w : Wu64 ((b : Int) * 10) = ((b * 10 : Nat) : Int) := by
      rw [show (b : Int) * 10 = ((b * 10 : Nat) : Int) by omega]; exact Wu64_lt (by omega)
    rw [conv_Literal_l0, conv_Literal_l0B, decide_eq_true (by omega), cond_true, w, Wi_s (by omega), cby_loop k x1 x2 hn K d fu (i + 1) (b * 10) (by omega) (by omega) (by omega), e]

/-- A quotient, rounded. -/
def LitX (f : Int) (X Y : Nat) : Nat := if X = 0 then 0 else DivX f 0 false X Y 0 (127 - bl X)
def LitS (f : Int) (L : List Nat) : Int × Int :=
  match decode L with
  | some (A, some B) => if 18 < A.length + B.length then (0, 9) else (((LitX f (vd 0 (A ++ B)) (10 ^ B.length) : Nat) : Int), 0)
  | _ => (0, 4)
def IntS (L : List Nat) : Int × Int :=
  match decode L with
  | some (A, none) => if 18 < A.length then (0, 9) else if 2147483647 < vd 0 A then (0, 2) else (((vd 0 A : Nat) : Int), 0)
  | _ => (0, 4)

theorem lit_core {R : Type} {k : Nat} (hk : 5000 ≤ k) (f : Int) {X Y : Nat} (hX : X < 2 ^ 60) (hY : Y < 2 ^ 57) (hY0 : 0 < Y) (K : Int → Int → Option R) :
    wide_Len k 0 (X : Int) (fun r7 => wide_Shl k 0 (X : Int) (Wi64 (127 - r7)) (fun r8 r9 => wide_Div k r8 r9 (Y : Int) (fun r10 r11 r12 =>
      soft_Round k f 0 false r10 r11 (Wi64 (0 - (Wi64 (127 - r7)))) (r12 != 0) (fun r13 => K r13 0)))) = K ((LitX f X Y : Nat) : Int) 0 := by
  have bx : bl X ≤ 60 := bl_le_iff.2 hX
  obtain ⟨up, hup⟩ : ∃ up, up = 127 - bl X := ⟨_, rfl⟩
  have w1 : Wi64 (127 - ((bl X : Nat) : Int)) = (up : Int) := (wrap_i64 (by omega) (by omega)).trans (by omega)
  have w2 : Wi64 (0 - (up : Int)) = -(up : Int) := (wrap_i64 (by omega) (by omega)).trans (by omega)
  have hN : X * 2 ^ up < 2 ^ 128 := by
    have := (Nat.mul_lt_mul_right (Nat.two_pow_pos up)).2 (bl_up X)
    rw [← Nat.pow_add] at this
    exact Nat.lt_of_lt_of_le this (Nat.pow_le_pow_right (by decide) (by omega))
  have hQ : X * 2 ^ up / Y < 2 ^ 128 := Nat.lt_of_le_of_lt (Nat.div_le_self _ _) hN
  have hc : cec (-(up : Int)) = -(up : Int) := by unfold cec; rw [if_neg (by omega), if_neg (by omega)]
  have hx : (((X * 2 ^ up % Y : Nat) : Int) != 0) = decide (X * 2 ^ up % Y ≠ 0) := by
    by_cases c : X * 2 ^ up % Y = 0
    · rw [c]; rfl
    · rw [decide_eq_true c, bne_iff_ne]; omega
  rw [Len_c k (by omega), w1, Shl_c k (by omega) (wf_nat (by omega)), Int.toNat_natCast, Nat.mod_eq_of_lt hN, Div_hl hk hN (by omega) (by omega), w2, hx, Round_c k f 0 false hQ, hc]
  congr 2
  unfold LitX DivX
  rw [← hup, Int.zero_sub]
  by_cases c : X = 0
  · subst c
    rw [if_pos rfl, Nat.zero_mul, Nat.zero_div, Nat.zero_mod]
    unfold Rd
    rw [if_pos ⟨rfl, rfl⟩]; rfl
  · rw [if_neg c]
    cases hb : decide (X * 2 ^ up % Y ≠ 0) with
    | false => rw [Bool.toNat_false, Nat.add_zero, Rd_scale]
    | true =>
      refine Rd_stick f 0 false _ ?_ (by decide) (by decide)
      have hf : fP f ≤ 52 := (fmt_le f).2.1
      have hlow : 2 ^ 126 ≤ X * 2 ^ up := by
        have := Nat.mul_le_mul_right (2 ^ up) (bl_low (show 0 < X by omega))
        have b1 := bl_pos (show 0 < X by omega)
        rw [← Nat.pow_add, show bl X - 1 + up = 126 by omega] at this
        exact this
      have hq : 2 ^ 54 ≤ X * 2 ^ up / Y := by
        rw [Nat.le_div_iff_mul_le hY0]
        have : 2 ^ 54 * Y ≤ 2 ^ 54 * 2 ^ 57 := Nat.mul_le_mul_left _ (by omega)
        rw [← Nat.pow_add] at this
        exact Nat.le_trans this (Nat.le_trans (Nat.pow_le_pow_right (by decide) (by decide)) hlow)
      refine Nat.le_of_not_lt fun hh => ?_
      have : X * 2 ^ up / Y < 2 ^ 54 := bl_le_iff.1 (by omega)
      omega

theorem ten_lt {a : Nat} (h : a ≤ 18) : 10 ^ a < 2 ^ 60 := Nat.lt_of_le_of_lt (Nat.pow_le_pow_right (by decide) h) (by decide)
theorem ten_lt17 {a : Nat} (h : a ≤ 17) : 10 ^ a < 2 ^ 57 := Nat.lt_of_le_of_lt (Nat.pow_le_pow_right (by decide) h) (by decide)

theorem cLiteral_k {R : Type} {k : Nat} (hk : 5000 ≤ k) (f : Int) (s : ByteArray) (hl : (bys s).length < 2 ^ 63) (hk2 : (bys s).length < k) (K : Int → Int → Option R) :
    conv_Literal k f s K = K (LitS f (bys s)).1 (LitS f (bys s)).2 := by
  unfold conv_Literal conv_LiteralT LitS
  have hd := fun J => cdigits_k (R := R) hk s hl hk2 J
  obtain ⟨d1, d2, d3⟩ := scan_decode hl
  cases h : decode (bys s) with
  | none => rw [(hd _).1 h, Bool.not_false, cond_true]
  | some p =>
    obtain ⟨A, B⟩ := p
    cases B with
    | none =>
      obtain ⟨e1, e2, e3, e4⟩ := d2 A h
      have hb : ∀ c ∈ bys s, c < 128 := fun c hc => by have := all_dg_lt e3 c (e1 ▸ hc); omega
      have hn : ¬ 46 ∈ bys s := fun q => by have := all_dg_lt e3 46 (e1 ▸ q); omega
      rw [(hd _).2.1 A h, Bool.not_true, cond_false, cpoint_k s hb hk2, decide_eq_false hn, Bool.not_false, cond_true]
    | some B =>
      obtain ⟨e1, e2, e3, e4, e5, e6⟩ := d3 A B h
      have hA : 0 < A.length := List.length_pos_iff.2 e2
      have hb : ∀ c ∈ bys s, c < 128 := fun c hc => by
        rw [e1, List.mem_append, List.mem_cons] at hc
        rcases hc with hc | hc | hc
        · have := all_dg_lt e4 c hc; omega
        · omega
        · have := all_dg_lt e5 c hc; omega
      have hn : 46 ∈ bys s := by rw [e1]; simp
      rw [(hd _).2.2 A B h, Bool.not_true, cond_false, cpoint_k s hb hk2, decide_eq_true hn, Bool.not_true, cond_false]
      dsimp only
      by_cases c : 18 < A.length + B.length
      · rw [decide_eq_true (show ((A.length + B.length : Nat) : Int) > 18 by omega), cond_true, if_pos c]
      · rw [decide_eq_false (show ¬ ((A.length + B.length : Nat) : Int) > 18 by omega), cond_false, if_neg c]
        have hall : (A ++ B).all dg = true := by rw [List.all_append, e4, e5]; rfl
        have hv := vd_lt (A ++ B) 0 0 hall (by decide)
        rw [Nat.zero_add, List.length_append] at hv
        have hcap := cap_vd (A ++ B) 0 0 hall (by decide) (by rw [List.length_append]; omega)
        have t1 := ten_lt (a := A.length + B.length) (by omega)
        have t2 := ten_lt17 (a := B.length) (by omega)
        have hby := fun J => cby_loop (R := R) k f ((cap 0 0 (A ++ B) : Nat) : Int) (n := B.length) (by omega) J B.length k 0 1 (by omega) (by omega) (by omega)
        have hby2 : ∀ J : Int → Option R, conv_Literal_l0 k k f ((cap 0 0 (A ++ B) : Nat) : Int) 1 (B.length : Int) 0 J = J ((10 ^ B.length : Nat) : Int) := fun J => (hby J).trans (by rw [Nat.one_mul])
        rw [hby2, hcap]
        exact lit_core hk f (by omega) t2 (Nat.pow_pos (by decide)) K

theorem cInt_k {R : Type} {k : Nat} (hk : 5000 ≤ k) (s : ByteArray) (hl : (bys s).length < 2 ^ 63) (hk2 : (bys s).length < k) (K : Int → Int → Option R) :
    conv_Int k s K = K (IntS (bys s)).1 (IntS (bys s)).2 := by
  unfold conv_Int conv_IntT IntS
  have hd := fun J => cdigits_k (R := R) hk s hl hk2 J
  obtain ⟨d1, d2, d3⟩ := scan_decode hl
  cases h : decode (bys s) with
  | none => rw [(hd _).1 h, Bool.not_false, cond_true]
  | some p =>
    obtain ⟨A, B⟩ := p
    cases B with
    | none =>
      obtain ⟨e1, e2, e3, e4⟩ := d2 A h
      have hb : ∀ c ∈ bys s, c < 128 := fun c hc => by have := all_dg_lt e3 c (e1 ▸ hc); omega
      have hn : ¬ 46 ∈ bys s := fun q => by have := all_dg_lt e3 46 (e1 ▸ q); omega
      rw [(hd _).2.1 A h, Bool.not_true, cond_false, cpoint_k s hb hk2, decide_eq_false hn, cond_false]
      dsimp only
      by_cases c : 18 < A.length
      · rw [decide_eq_true (show ((A.length : Nat) : Int) > 18 by omega), cond_true, if_pos c]
      · rw [decide_eq_false (show ¬ ((A.length : Nat) : Int) > 18 by omega), cond_false, if_neg c, cap_vd A 0 0 e3 (by decide) (by omega)]
        have hv := vd_lt A 0 0 e3 (by decide)
        rw [Nat.zero_add] at hv
        have t1 := ten_lt (a := A.length) (by omega)
        by_cases c2 : 2147483647 < vd 0 A
        · rw [decide_eq_true (show ((vd 0 A : Nat) : Int) > 2147483647 by omega), cond_true, if_pos c2]
        · have w : Wi64 ((vd 0 A : Nat) : Int) = ((vd 0 A : Nat) : Int) := wrap_i64 (by omega) (by omega)
          rw [decide_eq_false (show ¬ ((vd 0 A : Nat) : Int) > 2147483647 by omega), cond_false, if_neg c2, w]
    | some B =>
      obtain ⟨e1, e2, e3, e4, e5, e6⟩ := d3 A B h
      have hb : ∀ c ∈ bys s, c < 128 := fun c hc => by
        rw [e1, List.mem_append, List.mem_cons] at hc
        rcases hc with hc | hc | hc
        · have := all_dg_lt e4 c hc; omega
        · omega
        · have := all_dg_lt e5 c hc; omega
      have hn : 46 ∈ bys s := by rw [e1]; simp
      rw [(hd _).2.2 A B h, Bool.not_true, cond_false, cpoint_k s hb hk2, decide_eq_true hn, cond_true]

end Go.Proofs.Ytelifkahdhhmoaa.N

/- A number's digits, and what they say. Conditions: none. -/
namespace Go.Proofs.Ytelifkahdhhmoaa.N
set_option linter.unusedVariables false
set_option linter.unusedSimpArgs false
open Go Go.Ab

/-- A text of bytes. -/
def txt (L : List Nat) : ByteArray := bytesOf (L.map fun n : Nat => (n : Int))

theorem bys_txt {L : List Nat} (h : ∀ c ∈ L, c < 256) : bys (txt L) = L := by
  unfold bys txt bytesOf
  simp only [List.map_map, List.map_toArray]
  conv => rhs; rw [← List.map_id L]
  apply List.map_congr_left
  intro c hc
  have := h c hc
  simp; omega

theorem txt_app (L M : List Nat) : txt L ++ txt M = txt (L ++ M) := by
  apply ByteArray.ext
  rw [ByteArray.data_append]
  simp [txt, bytesOf]

theorem txt_size (L : List Nat) : (txt L).size = L.length := by unfold txt; rw [bytesOf_size, List.length_map]

/-- The digits of a number below 10 to the f + 1. -/
def decL : Nat → Nat → List Nat
  | 0, n => [48 + n % 10]
  | f + 1, n => if n < 10 then [48 + n] else decL f (n / 10) ++ [48 + n % 10]

theorem decL_dg : ∀ (f n : Nat), (decL f n).all dg = true
  | 0, n => by
    have := Nat.mod_lt n (show 0 < 10 by decide)
    rw [decL, List.all_cons, List.all_nil, Bool.and_true]
    exact dg_spec.2 (by omega)
  | f + 1, n => by
    rw [decL]
    split
    · rw [List.all_cons, List.all_nil, Bool.and_true]; exact dg_spec.2 (by omega)
    · have := Nat.mod_lt n (show 0 < 10 by decide)
      rw [List.all_append, decL_dg f, Bool.true_and, List.all_cons, List.all_nil, Bool.and_true]
      exact dg_spec.2 (by omega)

theorem decL_len : ∀ (f n : Nat), 1 ≤ (decL f n).length ∧ (decL f n).length ≤ f + 1
  | 0, n => by rw [decL]; exact ⟨Nat.le_refl _, Nat.le_refl _⟩
  | f + 1, n => by
    rw [decL]
    split
    · simp
    · have := decL_len f (n / 10)
      rw [List.length_append, List.length_cons, List.length_nil]; omega

theorem decL_vd : ∀ (f n : Nat), n < 10 ^ (f + 1) → vd 0 (decL f n) = n
  | 0, n, h => by
    rw [decL, vd_cons, vd_nil]; omega
  | f + 1, n, h => by
    rw [decL]
    split
    · rw [vd_cons, vd_nil]; omega
    · rw [vd_app, decL_vd f (n / 10) (by rw [Nat.pow_succ] at h; omega), vd_cons, vd_nil]; omega

theorem digits_n {R : Type} (k : Nat) : ∀ (f fu n : Nat) (K : ByteArray → Option R), n < 10 ^ (f + 1) → f < fu → n < 2 ^ 60 → f < 1000 →
    plumblinelaw03_digits_n k fu (n : Int) K = K (txt (decL f n))
  | f, 0, n, K, _, h, _, _ => by omega
  | 0, fu + 1, n, K, h, _, _, _ => by
    have w : Wu8 (Wi64 (48 + (n : Int))) = ((48 + n % 10 : Nat) : Int) := by
      rw [wrap_i64 (by omega) (by omega), show (48 + (n : Int)) = ((48 + n : Nat) : Int) by omega, Wu8_nat (by omega)]; omega
    rw [plumblinelaw03_digits_n]
    unfold plumblinelaw03_digitsT
    rw [decide_eq_true (show (n : Int) < 10 by omega), cond_true, w]; rfl
  | f + 1, fu + 1, n, K, h, h2, h3, h4 => by
    rw [plumblinelaw03_digits_n]
    unfold plumblinelaw03_digitsT
    by_cases c : n < 10
    · have w : Wu8 (Wi64 (48 + (n : Int))) = ((48 + n : Nat) : Int) := by
        rw [wrap_i64 (by omega) (by omega), show (48 + (n : Int)) = ((48 + n : Nat) : Int) by omega, Wu8_nat (by omega)]
      rw [decide_eq_true (show (n : Int) < 10 by omega), cond_true, w, decL, if_pos c]; rfl
    · have wd : Wi64 (Int.tdiv (n : Int) 10) = ((n / 10 : Nat) : Int) := by
        rw [show Int.tdiv (n : Int) 10 = ((n / 10 : Nat) : Int) from rfl, wrap_i64 (by omega) (by omega)]
      have wm : Wu8 (Wi64 (48 + (Int.tmod (n : Int) 10))) = ((48 + n % 10 : Nat) : Int) := by
        rw [show Int.tmod (n : Int) 10 = ((n % 10 : Nat) : Int) from rfl, wrap_i64 (by omega) (by omega), show (48 + ((n % 10 : Nat) : Int)) = ((48 + n % 10 : Nat) : Int) by omega, Wu8_nat (by omega)]
      have hl := decL_len f (n / 10)
      have hx : bytesOf [((48 + n % 10 : Nat) : Int)] = txt [48 + n % 10] := rfl
      have hb : Nat.ble ((txt (decL f (n / 10))).size + (txt [48 + n % 10]).size) 9223372036854775807 = true := by
        rw [txt_size, txt_size]; exact Nat.ble_eq_true_of_le (by simp; omega)
      rw [decide_eq_false (show ¬ (n : Int) < 10 by omega), cond_false, wd, digits_n k f fu (n / 10) _ (by rw [Nat.pow_succ] at h; omega) (by omega) (by omega) (by omega), wm, hx, hb, cond_true, txt_app, decL, if_neg c]

theorem digits_k {R : Type} {k : Nat} (hk : 5000 ≤ k) {n f : Nat} (h : n < 10 ^ (f + 1)) (hf : f ≤ 17) (K : ByteArray → Option R) : plumblinelaw03_digits k (n : Int) K = K (txt (decL f n)) := by
  unfold plumblinelaw03_digits
  have := ten_lt (a := f + 1) (by omega)
  exact digits_n k f k n K h (by omega) (by omega) (by omega)

theorem dw_all {A : List Nat} (h : A.all dg = true) (R : List Nat) : (A ++ R).dropWhile dg = R.dropWhile dg ∧ (A ++ R).takeWhile dg = A ++ R.takeWhile dg := by
  induction A with
  | nil => exact ⟨rfl, rfl⟩
  | cons c A ih =>
    rw [List.all_cons, Bool.and_eq_true] at h
    obtain ⟨i1, i2⟩ := ih h.2
    rw [List.cons_append, List.dropWhile_cons, List.takeWhile_cons, if_pos h.1, if_pos h.1, i1, i2]
    exact ⟨rfl, rfl⟩

theorem decode_real {A B : List Nat} (hA : A.all dg = true) (hB : B.all dg = true) (a0 : A ≠ []) (b0 : B ≠ []) : decode (A ++ 46 :: B) = some (A, some B) := by
  obtain ⟨h1, h2⟩ := dw_all hA (46 :: B)
  have nd : dg 46 = false := rfl
  rw [List.dropWhile_cons, nd, if_neg (by decide)] at h1
  rw [List.takeWhile_cons, nd, if_neg (by decide), List.append_nil] at h2
  unfold decode
  rw [h1, h2]
  dsimp only
  rw [if_pos ⟨rfl, a0, b0, hB⟩]

theorem LitS_real (f : Int) {A B : List Nat} (hA : A.all dg = true) (hB : B.all dg = true) (a0 : A ≠ []) (b0 : B ≠ []) (hl : A.length + B.length ≤ 18) : LitS f (A ++ 46 :: B) = (((LitX f (vd 0 (A ++ B)) (10 ^ B.length) : Nat) : Int), 0) := by
  unfold LitS
  rw [decode_real hA hB a0 b0]
  dsimp only
  rw [if_neg (by omega)]

end Go.Proofs.Ytelifkahdhhmoaa.N

/- Package conv, the reference: floats. Conditions: none. -/
namespace Go.Proofs.Ytelifkahdhhmoaa.N
set_option linter.unusedVariables false
set_option linter.unusedSimpArgs false
open Go Go.Ab

theorem ble_lim_c {n : Nat} (h : n < 2 ^ 40) : Nat.ble (n * 1) 70368744177664 = true := Nat.ble_eq_true_of_le (by omega)

theorem bitsOf_snoc_c (n N : Nat) (b : Bool) (h : b = N.testBit n) : bitsOf n N ++ [b] = bitsOf (n + 1) N := by
  subst h
  unfold bitsOf
  apply List.ext_getElem?
  intro i
  rw [rowN_get]
  by_cases c : i < n
  · rw [List.getElem?_append_left (by rw [rowN_length]; exact c), rowN_get, if_pos c, if_pos (by omega)]
  · rw [List.getElem?_append_right (by rw [rowN_length]; omega), rowN_length]
    by_cases c2 : i = n
    · subst c2
      rw [Nat.sub_self, if_pos (by omega)]; rfl
    · rw [if_neg (by omega)]
      exact List.getElem?_eq_none (by simp; omega)

theorem bits_loop_c {R : Type} (k X : Nat) (hX : X < 2 ^ 64) (K : List Bool → Option R) : ∀ (m i : Nat), i ≤ bl X → bl X - i < m → plumblineref03_bits_l0 k m ((X / 2 ^ i : Nat) : Int) (bitsOf i X) K = K (bitsOf (bl X) X)
  | 0, i, _, h => by omega
  | m + 1, i, h1, h2 => by
    have hbl : bl X ≤ 64 := bl_le_iff.2 hX
    rw [plumblineref03_bits_l0, plumblineref03_bits_l0B]
    by_cases c : X / 2 ^ i = 0
    · have hz : ¬ (((X / 2 ^ i : Nat) : Int) > 0) := by rw [c]; decide
      have hi : bl X ≤ i := by
        rw [bl_le_iff]
        refine Nat.lt_of_not_le fun h => ?_
        have := Nat.div_pos h (Nat.two_pow_pos i)
        omega
      have : i = bl X := by omega
      rw [decide_eq_false hz, cond_false, this]
    · have hz : (((X / 2 ^ i : Nat) : Int) > 0) := Int.natCast_pos.2 (Nat.pos_of_ne_zero c)
      have hi : i < bl X := by
        refine Nat.lt_of_not_le fun h => c ?_
        exact Nat.div_eq_of_lt (Nat.lt_of_lt_of_le (bl_up X) (Nat.pow_le_pow_right (by decide) h))
      have hq : X / 2 ^ i < 2 ^ 64 := Nat.lt_of_le_of_lt (Nat.div_le_self _ _) hX
      have w : Wu64 (Int.tdiv ((X / 2 ^ i : Nat) : Int) 2) = ((X / 2 ^ (i + 1) : Nat) : Int) := by
        rw [show (2 : Int) = ((2 : Nat) : Int) from rfl, tdiv_nat', Wu64_lt (by omega)]
        congr 1
        rw [Nat.pow_succ, Nat.div_div_eq_div_mul]
      have hb : (Int.tmod ((X / 2 ^ i : Nat) : Int) 2 == 1) = X.testBit i := by
        rw [show (2 : Int) = ((2 : Nat) : Int) from rfl, tmod_nat', Nat.testBit_eq_decide_div_mod_eq]
        rw [Bool.eq_iff_iff]
        simp only [beq_iff_eq, decide_eq_true_eq]
        omega
      rw [decide_eq_true hz, cond_true, bitsOf_length, ble_lim_c (by omega), cond_true, w, hb, bitsOf_snoc_c i X _ rfl]
      exact bits_loop_c k X hX K m (i + 1) (by omega) (by omega)

theorem bits3_k {R : Type} {k : Nat} (hk : 70 ≤ k) {X : Nat} (hX : X < 2 ^ 64) (K0 : List Bool → Option R) (K1 : Option R) : plumblineref03_bits k (X : Int) K0 K1 = if X = 0 then K1 else K0 (bitsOf (bl X) X) := by
  obtain ⟨k, rfl⟩ : ∃ j, k = j + 1 := ⟨k - 1, by omega⟩
  have hbl : bl X ≤ 64 := bl_le_iff.2 hX
  unfold plumblineref03_bits plumblineref03_bitsT
  rw [plumblineref03_bits_l1, plumblineref03_bits_l1B]
  by_cases c : X = 0
  · subst c
    rw [if_pos rfl]
    rfl
  · have hz : ((X : Int) > 0) := by omega
    have hb0 := bl_pos (show 0 < X by omega)
    have w : Wu64 (Int.tdiv (X : Int) 2) = ((X / 2 ^ 1 : Nat) : Int) := by
      rw [show (2 : Int) = ((2 : Nat) : Int) from rfl, tdiv_nat', Wu64_lt (by omega)]
    have hb : (Int.tmod (X : Int) 2 == 1) = X.testBit 0 := by
      rw [show (2 : Int) = ((2 : Nat) : Int) from rfl, tmod_nat', Nat.testBit_eq_decide_div_mod_eq]
      rw [Bool.eq_iff_iff]
      simp only [beq_iff_eq, decide_eq_true_eq, Nat.pow_zero, Nat.div_one]
      omega
    have hs : [X.testBit 0] = bitsOf 1 X := by
      have := bitsOf_snoc_c 0 X _ rfl
      rw [← this]; rfl
    rw [if_neg c, decide_eq_true hz, cond_true, w, hb, hs]
    exact bits_loop_c (k + 1) X hX K0 k 1 (by omega) (by omega)


theorem rvalue3_k {R : Type} (k : Nat) (f : Int) {a : Nat} (ha : a < 2 ^ 64) (hk : 2 ≤ kd f a) (K : Int → Int → Option R) : plumblineref03_value k f (a : Int) K = K ((nn f a : Nat) : Int) (e2 f a) := by
  unfold plumblineref03_value plumblineref03_valueT
  have hf := fmt_le f
  have hp := fP_pos f
  obtain ⟨k1, k2, k3, k4, k5⟩ := cls f a
  have hX : a / 2 ^ fP f % 2 ^ fE f < 2 ^ fE f := Nat.mod_lt _ (Nat.two_pow_pos _)
  have hexp2 : 2 ^ fE f ≤ 2 ^ 11 := Nat.pow_le_pow_right (by decide) (by omega)
  have hM : a % 2 ^ fP f < 2 ^ fP f := Nat.mod_lt _ hp
  have hq : a / 2 ^ fP f < 2 ^ 64 := Nat.lt_of_le_of_lt (Nat.div_le_self _ _) ha
  rw [rSize_k, decide_eq_false (pP f), decide_eq_false (pE f), cond_false, cond_false, cond_false, cond_false, shr_pow (by omega), low_bits (by omega) hq, low_bits (by omega) ha, nat_beq0]
  by_cases c0 : a / 2 ^ fP f % 2 ^ fE f = 0
  · have d0 : (a / 2 ^ fP f % 2 ^ fE f == 0) = true := by rw [beq_iff_eq]; exact c0
    rw [d0, cond_true, k4 c0]
    have hg2 := k3.1 c0
    rcases kd_vals f a with h | h | h | h
    · omega
    · omega
    · have e : e2 f a = fL f := by unfold e2; rw [h]; rfl
      rw [kd2_c h, (nn_zero (by rw [h]; decide)).1, e]
    · have hn : nn f a = gg f a := by unfold nn nG; rw [if_pos h, if_pos hg2]
      have he : e2 f a = fL f := by unfold e2 ee eG; rw [if_pos h, if_pos h, if_pos hg2]
      rw [hn, he]
  · have d0 : (a / 2 ^ fP f % 2 ^ fE f == 0) = false := by rw [beq_eq_false_iff_ne]; exact c0
    have hg2 : ¬ gg f a < 2 ^ fP f := fun h => c0 (k3.2 h)
    have h : kd f a = 3 := by
      rcases kd_vals f a with h | h | h | h
      · omega
      · omega
      · exact absurd (kd2_c h) (by omega)
      · exact h
    have hn : nn f a = a % 2 ^ fP f + 2 ^ fP f := by unfold nn; rw [if_pos h]; exact (k5 hg2).symm
    have he : e2 f a = ((a / 2 ^ fP f % 2 ^ fE f : Nat) : Int) - 1 + fL f := by unfold e2 ee eG; rw [if_pos h, if_pos h, if_neg hg2, (parts_gg f a).1]
    have e1 : bOr .u64 ((a % 2 ^ fP f : Nat) : Int) (shl .u64 1 ((fP f : Nat) : Int)) = ((a % 2 ^ fP f + 2 ^ fP f : Nat) : Int) := bit_or hM (by omega)
    have ew : Wi64 (Wi64 (Wi64 ((a / 2 ^ fP f % 2 ^ fE f : Nat) : Int) - 1) + fL f) = ((a / 2 ^ fP f % 2 ^ fE f : Nat) : Int) - 1 + fL f := by
      rw [Wi64_nat (by omega), wrap_i64 (x := ((a / 2 ^ fP f % 2 ^ fE f : Nat) : Int) - 1) (by omega) (by omega), wrap_i64 (by omega) (by omega)]
    rw [d0, cond_false, e1, ew, hn, he]

/-- Bits of a number, rounded. -/
theorem rround_k {R : Type} {k : Nat} (hk : 5000 ≤ k) (f m : Int) (b : Bool) {X : Nat} (hX : X < 2 ^ 64) {e : Int} (h1 : -4000 ≤ e) (h2 : e ≤ 4000) (K : Int → Option R) :
    plumblineref03_bits k (X : Int) (fun r9 => plumblineref02_Rounded k f m b e r9 (fun r10 => K r10)) (plumblineref02_Rounded_n3 k f m b e (fun r11 => K r11)) = K ((Rd f m b X e false : Nat) : Int) := by
  have hb : bl X ≤ 64 := bl_le_iff.2 hX
  rw [bits3_k (by omega) hX]
  by_cases c : X = 0
  · rw [if_pos c, Rounded_n3_k (by omega), c]
  · rw [if_neg c, Rounded_k f m b (by omega) (by omega) (bl_up X) (by omega) (by omega)]

theorem rturned_k {R : Type} {k : Nat} (hk : 5000 ≤ k) (f g m : Int) {a : Nat} (ha : a < 2 ^ 64) (K : Int → Option R) : plumblineref03_turned k f g m (a : Int) K = K ((TurnS f g m a : Nat) : Int) := by
  unfold plumblineref03_turned plumblineref03_turnedT TurnS
  obtain ⟨c0, c1, c2, c3⟩ := Class_kd f a
  have hb := e2_bnd f a
  have n1 := nn_lt64 f a
  have hnan := fun J => rNan_k (R := R) k g J
  have hinf := fun (b : Bool) J => rInf_k (R := R) k g b J
  have hval := fun (h : 2 ≤ kd f a) J => rvalue3_k (R := R) k f ha h J
  have hbel := fun (h : kd f a ≠ 0) J => rBelow_k (R := R) k f ha h J
  have hrd := fun (b : Bool) => rround_k (R := R) hk g m b (X := nn f a) (e := e2 f a) (by omega) (by omega) (by omega) K
  rw [rClass_k k f ha]
  by_cases h : kd f a = 0
  · rw [if_pos h]
    rcases c0.2 h with e | e
    · rw [e, show ((5 : Int) == 0) = false from rfl, cond_false, show ((5 : Int) == 5) = true from rfl, cond_true, hnan]
    · rw [e, show ((0 : Int) == 0) = true from rfl, cond_true, hnan]
  · have d0 : (ClassS f a == 0) = false := by rw [beq_eq_false_iff_ne]; exact fun e => h (c0.1 (.inr e))
    have d5 : (ClassS f a == 5) = false := by rw [beq_eq_false_iff_ne]; exact fun e => h (c0.1 (.inl e))
    rw [if_neg h, d0, cond_false, d5, cond_false]
    by_cases h1 : kd f a = 1
    · rw [c1.2 h1, if_pos h1, show ((4 : Int) == 4) = true from rfl, cond_true, hbel h, hinf]
    · have d4 : (ClassS f a == 4) = false := by rw [beq_eq_false_iff_ne]; exact fun e => h1 (c1.1 e)
      have h2 : 2 ≤ kd f a := by rcases kd_vals f a with h | h | h | h <;> omega
      rw [d4, cond_false, if_neg h1, hval h2, hbel h]
      exact hrd _

theorem rPlain_k {R : Type} (k : Nat) (f : Int) {a : Nat} (ha : a < 2 ^ 64) (K : Int → Option R) : plumblineref03_Plain k f (a : Int) K = K ((PlainS f a : Nat) : Int) := by
  unfold plumblineref03_Plain plumblineref03_PlainT PlainS
  obtain ⟨c0, c1, c2, c3⟩ := Class_kd f a
  rw [rClass_k k f ha, rNan_k]
  by_cases h : kd f a = 0
  · rw [if_pos h]
    rcases c0.2 h with e | e
    · rw [e, show ((5 : Int) == 0) = false from rfl, cond_false, show ((5 : Int) == 5) = true from rfl, cond_true]
    · rw [e, show ((0 : Int) == 0) = true from rfl, cond_true]
  · have d0 : (ClassS f a == 0) = false := by rw [beq_eq_false_iff_ne]; exact fun e => h (c0.1 (.inr e))
    have d5 : (ClassS f a == 5) = false := by rw [beq_eq_false_iff_ne]; exact fun e => h (c0.1 (.inl e))
    rw [if_neg h, d0, cond_false, d5, cond_false]
    by_cases h2 : kd f a = 2
    · rw [c2.2 h2, if_pos h2]; rfl
    · have d1 : (ClassS f a == 1) = false := by rw [beq_eq_false_iff_ne]; exact fun e => h2 (c2.1 e)
      rw [d1, cond_false, if_neg h2]

theorem rNext_k {R : Type} (k : Nat) (f : Int) {a : Nat} (ha : a < 2 ^ 64) (K : Int → Option R) : plumblineref03_Next k f (a : Int) K = K ((NextS f a : Nat) : Int) := by
  unfold plumblineref03_Next plumblineref03_NextT NextS
  have hI := fB_double f
  have hIp := fI_two f
  have hp2 : 2 ≤ 2 ^ (fP f + 1) := by have := fP_pos f; rw [Nat.pow_succ]; omega
  rw [rFinite_k k f ha]
  by_cases h : kd f a < 2
  · have e : FinS f a = false := by unfold FinS; exact decide_eq_false (by omega)
    rw [e, Bool.not_false, cond_true, rNan_k, if_pos h]
  · have e : FinS f a = true := by unfold FinS; exact decide_eq_true (by omega)
    rw [e, Bool.not_true, cond_false, rPlain_k k f ha, rMost_k, if_neg h]
    by_cases h2 : kd f a = 2
    · have p : PlainS f a = 0 := by unfold PlainS; rw [if_neg (by omega), if_pos h2]
      have d : (((0 : Nat) : Int) == ((fI f - 1 : Nat) : Int)) = false := by rw [beq_eq_false_iff_ne]; omega
      have z := gg_sg (f := f) false (x := 0) (by omega)
      have z0 : sg f false + 0 = 0 := rfl
      rw [z0] at z
      have zk : kd f 0 ≠ 0 := by
        have := kd_sg (f := f) false (x := 0) (by omega)
        rw [z0, if_neg (by omega), if_neg (by omega), if_pos rfl] at this
        omega
      rw [p, d, cond_false, rBelow_k k f (by decide) zk, z.2.1, cond_false, if_pos h2]; rfl
    · have h3 : kd f a = 3 := by rcases kd_vals f a with h | h | h | h <;> omega
      have hp := kd3_pos h3
      rw [Plain3 h3, if_neg h2]
      cases hb : bw f a with
      | true =>
        have hB := bw_pos hb
        have d : (((a : Nat) : Int) == ((fI f - 1 : Nat) : Int)) = false := by rw [beq_eq_false_iff_ne]; omega
        have w : Wu64 ((a : Int) - 1) = ((a - 1 : Nat) : Int) := Wu64_pred hp (by omega)
        rw [d, cond_false, rBelow_k k f ha (by omega), hb, cond_true, w, rPlain_k k f (by omega), if_pos rfl]
      | false =>
        have hlt := kd3_above ha h3 hb
        have w : Wu64 ((a : Int) + 1) = ((a + 1 : Nat) : Int) := Wu64_lt (x := a + 1) (by omega)
        rw [if_neg (by decide)]
        by_cases c : a = fI f - 1
        · have : (((a : Nat) : Int) == ((fI f - 1 : Nat) : Int)) = true := by rw [beq_iff_eq]; omega
          rw [this, cond_true, if_pos c]
        · have : (((a : Nat) : Int) == ((fI f - 1 : Nat) : Int)) = false := by rw [beq_eq_false_iff_ne]; omega
          rw [this, cond_false, rBelow_k k f ha (by omega), hb, cond_false, w, if_neg c]

theorem rPrev_k {R : Type} (k : Nat) (f : Int) {a : Nat} (ha : a < 2 ^ 64) (K : Int → Option R) : plumblineref03_Prev k f (a : Int) K = K ((PrevS f a : Nat) : Int) := by
  unfold plumblineref03_Prev plumblineref03_PrevT PrevS
  have h1 := Neg_lt f ha
  have h2 := NextS_lt f h1
  rw [rFinite_k k f ha]
  by_cases h : kd f a < 2
  · have e : FinS f a = false := by unfold FinS; exact decide_eq_false (by omega)
    rw [e, Bool.not_false, cond_true, rNan_k, if_pos h]
  · have e : FinS f a = true := by unfold FinS; exact decide_eq_true (by omega)
    rw [e, Bool.not_true, cond_false, rNeg_k k f ha, rNext_k k f h1, rNeg_k k f h2, rPlain_k k f (Neg_lt f h2), if_neg h]

theorem rFromInt_k {R : Type} {k : Nat} (hk : 5000 ≤ k) (f m : Int) {n : Int} (hn : -9223372036854775808 ≤ n ∧ n ≤ 9223372036854775807) (K : Int → Option R) : plumblineref03_FromInt k f m n K = K ((FromS f m n : Nat) : Int) := by
  unfold plumblineref03_FromInt plumblineref03_FromIntT FromS
  by_cases h : n < 0
  · have w : Wu64 (0 - Wu64 n) = ((n.natAbs : Nat) : Int) := by unfold Wu64; rw [wrap_u64, wrap_u64]; omega
    rw [decide_eq_true h, cond_true, w]
    exact rround_k hk f m true (by omega) (by omega) (by omega) K
  · have w : Wu64 n = ((n.natAbs : Nat) : Int) := by unfold Wu64; rw [wrap_u64]; omega
    rw [decide_eq_false h, cond_false, w]
    exact rround_k hk f m false (by omega) (by omega) (by omega) K

end Go.Proofs.Ytelifkahdhhmoaa.N

/- Package conv, the reference: ints and literals. Conditions: none. -/
namespace Go.Proofs.Ytelifkahdhhmoaa.N
set_option linter.unusedVariables false
set_option linter.unusedSimpArgs false
open Go Go.Ab

theorem rdigit_k {R : Type} (k : Nat) (c : Nat) (K : Bool → Option R) : plumblineref03_digit k (c : Int) K = K (dg c) := by
  unfold plumblineref03_digit plumblineref03_digitT dg
  by_cases h : 48 ≤ c
  · rw [decide_eq_true (show (c : Int) ≥ 48 by omega), cond_true, decide_eq_true h, Bool.true_and]
    by_cases h2 : c ≤ 57
    · rw [decide_eq_true h2, decide_eq_true (show (c : Int) ≤ 57 by omega)]
    · rw [decide_eq_false h2, decide_eq_false (show ¬ (c : Int) ≤ 57 by omega)]
  · rw [decide_eq_false (show ¬ (c : Int) ≥ 48 by omega), cond_false, decide_eq_false h, Bool.false_and]

theorem rint_l0 {R : Type} (k : Nat) (s : ByteArray) (hl : (bys s).length < 2 ^ 63) (K0 : Int → Int → Option R) (K1 : Option R) : ∀ (fu i : Nat), i ≤ (bys s).length → (bys s).length - i < fu →
    plumblineref03_Int_l0 k fu s (i : Int) K0 K1 = if ((bys s).drop i).all dg = true then K1 else K0 0 4
  | 0, i, h1, h2 => by omega
  | fu + 1, i, h1, h2 => by
    rw [plumblineref03_Int_l0, plumblineref03_Int_l0B, size_bys]
    by_cases c : i < (bys s).length
    · have ih := rint_l0 k s hl K0 K1 fu (i + 1) (by omega) (by omega)
      rw [decide_eq_true (show (i : Int) < (((bys s).length : Nat) : Int) by omega), cond_true, strAt_bys c, Option.bind_some, rdigit_k, drop_at c, List.all_cons]
      cases hd : dg (bys s)[i] with
      | true => rw [Bool.not_true, cond_false, Bool.true_and, Wi_s (by omega)]; exact ih
      | false => rw [Bool.not_false, cond_true, Bool.false_and, if_neg (by decide)]
    · rw [decide_eq_false (by omega), cond_false, List.drop_of_length_le (by omega), List.all_nil, if_pos rfl]

theorem digit_sum {n c a : Nat} (hc : 48 ≤ c ∧ c ≤ 57) (hn : n < 10 ^ a) (ha : a + 1 ≤ 18) : 10 * n + (c - 48) < 10 ^ (a + 1) ∧ 10 * n + (c - 48) < 2 ^ 60 := by
  have h1 : 10 ^ (a + 1) = 10 * 10 ^ a := by rw [Nat.pow_succ, Nat.mul_comm]
  have h2 := ten_lt (a := a + 1) (by omega)
  omega

theorem w8_digit {c : Nat} (hc : 48 ≤ c ∧ c ≤ 57) : Wu8 ((c : Int) - 48) = ((c - 48 : Nat) : Int) := by
  rw [show (c : Int) - 48 = ((c - 48 : Nat) : Int) by omega]; exact Wu8_nat (by omega)

theorem rint_l1 {R : Type} (k : Nat) (s : ByteArray) (hl : (bys s).length < 2 ^ 63) (K : Int → Option R) : ∀ (fu i n a : Nat), i ≤ (bys s).length → (bys s).length - i < fu → ((bys s).drop i).all dg = true → n < 10 ^ a → a + ((bys s).length - i) ≤ 18 →
    plumblineref03_Int_l1 k fu s (n : Int) (i : Int) K = K ((vd n ((bys s).drop i) : Nat) : Int)
  | 0, i, n, a, h1, h2, _, _, _ => by omega
  | fu + 1, i, n, a, h1, h2, h3, h4, h5 => by
    rw [plumblineref03_Int_l1, plumblineref03_Int_l1B, size_bys]
    by_cases c : i < (bys s).length
    · rw [drop_at c, List.all_cons, Bool.and_eq_true] at h3
      have hc := dg_spec.1 h3.1
      obtain ⟨b1, b2⟩ := digit_sum hc h4 (by omega)
      have w8 := w8_digit hc
      have w : Wi64 ((Wi64 ((n : Int) * 10)) + (Wi64 (Wu8 ((((bys s)[i] : Nat) : Int) - 48)))) = ((10 * n + ((bys s)[i] - 48) : Nat) : Int) := by
        rw [w8, wrap_i64 (x := (n : Int) * 10) (by omega) (by omega), wrap_i64 (x := (((bys s)[i] - 48 : Nat) : Int)) (by omega) (by omega), wrap_i64 (by omega) (by omega)]; omega
      rw [decide_eq_true (show (i : Int) < (((bys s).length : Nat) : Int) by omega), cond_true, strAt_bys c, Option.bind_some, w, Wi_s (by omega), drop_at c, vd_cons]
      exact rint_l1 k s hl K fu (i + 1) _ (a + 1) (by omega) (by omega) h3.2 b1 (by omega)
    · rw [decide_eq_false (by omega), cond_false, List.drop_of_length_le (by omega), vd_nil]

theorem bys_nil {s : ByteArray} : s = ⟨#[]⟩ ↔ bys s = [] := by
  constructor
  · rintro rfl; rfl
  · intro h
    have : s.data.size = 0 := by have := size_bys s; rw [h] at this; exact this
    apply ByteArray.ext
    exact Array.eq_empty_of_size_eq_zero this

theorem decode_all {L : List Nat} (h : L.all dg = true) : decode L = if L = [] then none else some (L, none) := by
  have : L.dropWhile dg = [] := by
    cases hd : L.dropWhile dg with
    | nil => rfl
    | cons c R =>
      have h1 := dropWhile_head hd
      have h2 : c ∈ L := by rw [split_at L, hd]; simp
      rw [List.all_eq_true.1 h c h2] at h1; cases h1
  unfold decode; rw [this]

theorem rInt_k {R : Type} {k : Nat} (hk : 5000 ≤ k) (s : ByteArray) (hl : (bys s).length < 2 ^ 63) (hk2 : (bys s).length < k) (K : Int → Int → Option R) :
    plumblineref03_Int k s K = K (IntS (bys s)).1 (IntS (bys s)).2 := by
  unfold plumblineref03_Int plumblineref03_IntT
  have l0 := fun K0 K1 => rint_l0 (R := R) k s hl K0 K1 k 0 (by omega) (by omega)
  obtain ⟨d1, d2, d3⟩ := scan_decode hl
  refine (l0 _ _).trans ?_
  rw [List.drop_zero]
  by_cases h : (bys s).all dg = true
  · have hd := decode_all h
    rw [if_pos h, toList_beq]
    unfold IntS
    by_cases e : bys s = []
    · rw [if_pos e] at hd
      rw [decide_eq_true (bys_nil.2 e), cond_true, hd]
    · rw [if_neg e] at hd
      rw [decide_eq_false (fun q => e (bys_nil.1 q)), cond_false, hd, size_bys]
      dsimp only
      by_cases c : 18 < (bys s).length
      · rw [decide_eq_true (show (((bys s).length : Nat) : Int) > 18 by omega), cond_true, if_pos c]
      · have l1 := fun J => rint_l1 (R := R) k s hl J k 0 0 0 (by omega) (by omega) (by rw [List.drop_zero]; exact h) (by decide) (by omega)
        have hv := vd_lt (bys s) 0 0 h (by decide)
        rw [List.drop_zero] at l1
        rw [decide_eq_false (show ¬ (((bys s).length : Nat) : Int) > 18 by omega), cond_false, if_neg c]
        refine (l1 _).trans ?_
        by_cases c2 : 2147483647 < vd 0 (bys s)
        · rw [decide_eq_true (show ((vd 0 (bys s) : Nat) : Int) > 2147483647 by omega), cond_true, if_pos c2]
        · rw [decide_eq_false (show ¬ ((vd 0 (bys s) : Nat) : Int) > 2147483647 by omega), cond_false, if_neg c2]
  · rw [if_neg h]
    unfold IntS
    cases hd : decode (bys s) with
    | none => rfl
    | some p =>
      obtain ⟨A, B⟩ := p
      cases B with
      | none => obtain ⟨e1, _, e3, _⟩ := d2 A hd; rw [e1] at e3; exact absurd e3 h
      | some B => rfl

/-! ### Literals: where the point is -/

theorem rlit_l0b {R : Type} (k : Nat) (f : Int) (s : ByteArray) (hl : (bys s).length < 2 ^ 63) {p : Int} (hp : 0 ≤ p) (K0 : Int → Int → Option R) (K1 : Int → Option R) : ∀ (fu i : Nat), i ≤ (bys s).length → (bys s).length - i < fu →
    plumblineref03_Literal_l0 k fu f s p (i : Int) K0 K1 = if ((bys s).drop i).all dg = true then K1 p else K0 0 4
  | 0, i, h1, h2 => by omega
  | fu + 1, i, h1, h2 => by
    rw [plumblineref03_Literal_l0, plumblineref03_Literal_l0B, size_bys]
    by_cases c : i < (bys s).length
    · have ih := rlit_l0b k f s hl hp K0 K1 fu (i + 1) (by omega) (by omega)
      rw [decide_eq_true (show (i : Int) < (((bys s).length : Nat) : Int) by omega), cond_true, strAt_bys c, Option.bind_some, Option.bind_some, rdigit_k, drop_at c, List.all_cons]
      have t : cond (!dg (bys s)[i]) (K0 0 4) (plumblineref03_Literal_l0 k fu f s p (Wi64 ((i : Int) + 1)) K0 K1) = if (dg (bys s)[i] && ((bys s).drop (i + 1)).all dg) = true then K1 p else K0 0 4 := by
        cases hd : dg (bys s)[i] with
        | true => rw [Bool.not_true, cond_false, Bool.true_and, Wi_s (by omega)]; exact ih
        | false => rw [Bool.not_false, cond_true, Bool.false_and, if_neg (by decide)]
      by_cases e : ((((bys s)[i] : Nat) : Int) == 46) = true
      · rw [e, cond_true, decide_eq_false (by omega), cond_false]; exact t
      · rw [Bool.not_eq_true] at e
        rw [e, cond_false]; exact t
    · rw [decide_eq_false (by omega), cond_false, List.drop_of_length_le (by omega), List.all_nil, if_pos rfl]

theorem rlit_l0a {R : Type} (k : Nat) (f : Int) (s : ByteArray) (hl : (bys s).length < 2 ^ 63) (K0 : Int → Int → Option R) (K1 : Int → Option R) : ∀ (fu i : Nat), i ≤ (bys s).length → (bys s).length - i < fu →
    plumblineref03_Literal_l0 k fu f s (-1) (i : Int) K0 K1 = match ((bys s).drop i).dropWhile dg with
      | [] => K1 (-1)
      | c :: R => if c = 46 ∧ R.all dg = true then K1 ((i + (((bys s).drop i).takeWhile dg).length : Nat) : Int) else K0 0 4
  | 0, i, h1, h2 => by omega
  | fu + 1, i, h1, h2 => by
    rw [plumblineref03_Literal_l0, plumblineref03_Literal_l0B, size_bys]
    by_cases c : i < (bys s).length
    · have ih := rlit_l0a k f s hl K0 K1 fu (i + 1) (by omega) (by omega)
      obtain ⟨d, hd⟩ : ∃ d, d = (bys s)[i] := ⟨_, rfl⟩
      have hs := strAt_bys c
      rw [← hd] at hs
      rw [decide_eq_true (show (i : Int) < (((bys s).length : Nat) : Int) by omega), cond_true, hs, Option.bind_some, Option.bind_some, rdigit_k, drop_at c, ← hd, List.dropWhile_cons, List.takeWhile_cons, Wi_s (by omega)]
      by_cases e : d = 46
      · have nd : dg d = false := by rw [e]; rfl
        have h46 : ((d : Int) == 46) = true := by rw [beq_iff_eq]; omega
        have hb := rlit_l0b k f s hl (p := (i : Int)) (by omega) K0 K1 fu (i + 1) (by omega) (by omega)
        rw [h46, cond_true, decide_eq_true (by decide), cond_true, hb, nd]
        simp [e]
      · have h46 : ((d : Int) == 46) = false := by rw [beq_eq_false_iff_ne]; omega
        rw [h46, cond_false]
        cases hdg : dg d with
        | true =>
          rw [Bool.not_true, cond_false, ih]
          simp only [if_true, List.length_cons]
          rw [show i + 1 + (((bys s).drop (i + 1)).takeWhile dg).length = i + ((((bys s).drop (i + 1)).takeWhile dg).length + 1) by omega]
        | false =>
          rw [Bool.not_false, cond_true]
          simp [e]
    · rw [decide_eq_false (by omega), cond_false, List.drop_of_length_le (by omega)]
      rfl

theorem w64_step {n c a : Nat} (hc : 48 ≤ c ∧ c ≤ 57) (hn : n < 10 ^ a) (ha : a + 1 ≤ 18) : Wu64 ((Wu64 ((n : Int) * 10)) + (Wu64 (Wu8 ((c : Int) - 48)))) = ((10 * n + (c - 48) : Nat) : Int) := by
  obtain ⟨b1, b2⟩ := digit_sum hc hn ha
  rw [w8_digit hc, show (n : Int) * 10 = ((10 * n : Nat) : Int) by omega, Wu64_lt (by omega), Wu64_lt (x := c - 48) (by omega), ← Int.natCast_add, Wu64_lt (by omega)]

/-- Behind the point. -/
theorem rlit_l1b {R : Type} (k : Nat) (f : Int) (s : ByteArray) (hl : (bys s).length < 2 ^ 63) {p : Nat} (K : Int → Int → Option R) : ∀ (fu i n a b c : Nat), p < i → i ≤ (bys s).length → (bys s).length - i < fu → ((bys s).drop i).all dg = true → n < 10 ^ a → a + ((bys s).length - i) ≤ 18 → b = 10 ^ c → c + ((bys s).length - i) ≤ 18 →
    plumblineref03_Literal_l1 k fu f s (p : Int) (n : Int) (b : Int) (i : Int) K = K ((vd n ((bys s).drop i) : Nat) : Int) ((10 ^ (c + ((bys s).length - i)) : Nat) : Int)
  | 0, i, n, a, b, c, _, h1, h2, _, _, _, _, _ => by omega
  | fu + 1, i, n, a, b, c, h0, h1, h2, h3, h4, h5, h6, h7 => by
    rw [plumblineref03_Literal_l1, plumblineref03_Literal_l1B, size_bys]
    by_cases g : i < (bys s).length
    · rw [drop_at g, List.all_cons, Bool.and_eq_true] at h3
      have hc := dg_spec.1 h3.1
      obtain ⟨b1, b2⟩ := digit_sum hc h4 (by omega)
      have t := ten_lt (a := c + 1) (by omega)
      have e10 : b * 10 = 10 ^ (c + 1) := by rw [h6, Nat.pow_succ]
      have w : Wu64 ((b : Int) * 10) = ((b * 10 : Nat) : Int) := by rw [show (b : Int) * 10 = ((b * 10 : Nat) : Int) by omega]; exact Wu64_lt (by omega)
      have ne : ((i : Int) == (p : Int)) = false := by rw [beq_eq_false_iff_ne]; omega
      rw [decide_eq_true (show (i : Int) < (((bys s).length : Nat) : Int) by omega), cond_true, ne, cond_false, strAt_bys g, Option.bind_some, decide_eq_true (show (i : Int) > (p : Int) by omega), cond_true, w64_step hc h4 (by omega), w, Wi_s (by omega), drop_at g, vd_cons]
      have := rlit_l1b k f s hl (p := p) K fu (i + 1) _ (a + 1) (b * 10) (c + 1) (by omega) (by omega) (by omega) h3.2 b1 (by omega) e10 (by omega)
      rw [this, show c + 1 + ((bys s).length - (i + 1)) = c + ((bys s).length - i) by omega]
    · rw [decide_eq_false (by omega), cond_false, List.drop_of_length_le (by omega), vd_nil, h6, show c + ((bys s).length - i) = c by omega]

/-- Ahead of the point. -/
theorem rlit_l1a {R : Type} (k : Nat) (f : Int) (s : ByteArray) (hl : (bys s).length < 2 ^ 63) (B : List Nat) (hB : B.all dg = true) (K : Int → Int → Option R) : ∀ (A : List Nat) (fu i n a : Nat), (bys s).drop i = A ++ 46 :: B → i ≤ (bys s).length → (bys s).length - i < fu → A.all dg = true → n < 10 ^ a → a + A.length + B.length ≤ 18 →
    plumblineref03_Literal_l1 k fu f s ((i + A.length : Nat) : Int) (n : Int) 1 (i : Int) K = K ((vd n (A ++ B) : Nat) : Int) ((10 ^ B.length : Nat) : Int)
  | A, 0, i, n, a, _, h1, h2, _, _, _ => by omega
  | [], fu + 1, i, n, a, hd, h1, h2, h3, h4, h5 => by
    have hlen := congrArg List.length hd
    rw [List.length_drop] at hlen
    simp at hlen
    have g : i < (bys s).length := by omega
    have e1 : (bys s).drop (i + 1) = B := by
      have := drop_at g
      rw [hd, List.nil_append] at this
      exact (List.cons.inj this).2.symm
    rw [plumblineref03_Literal_l1, plumblineref03_Literal_l1B, size_bys, decide_eq_true (show (i : Int) < (((bys s).length : Nat) : Int) by omega), cond_true, List.length_nil, Nat.add_zero, beq_self_eq_true, cond_true, Wi_s (by omega)]
    have := rlit_l1b k f s hl (p := i) K fu (i + 1) n a 1 0 (by omega) (by omega) (by omega) (by rw [e1]; exact hB) h4 (by simp at h5; omega) rfl (by simp at h5; omega)
    rw [e1, show 0 + ((bys s).length - (i + 1)) = B.length by omega] at this
    exact this
  | c :: A, fu + 1, i, n, a, hd, h1, h2, h3, h4, h5 => by
    have hlen := congrArg List.length hd
    rw [List.length_drop] at hlen
    simp at hlen
    have g : i < (bys s).length := by omega
    have hh := drop_at g
    rw [hd, List.cons_append] at hh
    have e0 : c = (bys s)[i] := (List.cons.inj hh).1
    have e1 : (bys s).drop (i + 1) = A ++ 46 :: B := (List.cons.inj hh).2.symm
    rw [List.all_cons, Bool.and_eq_true] at h3
    have hc := dg_spec.1 h3.1
    rw [List.length_cons] at h5
    obtain ⟨b1, b2⟩ := digit_sum hc h4 (by omega)
    have ne : ((i : Int) == ((i + (c :: A).length : Nat) : Int)) = false := by rw [beq_eq_false_iff_ne, List.length_cons]; omega
    have hst := strAt_bys g
    rw [← e0] at hst
    rw [plumblineref03_Literal_l1, plumblineref03_Literal_l1B, size_bys, decide_eq_true (show (i : Int) < (((bys s).length : Nat) : Int) by omega), cond_true, ne, cond_false, hst, Option.bind_some,
      decide_eq_false (show ¬ (i : Int) > ((i + (c :: A).length : Nat) : Int) by omega), cond_false, w64_step hc h4 (by omega), Wi_s (by omega), List.cons_append, vd_cons, List.length_cons, show i + (A.length + 1) = i + 1 + A.length by omega]
    exact rlit_l1a k f s hl B hB K A fu (i + 1) _ (a + 1) e1 (by omega) (by omega) h3.2 b1 (by omega)

end Go.Proofs.Ytelifkahdhhmoaa.N

/- Package conv, the reference: quotients, literals. Conditions: none. -/
namespace Go.Proofs.Ytelifkahdhhmoaa.N
set_option linter.unusedVariables false
set_option linter.unusedSimpArgs false
open Go Go.Ab

theorem half_step_c (A i : Nat) : A / 2 ^ i = 2 * (A / 2 ^ (i + 1)) + (A.testBit i).toNat := by
  have hd : A / 2 ^ (i + 1) = A / 2 ^ i / 2 := by rw [Nat.pow_succ, Nat.div_div_eq_div_mul]
  rw [hd, Nat.toNat_testBit]; omega

/-- One digit of a quotient. -/
theorem quot_step_c {P b t : Nat} (hb : 0 < b) : (2 * P + t) % b = (2 * (P % b) + t) % b ∧ (2 * P + t) / b = 2 * (P / b) + (2 * (P % b) + t) / b := by
  have hdm := Nat.div_add_mod P b
  have e : 2 * P + t = b * (2 * (P / b)) + (2 * (P % b) + t) := by
    have : b * (2 * (P / b)) = 2 * (b * (P / b)) := by rw [Nat.mul_left_comm]
    rw [this]; omega
  constructor
  · conv => lhs; rw [e]
    rw [Nat.mul_add_mod]
  · conv => lhs; rw [e]
    rw [Nat.mul_add_div hb]

theorem quot_bit_c {P b t : Nat} (hb : 0 < b) (ht : t ≤ 1) : (2 * (P % b) + t < b → (2 * P + t) % b = 2 * (P % b) + t ∧ (2 * P + t) / b % 2 = 0) ∧
    (b ≤ 2 * (P % b) + t → (2 * P + t) % b = 2 * (P % b) + t - b ∧ (2 * P + t) / b % 2 = 1) := by
  obtain ⟨h1, h2⟩ := quot_step_c (P := P) (t := t) hb
  have hm := Nat.mod_lt P hb
  constructor
  · intro h
    rw [h1, h2, Nat.mod_eq_of_lt h, Nat.div_eq_of_lt h]
    exact ⟨rfl, by omega⟩
  · intro h
    have : (2 * (P % b) + t) / b = 1 := Nat.div_eq_of_lt_le (by omega) (by omega)
    rw [h1, h2, this, Nat.mod_eq_sub_mod h, Nat.mod_eq_of_lt (by omega)]
    exact ⟨rfl, by omega⟩

theorem bitsOf_cons_c (n Q : Nat) (b : Bool) : [b] ++ bitsOf n Q = bitsOf (1 + n) (2 * Q + b.toNat) := by
  unfold bitsOf
  apply List.ext_getElem?
  intro i
  rw [rowN_get]
  cases i with
  | zero =>
    rw [if_pos (by omega), Nat.testBit_zero]
    cases b <;> simp <;> omega
  | succ i =>
    have e : (2 * Q + b.toNat).testBit (i + 1) = Q.testBit i := by
      rw [Nat.testBit_succ]
      congr 1
      have := Bool.toNat_le b
      omega
    rw [List.singleton_append, List.getElem?_cons_succ, rowN_get, e]
    by_cases c : i < n
    · rw [if_pos c, if_pos (by omega)]
    · rw [if_neg c, if_neg (by omega)]

theorem div_rel_c {P : Nat} (hP : P = 1200) (f m : Int) (s : Bool) {X Y : Nat} (e : Int) (hX0 : 0 < X) (hX : X < 2 ^ 60) (hY0 : 0 < Y) (hY : Y < 2 ^ 57) :
    Rd f m s (2 * (X * 2 ^ P / Y) + (decide (X * 2 ^ P % Y ≠ 0)).toNat) (e - 1201) false = DivX f m s X Y e (127 - bl X) := by
  have hb1 := bl_pos hX0
  have hb2 : bl X ≤ 60 := bl_le_iff.2 hX
  have hlow := bl_low hX0
  obtain ⟨up, hup⟩ : ∃ up, up = 127 - bl X := ⟨_, rfl⟩
  obtain ⟨j, hj⟩ : ∃ j, j = 1201 - up := ⟨_, rfl⟩
  obtain ⟨A, hA⟩ : ∃ A, A = X * 2 ^ up := ⟨_, rfl⟩
  have hA130 : X * 2 ^ P = A * 2 ^ (j - 1) := by
    rw [hA, Nat.mul_assoc, ← Nat.pow_add, show up + (j - 1) = P by omega]
  have hdm := Nat.div_add_mod A Y
  have hml := Nat.mod_lt A hY0
  obtain ⟨N, hN⟩ : ∃ N, N = A / Y := ⟨_, rfl⟩
  obtain ⟨r0, hr0⟩ : ∃ r0, r0 = A % Y := ⟨_, rfl⟩
  obtain ⟨p, hp⟩ : ∃ p, p = 2 ^ (j - 1) := ⟨_, rfl⟩
  have hp0 : 0 < p := by rw [hp]; exact Nat.two_pow_pos _
  have hpj : 2 ^ j = p * 2 := by rw [hp, ← Nat.pow_succ]; exact congrArg (2 ^ ·) (show j = j - 1 + 1 by omega)
  rw [← hN, ← hr0] at hdm
  rw [← hr0] at hml
  have hW : A * p = Y * (N * p) + r0 * p := by rw [← hdm, Nat.add_mul, Nat.mul_assoc]
  have hq : A * p / Y = N * p + r0 * p / Y := by rw [hW, Nat.mul_add_div hY0]
  have hr : A * p % Y = r0 * p % Y := by rw [hW, Nat.mul_add_mod]
  have ht1 : r0 * p / Y < p := by
    rw [Nat.div_lt_iff_lt_mul hY0, Nat.mul_comm p Y]
    exact (Nat.mul_lt_mul_right hp0).2 hml
  rw [← hup]
  unfold DivX
  rw [← hA, ← hN, ← hr0, hA130, ← hp, hq, hr]
  have ee1 : e - 1201 = (e - (up : Int)) - (j : Int) := by omega
  rw [ee1]
  by_cases c : r0 = 0
  · subst c
    have d1 : decide (0 * p % Y ≠ 0) = false := by simp
    have d2 : decide ((0 : Nat) ≠ 0) = false := rfl
    have d3 : 2 * (N * p + 0 * p / Y) + false.toNat = N * 2 ^ j := by
      rw [hpj, Nat.zero_mul, Nat.zero_div, ← Nat.mul_assoc N p 2, Nat.mul_comm (N * p) 2]; rfl
    rw [d1, d2, d3, Rd_scale]
  · have d2 : decide (r0 ≠ 0) = true := decide_eq_true c
    obtain ⟨t, ht⟩ : ∃ t, t = 2 * (r0 * p / Y) + (decide (r0 * p % Y ≠ 0)).toNat := ⟨_, rfl⟩
    have hb := Bool.toNat_le (decide (r0 * p % Y ≠ 0))
    have d3 : 2 * (N * p + r0 * p / Y) + (decide (r0 * p % Y ≠ 0)).toNat = N * 2 ^ j + t := by
      rw [hpj, ht, Nat.mul_add, ← Nat.mul_assoc N p 2, Nat.mul_comm (N * p) 2]; omega
    have htj : t < 2 ^ j := by rw [hpj]; omega
    have ht0 : 0 < t := by
      refine Nat.pos_of_ne_zero fun h => ?_
      have z1 : r0 * p / Y = 0 := by omega
      have z2 : (decide (r0 * p % Y ≠ 0)).toNat = 0 := by omega
      have z3 : r0 * p % Y = 0 := by
        by_cases cc : r0 * p % Y = 0
        · exact cc
        · rw [decide_eq_true cc] at z2; exact absurd z2 (by decide)
      have := Nat.div_add_mod (r0 * p) Y
      rw [z1, z3] at this
      have h9 := Nat.mul_pos (Nat.pos_of_ne_zero c) hp0
      omega
    have hbl : fP f + 2 ≤ bl N := by
      have hf : fP f ≤ 52 := by unfold fP; split <;> omega
      refine Nat.le_of_not_lt fun h => ?_
      have h54 : N < 2 ^ 53 := bl_le_iff.1 (by omega)
      have hAlow : 2 ^ 126 ≤ A := by
        rw [hA]
        have := Nat.mul_le_mul_right (2 ^ up) hlow
        rw [← Nat.pow_add, show bl X - 1 + up = 126 by omega] at this
        exact this
      have hm2 : Y * N ≤ 2 ^ 57 * 2 ^ 53 := Nat.mul_le_mul (by omega) (by omega)
      rw [← Nat.pow_add] at hm2
      have : (2 : Nat) ^ (57 + 53) + 2 ^ 57 < 2 ^ 126 := by decide
      omega
    rw [d2, d3]
    exact Rd_stick f m s _ hbl ht0 htj


theorem rquot_loop {R : Type} (k : Nat) {P : Nat} (hP : P = 1200) {L X b W : Nat} (hL : L ≤ 64) (hX : X < 2 ^ L) (hW : W = X * 2 ^ P) (hb : b < 2 ^ 62) (h0 : 0 < b) (K : Int → List Bool → Option R) : ∀ (i n : Nat), i ≤ L + 1200 → i < n →
    plumblineref03_quotient_l0 k n (b : Int) 1200 ((W / 2 ^ i % b : Nat) : Int) ((i : Int) - 1) (bitsOf L X) (rowN (L + 1200) fun j => if i ≤ j then (W / b).testBit j else false) K =
      K ((W % b : Nat) : Int) (rowN (L + 1200) (W / b).testBit)
  | i, 0, h1, h2 => by omega
  | 0, n + 1, h1, h2 => by
    rw [plumblineref03_quotient_l0, plumblineref03_quotient_l0B]
    have e0 : ¬ ((((0 : Nat) : Int) - 1) ≥ 0) := by decide
    rw [decide_eq_false e0, cond_false]
    simp only [Nat.zero_le, if_true, Nat.pow_zero, Nat.div_one]
  | i + 1, n + 1, h1, h2 => by
    rw [plumblineref03_quotient_l0, plumblineref03_quotient_l0B]
    have e : (((i + 1 : Nat) : Int) - 1) = (i : Int) := by omega
    have e0 : ((i : Int) ≥ 0) := by omega
    have e1 : ((0 : Int) ≤ (i : Int)) := by omega
    have e2 : ((i : Int) < ((L + 1200 : Nat) : Int)) := by omega
    have e3 : i < L + 1200 := by omega
    have e8 : Wi64 ((i : Int) - 1) = ((i : Int) - 1) := wrap_i64 (by omega) (by omega)
    have ih := rquot_loop k hP hL hX hW hb h0 K i n (by omega) (by omega)
    have hHS := half_step_c W i
    have hbit : (W / b).testBit i = decide (W / 2 ^ i / b % 2 = 1) := by
      rw [Nat.testBit_eq_decide_div_mod_eq, Nat.div_div_eq_div_mul, Nat.mul_comm, ← Nat.div_div_eq_div_mul]
    have hm := Nat.mod_lt (W / 2 ^ (i + 1)) h0
    have ht : (W.testBit i).toNat ≤ 1 := Bool.toNat_le _
    obtain ⟨q1, q2⟩ := quot_bit_c (P := W / 2 ^ (i + 1)) (t := (W.testBit i).toNat) h0 ht
    rw [← hHS] at q1 q2
    have hwt : W.testBit i = (decide (1200 ≤ i) && X.testBit (i - 1200)) := by rw [hW, Nat.testBit_mul_two_pow, hP]
    obtain ⟨r, hr⟩ : ∃ r, r = W / 2 ^ (i + 1) % b := ⟨_, rfl⟩
    rw [← hr] at hm q1 q2
    have w2 : Wu64 ((r : Int) * 2) = ((2 * r : Nat) : Int) := by rw [show (r : Int) * 2 = ((2 * r : Nat) : Int) by omega]; exact Wu64_lt (by omega)
    -- the same at both bits
    have key : ∀ V : Nat, V = 2 * r + (W.testBit i).toNat →
        cond (decide ((V : Int) ≥ (b : Int))) (cond (decide (0 ≤ (i : Int))) (cond (decide ((i : Int) < (((List.length (rowN (L + 1200) fun j => if i + 1 ≤ j then (W / b).testBit j else false)) : Nat) : Int)))
            (Option.bind ((rowN (L + 1200) fun j => if i + 1 ≤ j then (W / b).testBit j else false)[Int.toNat (i : Int)]?) fun ye2 =>
              plumblineref03_quotient_l0 k n (b : Int) 1200 (Wu64 ((V : Int) - (b : Int))) ((i : Int) - 1) (bitsOf L X) (List.set (rowN (L + 1200) fun j => if i + 1 ≤ j then (W / b).testBit j else false) (Int.toNat (i : Int)) true) K) none) none)
          (plumblineref03_quotient_l0 k n (b : Int) 1200 (V : Int) ((i : Int) - 1) (bitsOf L X) (rowN (L + 1200) fun j => if i + 1 ≤ j then (W / b).testBit j else false) K) = K ((W % b : Nat) : Int) (rowN (L + 1200) (W / b).testBit) := by
      intro V hV
      rw [← hV] at q1 q2
      by_cases hlt : V < b
      · obtain ⟨a1, a2⟩ := q1 hlt
        rw [a1] at ih
        rw [decide_eq_false (show ¬ (V : Int) ≥ (b : Int) by omega), cond_false]
        refine Eq.trans (congrArg (fun r => plumblineref03_quotient_l0 k n (b : Int) 1200 (V : Int) ((i : Int) - 1) (bitsOf L X) r K) (rowN_congr fun j hj => ?_)) ih
        by_cases cc : j = i
        · subst cc
          have : ¬ j + 1 ≤ j := by omega
          simp [this, hbit, a2]
        · have : (i < j) ↔ (i ≤ j) := by omega
          simp only [Nat.succ_le_iff, this]
      · obtain ⟨a1, a2⟩ := q2 (by omega)
        have w : Wu64 ((V : Int) - (b : Int)) = ((V - b : Nat) : Int) := by rw [show (V : Int) - (b : Int) = ((V - b : Nat) : Int) by omega]; exact Wu64_lt (by omega)
        rw [a1] at ih
        rw [decide_eq_true (show (V : Int) ≥ (b : Int) by omega), cond_true, decide_eq_true e1, cond_true, rowN_length, decide_eq_true e2, cond_true, Int.toNat_natCast, rowN_get, if_pos e3, Option.bind_some, rowN_set, w]
        refine Eq.trans (congrArg (fun r => plumblineref03_quotient_l0 k n (b : Int) 1200 ((V - b : Nat) : Int) ((i : Int) - 1) (bitsOf L X) r K) (rowN_congr fun j hj => ?_)) ih
        by_cases cc : j = i
        · subst cc
          simp [hbit, a2]
        · have : (i < j) ↔ (i ≤ j) := by omega
          simp only [cc, Nat.succ_le_iff, this, if_false]
    rw [e, e8, decide_eq_true e0, cond_true, ← hr, w2]
    by_cases c : (i : Int) ≥ 1200
    · have wI : Wi64 ((i : Int) - 1200) = ((i - 1200 : Nat) : Int) := (wrap_i64 (by omega) (by omega)).trans (by omega)
      have f1 : (0 : Int) ≤ ((i - 1200 : Nat) : Int) := by omega
      have f2 : ((i - 1200 : Nat) : Int) < (L : Int) := by omega
      have f3 : i - 1200 < L := by omega
      have d130 : decide (1200 ≤ i) = true := decide_eq_true (by omega)
      rw [d130, Bool.true_and] at hwt
      rw [decide_eq_true c, cond_true, wI, decide_eq_true f1, cond_true, bitsOf_length, decide_eq_true f2, cond_true, Int.toNat_natCast, bitsOf_get f3, Option.bind_some]
      cases hbt : X.testBit (i - 1200) with
      | true =>
        have w3 : Wu64 (((2 * r : Nat) : Int) + 1) = ((2 * r + 1 : Nat) : Int) := Wu64_lt (x := 2 * r + 1) (by omega)
        rw [cond_true, w3]
        exact key (2 * r + 1) (by rw [hwt, hbt]; rfl)
      | false =>
        rw [cond_false]
        exact key (2 * r) (by rw [hwt, hbt]; rfl)
    · have d130 : decide (1200 ≤ i) = false := decide_eq_false (by omega)
      rw [d130, Bool.false_and] at hwt
      rw [decide_eq_false c, cond_false]
      exact key (2 * r) (by rw [hwt]; rfl)

theorem rquot_k {R : Type} {k : Nat} (hk : 5000 ≤ k) {P : Nat} (hP : P = 1200) {L X b : Nat} (hL : L ≤ 64) (hX : X < 2 ^ L) (hb : b < 2 ^ 62) (h0 : 0 < b) (K : Bool → List Bool → Option R) :
    plumblineref03_quotient k (b : Int) 1200 (bitsOf L X) K = K (decide (X * 2 ^ P % b ≠ 0)) (bitsOf (L + 1200) (X * 2 ^ P / b)) := by
  obtain ⟨W, hW⟩ : ∃ W, W = X * 2 ^ P := ⟨_, rfl⟩
  unfold plumblineref03_quotient plumblineref03_quotientT
  have w1 : Wi64 ((L : Int) + 1200) = ((L + 1200 : Nat) : Int) := (wrap_i64 (by omega) (by omega)).trans (by omega)
  have w2 : Wi64 (((L + 1200 : Nat) : Int) - 1) = ((L + 1200 : Nat) : Int) - 1 := wrap_i64 (by omega) (by omega)
  have e1 : (0 : Int) ≤ ((L + 1200 : Nat) : Int) := by omega
  have e2 : ((L + 1200 : Nat) : Int) ≤ ((L + 1200 : Nat) : Int) := by omega
  have e3 : ((L + 1200 : Nat) : Int) * 1 ≤ 140737488355328 := by omega
  rw [bitsOf_length, w1, decide_eq_true e1, cond_true, decide_eq_true e2, cond_true, decide_eq_true e3, cond_true, Int.toNat_natCast, List.length_replicate, w2, rowN_false, ← hW]
  have hWl : W < 2 ^ (L + 1200) := by
    rw [← hP, hW, Nat.pow_add]
    exact (Nat.mul_lt_mul_right (Nat.two_pow_pos P)).2 hX
  have h := rquot_loop (R := R) k hP hL hX hW hb h0 (fun r1 r2 => K (decide (r1 > 0)) r2) (L + 1200) k (by omega) (by omega)
  rw [Nat.div_eq_of_lt hWl, Nat.zero_mod] at h
  have er : (rowN (L + 1200) fun j => if L + 1200 ≤ j then (W / b).testBit j else false) = rowN (L + 1200) (fun _ => false) :=
    rowN_congr fun j hj => if_neg (by omega)
  rw [er] at h
  refine h.trans ?_
  have ef : decide (((W % b : Nat) : Int) > 0) = decide (W % b ≠ 0) := by
    by_cases c : W % b = 0
    · rw [decide_eq_false (by omega), decide_eq_false (by omega)]
    · rw [decide_eq_true (by omega), decide_eq_true c]
  rw [ef]
  rfl

theorem rquot_n0 {R : Type} (k : Nat) {b : Nat} (hb : b < 2 ^ 62) (h0 : 0 < b) (row : List Bool) (K : Int → List Bool → Option R) : ∀ (i n : Nat), i ≤ 1200 → i < n →
    plumblineref03_quotient_n0_l0 k n (b : Int) 1200 0 ((i : Int) - 1) row K = K 0 row
  | i, 0, h1, h2 => by omega
  | 0, n + 1, h1, h2 => by
    rw [plumblineref03_quotient_n0_l0, plumblineref03_quotient_n0_l0B, decide_eq_false (by decide), cond_false]
  | i + 1, n + 1, h1, h2 => by
    have e : (((i + 1 : Nat) : Int) - 1) = (i : Int) := by omega
    have e8 : Wi64 ((i : Int) - 1) = ((i : Int) - 1) := wrap_i64 (by omega) (by omega)
    have w : Wu64 ((0 : Int) * 2) = 0 := by decide
    rw [plumblineref03_quotient_n0_l0, plumblineref03_quotient_n0_l0B, e, decide_eq_true (by omega), cond_true, decide_eq_false (show ¬ (i : Int) ≥ 1200 by omega), cond_false, w, decide_eq_false (show ¬ (0 : Int) ≥ (b : Int) by omega), cond_false, e8]
    exact rquot_n0 k hb h0 row K i n (by omega) (by omega)

theorem rquot0_k {R : Type} {k : Nat} (hk : 5000 ≤ k) {b : Nat} (hb : b < 2 ^ 62) (h0 : 0 < b) (K : Bool → List Bool → Option R) :
    plumblineref03_quotient_n0 k (b : Int) 1200 K = K false (bitsOf 1200 0) := by
  unfold plumblineref03_quotient_n0 plumblineref03_quotient_n0T
  have w1 : Wi64 ((0 : Int) + 1200) = ((1200 : Nat) : Int) := by decide
  have w2 : Wi64 (((1200 : Nat) : Int) - 1) = ((1200 : Nat) : Int) - 1 := by decide
  have h := rquot_n0 (R := R) k hb h0 (bitsOf 1200 0) (fun r1 r2 => K (decide (r1 > 0)) r2) 1200 k (by decide) (by omega)
  have er : List.replicate 1200 false = bitsOf 1200 0 := by
    unfold bitsOf; rw [rowN_false]; exact rowN_congr fun j _ => by simp
  rw [w1, decide_eq_true (by decide), cond_true, decide_eq_true (by decide), cond_true, decide_eq_true (by decide), cond_true, Int.toNat_natCast, List.length_replicate, w2, er]
  exact h

theorem rlit_core {R : Type} {k : Nat} (hk : 5000 ≤ k) (f : Int) {X Y : Nat} (hX : X < 2 ^ 60) (hY : Y < 2 ^ 57) (hY0 : 0 < Y) (K : Int → Int → Option R) :
    plumblineref03_bits k (X : Int) (fun r6 => plumblineref03_quotient k (Y : Int) 1200 r6 (fun r7 r8 =>
        cond (Nat.ble ((1 + (List.length r8)) * 1) 70368744177664) (plumblineref02_Rounded k f 0 false (-1201) ([r7] ++ r8) (fun r9 => K r9 0)) none))
      (plumblineref03_quotient_n0 k (Y : Int) 1200 (fun r10 r11 =>
        cond (Nat.ble ((1 + (List.length r11)) * 1) 70368744177664) (plumblineref02_Rounded k f 0 false (-1201) ([r10] ++ r11) (fun r12 => K r12 0)) none)) = K ((LitX f X Y : Nat) : Int) 0 := by
  have bx : bl X ≤ 60 := bl_le_iff.2 hX
  obtain ⟨P, hP⟩ : ∃ P, P = 1200 := ⟨_, rfl⟩
  rw [bits3_k (by omega) (by omega)]
  unfold LitX
  by_cases c : X = 0
  · subst c
    have hn2 : 1 + P + 2 ≤ k := by omega
    have hr := Rounded_k (R := R) (k := k) f 0 false (n := 1 + P) (N := 0) (e := -1201) (by omega) hn2 (Nat.two_pow_pos _) (by decide) (by decide) (fun r12 => K r12 0)
    have hQ := fun J => rquot0_k (R := R) hk (b := Y) (by omega) hY0 J
    rw [← hP] at hQ
    rw [if_pos rfl, if_pos rfl, hQ, bitsOf_length, ble_lim_c (by omega), cond_true, bitsOf_cons_c]
    refine hr.trans ?_
    congr 1
  · have hn1 : 1 + (bl X + P) ≤ 100000 := by omega
    have hn2 : 1 + (bl X + P) + 2 ≤ k := by omega
    have hn3 : 1 + (bl X + P) < 2 ^ 40 := by omega
    have hX0 : 0 < X := by omega
    have hb64 : bl X ≤ 64 := by omega
    have hY62 : Y < 2 ^ 62 := by omega
    have hq : 2 * (X * 2 ^ P / Y) + (decide (X * 2 ^ P % Y ≠ 0)).toNat < 2 ^ (1 + (bl X + P)) := by
      have h5 := Nat.div_le_self (X * 2 ^ P) Y
      have h6 : X * 2 ^ P < 2 ^ (bl X + P) := by
        rw [Nat.pow_add]; exact (Nat.mul_lt_mul_right (Nat.two_pow_pos P)).2 (bl_up X)
      have h7 := Bool.toNat_le (decide (X * 2 ^ P % Y ≠ 0))
      have h8 : (2 : Nat) ^ (1 + (bl X + P)) = 2 * 2 ^ (bl X + P) := Nat.pow_add 2 1 _
      rw [h8]
      omega
    have hdr := div_rel_c hP f 0 false 0 hX0 hX hY0 hY
    rw [Int.zero_sub] at hdr
    have hr := Rounded_k (R := R) (k := k) f 0 false (n := 1 + (bl X + P)) (N := 2 * (X * 2 ^ P / Y) + (decide (X * 2 ^ P % Y ≠ 0)).toNat) (e := -1201) hn1 hn2 hq (by decide) (by decide) (fun r12 => K r12 0)
    have hQ := fun J => rquot_k (R := R) hk hP hb64 (bl_up X) hY62 hY0 J
    rw [← hP] at hQ
    rw [if_neg c, if_neg c, hQ, bitsOf_length, ble_lim_c hn3, cond_true, bitsOf_cons_c]
    refine hr.trans ?_
    rw [hdr]

theorem rLiteral_k {R : Type} {k : Nat} (hk : 5000 ≤ k) (f : Int) (s : ByteArray) (hl : (bys s).length < 2 ^ 63) (hk2 : (bys s).length < k) (K : Int → Int → Option R) :
    plumblineref03_Literal k f s K = K (LitS f (bys s)).1 (LitS f (bys s)).2 := by
  unfold plumblineref03_Literal plumblineref03_LiteralT
  have l0 := fun K0 K1 => rlit_l0a (R := R) k f s hl K0 K1 k 0 (by omega) (by omega)
  refine (l0 _ _).trans ?_
  rw [List.drop_zero]
  have hs := split_at (bys s)
  have hA := takeWhile_all (bys s)
  unfold LitS decode
  cases hR : (bys s).dropWhile dg with
  | nil =>
    dsimp only
    rw [decide_eq_true (by decide), cond_true]
    by_cases e : bys s = []
    · rw [if_pos e]
    · rw [if_neg e]
  | cons c R' =>
    dsimp only
    obtain ⟨A, hAe⟩ : ∃ A, A = (bys s).takeWhile dg := ⟨_, rfl⟩
    rw [← hAe] at hs hA ⊢
    rw [hR] at hs
    have hlen : (bys s).length = A.length + (R'.length + 1) := by rw [hs, List.length_append]; rfl
    by_cases g : c = 46 ∧ R'.all dg = true
    · rw [if_pos g, Nat.zero_add]
      by_cases g1 : A = []
      · have : ¬ (c = 46 ∧ A ≠ [] ∧ R' ≠ [] ∧ R'.all dg = true) := fun q => q.2.1 g1
        rw [if_neg this, g1, decide_eq_true (by decide), cond_true]
      · have hA0 : 0 < A.length := List.length_pos_iff.2 g1
        have w : Wi64 (((s.size : Nat) : Int) - 1) = (((bys s).length - 1 : Nat) : Int) := by
          rw [size_bys]; exact (wrap_i64 (by omega) (by omega)).trans (by omega)
        rw [decide_eq_false (show ¬ ((A.length : Nat) : Int) < 1 by omega), cond_false, w]
        by_cases g2 : R' = []
        · have : ¬ (c = 46 ∧ A ≠ [] ∧ R' ≠ [] ∧ R'.all dg = true) := fun q => q.2.2.1 g2
          have e : (((A.length : Nat) : Int) == (((bys s).length - 1 : Nat) : Int)) = true := by rw [beq_iff_eq, hlen, g2]; simp
          rw [if_neg this, e, cond_true]
        · have hR0 : 0 < R'.length := List.length_pos_iff.2 g2
          have e : (((A.length : Nat) : Int) == (((bys s).length - 1 : Nat) : Int)) = false := by rw [beq_eq_false_iff_ne]; omega
          rw [if_pos ⟨g.1, g1, g2, g.2⟩, e, cond_false]
          dsimp only
          by_cases c18 : 18 < A.length + R'.length
          · rw [decide_eq_true (show (((bys s).length - 1 : Nat) : Int) > 18 by omega), cond_true, if_pos c18]
          · rw [decide_eq_false (show ¬ (((bys s).length - 1 : Nat) : Int) > 18 by omega), cond_false, if_neg c18]
            have hall : (A ++ R').all dg = true := by rw [List.all_append, hA, g.2]; rfl
            have hv := vd_lt (A ++ R') 0 0 hall (by decide)
            rw [Nat.zero_add, List.length_append] at hv
            have t1 := ten_lt (a := A.length + R'.length) (by omega)
            have t2 := ten_lt17 (a := R'.length) (by omega)
            have l1 := fun J => rlit_l1a (R := R) k f s hl R' g.2 J A k 0 0 0 (by rw [List.drop_zero, hs, g.1]) (by omega) (by omega) hA (by decide) (by omega)
            rw [Nat.zero_add] at l1
            refine (l1 _).trans ?_
            exact rlit_core hk f (by omega) t2 (Nat.pow_pos (by decide)) K
    · have : ¬ (c = 46 ∧ A ≠ [] ∧ R' ≠ [] ∧ R'.all dg = true) := fun q => g ⟨q.1, q.2.2.2⟩
      rw [if_neg g, if_neg this]

end Go.Proofs.Ytelifkahdhhmoaa.N

/- Rounding keeps the order. Conditions: none. -/
namespace Go.Proofs.Ytelifkahdhhmoaa.N
set_option linter.unusedVariables false
set_option linter.unusedSimpArgs false
open Go Go.Ab

theorem bl_mono {N M : Nat} (h : N ≤ M) : bl N ≤ bl M := bl_le_iff.2 (Nat.lt_of_le_of_lt h (bl_up M))

/-- The bits below a place, as a number. -/
theorem hd_iff {N : Nat} {j : Nat} (hj : 0 < j) : hd N (j : Int) = decide (2 ^ (j - 1) ≤ N % 2 ^ j) := by
  unfold hd
  rw [decide_eq_true (show (0 : Int) < (j : Int) by omega), Bool.true_and, Int.toNat_natCast]
  obtain ⟨i, rfl⟩ : ∃ i, j = i + 1 := ⟨j - 1, by omega⟩
  rw [Nat.add_sub_cancel]
  have hp := Nat.two_pow_pos i
  have e : N % 2 ^ (i + 1) = N % 2 ^ i + 2 ^ i * (N / 2 ^ i % 2) := by rw [Nat.pow_succ, Nat.mod_mul]
  have hm := Nat.mod_lt N hp
  rw [Nat.testBit_eq_decide_div_mod_eq]
  by_cases c : N / 2 ^ i % 2 = 1
  · rw [decide_eq_true c, e, c, decide_eq_true (by omega)]
  · have : N / 2 ^ i % 2 = 0 := by omega
    rw [decide_eq_false c, e, this, decide_eq_false (by omega)]

theorem rs_iff {N : Nat} {j : Nat} (hj : 0 < j) : rs N (j : Int) = decide (N % 2 ^ j ≠ 0 ∧ N % 2 ^ j ≠ 2 ^ (j - 1)) := by
  unfold rs
  rw [decide_eq_true (show (0 : Int) < (j : Int) by omega), Bool.true_and, Int.toNat_natCast]
  obtain ⟨i, rfl⟩ : ∃ i, j = i + 1 := ⟨j - 1, by omega⟩
  rw [Nat.add_sub_cancel]
  have hp := Nat.two_pow_pos i
  have e : N % 2 ^ (i + 1) = N % 2 ^ i + 2 ^ i * (N / 2 ^ i % 2) := by rw [Nat.pow_succ, Nat.mod_mul]
  have hm := Nat.mod_lt N hp
  rw [e]
  have h2 : N / 2 ^ i % 2 = 0 ∨ N / 2 ^ i % 2 = 1 := by omega
  rcases h2 with h2 | h2 <;> rw [h2] <;> rw [decide_eq_decide] <;> omega

theorem hd_rs_low {N : Nat} {d : Int} (h : d ≤ 0) : hd N d = false ∧ rs N d = false := by
  unfold hd rs
  rw [decide_eq_false (by omega)]
  exact ⟨rfl, rfl⟩

theorem more_iff (m : Int) (s o : Bool) {n p : Nat} (hp : 0 < p) : more m s o (decide (p ≤ n)) (decide (n ≠ 0 ∧ n ≠ p)) = true ↔
    (m = 1 ∧ s = false ∧ 0 < n) ∨ (m = 2 ∧ s = true ∧ 0 < n) ∨ (m ≠ 1 ∧ m ≠ 2 ∧ m ≠ 3 ∧ p ≤ n ∧ (p < n ∨ o = true)) := by
  have hr : (decide (p ≤ n) || decide (n ≠ 0 ∧ n ≠ p)) = decide (0 < n) := by
    rw [← Bool.decide_or, decide_eq_decide]; omega
  unfold more
  rw [hr]
  by_cases h1 : m = 1
  · rw [if_pos h1, Bool.and_eq_true, Bool.not_eq_true', decide_eq_true_eq]
    constructor
    · exact fun h => .inl ⟨h1, h.1, h.2⟩
    · rintro (h | h | h)
      · exact h.2
      · omega
      · exact absurd h1 h.1
  · rw [if_neg h1]
    by_cases h2 : m = 2
    · rw [if_pos h2, Bool.and_eq_true, decide_eq_true_eq]
      constructor
      · exact fun h => .inr (.inl ⟨h2, h.1, h.2⟩)
      · rintro (h | h | h)
        · omega
        · exact h.2
        · exact absurd h2 h.2.1
    · rw [if_neg h2]
      by_cases h3 : m = 3
      · rw [if_pos h3]
        constructor
        · intro h; cases h
        · rintro (h | h | h)
          · omega
          · omega
          · exact absurd h3 h.2.2.1
      · rw [if_neg h3, Bool.and_eq_true, Bool.or_eq_true, decide_eq_true_eq, decide_eq_true_eq]
        constructor
        · rintro ⟨a, b⟩
          refine .inr (.inr ⟨h1, h2, h3, a, ?_⟩)
          rcases b with b | b
          · exact .inl (by omega)
          · exact .inr b
        · rintro (h | h | h)
          · omega
          · omega
          · refine ⟨h.2.2.2.1, ?_⟩
            rcases h.2.2.2.2 with b | b
            · exact .inl ⟨by omega, by omega⟩
            · exact .inr b

/-- With the same places above, what is more stays more. -/
theorem more_mono (m : Int) (s : Bool) (o : Bool) {N M : Nat} {j : Nat} (hj : 0 < j) (h : N % 2 ^ j ≤ M % 2 ^ j) (hm : more m s o (hd N (j : Int)) (rs N (j : Int)) = true) : more m s o (hd M (j : Int)) (rs M (j : Int)) = true := by
  rw [hd_iff hj, rs_iff hj] at hm ⊢
  have hp := Nat.two_pow_pos (j - 1)
  rw [more_iff m s o hp] at hm ⊢
  rcases hm with ⟨a, b, c⟩ | ⟨a, b, c⟩ | ⟨a, b, c, d, e⟩
  · exact .inl ⟨a, b, by omega⟩
  · exact .inr (.inl ⟨a, b, by omega⟩)
  · refine .inr (.inr ⟨a, b, c, by omega, ?_⟩)
    rcases e with e | e
    · exact .inl (by omega)
    · exact .inr e

theorem div_mono_same {N M j : Nat} (h : N ≤ M) (hq : N / 2 ^ j = M / 2 ^ j) : N % 2 ^ j ≤ M % 2 ^ j := by
  have h1 := Nat.div_add_mod N (2 ^ j)
  have h2 := Nat.div_add_mod M (2 ^ j)
  rw [hq] at h1
  omega

theorem clip_mono (f m : Int) (s : Bool) {g h : Nat} (hgh : g ≤ h) : clip f m s g ≤ clip f m s h := by
  have hI : 0 < fI f := Nat.lt_of_le_of_lt (Nat.zero_le _) (fI_pos f)
  unfold clip
  by_cases c : h < fI f
  · rw [if_pos c, if_pos (by omega)]; exact hgh
  · rw [if_neg c]
    by_cases c2 : g < fI f
    · rw [if_pos c2]; split <;> omega
    · rw [if_neg c2]; exact Nat.le_refl _

theorem Rd_mono (f m : Int) (s : Bool) {N M : Nat} (e : Int) (h : N ≤ M) : Rd f m s N e false ≤ Rd f m s M e false := by
  have hp := fP_pos f
  unfold Rd
  by_cases h0 : N = 0
  · rw [if_pos ⟨h0, rfl⟩]
    split
    · exact Nat.le_refl _
    · unfold enc; omega
  · have h1 : ¬ (N = 0 ∧ false = false) := fun q => h0 q.1
    have h2 : ¬ (M = 0 ∧ false = false) := fun q => by omega
    rw [if_neg h1, if_neg h2, Bool.false_or, Bool.false_or]
    unfold enc
    refine Nat.add_le_add_left (clip_mono f m s ?_) _
    have hbl := bl_mono h
    have hl : lastOf f N e ≤ lastOf f M e := by unfold lastOf; omega
    have q1 := qd_lt (f := f) (e := e) (show 0 < N by omega)
    have q2 := qd_lt (f := f) (e := e) (show 0 < M by omega)
    have l1 : fL f ≤ lastOf f N e := Int.le_max_right _ _
    unfold gOf
    have b1 := Bool.toNat_le (more m s (qd N (lastOf f N e - e) % 2 == 1) (hd N (lastOf f N e - e)) (rs N (lastOf f N e - e)))
    by_cases c : lastOf f N e = lastOf f M e
    · rw [← c] at q2 ⊢
      obtain ⟨d, hd'⟩ : ∃ d, d = lastOf f N e - e := ⟨_, rfl⟩
      rw [← hd'] at b1 ⊢
      have hq : qd N d ≤ qd M d := by
        unfold qd
        split
        · exact Nat.div_le_div_right h
        · exact Nat.mul_le_mul_right _ h
      by_cases cq : qd N d = qd M d
      · rw [cq]
        refine Nat.add_le_add_left ?_ _
        by_cases hd0 : 0 < d
        · obtain ⟨j, hj⟩ : ∃ j : Nat, d = (j : Int) := ⟨d.toNat, by omega⟩
          subst hj
          have hj0 : 0 < j := by omega
          have hqq : N / 2 ^ j = M / 2 ^ j := by
            unfold qd at cq
            rw [if_pos hd0, if_pos hd0, Int.toNat_natCast] at cq; exact cq
          have := more_mono m s (qd M (j : Int) % 2 == 1) hj0 (div_mono_same h hqq)
          cases hm : more m s (qd M (j : Int) % 2 == 1) (hd N (j : Int)) (rs N (j : Int)) with
          | false => exact Nat.zero_le _
          | true => rw [this hm]; exact Nat.le_refl _
        · have z1 := hd_rs_low (N := N) (d := d) (by omega)
          have z2 := hd_rs_low (N := M) (d := d) (by omega)
          rw [z1.1, z1.2, z2.1, z2.2]; exact Nat.le_refl _
      · omega
    · have hne : lastOf f M e ≠ fL f := by omega
      have g2 := qd_ge (f := f) (e := e) (show 0 < M by omega) hne
      have hz : (lastOf f N e - fL f).toNat + 1 ≤ (lastOf f M e - fL f).toNat := by omega
      have hmul := Nat.mul_le_mul_right (2 ^ fP f) hz
      rw [Nat.add_mul, Nat.one_mul] at hmul
      rw [Nat.pow_succ] at q1
      omega

end Go.Proofs.Ytelifkahdhhmoaa.N
