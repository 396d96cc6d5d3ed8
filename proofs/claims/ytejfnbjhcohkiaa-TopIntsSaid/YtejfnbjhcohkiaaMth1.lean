/- A format that is none counts as a Double. Conditions: none. -/
import Derived.Test.YtejfnbjhcohkiaaMs
import Derived.Test.YtejfnbjhcohkiaaMd
import Derived.Test.YtejfnbjhcohkiaaNconv
namespace Go.Proofs.Ytejfnbjhcohkiaa.N
set_option linter.unusedVariables false
set_option linter.unusedSimpArgs false
open Go Go.Ab

/-- A format that is one. -/
def fm (f : Int) : Int := if f = 1 then 1 else 0
theorem fm_P (f : Int) : fP (fm f) = fP f ∧ fE (fm f) = fE f ∧ fL (fm f) = fL f ∧ (fm f = 1 ↔ f = 1) := by
  unfold fm fP fE fL
  by_cases h : f = 1 <;> simp [h]
theorem fP_fm (f : Int) : fP (fm f) = fP f := (fm_P f).1
theorem fE_fm (f : Int) : fE (fm f) = fE f := (fm_P f).2.1
theorem fL_fm (f : Int) : fL (fm f) = fL f := (fm_P f).2.2.1
theorem bad_fm (f : Int) (a : Nat) : bad (fm f) a = bad f a := by unfold bad; rw [Bool.eq_iff_iff]; simp only [decide_eq_true_eq, (fm_P f).2.2.2]
theorem fB_fm (f : Int) : fB (fm f) = fB f := by unfold fB; rw [fP_fm, fE_fm]
theorem fI_fm (f : Int) : fI (fm f) = fI f := by unfold fI; rw [fP_fm, fE_fm]
theorem sg_fm (f : Int) (b : Bool) : sg (fm f) b = sg f b := by unfold sg; rw [fB_fm]
theorem NAN_fm (f : Int) : NAN (fm f) = NAN f := by unfold NAN; rw [fI_fm, fP_fm]
theorem gg_fm (f : Int) (a : Nat) : gg (fm f) a = gg f a := by unfold gg; rw [fB_fm]
theorem kd_fm (f : Int) (a : Nat) : kd (fm f) a = kd f a := by unfold kd; rw [bad_fm, fI_fm, gg_fm]
theorem bw_fm (f : Int) (a : Nat) : bw (fm f) a = bw f a := by unfold bw; rw [bad_fm, fB_fm]
theorem nn_fm (f : Int) (a : Nat) : nn (fm f) a = nn f a := by unfold nn nG; rw [kd_fm, gg_fm, fP_fm]
theorem ee_fm (f : Int) (a : Nat) : ee (fm f) a = ee f a := by unfold ee eG; rw [kd_fm, gg_fm, fP_fm, fL_fm]
theorem clip_fm (f m : Int) (b : Bool) (g : Nat) : clip (fm f) m b g = clip f m b g := by unfold clip; rw [fI_fm]
theorem gOf_fm (f m : Int) (b : Bool) (l : Int) (q : Nat) (h r : Bool) : gOf (fm f) m b l q h r = gOf f m b l q h r := by unfold gOf; rw [fL_fm, fP_fm]
theorem enc_fm (f m : Int) (b : Bool) (l : Int) (q : Nat) (h r : Bool) : enc (fm f) m b l q h r = enc f m b l q h r := by unfold enc; rw [sg_fm, clip_fm, gOf_fm]
theorem lastOf_fm (f : Int) (N : Nat) (e : Int) : lastOf (fm f) N e = lastOf f N e := by unfold lastOf; rw [fP_fm, fL_fm]
theorem Rd_fm (f m : Int) (b : Bool) (N : Nat) (e : Int) (r : Bool) : Rd (fm f) m b N e r = Rd f m b N e r := by unfold Rd; rw [sg_fm, lastOf_fm, enc_fm]
theorem AddX_fm (f m : Int) (bx : Bool) (X : Nat) (ex : Int) (by' : Bool) (Y : Nat) (ey : Int) : AddX (fm f) m bx X ex by' Y ey = AddX f m bx X ex by' Y ey := by unfold AddX; simp only [Rd_fm, sg_fm]
theorem NegS_fm (f : Int) (a : Nat) : NegS (fm f) a = NegS f a := by unfold NegS; rw [kd_fm, NAN_fm, fB_fm]
theorem AbsS_fm (f : Int) (a : Nat) : AbsS (fm f) a = AbsS f a := by unfold AbsS; rw [kd_fm, NAN_fm, gg_fm]
theorem FinS_fm (f : Int) (a : Nat) : FinS (fm f) a = FinS f a := by unfold FinS; rw [kd_fm]
theorem ClassS_fm (f : Int) (a : Nat) : ClassS (fm f) a = ClassS f a := by unfold ClassS; rw [bad_fm, kd_fm, gg_fm, fP_fm]
theorem CmpS_fm (f : Int) (a b : Nat) : CmpS (fm f) a b = CmpS f a b := by unfold CmpS rank; rw [kd_fm, kd_fm, bw_fm, bw_fm, gg_fm, gg_fm]
theorem AddS_fm (f m : Int) (a b : Nat) : AddS (fm f) m a b = AddS f m a b := by unfold AddS; rw [kd_fm, kd_fm, bw_fm, bw_fm, NAN_fm, AddX_fm, nn_fm, nn_fm, ee_fm, ee_fm]
theorem MulS_fm (f m : Int) (a b : Nat) : MulS (fm f) m a b = MulS f m a b := by unfold MulS; rw [kd_fm, kd_fm, bw_fm, bw_fm, NAN_fm, Rd_fm, nn_fm, nn_fm, ee_fm, ee_fm, sg_fm, fI_fm]
theorem DivS_fm (f m : Int) (a b : Nat) : DivS (fm f) m a b = DivS f m a b := by unfold DivS DivX; rw [kd_fm, kd_fm, bw_fm, bw_fm, NAN_fm, Rd_fm, nn_fm, nn_fm, ee_fm, ee_fm, sg_fm, fI_fm]

end Go.Proofs.Ytejfnbjhcohkiaa.N

/- Package conv: what it takes from wide and soft. Conditions: none. -/
namespace Go.Proofs.Ytejfnbjhcohkiaa.N
set_option linter.unusedVariables false
set_option linter.unusedSimpArgs false
open Go Go.Ab

theorem or_three_c {X t : Nat} (ht : t < 4) : bOr .u64 (lo (4 * X)) (t : Int) = lo (4 * X + t) := by
  unfold lo
  rw [bOr_nat (lo_lt _) (by omega)]
  have : (4 * X % 2 ^ 64) ||| t = 4 * X % 2 ^ 64 + t := or_add (s := 2) (by omega) ht
  rw [this]; congr 1; omega

theorem hi_three_c {X t : Nat} (ht : t < 4) : hi (4 * X + t) = hi (4 * X) := by
  unfold hi; congr 1; omega

theorem Len_c {R : Type} (k : Nat) {X : Nat} (h : X < 2 ^ 64) (J : Int → Option R) : wide_Len k 0 (X : Int) J = J ((bl X : Nat) : Int) := by
  have := Len_hl k (A := X) (by omega) J
  rw [hi_small h, lo_small h] at this; exact this
theorem Shl_c {R : Type} (k : Nat) {X : Nat} {n : Int} (h : X < 2 ^ 64) (hn : (Lit.int .i64 n).wf = true) (J : Int → Int → Option R) : wide_Shl k 0 (X : Int) n J = J (hi (X * 2 ^ n.toNat % 2 ^ 128)) (lo (X * 2 ^ n.toNat % 2 ^ 128)) := by
  have := Shl_hl k (A := X) (by omega) hn J
  rw [hi_small h, lo_small h] at this; exact this

/-- A power that is not too far. -/
def cec (e : Int) : Int := if e < -4000 then -4000 else if e > 4000 then 4000 else e
theorem cec_bounds (e : Int) : -4000 ≤ cec e ∧ cec e ≤ 4000 := by unfold cec; split <;> (try split) <;> omega
theorem cec_eq (e : Int) : (if 4000 < (if (-4000) > e then (-4000) else e) then 4000 else (if (-4000) > e then (-4000) else e)) = cec e := by
  unfold cec
  by_cases h : e < -4000
  · have : (-4000 : Int) > e := h
    rw [if_pos this, if_pos h]; rfl
  · have : ¬ (-4000 : Int) > e := h
    rw [if_neg this, if_neg h]

theorem Round_c {R : Type} (k : Nat) (f m : Int) (b : Bool) {N : Nat} (hN : N < 2 ^ 128) (e : Int) (x : Bool) (K : Int → Option R) :
    soft_Round k f m b (hi N) (lo N) e x K = K ((Rd f m b (N * 2 ^ 2 + x.toNat) (cec e - ((2 : Nat) : Int)) false : Nat) : Int) := by
  have hf := fmt_le f
  have hc := cec_bounds e
  unfold soft_Round soft_RoundT
  rw [shapeOf_k, cec_eq]
  cases x with
  | false =>
    rw [cond_false, round_k k f m b hN (by omega) (by omega) (.inr rfl)]
    rw [Bool.toNat_false, Nat.add_zero, Rd_scale]
  | true =>
    rw [cond_true, Len_hl k hN]
    by_cases c : ((bl N : Nat) : Int) ≤ 126
    · have hN2 : N < 2 ^ 126 := bl_le_iff.1 (by omega)
      have w : Wi64 (cec e - 2) = cec e - 2 := wrap_i64 (by omega) (by omega)
      have e4 : N * 2 ^ (2 : Int).toNat % 2 ^ 128 = 4 * N := by
        have : (2 : Int).toNat = 2 := rfl
        rw [this]; omega
      rw [decide_eq_true c, cond_true, Shl_hl k hN (by decide), e4, w]
      have o3 := or_three_c (X := N) (t := 1) (by decide)
      have h3 := hi_three_c (X := N) (t := 1) (by decide)
      rw [show (((1 : Nat) : Int)) = 1 from rfl] at o3
      rw [o3, ← h3, round_k k f m b (by omega) (by omega) (by omega) (.inr rfl)]
      have e5 : N * 2 ^ 2 + true.toNat = 4 * N + 1 := by rw [Bool.toNat_true]; omega
      rw [e5]; rfl
    · rw [decide_eq_false c, cond_false]
      have hb : fP f + 2 ≤ bl N := by omega
      have hp : 0 < N := by
        refine Nat.pos_of_ne_zero fun h => ?_
        subst h
        exact c (by decide)
      rw [round_k k f m b hN (by omega) (by omega) (.inl hp), Bool.toNat_true, Rd_stick f m b (cec e) hb (by decide) (by decide)]


theorem Round64 {R : Type} (k : Nat) (f m : Int) (b : Bool) {X : Nat} (hX : X < 2 ^ 64) {e : Int} (h1 : -4000 ≤ e) (h2 : e ≤ 4000) (K : Int → Option R) :
    soft_Round k f m b 0 (X : Int) e false K = K ((Rd f m b X e false : Nat) : Int) := by
  have h := Round_c k f m b (N := X) (by omega) e false K
  have hc : cec e = e := by unfold cec; rw [if_neg (by omega), if_neg (by omega)]
  rw [hi_small hX, lo_small hX, hc, Bool.toNat_false, Nat.add_zero, Rd_scale] at h
  exact h

theorem kd2_c {f : Int} {c : Nat} (h : kd f c = 2) : gg f c = 0 := by
  unfold kd at h
  split at h
  · cases h
  · split at h
    · cases h
    · split at h
      · cases h
      · split at h
        · assumption
        · cases h

theorem cbelow_k {R : Type} (k : Nat) (f : Int) {a : Nat} (ha : a < 2 ^ 64) (hb : bad f a = false) (K : Bool → Option R) : conv_below k f (a : Int) K = K (bw f a) := by
  have h2 := lt_2B ha hb
  have hf := fmt_le f
  have key : (bAnd .u64 (shr .u64 (a : Int) ((fP f + fE f : Nat) : Int)) 1 == 1) = bw f a := by
    rw [shr_pow (by omega), odd_eq (Nat.lt_of_le_of_lt (Nat.div_le_self _ _) ha)]
    unfold bw
    rw [hb]
    have hB : 0 < fB f := Nat.two_pow_pos _
    show (a / fB f % 2 == 1) = decide (fB f ≤ a)
    by_cases c : fB f ≤ a
    · have : a / fB f = 1 := Nat.div_eq_of_lt_le (by omega) (by omega)
      rw [this, decide_eq_true c]; rfl
    · rw [Nat.div_eq_of_lt (by omega), decide_eq_false c]; rfl
  unfold conv_below conv_belowT conv_bits conv_bitsT
  by_cases h : f = 1
  · subst h
    have w : Wi64 (32 - 1) = ((fP 1 + fE 1 : Nat) : Int) := by decide
    rw [show ((1 : Int) == 1) = true from rfl, cond_true]
    dsimp only
    rw [w, decide_eq_false (by decide), cond_false, key]
  · have e : (f == 1) = false := by rw [beq_eq_false_iff_ne]; exact h
    have hp : fP f + fE f = 63 := by rcases fmt f with ⟨h1, _⟩ | ⟨_, h1, h2, _⟩ <;> omega
    rw [hp] at key
    have w : Wi64 (64 - 1) = ((63 : Nat) : Int) := by decide
    rw [e, cond_false]
    dsimp only
    rw [w, decide_eq_false (by decide), cond_false, key]

end Go.Proofs.Ytejfnbjhcohkiaa.N

/- A finite float's power; classes and kinds. Conditions: none. -/
namespace Go.Proofs.Ytejfnbjhcohkiaa.N
set_option linter.unusedVariables false
set_option linter.unusedSimpArgs false
open Go Go.Ab

theorem Class_kd (f : Int) (a : Nat) : (ClassS f a = 5 ∨ ClassS f a = 0 ↔ kd f a = 0) ∧ (ClassS f a = 4 ↔ kd f a = 1) ∧ (ClassS f a = 1 ↔ kd f a = 2) ∧ (ClassS f a = 2 ∨ ClassS f a = 3 ↔ kd f a = 3) := by
  unfold ClassS
  cases hb : bad f a with
  | true =>
    have hk : kd f a = 0 := by unfold kd; rw [hb]; rfl
    rw [hk]; simp
  | false =>
    rcases kd_vals f a with h | h | h | h <;> rw [h] <;> simp <;> omega

/-- A finite float's number and power; of 0 the least power. -/
def e2 (f : Int) (a : Nat) : Int := if kd f a = 3 then ee f a else fL f

end Go.Proofs.Ytejfnbjhcohkiaa.N

/- Package conv: floats in the other format, ints, neighbours. Conditions: none. -/
namespace Go.Proofs.Ytejfnbjhcohkiaa.N
set_option linter.unusedVariables false
set_option linter.unusedSimpArgs false
open Go Go.Ab

theorem e2_bnd (f : Int) (a : Nat) : -1074 ≤ e2 f a ∧ e2 f a ≤ 1897 := by
  have := fmt_le f
  have := ee_bounds f a
  unfold e2; split <;> omega

theorem cfraction_k {R : Type} (k : Nat) (f : Int) (J : Int → Int → Option R) : conv_fraction k f J = J ((fP f : Nat) : Int) (fL f) := by
  unfold conv_fraction conv_fractionT fP fL
  by_cases h : f = 1
  · subst h; rfl
  · have : (f == 1) = false := by rw [beq_eq_false_iff_ne]; exact h
    rw [this]; simp [h]

theorem cvalue_k {R : Type} (k : Nat) (f : Int) {a : Nat} (ha : a < 2 ^ 64) (hk : 2 ≤ kd f a) (K : Int → Int → Option R) : conv_value k f (a : Int) K = K ((nn f a : Nat) : Int) (e2 f a) := by
  unfold conv_value conv_valueT
  have hf := fmt_le f
  have hp := fP_pos f
  have hg := gg_lt f a
  have hB := fB_le f
  have hA : AbsS f a = gg f a := by unfold AbsS; rw [if_neg (by omega)]
  have nP : ¬ (((fP f : Nat) : Int) < 0) := by omega
  rw [cfraction_k, Abs_k k f ha, hA, decide_eq_false nP, cond_false, cond_false, cond_false, shr_pow (by omega)]
  by_cases c : gg f a < 2 ^ fP f
  · have h0 : gg f a / 2 ^ fP f = 0 := Nat.div_eq_of_lt c
    rw [h0, decide_eq_false (by decide), cond_false]
    rcases kd_vals f a with h | h | h | h
    · omega
    · omega
    · rw [(nn_zero (by rw [h]; decide)).1, kd2_c h]
      have e : e2 f a = fL f := by unfold e2; rw [h]; rfl
      rw [e]
    · have hn : nn f a = gg f a := by unfold nn nG; rw [if_pos h, if_pos c]
      have he : e2 f a = fL f := by unfold e2 ee eG; rw [if_pos h, if_pos h, if_pos c]
      rw [hn, he]
  · have h : kd f a = 3 := by
      rcases kd_vals f a with h | h | h | h
      · omega
      · omega
      · exact absurd (kd2_c h) (by omega)
      · exact h
    have h3 := kd3 h
    have hd : 0 < gg f a / 2 ^ fP f := Nat.div_pos (by omega) hp
    have hM : gg f a % 2 ^ fP f < 2 ^ fP f := Nat.mod_lt _ hp
    have hdl : gg f a / 2 ^ fP f < 2 ^ fE f := by rw [Nat.div_lt_iff_lt_mul hp]; unfold fB at hg; rw [Nat.add_comm, Nat.pow_add] at hg; exact hg
    have hexp2 : 2 ^ fE f ≤ 2 ^ 11 := Nat.pow_le_pow_right (by decide) (by omega)
    have hn : nn f a = gg f a % 2 ^ fP f + 2 ^ fP f := by unfold nn nG; rw [if_pos h, if_neg c, Nat.add_comm]
    have he : e2 f a = ((gg f a / 2 ^ fP f : Nat) : Int) - 1 + fL f := by unfold e2 ee eG; rw [if_pos h, if_pos h, if_neg c]
    have e1 : bOr .u64 ((gg f a % 2 ^ fP f : Nat) : Int) (shl .u64 1 ((fP f : Nat) : Int)) = ((gg f a % 2 ^ fP f + 2 ^ fP f : Nat) : Int) := bit_or hM (by omega)
    have ew : Wi64 (Wi64 (Wi64 ((gg f a / 2 ^ fP f : Nat) : Int) - 1) + fL f) = ((gg f a / 2 ^ fP f : Nat) : Int) - 1 + fL f := by
      rw [Wi64_nat (by omega), wrap_i64 (x := ((gg f a / 2 ^ fP f : Nat) : Int) - 1) (by omega) (by omega), wrap_i64 (by omega) (by omega)]
    rw [decide_eq_true (show ((gg f a / 2 ^ fP f : Nat) : Int) > 0 by omega), cond_true, low_bits (by omega) (by omega), e1, ew, hn, he]

/-- A float in another format. -/
def TurnS (f g m : Int) (a : Nat) : Nat := if kd f a = 0 then NAN g else if kd f a = 1 then sg g (bw f a) + fI g else Rd g m (bw f a) (nn f a) (e2 f a) false

theorem cturned_k {R : Type} (k : Nat) (f g m : Int) {a : Nat} (ha : a < 2 ^ 64) (K : Int → Option R) : conv_turned k f g m (a : Int) K = K ((TurnS f g m a : Nat) : Int) := by
  unfold conv_turned conv_turnedT TurnS
  have hb := e2_bnd f a
  have n1 := nn_lt64 f a
  have hI := fB_double g
  have hIp : 0 < fI g := Nat.lt_of_le_of_lt (Nat.zero_le _) (fI_pos g)
  rw [Finite_k k f ha]
  rcases kd_vals f a with h | h | h | h
  · have e : FinS f a = false := by unfold FinS; rw [h]; rfl
    have c : (ClassS f a != 4) = true := by rw [bne_iff_ne]; intro hh; have := (Class_kd f a).2.1.1 hh; omega
    rw [e, Bool.not_false, cond_true, Class_k k f ha, c, cond_true, Nan_k, if_pos h]
  · have e : FinS f a = false := by unfold FinS; rw [h]; rfl
    have c : (ClassS f a != 4) = false := by rw [(Class_kd f a).2.1.2 h]; rfl
    have w : Wu64 (((fI g - 1 : Nat) : Int) + 1) = ((fI g : Nat) : Int) := by
      rw [show ((fI g - 1 : Nat) : Int) + 1 = ((fI g : Nat) : Int) by omega, Wu64_lt (by omega)]
    rw [e, Bool.not_false, cond_true, Class_k k f ha, c, cond_false, Most_k, cbelow_k k f ha (bad_of_kd (by rw [h]; decide)), w, if_neg (by omega), if_pos h]
    have hN := Neg_sg (f := g) false (x := fI g) (Nat.le_refl _)
    have z : sg g false = 0 := rfl
    rw [z, Nat.zero_add] at hN
    cases bw f a with
    | true => rw [cond_true, Neg_k k g (by omega), hN]; rfl
    | false => rw [cond_false, z, Nat.zero_add]
  · have e : FinS f a = true := by unfold FinS; rw [h]; rfl
    rw [e, Bool.not_true, cond_false, cvalue_k k f ha (by omega), cbelow_k k f ha (bad_of_kd (by rw [h]; decide)), Round64 k g m _ (by omega) (by omega) (by omega), if_neg (by omega), if_neg (by omega)]
  · have e : FinS f a = true := by unfold FinS; rw [h]; rfl
    rw [e, Bool.not_true, cond_false, cvalue_k k f ha (by omega), cbelow_k k f ha (bad_of_kd (by rw [h]; decide)), Round64 k g m _ (by omega) (by omega) (by omega), if_neg (by omega), if_neg (by omega)]

theorem TurnS_lt (f g m : Int) (a : Nat) : TurnS f g m a < 2 ^ 64 := by
  unfold TurnS
  split
  · exact NAN_lt64 g
  · split
    · exact form_lt ⟨_, _, Nat.le_refl _, rfl⟩
    · exact form_lt ⟨_, Rd_form ..⟩

def PlainS (f : Int) (a : Nat) : Nat := if kd f a = 0 then NAN f else if kd f a = 2 then 0 else a

theorem cPlain_k {R : Type} (k : Nat) (f : Int) {a : Nat} (ha : a < 2 ^ 64) (K : Int → Option R) : conv_Plain k f (a : Int) K = K ((PlainS f a : Nat) : Int) := by
  unfold conv_Plain conv_PlainT PlainS
  obtain ⟨c0, c1, c2, c3⟩ := Class_kd f a
  rw [Class_k k f ha, Nan_k]
  by_cases h : kd f a = 0
  · rw [if_pos h]
    rcases c0.2 h with e | e
    · rw [e, show ((5 : Int) == 0) = false from rfl, cond_false, show ((5 : Int) == 5) = true from rfl, cond_true]
    · rw [e, show ((0 : Int) == 0) = true from rfl, cond_true]
  · have d0 : (ClassS f a == 0) = false := by rw [beq_eq_false_iff_ne]; exact fun e => h (c0.1 (.inr e))
    have d5 : (ClassS f a == 5) = false := by rw [beq_eq_false_iff_ne]; exact fun e => h (c0.1 (.inl e))
    rw [if_neg h, d0, cond_false, d5, cond_false]
    by_cases h2 : kd f a = 2
    · rw [c2.2 h2, if_pos h2]; rfl
    · have d1 : (ClassS f a == 1) = false := by rw [beq_eq_false_iff_ne]; exact fun e => h2 (c2.1 e)
      rw [d1, cond_false, if_neg h2]

theorem PlainS_lt (f : Int) {a : Nat} (ha : a < 2 ^ 64) : PlainS f a < 2 ^ 64 := by
  unfold PlainS; split
  · exact NAN_lt64 f
  · split
    · decide
    · exact ha

def NextS (f : Int) (a : Nat) : Nat := if kd f a < 2 then NAN f else if kd f a = 2 then 1 else if bw f a = true then PlainS f (a - 1) else if a = fI f - 1 then a else a + 1

theorem kd3_pos {f : Int} {a : Nat} (h : kd f a = 3) : 0 < a := by
  refine Nat.pos_of_ne_zero fun h0 => ?_
  have := (kd3 h).2.1
  rw [h0] at this
  unfold gg at this
  rw [Nat.zero_mod] at this
  omega

theorem Plain3 {f : Int} {a : Nat} (h : kd f a = 3) : PlainS f a = a := by unfold PlainS; rw [if_neg (by omega), if_neg (by omega)]

theorem bw_pos {f : Int} {a : Nat} (h : bw f a = true) : fB f ≤ a := by
  unfold bw at h; split at h
  · cases h
  · simpa using h

theorem kd3_above {f : Int} {a : Nat} (ha : a < 2 ^ 64) (h : kd f a = 3) (hb : bw f a = false) : a < fI f := by
  have h3 := kd3 h
  have := parts_of ha h3.1
  rw [hb] at this
  have z : sg f false = 0 := rfl
  omega

theorem NextS_lt (f : Int) {a : Nat} (ha : a < 2 ^ 64) : NextS f a < 2 ^ 64 := by
  have hI := fB_double f
  unfold NextS
  split
  · exact NAN_lt64 f
  · split
    · decide
    · split
      · exact PlainS_lt f (by omega)
      · split
        · exact ha
        · rename_i h1 h2 h3 h4
          have : kd f a = 3 := by rcases kd_vals f a with h | h | h | h <;> omega
          have := kd3_above ha this (by simpa using h3)
          omega

def PrevS (f : Int) (a : Nat) : Nat := if kd f a < 2 then NAN f else PlainS f (NegS f (NextS f (NegS f a)))

/-- An int as a float. -/
def FromS (f m : Int) (n : Int) : Nat := Rd f m (decide (n < 0)) n.natAbs 0 false

theorem cFromInt_k {R : Type} (k : Nat) (f m : Int) {n : Int} (hn : -9223372036854775808 ≤ n ∧ n ≤ 9223372036854775807) (K : Int → Option R) : conv_FromInt k f m n K = K ((FromS f m n : Nat) : Int) := by
  unfold conv_FromInt conv_FromIntT FromS
  by_cases h : n < 0
  · have w : Wu64 (0 - Wu64 n) = ((n.natAbs : Nat) : Int) := by unfold Wu64; rw [wrap_u64, wrap_u64]; omega
    rw [decide_eq_true h, cond_true, w, Round64 k f m _ (by omega) (by omega) (by omega)]
  · have w : Wu64 n = ((n.natAbs : Nat) : Int) := by unfold Wu64; rw [wrap_u64]; omega
    rw [decide_eq_false h, cond_false, w, Round64 k f m _ (by omega) (by omega) (by omega)]

theorem FromS_lt (f m n : Int) : FromS f m n < 2 ^ 64 := form_lt ⟨_, Rd_form ..⟩

end Go.Proofs.Ytejfnbjhcohkiaa.N

/- Floats: the lowest ones. Conditions: none. -/
namespace Go.Proofs.Ytejfnbjhcohkiaa.N
set_option linter.unusedVariables false
set_option linter.unusedSimpArgs false
open Go Go.Ab

theorem nG_small {f : Int} {g : Nat} (h : g < 2 ^ (fP f + 1)) : nG f g = g ∧ eG f g = fL f := by
  have hp := fP_pos f
  rw [Nat.pow_succ] at h
  unfold nG eG
  by_cases c : g < 2 ^ fP f
  · rw [if_pos c, if_pos c]; exact ⟨rfl, rfl⟩
  · rw [if_neg c, if_neg c]
    have h1 : g / 2 ^ fP f = 1 := Nat.div_eq_of_lt_le (by omega) (by omega)
    have h2 := Nat.div_add_mod g (2 ^ fP f)
    rw [h1, Nat.mul_one] at h2
    rw [h1]
    refine ⟨by omega, by omega⟩

theorem fI_two (f : Int) : 2 ^ (fP f + 1) < fI f := by
  rcases fmt f with ⟨_, h1, h2, h3⟩ | ⟨_, h1, h2, h3⟩ <;> unfold fI <;> rw [h1, h2] <;> decide

end Go.Proofs.Ytejfnbjhcohkiaa.N

/- Package conv: floats as ints. Conditions: none. -/
namespace Go.Proofs.Ytejfnbjhcohkiaa.N
set_option linter.unusedVariables false
set_option linter.unusedSimpArgs false
open Go Go.Ab

/-- A finite float without its places. -/
def truncN (f : Int) (a : Nat) : Nat := if e2 f a ≤ 0 then nn f a / 2 ^ (-(e2 f a)).toNat else nn f a * 2 ^ (e2 f a).toNat
def ToS (f : Int) (a : Nat) : Int × Bool :=
  if kd f a < 2 then (0, false) else if 2 ^ 31 < truncN f a ∨ (truncN f a = 2 ^ 31 ∧ bw f a = false) then (0, false) else (if bw f a = true then -((truncN f a : Nat) : Int) else ((truncN f a : Nat) : Int), true)

theorem cto_fin {R : Type} (N : Nat) (b : Bool) (hN : N < 2 ^ 64) (K : Int → Bool → Option R) (below : (Bool → Option R) → Option R) (hb : ∀ J, below J = J b) :
    (cond (decide ((N : Int) > 2147483648)) (K 0 false) (below (fun r7 => cond r7
      (cond (decide ((Wi64 (0 - (Wi64 (N : Int)))) > 2147483647)) (K 0 false) (K (Wi64 (0 - (Wi64 (N : Int)))) true))
      (cond (decide ((Wi64 (N : Int)) > 2147483647)) (K 0 false) (K (Wi64 (N : Int)) true))))) =
    (fun p : Int × Bool => K p.1 p.2) (if 2 ^ 31 < N ∨ (N = 2 ^ 31 ∧ b = false) then (0, false) else (if b = true then -((N : Nat) : Int) else ((N : Nat) : Int), true)) := by
  by_cases h : 2 ^ 31 < N
  · rw [decide_eq_true (by omega), cond_true, if_pos (.inl h)]
  · have w1 : Wi64 (N : Int) = (N : Int) := wrap_i64 (by omega) (by omega)
    have w2 : Wi64 (0 - (N : Int)) = -(N : Int) := by rw [wrap_i64 (by omega) (by omega)]; omega
    rw [decide_eq_false (by omega), cond_false, hb, w1, w2]
    cases b with
    | true => rw [cond_true, decide_eq_false (by omega), cond_false, if_neg (fun hh => hh.elim h (fun q => by cases q.2)), if_pos rfl]
    | false =>
      rw [cond_false]
      by_cases h2 : N = 2 ^ 31
      · rw [decide_eq_true (by omega), cond_true, if_pos (.inr ⟨h2, rfl⟩)]
      · rw [decide_eq_false (by omega), cond_false, if_neg (fun hh => hh.elim h (fun q => h2 q.1)), if_neg (by decide)]

theorem Shr_c {R : Type} (k : Nat) {X : Nat} {n : Int} (h : X < 2 ^ 64) (hn : (Lit.int .i64 n).wf = true) (h0 : 0 ≤ n) (K : Int → Int → Bool → Option R) :
    ∃ x, wide_Shr k 0 (X : Int) n K = K 0 ((X / 2 ^ n.toNat : Nat) : Int) x := by
  have := Shr_hl k (A := X) (n := n) (by omega) hn K
  rw [hi_small h, lo_small h] at this
  have hq : X / 2 ^ n.toNat < 2 ^ 64 := Nat.lt_of_le_of_lt (Nat.div_le_self _ _) h
  rw [hi_small hq, lo_small hq] at this
  exact ⟨_, this⟩

theorem kd3_nn {f : Int} {a : Nat} (h : kd f a = 3) (he : fL f < e2 f a) : 2 ^ 23 ≤ nn f a := by
  have h1 : 2 ^ 23 ≤ 2 ^ fP f := Nat.pow_le_pow_right (by decide) (fmt_le f).1
  unfold e2 ee at he
  rw [if_pos h, if_pos h] at he
  unfold nn
  rw [if_pos h]
  unfold eG at he; unfold nG
  split at he
  · omega
  · rename_i c; rw [if_neg c]; omega

theorem cToInt_k {R : Type} (k : Nat) (f : Int) {a : Nat} (ha : a < 2 ^ 64) (K : Int → Bool → Option R) : conv_ToInt k f (a : Int) K = K (ToS f a).1 (ToS f a).2 := by
  unfold conv_ToInt conv_ToIntT ToS
  have hf := fmt_le f
  have hb := e2_bnd f a
  have n1 := nn_lt64 f a
  rw [Finite_k k f ha]
  by_cases h : kd f a < 2
  · have e : FinS f a = false := by unfold FinS; exact decide_eq_false (by omega)
    rw [e, Bool.not_false, cond_true, if_pos h]
  · have e : FinS f a = true := by unfold FinS; exact decide_eq_true (by omega)
    have hbl := fun J : Bool → Option R => cbelow_k (R := R) k f ha (bad_of_kd (f := f) (a := a) (by omega)) J
    rw [e, Bool.not_true, cond_false, cvalue_k k f ha (by omega), if_neg h]
    unfold truncN
    by_cases c1 : e2 f a ≤ 0
    · have w : Wi64 (0 - e2 f a) = ((-(e2 f a)).toNat : Int) := by rw [wrap_i64 (by omega) (by omega)]; omega
      rw [decide_eq_true c1, cond_true, if_pos c1, w]
      have hq : nn f a / 2 ^ (-(e2 f a)).toNat < 2 ^ 64 := Nat.lt_of_le_of_lt (Nat.div_le_self _ _) (by omega)
      obtain ⟨x, hx⟩ := Shr_c (R := R) k (X := nn f a) (n := ((-(e2 f a)).toNat : Int)) (by omega) (wf_nat (by omega)) (by omega) (fun r4 r5 r6 =>
            cond (decide (r5 > 2147483648)) (
              K 0 false) (
              conv_below k f (a : Int) (fun r7 =>
                cond r7 (
                  cond (decide ((Wi64 (0 - (Wi64 r5))) > 2147483647)) (
                    K 0 false) (
                    K (Wi64 (0 - (Wi64 r5))) true)) (
                  cond (decide ((Wi64 r5) > 2147483647)) (
                    K 0 false) (
                    K (Wi64 r5) true)))))
      rw [hx, Int.toNat_natCast]
      exact cto_fin _ (bw f a) hq K _ hbl
    · rw [decide_eq_false c1, cond_false, if_neg c1]
      have h3 : kd f a = 3 := by
        rcases kd_vals f a with h' | h' | h' | h'
        · omega
        · omega
        · exfalso; unfold e2 at c1; rw [h'] at c1; simp at c1; omega
        · exact h'
      have hn := kd3_nn h3 (by omega)
      by_cases c2 : e2 f a < 11
      · have hs : shl .u64 ((nn f a : Nat) : Int) (e2 f a) = ((nn f a * 2 ^ (e2 f a).toNat : Nat) : Int) := by
          have e3 : e2 f a = ((e2 f a).toNat : Int) := by omega
          have hp : 2 ^ (e2 f a).toNat ≤ 2 ^ 10 := Nat.pow_le_pow_right (by decide) (by omega)
          have hm := Nat.mul_le_mul (show nn f a ≤ 2 ^ 53 by omega) hp
          rw [← Nat.pow_add] at hm
          rw [e3, shl_pow (by omega) (Nat.lt_of_le_of_lt hm (by decide)), ← e3]
        have hlt : nn f a * 2 ^ (e2 f a).toNat < 2 ^ 64 := by
          have hp : 2 ^ (e2 f a).toNat ≤ 2 ^ 10 := Nat.pow_le_pow_right (by decide) (by omega)
          have hm := Nat.mul_le_mul (show nn f a ≤ 2 ^ 53 by omega) hp
          rw [← Nat.pow_add] at hm
          exact Nat.lt_of_le_of_lt hm (by decide)
        rw [decide_eq_true c2, cond_true, decide_eq_false (by omega), cond_false, hs]
        exact cto_fin _ (bw f a) hlt K _ hbl
      · have hlt : 2 ^ 31 < nn f a * 2 ^ (e2 f a).toNat := by
          have hp : 2 ^ 11 ≤ 2 ^ (e2 f a).toNat := Nat.pow_le_pow_right (by decide) (by omega)
          have hm := Nat.mul_le_mul hn hp
          rw [← Nat.pow_add] at hm
          exact Nat.lt_of_lt_of_le (by decide) hm
        rw [decide_eq_false c2, cond_false, decide_eq_true (by omega), cond_true, if_pos (.inl hlt)]

end Go.Proofs.Ytejfnbjhcohkiaa.N

/- A number that a Double has room for is a Double. Conditions: none. -/
namespace Go.Proofs.Ytejfnbjhcohkiaa.N
set_option linter.unusedVariables false
set_option linter.unusedSimpArgs false
open Go Go.Ab

theorem dbl_exact {N : Nat} {e : Int} (h0 : 0 < N) (hN : N < 2 ^ 53) (he : -1000 ≤ e) (he2 : e ≤ 900) :
    ∃ g, 0 < g ∧ g < fI 0 ∧ nG 0 g = N * 2 ^ (53 - bl N) ∧ eG 0 g = e - ((53 - bl N : Nat) : Int) ∧ ∀ m s, Rd 0 m s N e false = sg 0 s + g := by
  have b1 := bl_pos h0
  have b2 : bl N ≤ 53 := bl_le_iff.2 hN
  obtain ⟨j, hj⟩ : ∃ j, j = 53 - bl N := ⟨_, rfl⟩
  obtain ⟨M, hM⟩ : ∃ M, M = N * 2 ^ j := ⟨_, rfl⟩
  have hl : 2 ^ 52 ≤ M := by
    have := Nat.mul_le_mul_right (2 ^ j) (bl_low h0)
    rw [← Nat.pow_add, show bl N - 1 + j = 52 by omega, ← hM] at this
    exact this
  have hu : M < 2 ^ 53 := by
    have := (Nat.mul_lt_mul_right (Nat.two_pow_pos j)).2 (bl_up N)
    rw [← Nat.pow_add, show bl N + j = 53 by omega, ← hM] at this
    exact this
  obtain ⟨x, hx⟩ : ∃ x : Nat, (x : Int) = e - (j : Int) + 1075 := ⟨(e - (j : Int) + 1075).toNat, by omega⟩
  have x1 : 1 ≤ x := by omega
  have x2 : x ≤ 2000 := by omega
  obtain ⟨g, hg⟩ : ∃ g, g = x * 2 ^ 52 + (M - 2 ^ 52) := ⟨_, rfl⟩
  have hr : M - 2 ^ 52 < 2 ^ 52 := by omega
  have gd : g / 2 ^ 52 = x := by
    rw [hg, Nat.mul_comm, Nat.mul_add_div (by decide), Nat.div_eq_of_lt hr, Nat.add_zero]
  have gm : g % 2 ^ 52 = M - 2 ^ 52 := by
    rw [hg, Nat.mul_comm, Nat.mul_add_mod, Nat.mod_eq_of_lt hr]
  have hP : fP 0 = 52 := rfl
  have hL : fL 0 = -1074 := rfl
  have hI : fI 0 = 2047 * 2 ^ 52 := by decide
  have hge : ¬ g < 2 ^ 52 := by omega
  have hlt : g < fI 0 := by omega
  have n1 : nG 0 g = M := by unfold nG; rw [hP, if_neg hge, gm]; omega
  have n2 : eG 0 g = e - (j : Int) := by unfold eG; rw [hP, hL, if_neg hge, gd]; omega
  refine ⟨g, by omega, hlt, ?_, ?_, fun m s => ?_⟩
  · rw [n1, hM, hj]
  · rw [n2, hj]
  · have := Rd_G 0 m s (g := g) (by omega) hlt
    rw [n1, n2, hM, Rd_scale] at this
    exact this

/-- A float of this sign and rest. -/
theorem sgp {f : Int} (s : Bool) {x : Nat} (h0 : 0 < x) (h : x < fI f) : kd f (sg f s + x) = 3 ∧ bw f (sg f s + x) = s ∧ nn f (sg f s + x) = nG f x ∧ ee f (sg f s + x) = eG f x := by
  have hB := (fB_double f).2
  have hk : kd f (sg f s + x) = 3 := by
    rw [kd_sg s (by omega), if_neg (by omega), if_neg (by omega), if_neg (by omega)]
  have hg := gg_sg (f := f) s (x := x) (by omega)
  refine ⟨hk, hg.2.1, ?_, ?_⟩
  · unfold nn; rw [if_pos hk, hg.1]
  · unfold ee; rw [if_pos hk, hg.1]

theorem sg0 {f : Int} (s : Bool) : kd f (sg f s) = 2 ∧ bw f (sg f s) = s := by
  have hB := fB_double f
  have hI : 0 < fI f := Nat.lt_of_le_of_lt (Nat.zero_le _) (fI_pos f)
  have h1 := gg_sg (f := f) s (x := 0) (by omega)
  have h2 := kd_sg (f := f) s (x := 0) (by omega)
  rw [Nat.add_zero, if_neg (by omega), if_neg (by omega), if_pos rfl] at h2
  rw [Nat.add_zero] at h1
  exact ⟨h2, h1.2.1⟩

theorem sgI {f : Int} (s : Bool) : kd f (sg f s + fI f) = 1 ∧ bw f (sg f s + fI f) = s := by
  have hB := fB_double f
  have h1 := gg_sg (f := f) s (x := fI f) (by omega)
  have h2 := kd_sg (f := f) s (x := fI f) (by omega)
  rw [if_neg (by omega), if_pos rfl] at h2
  exact ⟨h2, h1.2.1⟩

theorem gg_I {f : Int} {a : Nat} (h : kd f a = 1) : gg f a = fI f := by
  unfold kd at h
  split at h
  · cases h
  · split at h
    · cases h
    · split at h
      · assumption
      · split at h <;> cases h

end Go.Proofs.Ytejfnbjhcohkiaa.N

/- Whole numbers as Doubles: sums, differences and products are exact. Conditions: none. -/
namespace Go.Proofs.Ytejfnbjhcohkiaa.N
set_option linter.unusedVariables false
set_option linter.unusedSimpArgs false
open Go Go.Ab

/-- A whole number, nearest. -/
def intF (n : Int) : Nat := Rd 0 0 (decide (n < 0)) n.natAbs 0 false

theorem Rd_nilF (f m : Int) (s : Bool) (e : Int) : Rd f m s 0 e false = sg f s := by unfold Rd; rw [if_pos ⟨rfl, rfl⟩]

/-- Its parts. -/
theorem intF_parts {n : Int} (h : n.natAbs < 2 ^ 53) : (n = 0 ∧ intF n = 0 ∧ kd 0 (intF n) = 2 ∧ bw 0 (intF n) = false ∧ nn 0 (intF n) = 0) ∨
    (n ≠ 0 ∧ kd 0 (intF n) = 3 ∧ bw 0 (intF n) = decide (n < 0) ∧ ∃ j : Nat, j ≤ 53 ∧ nn 0 (intF n) = n.natAbs * 2 ^ j ∧ ee 0 (intF n) = -(j : Int)) := by
  by_cases c : n = 0
  · subst c
    have e : intF 0 = 0 := by unfold intF; rw [show (0 : Int).natAbs = 0 from rfl, Rd_nilF]; rfl
    have z := sg0 (f := 0) false
    rw [show sg 0 false = 0 from rfl] at z
    rw [e]
    exact .inl ⟨rfl, rfl, z.1, z.2, (nn_zero (by rw [z.1]; decide)).1⟩
  · obtain ⟨g, g0, gI, g1, g2, g3⟩ := dbl_exact (N := n.natAbs) (e := 0) (by omega) h (by decide) (by decide)
    have e : intF n = sg 0 (decide (n < 0)) + g := g3 0 _
    obtain ⟨i1, i2, i3, i4⟩ := sgp (f := 0) (decide (n < 0)) g0 gI
    rw [e]
    exact .inr ⟨c, i1, i2, 53 - bl n.natAbs, by omega, by rw [i3, g1], by rw [i4, g2]; omega⟩

theorem intF_lt (n : Int) : intF n < 2 ^ 64 := form_lt ⟨_, Rd_form ..⟩

theorem addF {x y : Nat} (h1 : 2 ≤ kd 0 x) (h2 : 2 ≤ kd 0 y) : AddS 0 0 x y = AddX 0 0 (bw 0 x) (nn 0 x) (ee 0 x) (bw 0 y) (nn 0 y) (ee 0 y) := by
  unfold AddS
  rw [if_neg (by omega), if_neg (by omega), if_neg (by omega)]

/-- Two at their places: the sum of whole numbers. -/
theorem sumX {a b : Int} (ha : a ≠ 0) (hb : b ≠ 0) (i j : Nat) : AddX 0 0 (decide (a < 0)) (a.natAbs * 2 ^ i) (-(i : Int)) (decide (b < 0)) (b.natAbs * 2 ^ j) (-(j : Int)) = intF (a + b) := by
  obtain ⟨J, hJ⟩ : ∃ J, J = max i j := ⟨_, rfl⟩
  have hl : min (-(i : Int)) (-(j : Int)) = -(J : Int) := by omega
  have u : a.natAbs * 2 ^ i * 2 ^ (-(i : Int) - -(J : Int)).toNat = a.natAbs * 2 ^ J := by
    rw [Nat.mul_assoc, ← Nat.pow_add]; congr 2; omega
  have v : b.natAbs * 2 ^ j * 2 ^ (-(j : Int) - -(J : Int)).toNat = b.natAbs * 2 ^ J := by
    rw [Nat.mul_assoc, ← Nat.pow_add]; congr 2; omega
  have sc0 : ∀ (s : Bool) (N : Nat), Rd 0 0 s (N * 2 ^ J) (-(J : Int)) false = Rd 0 0 s N 0 false := by
    intro s N
    have := Rd_scale 0 0 s N 0 J
    rw [Int.zero_sub] at this
    exact this
  have hp := Nat.two_pow_pos J
  unfold AddX
  dsimp only
  rw [hl, u, v]
  by_cases c : decide (a < 0) = decide (b < 0)
  · rw [if_pos c, ← Nat.add_mul, sc0]
    have c' : (a < 0 ↔ b < 0) := by rwa [decide_eq_decide] at c
    unfold intF
    rw [show decide (a + b < 0) = decide (a < 0) from by rw [decide_eq_decide]; omega, show (a + b).natAbs = a.natAbs + b.natAbs by omega]
  · have c' : ¬ (a < 0 ↔ b < 0) := by rwa [decide_eq_decide] at c
    rw [if_neg c]
    by_cases e : a.natAbs = b.natAbs
    · rw [e, if_pos rfl]
      have : a + b = 0 := by omega
      rw [this]
      unfold intF
      rw [show (0 : Int).natAbs = 0 from rfl, Rd_nilF]; rfl
    · have ne : a.natAbs * 2 ^ J ≠ b.natAbs * 2 ^ J := fun q => e (Nat.eq_of_mul_eq_mul_right hp q)
      rw [if_neg ne]
      by_cases g : b.natAbs < a.natAbs
      · have : b.natAbs * 2 ^ J < a.natAbs * 2 ^ J := (Nat.mul_lt_mul_right hp).2 g
        rw [if_pos this, ← Nat.sub_mul, sc0]
        unfold intF
        rw [show decide (a + b < 0) = decide (a < 0) from by rw [decide_eq_decide]; omega, show (a + b).natAbs = a.natAbs - b.natAbs by omega]
      · have : ¬ b.natAbs * 2 ^ J < a.natAbs * 2 ^ J := fun q => g ((Nat.mul_lt_mul_right hp).1 q)
        rw [if_neg this, ← Nat.sub_mul, sc0]
        unfold intF
        rw [show decide (a + b < 0) = decide (b < 0) from by rw [decide_eq_decide]; omega, show (a + b).natAbs = b.natAbs - a.natAbs by omega]

theorem add_int {a b : Int} (ha : a.natAbs < 2 ^ 53) (hb : b.natAbs < 2 ^ 53) : AddS 0 0 (intF a) (intF b) = intF (a + b) := by
  have la := intF_lt a; have lb := intF_lt b
  rcases intF_parts ha with ⟨a0, a1, a2, a3, a4⟩ | ⟨a0, a1, a2, i, a3, a4, a5⟩ <;> rcases intF_parts hb with ⟨b0, b1, b2, b3, b4⟩ | ⟨b0, b1, b2, j, b3, b4, b5⟩
  · have z : intF (a + b) = 0 := by
      rw [a0, b0]; unfold intF; rw [show ((0 : Int) + 0).natAbs = 0 from rfl, Rd_nilF]; rfl
    rw [z, addF (by omega) (by omega), a3, a4, b3, b4]
    unfold AddX
    simp only [Nat.zero_mul, Nat.add_zero, if_true]
    rw [Rd_nilF]; rfl
  · rw [addF (by omega) (by omega), a3, a4, AddX_zero _ _ _ _ _ _ _ (nn_bounds b1).1, Rd_self 0 lb b1, a0, Int.zero_add]
  · rw [addF (by omega) (by omega), b3, b4, AddX_comm, AddX_zero _ _ _ _ _ _ _ (nn_bounds a1).1, Rd_self 0 la a1, b0, Int.add_zero]
  · rw [addF (by omega) (by omega), a2, b2, a4, a5, b4, b5, sumX a0 b0]

/-- The other sign. -/
theorem neg_int {b : Int} (hb : b.natAbs < 2 ^ 53) (h : b ≠ 0) : NegS 0 (intF b) = intF (-b) := by
  obtain ⟨g, g0, gI, g1, g2, g3⟩ := dbl_exact (N := b.natAbs) (e := 0) (by omega) hb (by decide) (by decide)
  have e : intF b = sg 0 (decide (b < 0)) + g := g3 0 _
  have e' : intF (-b) = sg 0 (decide (-b < 0)) + g := by
    unfold intF
    rw [show (-b).natAbs = b.natAbs by omega]; exact g3 0 _
  rw [e, e', Neg_sg _ (by omega)]
  congr 2
  by_cases c : b < 0
  · rw [decide_eq_true c, decide_eq_false (by omega)]; rfl
  · rw [decide_eq_false c, decide_eq_true (by omega)]; rfl

theorem sub_int {a b : Int} (ha : a.natAbs < 2 ^ 53) (hb : b.natAbs < 2 ^ 53) : AddS 0 0 (intF a) (NegS 0 (intF b)) = intF (a - b) := by
  by_cases h : b = 0
  · subst h
    have la := intF_lt a
    rw [Int.sub_zero]
    have z : intF 0 = 0 := by unfold intF; rw [show (0 : Int).natAbs = 0 from rfl, Rd_nilF]; rfl
    have hn : NegS 0 (intF 0) = sg 0 true := by
      have := Neg_sg (f := 0) false (x := 0) (Nat.zero_le _)
      rw [z]; exact this
    have p := sg0 (f := 0) true
    have pn := (nn_zero (f := 0) (a := sg 0 true) (by rw [p.1]; decide)).1
    rw [hn]
    rcases intF_parts ha with ⟨a0, a1, a2, a3, a4⟩ | ⟨a0, a1, a2, i, a3, a4, a5⟩
    · rw [addF (by omega) (by omega), a3, a4, p.2, pn]
      unfold AddX
      simp only [Nat.zero_mul, Bool.false_eq_true, if_false, if_true]
      rw [a1]; rfl
    · rw [addF (by omega) (by omega), p.2, pn, AddX_comm, AddX_zero _ _ _ _ _ _ _ (nn_bounds a1).1, Rd_self 0 la a1]
  · rw [neg_int hb h, add_int ha (by omega), Int.sub_eq_add_neg]

/-- A product: exact, or 0 of either sign. -/
theorem mul_int {a b : Int} (ha : a.natAbs < 2 ^ 53) (hb : b.natAbs < 2 ^ 53) : MulS 0 0 (intF a) (intF b) = intF (a * b) ∨ (a * b = 0 ∧ ∃ s, MulS 0 0 (intF a) (intF b) = sg 0 s) := by
  rcases intF_parts ha with ⟨a0, a1, a2, a3, a4⟩ | ⟨a0, a1, a2, i, a3, a4, a5⟩ <;> rcases intF_parts hb with ⟨b0, b1, b2, b3, b4⟩ | ⟨b0, b1, b2, j, b3, b4, b5⟩
  · refine .inr ⟨by rw [a0, Int.zero_mul], bw 0 (intF a) != bw 0 (intF b), ?_⟩
    unfold MulS; rw [if_neg (by omega), if_neg (by omega), a4, Nat.zero_mul, Rd_nilF]
  · refine .inr ⟨by rw [a0, Int.zero_mul], bw 0 (intF a) != bw 0 (intF b), ?_⟩
    unfold MulS; rw [if_neg (by omega), if_neg (by omega), a4, Nat.zero_mul, Rd_nilF]
  · refine .inr ⟨by rw [b0, Int.mul_zero], bw 0 (intF a) != bw 0 (intF b), ?_⟩
    unfold MulS; rw [if_neg (by omega), if_neg (by omega), b4, Nat.mul_zero, Rd_nilF]
  · left
    unfold MulS
    rw [if_neg (by omega), if_neg (by omega), a2, b2, a4, a5, b4, b5]
    have e1 : a.natAbs * 2 ^ i * (b.natAbs * 2 ^ j) = (a * b).natAbs * 2 ^ (i + j) := by
      rw [Int.natAbs_mul, Nat.mul_mul_mul_comm, ← Nat.pow_add]
    have e2 : -(i : Int) + -(j : Int) = 0 - ((i + j : Nat) : Int) := by omega
    rw [e1, e2, Rd_scale]
    unfold intF
    congr 1
    by_cases c1 : a < 0 <;> by_cases c2 : b < 0
    · have : 0 < a * b := Int.mul_pos_of_neg_of_neg c1 c2
      rw [decide_eq_true c1, decide_eq_true c2, decide_eq_false (by omega)]; rfl
    · have : a * b < 0 := Int.mul_neg_of_neg_of_pos c1 (by omega)
      rw [decide_eq_true c1, decide_eq_false c2, decide_eq_true this]; rfl
    · have : a * b < 0 := Int.mul_neg_of_pos_of_neg (by omega) c2
      rw [decide_eq_false c1, decide_eq_true c2, decide_eq_true this]; rfl
    · have : 0 < a * b := Int.mul_pos (by omega) (by omega)
      rw [decide_eq_false c1, decide_eq_false c2, decide_eq_false (by omega)]; rfl

end Go.Proofs.Ytejfnbjhcohkiaa.N
