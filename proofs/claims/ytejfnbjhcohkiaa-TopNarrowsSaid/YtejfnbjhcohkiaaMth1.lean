/- A format that is none counts as a Double. Conditions: none. -/
import Derived.Test.YtejfnbjhcohkiaaMs
import Derived.Test.YtejfnbjhcohkiaaMt
import Derived.Test.YtejfnbjhcohkiaaNlaw
import Derived.Test.YtejfnbjhcohkiaaMd
import Derived.Test.YtejfnbjhcohkiaaNconv
namespace Go.Proofs.Ytejfnbjhcohkiaa.N
set_option linter.unusedVariables false
set_option linter.unusedSimpArgs false
open Go Go.Ab

/-- A format that is one. -/
def fm (f : Int) : Int := if f = 1 then 1 else 0
theorem fm_P (f : Int) : fP (fm f) = fP f ∧ fE (fm f) = fE f ∧ fL (fm f) = fL f ∧ (fm f = 1 ↔ f = 1) := by
  unfold fm fP fE fL
  by_cases h : f = 1 <;> simp [h]
theorem fP_fm (f : Int) : fP (fm f) = fP f := (fm_P f).1
theorem fE_fm (f : Int) : fE (fm f) = fE f := (fm_P f).2.1
theorem fL_fm (f : Int) : fL (fm f) = fL f := (fm_P f).2.2.1
theorem bad_fm (f : Int) (a : Nat) : bad (fm f) a = bad f a := by unfold bad; rw [Bool.eq_iff_iff]; simp only [decide_eq_true_eq, (fm_P f).2.2.2]
theorem fB_fm (f : Int) : fB (fm f) = fB f := by unfold fB; rw [fP_fm, fE_fm]
theorem fI_fm (f : Int) : fI (fm f) = fI f := by unfold fI; rw [fP_fm, fE_fm]
theorem sg_fm (f : Int) (b : Bool) : sg (fm f) b = sg f b := by unfold sg; rw [fB_fm]
theorem NAN_fm (f : Int) : NAN (fm f) = NAN f := by unfold NAN; rw [fI_fm, fP_fm]
theorem gg_fm (f : Int) (a : Nat) : gg (fm f) a = gg f a := by unfold gg; rw [fB_fm]
theorem kd_fm (f : Int) (a : Nat) : kd (fm f) a = kd f a := by unfold kd; rw [bad_fm, fI_fm, gg_fm]
theorem bw_fm (f : Int) (a : Nat) : bw (fm f) a = bw f a := by unfold bw; rw [bad_fm, fB_fm]
theorem nn_fm (f : Int) (a : Nat) : nn (fm f) a = nn f a := by unfold nn nG; rw [kd_fm, gg_fm, fP_fm]
theorem ee_fm (f : Int) (a : Nat) : ee (fm f) a = ee f a := by unfold ee eG; rw [kd_fm, gg_fm, fP_fm, fL_fm]
theorem clip_fm (f m : Int) (b : Bool) (g : Nat) : clip (fm f) m b g = clip f m b g := by unfold clip; rw [fI_fm]
theorem gOf_fm (f m : Int) (b : Bool) (l : Int) (q : Nat) (h r : Bool) : gOf (fm f) m b l q h r = gOf f m b l q h r := by unfold gOf; rw [fL_fm, fP_fm]
theorem enc_fm (f m : Int) (b : Bool) (l : Int) (q : Nat) (h r : Bool) : enc (fm f) m b l q h r = enc f m b l q h r := by unfold enc; rw [sg_fm, clip_fm, gOf_fm]
theorem lastOf_fm (f : Int) (N : Nat) (e : Int) : lastOf (fm f) N e = lastOf f N e := by unfold lastOf; rw [fP_fm, fL_fm]
theorem Rd_fm (f m : Int) (b : Bool) (N : Nat) (e : Int) (r : Bool) : Rd (fm f) m b N e r = Rd f m b N e r := by unfold Rd; rw [sg_fm, lastOf_fm, enc_fm]
theorem AddX_fm (f m : Int) (bx : Bool) (X : Nat) (ex : Int) (by' : Bool) (Y : Nat) (ey : Int) : AddX (fm f) m bx X ex by' Y ey = AddX f m bx X ex by' Y ey := by unfold AddX; simp only [Rd_fm, sg_fm]
theorem NegS_fm (f : Int) (a : Nat) : NegS (fm f) a = NegS f a := by unfold NegS; rw [kd_fm, NAN_fm, fB_fm]
theorem AbsS_fm (f : Int) (a : Nat) : AbsS (fm f) a = AbsS f a := by unfold AbsS; rw [kd_fm, NAN_fm, gg_fm]
theorem FinS_fm (f : Int) (a : Nat) : FinS (fm f) a = FinS f a := by unfold FinS; rw [kd_fm]
theorem ClassS_fm (f : Int) (a : Nat) : ClassS (fm f) a = ClassS f a := by unfold ClassS; rw [bad_fm, kd_fm, gg_fm, fP_fm]
theorem CmpS_fm (f : Int) (a b : Nat) : CmpS (fm f) a b = CmpS f a b := by unfold CmpS rank; rw [kd_fm, kd_fm, bw_fm, bw_fm, gg_fm, gg_fm]
theorem AddS_fm (f m : Int) (a b : Nat) : AddS (fm f) m a b = AddS f m a b := by unfold AddS; rw [kd_fm, kd_fm, bw_fm, bw_fm, NAN_fm, AddX_fm, nn_fm, nn_fm, ee_fm, ee_fm]
theorem MulS_fm (f m : Int) (a b : Nat) : MulS (fm f) m a b = MulS f m a b := by unfold MulS; rw [kd_fm, kd_fm, bw_fm, bw_fm, NAN_fm, Rd_fm, nn_fm, nn_fm, ee_fm, ee_fm, sg_fm, fI_fm]
theorem DivS_fm (f m : Int) (a b : Nat) : DivS (fm f) m a b = DivS f m a b := by unfold DivS DivX; rw [kd_fm, kd_fm, bw_fm, bw_fm, NAN_fm, Rd_fm, nn_fm, nn_fm, ee_fm, ee_fm, sg_fm, fI_fm]

end Go.Proofs.Ytejfnbjhcohkiaa.N

/- Floats: the lowest ones. Conditions: none. -/
namespace Go.Proofs.Ytejfnbjhcohkiaa.N
set_option linter.unusedVariables false
set_option linter.unusedSimpArgs false
open Go Go.Ab

theorem nG_small {f : Int} {g : Nat} (h : g < 2 ^ (fP f + 1)) : nG f g = g ∧ eG f g = fL f := by
  have hp := fP_pos f
  rw [Nat.pow_succ] at h
  unfold nG eG
  by_cases c : g < 2 ^ fP f
  · rw [if_pos c, if_pos c]; exact ⟨rfl, rfl⟩
  · rw [if_neg c, if_neg c]
    have h1 : g / 2 ^ fP f = 1 := Nat.div_eq_of_lt_le (by omega) (by omega)
    have h2 := Nat.div_add_mod g (2 ^ fP f)
    rw [h1, Nat.mul_one] at h2
    rw [h1]
    refine ⟨by omega, by omega⟩

theorem fI_two (f : Int) : 2 ^ (fP f + 1) < fI f := by
  rcases fmt f with ⟨_, h1, h2, h3⟩ | ⟨_, h1, h2, h3⟩ <;> unfold fI <;> rw [h1, h2] <;> decide

end Go.Proofs.Ytejfnbjhcohkiaa.N

/- Rounding keeps the order. Conditions: none. -/
namespace Go.Proofs.Ytejfnbjhcohkiaa.N
set_option linter.unusedVariables false
set_option linter.unusedSimpArgs false
open Go Go.Ab

theorem bl_mono {N M : Nat} (h : N ≤ M) : bl N ≤ bl M := bl_le_iff.2 (Nat.lt_of_le_of_lt h (bl_up M))

/-- The bits below a place, as a number. -/
theorem hd_iff {N : Nat} {j : Nat} (hj : 0 < j) : hd N (j : Int) = decide (2 ^ (j - 1) ≤ N % 2 ^ j) := by
  unfold hd
  rw [decide_eq_true (show (0 : Int) < (j : Int) by omega), Bool.true_and, Int.toNat_natCast]
  obtain ⟨i, rfl⟩ : ∃ i, j = i + 1 := ⟨j - 1, by omega⟩
  rw [Nat.add_sub_cancel]
  have hp := Nat.two_pow_pos i
  have e : N % 2 ^ (i + 1) = N % 2 ^ i + 2 ^ i * (N / 2 ^ i % 2) := by rw [Nat.pow_succ, Nat.mod_mul]
  have hm := Nat.mod_lt N hp
  rw [Nat.testBit_eq_decide_div_mod_eq]
  by_cases c : N / 2 ^ i % 2 = 1
  · rw [decide_eq_true c, e, c, decide_eq_true (by omega)]
  · have : N / 2 ^ i % 2 = 0 := by omega
    rw [decide_eq_false c, e, this, decide_eq_false (by omega)]

theorem rs_iff {N : Nat} {j : Nat} (hj : 0 < j) : rs N (j : Int) = decide (N % 2 ^ j ≠ 0 ∧ N % 2 ^ j ≠ 2 ^ (j - 1)) := by
  unfold rs
  rw [decide_eq_true (show (0 : Int) < (j : Int) by omega), Bool.true_and, Int.toNat_natCast]
  obtain ⟨i, rfl⟩ : ∃ i, j = i + 1 := ⟨j - 1, by omega⟩
  rw [Nat.add_sub_cancel]
  have hp := Nat.two_pow_pos i
  have e : N % 2 ^ (i + 1) = N % 2 ^ i + 2 ^ i * (N / 2 ^ i % 2) := by rw [Nat.pow_succ, Nat.mod_mul]
  have hm := Nat.mod_lt N hp
  rw [e]
  have h2 : N / 2 ^ i % 2 = 0 ∨ N / 2 ^ i % 2 = 1 := by omega
  rcases h2 with h2 | h2 <;> rw [h2] <;> rw [decide_eq_decide] <;> omega

theorem hd_rs_low {N : Nat} {d : Int} (h : d ≤ 0) : hd N d = false ∧ rs N d = false := by
  unfold hd rs
  rw [decide_eq_false (by omega)]
  exact ⟨rfl, rfl⟩

theorem more_iff (m : Int) (s o : Bool) {n p : Nat} (hp : 0 < p) : more m s o (decide (p ≤ n)) (decide (n ≠ 0 ∧ n ≠ p)) = true ↔
    (m = 1 ∧ s = false ∧ 0 < n) ∨ (m = 2 ∧ s = true ∧ 0 < n) ∨ (m ≠ 1 ∧ m ≠ 2 ∧ m ≠ 3 ∧ p ≤ n ∧ (p < n ∨ o = true)) := by
  have hr : (decide (p ≤ n) || decide (n ≠ 0 ∧ n ≠ p)) = decide (0 < n) := by
    rw [← Bool.decide_or, decide_eq_decide]; omega
  unfold more
  rw [hr]
  by_cases h1 : m = 1
  · rw [if_pos h1, Bool.and_eq_true, Bool.not_eq_true', decide_eq_true_eq]
    constructor
    · exact fun h => .inl ⟨h1, h.1, h.2⟩
    · rintro (h | h | h)
      · exact h.2
      · omega
      · exact absurd h1 h.1
  · rw [if_neg h1]
    by_cases h2 : m = 2
    · rw [if_pos h2, Bool.and_eq_true, decide_eq_true_eq]
      constructor
      · exact fun h => .inr (.inl ⟨h2, h.1, h.2⟩)
      · rintro (h | h | h)
        · omega
        · exact h.2
        · exact absurd h2 h.2.1
    · rw [if_neg h2]
      by_cases h3 : m = 3
      · rw [if_pos h3]
        constructor
        · intro h; cases h
        · rintro (h | h | h)
          · omega
          · omega
          · exact absurd h3 h.2.2.1
      · rw [if_neg h3, Bool.and_eq_true, Bool.or_eq_true, decide_eq_true_eq, decide_eq_true_eq]
        constructor
        · rintro ⟨a, b⟩
          refine .inr (.inr ⟨h1, h2, h3, a, ?_⟩)
          rcases b with b | b
          · exact .inl (by omega)
          · exact .inr b
        · rintro (h | h | h)
          · omega
          · omega
          · refine ⟨h.2.2.2.1, ?_⟩
            rcases h.2.2.2.2 with b | b
            · exact .inl ⟨by omega, by omega⟩
            · exact .inr b

/-- With the same places above, what is more stays more. -/
theorem more_mono (m : Int) (s : Bool) (o : Bool) {N M : Nat} {j : Nat} (hj : 0 < j) (h : N % 2 ^ j ≤ M % 2 ^ j) (hm : more m s o (hd N (j : Int)) (rs N (j : Int)) = true) : more m s o (hd M (j : Int)) (rs M (j : Int)) = true := by
  rw [hd_iff hj, rs_iff hj] at hm ⊢
  have hp := Nat.two_pow_pos (j - 1)
  rw [more_iff m s o hp] at hm ⊢
  rcases hm with ⟨a, b, c⟩ | ⟨a, b, c⟩ | ⟨a, b, c, d, e⟩
  · exact .inl ⟨a, b, by omega⟩
  · exact .inr (.inl ⟨a, b, by omega⟩)
  · refine .inr (.inr ⟨a, b, c, by omega, ?_⟩)
    rcases e with e | e
    · exact .inl (by omega)
    · exact .inr e

theorem div_mono_same {N M j : Nat} (h : N ≤ M) (hq : N / 2 ^ j = M / 2 ^ j) : N % 2 ^ j ≤ M % 2 ^ j := by
  have h1 := Nat.div_add_mod N (2 ^ j)
  have h2 := Nat.div_add_mod M (2 ^ j)
  rw [hq] at h1
  omega

theorem clip_mono (f m : Int) (s : Bool) {g h : Nat} (hgh : g ≤ h) : clip f m s g ≤ clip f m s h := by
  have hI : 0 < fI f := Nat.lt_of_le_of_lt (Nat.zero_le _) (fI_pos f)
  unfold clip
  by_cases c : h < fI f
  · rw [if_pos c, if_pos (by omega)]; exact hgh
  · rw [if_neg c]
    by_cases c2 : g < fI f
    · rw [if_pos c2]; split <;> omega
    · rw [if_neg c2]; exact Nat.le_refl _

theorem Rd_mono (f m : Int) (s : Bool) {N M : Nat} (e : Int) (h : N ≤ M) : Rd f m s N e false ≤ Rd f m s M e false := by
  have hp := fP_pos f
  unfold Rd
  by_cases h0 : N = 0
  · rw [if_pos ⟨h0, rfl⟩]
    split
    · exact Nat.le_refl _
    · unfold enc; omega
  · have h1 : ¬ (N = 0 ∧ false = false) := fun q => h0 q.1
    have h2 : ¬ (M = 0 ∧ false = false) := fun q => by omega
    rw [if_neg h1, if_neg h2, Bool.false_or, Bool.false_or]
    unfold enc
    refine Nat.add_le_add_left (clip_mono f m s ?_) _
    have hbl := bl_mono h
    have hl : lastOf f N e ≤ lastOf f M e := by unfold lastOf; omega
    have q1 := qd_lt (f := f) (e := e) (show 0 < N by omega)
    have q2 := qd_lt (f := f) (e := e) (show 0 < M by omega)
    have l1 : fL f ≤ lastOf f N e := Int.le_max_right _ _
    unfold gOf
    have b1 := Bool.toNat_le (more m s (qd N (lastOf f N e - e) % 2 == 1) (hd N (lastOf f N e - e)) (rs N (lastOf f N e - e)))
    by_cases c : lastOf f N e = lastOf f M e
    · rw [← c] at q2 ⊢
      obtain ⟨d, hd'⟩ : ∃ d, d = lastOf f N e - e := ⟨_, rfl⟩
      rw [← hd'] at b1 ⊢
      have hq : qd N d ≤ qd M d := by
        unfold qd
        split
        · exact Nat.div_le_div_right h
        · exact Nat.mul_le_mul_right _ h
      by_cases cq : qd N d = qd M d
      · rw [cq]
        refine Nat.add_le_add_left ?_ _
        by_cases hd0 : 0 < d
        · obtain ⟨j, hj⟩ : ∃ j : Nat, d = (j : Int) := ⟨d.toNat, by omega⟩
          subst hj
          have hj0 : 0 < j := by omega
          have hqq : N / 2 ^ j = M / 2 ^ j := by
            unfold qd at cq
            rw [if_pos hd0, if_pos hd0, Int.toNat_natCast] at cq; exact cq
          have := more_mono m s (qd M (j : Int) % 2 == 1) hj0 (div_mono_same h hqq)
          cases hm : more m s (qd M (j : Int) % 2 == 1) (hd N (j : Int)) (rs N (j : Int)) with
          | false => exact Nat.zero_le _
          | true => rw [this hm]; exact Nat.le_refl _
        · have z1 := hd_rs_low (N := N) (d := d) (by omega)
          have z2 := hd_rs_low (N := M) (d := d) (by omega)
          rw [z1.1, z1.2, z2.1, z2.2]; exact Nat.le_refl _
      · omega
    · have hne : lastOf f M e ≠ fL f := by omega
      have g2 := qd_ge (f := f) (e := e) (show 0 < M by omega) hne
      have hz : (lastOf f N e - fL f).toNat + 1 ≤ (lastOf f M e - fL f).toNat := by omega
      have hmul := Nat.mul_le_mul_right (2 ^ fP f) hz
      rw [Nat.add_mul, Nat.one_mul] at hmul
      rw [Nat.pow_succ] at q1
      omega

end Go.Proofs.Ytejfnbjhcohkiaa.N

/- What a rounded number is worth. Conditions: none. -/
namespace Go.Proofs.Ytejfnbjhcohkiaa.N
set_option linter.unusedVariables false
set_option linter.unusedSimpArgs false
open Go Go.Ab

/-- N times 2 to the e, in units that are small enough. -/
def sc (N : Nat) (e : Int) : Nat := N * 2 ^ (e + 4000).toNat
/-- What a float above 0 is worth. -/
def vG (f : Int) (g : Nat) : Nat := sc (nG f g) (eG f g)

theorem sc_up {N : Nat} {e : Int} (j : Nat) (he : -4000 ≤ e - j) : sc (N * 2 ^ j) (e - j) = sc N e := by
  unfold sc
  rw [Nat.mul_assoc, ← Nat.pow_add]
  congr 2
  omega

theorem sc_mono {N M : Nat} {e : Int} (h : N ≤ M) : sc N e ≤ sc M e := Nat.mul_le_mul_right _ h
theorem sc_le {N M : Nat} {e : Int} (h : sc N e ≤ sc M e) : N ≤ M := Nat.le_of_mul_le_mul_right h (Nat.two_pow_pos _)

theorem eG_bnd (f : Int) {g : Nat} (h : g < fI f) : fL f ≤ eG f g ∧ eG f g ≤ 2046 + fL f := by
  by_cases h0 : g = 0
  · subst h0
    unfold eG
    rw [if_pos (fP_pos f)]
    omega
  · have := nG_bounds f (by omega) h; exact ⟨this.2.2.1, this.2.2.2⟩

/-- A number of places at a place that fits. -/
theorem vG_put {f : Int} {J q : Nat} (hq : q ≤ 2 ^ (fP f + 1)) (hJ : 0 < J → 2 ^ fP f ≤ q) : vG f (J * 2 ^ fP f + q) = sc q (fL f + J) := by
  have hp := fP_pos f
  have hf := fmt_le f
  have h2 : 2 ^ (fP f + 1) = 2 * 2 ^ fP f := by rw [Nat.pow_succ, Nat.mul_comm]
  unfold vG
  by_cases c1 : q < 2 ^ fP f
  · have : J = 0 := by
      refine Nat.eq_zero_of_not_pos fun h => ?_
      have := hJ h; omega
    subst this
    rw [Nat.zero_mul, Nat.zero_add]
    have := nG_small (f := f) (g := q) (by omega)
    rw [this.1, this.2]
    congr 1; omega
  · by_cases c2 : q = 2 ^ (fP f + 1)
    · subst c2
      have e : J * 2 ^ fP f + 2 ^ (fP f + 1) = (J + 2) * 2 ^ fP f := by rw [Nat.add_mul, h2]
      have d : (J + 2) * 2 ^ fP f / 2 ^ fP f = J + 2 := Nat.mul_div_cancel _ hp
      have m : (J + 2) * 2 ^ fP f % 2 ^ fP f = 0 := Nat.mul_mod_left _ _
      have nlt : ¬ (J + 2) * 2 ^ fP f < 2 ^ fP f := by
        have : 1 * 2 ^ fP f ≤ (J + 2) * 2 ^ fP f := Nat.mul_le_mul_right _ (by omega)
        omega
      have n1 : nG f ((J + 2) * 2 ^ fP f) = 2 ^ fP f := by unfold nG; rw [if_neg nlt, m, Nat.add_zero]
      have n2 : eG f ((J + 2) * 2 ^ fP f) = fL f + J + 1 := by unfold eG; rw [if_neg nlt, d]; omega
      rw [e, n1, n2]
      have := sc_up (N := 2 ^ fP f) (e := fL f + J + 1) 1 (by omega)
      rw [← Nat.pow_succ] at this
      rw [← this]
      congr 1; omega
    · have hr : q - 2 ^ fP f < 2 ^ fP f := by omega
      have e : J * 2 ^ fP f + q = 2 ^ fP f * (J + 1) + (q - 2 ^ fP f) := by rw [Nat.mul_add, Nat.mul_one, Nat.mul_comm]; omega
      have d : (J * 2 ^ fP f + q) / 2 ^ fP f = J + 1 := by rw [e, Nat.mul_add_div hp, Nat.div_eq_of_lt hr, Nat.add_zero]
      have m : (J * 2 ^ fP f + q) % 2 ^ fP f = q - 2 ^ fP f := by rw [e, Nat.mul_add_mod, Nat.mod_eq_of_lt hr]
      have nlt : ¬ J * 2 ^ fP f + q < 2 ^ fP f := by omega
      have n1 : nG f (J * 2 ^ fP f + q) = q := by unfold nG; rw [if_neg nlt, m]; omega
      have n2 : eG f (J * 2 ^ fP f + q) = fL f + J := by unfold eG; rw [if_neg nlt, d]; omega
      rw [n1, n2]

/-- Two numbers told at any places: the rounded ones keep the order. -/
theorem Rd_le (f m : Int) (s : Bool) {N M : Nat} {e e' : Int} (he : -4000 ≤ e) (he' : -4000 ≤ e') (h : sc N e ≤ sc M e') : Rd f m s N e false ≤ Rd f m s M e' false := by
  have h1 := Rd_scale f m s N e (e + 4000).toNat
  have h2 := Rd_scale f m s M e' (e' + 4000).toNat
  have e1 : e - ((e + 4000).toNat : Int) = -4000 := by omega
  have e2 : e' - ((e' + 4000).toNat : Int) = -4000 := by omega
  rw [e1] at h1
  rw [e2] at h2
  rw [← h1, ← h2]
  exact Rd_mono f m s _ h

/-- The places of a number that is not too small: how they are put together. -/
theorem gOf_put {f m : Int} {s : Bool} {N : Nat} {e : Int} {rest : Bool} (h0 : 0 < N) (he : -3000 ≤ e) (hlo : e ≤ lastOf f N e) :
    ∃ J q d : Nat, lastOf f N e = fL f + J ∧ lastOf f N e = e + d ∧ q < 2 ^ (fP f + 1) ∧ (0 < J → 2 ^ fP f ≤ q) ∧ q = N / 2 ^ d ∧
      Rd f m s N e rest = sg f s + clip f m s (J * 2 ^ fP f + q + (more m s (q % 2 == 1) (hd N (d : Int)) (rest || rs N (d : Int))).toNat) := by
  have l1 : fL f ≤ lastOf f N e := Int.le_max_right _ _
  obtain ⟨J, hJ⟩ : ∃ J : Nat, lastOf f N e = fL f + J := ⟨(lastOf f N e - fL f).toNat, by omega⟩
  obtain ⟨d, hd'⟩ : ∃ d : Nat, lastOf f N e = e + d := ⟨(lastOf f N e - e).toNat, by omega⟩
  have ed : lastOf f N e - e = (d : Int) := by omega
  have q1 := qd_lt (f := f) (e := e) h0
  have q2 := qd_ge (f := f) (e := e) h0
  rw [ed] at q1 q2
  have hq : qd N (d : Int) = N / 2 ^ d := by
    unfold qd
    by_cases c : (0 : Int) < (d : Int)
    · rw [if_pos c, Int.toNat_natCast]
    · have : d = 0 := by omega
      subst this
      rw [if_neg c]; simp
  refine ⟨J, qd N (d : Int), d, hJ, hd', q1, fun h => q2 (by omega), hq, ?_⟩
  unfold Rd
  rw [if_neg (fun q => by omega), ed]
  unfold enc gOf
  rw [show (lastOf f N e - fL f).toNat = J by omega]

/-- Down, above 0: what comes of it is not worth more. -/
theorem down_le {f : Int} {N : Nat} {e : Int} {rest : Bool} (h0 : 0 < N) (he : -3000 ≤ e) (hlo : e ≤ lastOf f N e) :
    ∃ g, g < fI f ∧ Rd f 2 false N e rest = sg f false + g ∧ vG f g ≤ sc N e := by
  obtain ⟨J, q, d, j1, j2, j3, j4, j5, j6⟩ := gOf_put (f := f) (m := 2) (s := false) (rest := rest) h0 he hlo
  have hm : ∀ o h r, more 2 false o h r = false := fun o h r => by unfold more; rfl
  have hI : 0 < fI f := Nat.lt_of_le_of_lt (Nat.zero_le _) (fI_pos f)
  rw [hm, Bool.toNat_false, Nat.add_zero] at j6
  have hv := vG_put (f := f) (J := J) (q := q) (by omega) j4
  have hle : sc q (fL f + J) ≤ sc N e := by
    have e1 : fL f + J = e + d := by omega
    rw [e1]
    have := sc_up (N := q) (e := e + d) d (by omega)
    rw [show e + d - d = e by omega] at this
    rw [← this, j5]
    exact sc_mono (Nat.div_mul_le_self _ _)
  by_cases c : J * 2 ^ fP f + q < fI f
  · refine ⟨J * 2 ^ fP f + q, c, ?_, by rw [hv]; exact hle⟩
    rw [j6]; unfold clip; rw [if_pos c]
  · refine ⟨fI f - 1, by omega, ?_, ?_⟩
    · rw [j6]; unfold clip; rw [if_neg c, hm, if_neg (by decide)]
    · -- the greatest float is worth less
      refine Nat.le_trans ?_ hle
      have hI2 := fI_eq f
      have hp := fP_pos f
      have hE : 2 ≤ 2 ^ fE f - 1 := by have := (fmt_le f).2.2.1; have := Nat.pow_le_pow_right (show 0 < 2 by decide) this; omega
      obtain ⟨K, hK⟩ : ∃ K, 2 ^ fE f - 1 = K + 2 := ⟨2 ^ fE f - 3, by omega⟩
      have e3 : fI f - 1 = K * 2 ^ fP f + (2 ^ (fP f + 1) - 1) := by
        rw [hI2, hK, Nat.add_mul, Nat.pow_succ]; omega
      have hv2 := vG_put (f := f) (J := K) (q := 2 ^ (fP f + 1) - 1) (by omega) (fun _ => by rw [Nat.pow_succ]; omega)
      rw [e3, hv2]
      have hJK : K < J ∨ (K = J ∧ 2 ^ (fP f + 1) ≤ q) := by
        rw [hI2, hK, Nat.add_mul] at c
        rw [Nat.pow_succ] at j3 ⊢
        by_cases cc : K < J
        · exact .inl cc
        · by_cases c2 : K = J
          · subst c2; exact .inr ⟨rfl, by omega⟩
          · have hz : J + 1 ≤ K := by omega
            have := Nat.mul_le_mul_right (2 ^ fP f) hz
            rw [Nat.add_mul, Nat.one_mul] at this
            omega
      rcases hJK with hz | ⟨rfl, hz⟩
      · have h1 := sc_up (N := 2 ^ fP f) (e := fL f + J) (J - K) (by have := (fmt_le f).2.2.2.2.2.1; omega)
        rw [show fL f + (J : Int) - ((J - K : Nat) : Int) = fL f + K by omega] at h1
        have h2 : 2 ^ (fP f + 1) ≤ 2 ^ fP f * 2 ^ (J - K) := by
          rw [← Nat.pow_add]; exact Nat.pow_le_pow_right (by decide) (by omega)
        refine Nat.le_trans (sc_mono (show 2 ^ (fP f + 1) - 1 ≤ 2 ^ fP f * 2 ^ (J - K) by omega)) ?_
        rw [h1]
        exact sc_mono (j4 (by omega))
      · exact sc_mono (by omega)

/-- Up, above 0: what comes of it is infinite or not worth less. -/
theorem up_ge {f : Int} {N : Nat} {e : Int} {rest : Bool} (h0 : 0 < N) (he : -3000 ≤ e) (hd' : e ≤ lastOf f N e) :
    ∃ g, g ≤ fI f ∧ Rd f 1 false N e rest = sg f false + g ∧ (g < fI f → sc (N + rest.toNat) e ≤ vG f g) := by
  obtain ⟨J, q, d, j1, j2, j3, j4, j5, j6⟩ := gOf_put (f := f) (m := 1) (s := false) (rest := rest) h0 he hd'
  have hm : ∀ o h r, more 1 false o h r = (h || r) := fun o h r => by unfold more; rfl
  rw [hm] at j6
  have hb := Bool.toNat_le (hd N (d : Int) || (rest || rs N (d : Int)))
  have hv := vG_put (f := f) (J := J) (q := q + (hd N (d : Int) || (rest || rs N (d : Int))).toNat) (by omega) (fun h => by have := j4 h; omega)
  refine ⟨_, clip_le f 1 false _, j6, fun hlt => ?_⟩
  unfold clip at hlt ⊢
  by_cases c : J * 2 ^ fP f + q + (hd N (d : Int) || (rest || rs N (d : Int))).toNat < fI f
  · rw [if_pos c, Nat.add_assoc, hv]
    have e1 : fL f + J = e + d := by omega
    rw [e1]
    have := sc_up (N := q + (hd N (d : Int) || (rest || rs N (d : Int))).toNat) (e := e + d) d (by omega)
    rw [show e + d - d = e by omega] at this
    rw [← this]
    refine sc_mono ?_
    have hp := Nat.two_pow_pos d
    have hdm := Nat.div_add_mod N (2 ^ d)
    have hml := Nat.mod_lt N hp
    have hrb := Bool.toNat_le rest
    rw [← j5] at hdm
    cases hx : (hd N (d : Int) || (rest || rs N (d : Int))) with
    | true =>
      rw [Bool.toNat_true, Nat.add_mul, Nat.one_mul, Nat.mul_comm q]
      omega
    | false =>
      rw [Bool.or_eq_false_iff, Bool.or_eq_false_iff] at hx
      obtain ⟨x1, x2, x3⟩ := hx
      have z : N % 2 ^ d = 0 := by
        by_cases c0 : d = 0
        · subst c0; simp [Nat.mod_one]
        · rw [hd_iff (by omega)] at x1
          rw [rs_iff (by omega)] at x3
          have p0 := Nat.two_pow_pos (d - 1)
          have y1 := of_decide_eq_false x1
          have y3 := of_decide_eq_false x3
          omega
      rw [x2, Bool.toNat_false, Nat.add_zero, Nat.add_zero, Nat.mul_comm q]
      omega
  · exfalso
    have : more 1 false true true true = true := rfl
    rw [if_neg c, if_pos this] at hlt
    omega

end Go.Proofs.Ytejfnbjhcohkiaa.N

/- Laws through the layers: what they share. Conditions: none. -/
namespace Go.Proofs.Ytejfnbjhcohkiaa.N
set_option linter.unusedVariables false
set_option linter.unusedSimpArgs false
open Go Go.Ab

theorem tformat_k {R : Type} (k : Nat) (f : Int) (K : Int → Option R) : plumblinetop_format k f K = K (fm f) := by
  unfold plumblinetop_format plumblinetop_formatT fm
  by_cases h : f = 1
  · subst h; rfl
  · have : (f == 1) = false := by rw [beq_eq_false_iff_ne]; exact h
    rw [this, cond_false, if_neg h]

/-- Not above. -/
def NotS (f : Int) (a b : Nat) : Bool := decide (kd f a ≠ 0 ∧ kd f b ≠ 0 ∧ rank f a ≤ rank f b)

theorem not_k {R : Type} (k : Nat) (f : Int) {a b : Nat} (ha : a < 2 ^ 64) (hb : b < 2 ^ 64) (K : Bool → Option R) : plumblinetop_not k f (a : Int) (b : Int) K = K (NotS f a b) := by
  unfold plumblinetop_not plumblinetop_notT NotS
  rw [Compare_k k f ha hb]
  by_cases h : kd f a = 0 ∨ kd f b = 0
  · have c : CmpS f a b = (0, false) := by unfold CmpS; rw [if_pos h]
    have hn : ¬ (kd f a ≠ 0 ∧ kd f b ≠ 0 ∧ rank f a ≤ rank f b) := fun q => h.elim q.1 q.2.1
    rw [c, decide_eq_false hn]; rfl
  · have c : CmpS f a b = (sgnI (rank f a) (rank f b), true) := by unfold CmpS; rw [if_neg h]
    rw [c]
    dsimp only
    rw [cond_true]
    congr 1
    rw [decide_eq_decide]
    unfold sgnI
    by_cases c1 : rank f a < rank f b
    · rw [if_pos c1]; omega
    · rw [if_neg c1]
      by_cases c2 : rank f b < rank f a
      · rw [if_pos c2]; omega
      · rw [if_neg c2]; omega

theorem tsound_k {R : Type} {k : Nat} (hk : 5000 ≤ k) (K : Bool → Option R) : plumblinetop_sound k K = K true := by
  unfold plumblinetop_sound plumblinetop_soundT
  have d3 : AddS 0 0 4607182418800017408 4607182418800017408 = 4611686018427387904 := by decide +kernel
  have l1 : (4607182418800017408 : Int) = ((4607182418800017408 : Nat) : Int) := rfl
  have q3 : (((4611686018427387904 : Nat) : Int) == 4611686018427387904) = true := by decide
  have hm := fun J => Mul_hl (R := R) k (A := 3) (B := 5) (by decide) (by decide) J
  rw [l1, Add_k 0 0 (by decide) (by decide), d3, q3, cond_true]
  refine (hm _).trans ?_
  rfl

theorem sc_min {x y : Nat} {a b l : Int} (h : sc x a ≤ sc y b) (ha : l ≤ a) (hb : l ≤ b) (hl : -4000 ≤ l) : x * 2 ^ (a - l).toNat ≤ y * 2 ^ (b - l).toNat := by
  have h1 := sc_up (N := x) (e := a) (a - l).toNat (by omega)
  have h2 := sc_up (N := y) (e := b) (b - l).toNat (by omega)
  rw [show a - ((a - l).toNat : Int) = l by omega] at h1
  rw [show b - ((b - l).toNat : Int) = l by omega] at h2
  rw [← h1, ← h2] at h
  exact sc_le h

theorem sc_mul {x y z w : Nat} {a b c d : Int} (h : sc x a ≤ sc y b) (h' : sc z c ≤ sc w d) (ha : -2500 ≤ a) (hb : -2500 ≤ b) (hc : -1500 ≤ c) (hd : -1500 ≤ d) : sc (x * z) (a + c) ≤ sc (y * w) (b + d) := by
  have m1 := sc_min h (l := min a b) (by omega) (by omega) (by omega)
  have m2 := sc_min h' (l := min c d) (by omega) (by omega) (by omega)
  have h1 := sc_up (N := x * z) (e := a + c) ((a - min a b).toNat + (c - min c d).toNat) (by omega)
  have h2 := sc_up (N := y * w) (e := b + d) ((b - min a b).toNat + (d - min c d).toNat) (by omega)
  rw [show a + c - (((a - min a b).toNat + (c - min c d).toNat : Nat) : Int) = min a b + min c d by omega, Nat.pow_add] at h1
  rw [show b + d - (((b - min a b).toNat + (d - min c d).toNat : Nat) : Int) = min a b + min c d by omega, Nat.pow_add] at h2
  rw [← h1, ← h2]
  refine sc_mono ?_
  have := Nat.mul_le_mul m1 m2
  rw [Nat.mul_mul_mul_comm, Nat.mul_mul_mul_comm y] at this
  exact this

theorem posf {f : Int} {x : Nat} (h : x ≤ fI f) : kd f x ≠ 0 ∧ rank f x = (x : Int) := by
  have hB := (fB_double f).2
  have hg := gg_sg (f := f) false (x := x) (by omega)
  have hk := kd_sg (f := f) false (x := x) (by omega)
  have z : sg f false + x = x := by unfold sg; simp
  rw [z] at hg hk
  constructor
  · rw [hk, if_neg (by omega)]; split
    · decide
    · split <;> decide
  · unfold rank; rw [hg.1, hg.2.1]; rfl

theorem NotS_pos {f : Int} {x y : Nat} (h : x ≤ y) (hy : y ≤ fI f) : NotS f x y = true := by
  obtain ⟨a1, a2⟩ := posf (f := f) (x := x) (by omega)
  obtain ⟨b1, b2⟩ := posf (f := f) (x := y) hy
  unfold NotS
  exact decide_eq_true ⟨a1, b1, by rw [a2, b2]; omega⟩

/-- Parts of a float above 0. -/
theorem pparts {f : Int} {x : Nat} (h0 : 0 < x) (h : x < fI f) : kd f x = 3 ∧ bw f x = false ∧ nn f x = nG f x ∧ ee f x = eG f x := by
  have hB := (fB_double f).2
  have z : sg f false + x = x := by unfold sg; simp
  have hk := kd_sg (f := f) false (x := x) (by omega)
  have hg := gg_sg (f := f) false (x := x) (by omega)
  rw [z] at hk hg
  rw [if_neg (by omega), if_neg (by omega), if_neg (by omega)] at hk
  refine ⟨hk, hg.2.1, ?_, ?_⟩
  · unfold nn; rw [if_pos hk, hg.1]
  · unfold ee; rw [if_pos hk, hg.1]

theorem zparts {f : Int} : kd f 0 = 2 ∧ bw f 0 = false ∧ nn f 0 = 0 ∧ ee f 0 = 0 := by
  have hB := (fB_double f).2
  have hI : 0 < fI f := Nat.lt_of_le_of_lt (Nat.zero_le _) (fI_pos f)
  have z : sg f false + 0 = 0 := rfl
  have hk := kd_sg (f := f) false (x := 0) (by omega)
  have hg := gg_sg (f := f) false (x := 0) (by omega)
  rw [z] at hk hg
  rw [if_neg (by omega), if_neg (by omega), if_pos rfl] at hk
  have := nn_zero (f := f) (a := 0) (by omega)
  exact ⟨hk, hg.2.1, this.1, this.2⟩

theorem iparts {f : Int} : kd f (fI f) = 1 ∧ bw f (fI f) = false := by
  have hB := (fB_double f).2
  have z : sg f false + fI f = fI f := by unfold sg; simp
  have hk := kd_sg (f := f) false (x := fI f) (by omega)
  have hg := gg_sg (f := f) false (x := fI f) (by omega)
  rw [z] at hk hg
  rw [if_neg (by omega), if_pos rfl] at hk
  exact ⟨hk, hg.2.1⟩

/-- A float above 0 is less than the infinite one, and is itself. -/
theorem pos_is {f : Int} {a : Nat} (ha : a < 2 ^ 64) (h : kd f a = 3) (hb : bw f a = false) : a = gg f a ∧ 0 < a ∧ a < fI f := by
  have h3 := kd3 h
  have := parts_of ha h3.1
  rw [hb, show sg f false = 0 from rfl, Nat.zero_add] at this
  exact ⟨this, by omega, by omega⟩

/-- A product, rounded down, of two that are worth no more. -/
theorem mul_down {f : Int} {x b a : Nat} {r : Nat} {E : Int} (ha : a < 2 ^ 64) (ka : kd f a = 3) (ba : bw f a = false) (hx : x < fI f) (hb : b < fI f) (hv : vG f x ≤ sc r E) (hE : -2500 ≤ E)
    (hle : sc (r * nn f b) (E + ee f b) ≤ sc (nn f a) (ee f a)) : NotS f (MulS f 2 x b) a = true := by
  obtain ⟨p1, p2, p3⟩ := pos_is ha ka ba
  have hxp : (x = 0 ∨ 0 < x) := by omega
  have hbp : (b = 0 ∨ 0 < b) := by omega
  have zero : ∀ (s : Bool) (e : Int), Rd f 2 s 0 e false = sg f s := fun s e => by unfold Rd; rw [if_pos ⟨rfl, rfl⟩]
  have z0 : sg f false = 0 := rfl
  have zz := zparts (f := f)
  have eb := ee_bounds f b
  have ea := ee_bounds f a
  rcases hbp with rfl | hb0
  · have : MulS f 2 x 0 = 0 := by
      have kx : kd f x = 2 ∨ kd f x = 3 := by
        rcases hxp with rfl | hx0
        · exact .inl zz.1
        · exact .inr (pparts hx0 hx).1
      have bx : bw f x = false := by
        rcases hxp with rfl | hx0
        · exact zz.2.1
        · exact (pparts hx0 hx).2.1
      unfold MulS
      rw [zz.1, if_neg (by omega), if_neg (by omega), zz.2.2.1, Nat.mul_zero, zero, bx, zz.2.1]; rfl
    rw [this]; exact NotS_pos (by omega) (by omega)
  · have qb := pparts hb0 hb
    rcases hxp with rfl | hx0
    · have : MulS f 2 0 b = 0 := by
        unfold MulS
        rw [zz.1, qb.1, if_neg (by decide), if_neg (by decide), zz.2.2.1, Nat.zero_mul, zero, zz.2.1, qb.2.1]; rfl
      rw [this]; exact NotS_pos (by omega) (by omega)
    · have qx := pparts hx0 hx
      have hself := Rd_self (f := f) 2 ha ka
      have bx := eG_bnd f hx
      have bf := (fmt_le f).2.2.2.2.2.1
      have hm : MulS f 2 x b ≤ a := by
        unfold MulS
        rw [qx.1, qb.1, if_neg (by decide), if_neg (by decide), qx.2.1, qb.2.1, qx.2.2.1, qx.2.2.2]
        rw [ba] at hself
        conv => rhs; rw [← hself]
        refine Rd_le f 2 false (by omega) (by omega) ?_
        refine Nat.le_trans ?_ hle
        exact sc_mul hv (Nat.le_refl _) (by omega) (by omega) (by omega) (by omega)
      exact NotS_pos hm (by omega)

/-- A product, rounded up, of two that are worth no less. -/
theorem mul_up {f : Int} {x b a : Nat} {r : Nat} {E : Int} (ha : a < 2 ^ 64) (ka : kd f a = 3) (ba : bw f a = false) (hx : x ≤ fI f) (hb0 : 0 < b) (hb : b ≤ fI f) (hr : 0 < r) (hv : x < fI f → sc r E ≤ vG f x) (hE : -2500 ≤ E)
    (hle : x < fI f → b < fI f → sc (nn f a) (ee f a) ≤ sc (r * nn f b) (E + ee f b)) : NotS f a (MulS f 1 x b) = true := by
  obtain ⟨p1, p2, p3⟩ := pos_is ha ka ba
  have ii := iparts (f := f)
  have eb := ee_bounds f b
  have ea := ee_bounds f a
  have inf : ∀ u v : Nat, 0 < u → 0 < v → u ≤ fI f → v ≤ fI f → (u = fI f ∨ v = fI f) → MulS f 1 u v = fI f := by
    intro u v u0 v0 hu hv huv
    have ku : (u = fI f ∧ kd f u = 1 ∧ bw f u = false) ∨ (u < fI f ∧ kd f u = 3 ∧ bw f u = false) := by
      by_cases c : u = fI f
      · exact .inl ⟨c, by rw [c]; exact ii.1, by rw [c]; exact ii.2⟩
      · have := pparts u0 (show u < fI f by omega); exact .inr ⟨by omega, this.1, this.2.1⟩
    have kv : (v = fI f ∧ kd f v = 1 ∧ bw f v = false) ∨ (v < fI f ∧ kd f v = 3 ∧ bw f v = false) := by
      by_cases c : v = fI f
      · exact .inl ⟨c, by rw [c]; exact ii.1, by rw [c]; exact ii.2⟩
      · have := pparts v0 (show v < fI f by omega); exact .inr ⟨by omega, this.1, this.2.1⟩
    unfold MulS
    rcases ku with ⟨a1, a2, a3⟩ | ⟨a1, a2, a3⟩ <;> rcases kv with ⟨b1, b2, b3⟩ | ⟨b1, b2, b3⟩
    · rw [a2, b2, if_neg (by decide), if_pos (by decide), if_neg (by decide), a3, b3]; simp [sg]
    · rw [a2, b2, if_neg (by decide), if_pos (by decide), if_neg (by decide), a3, b3]; simp [sg]
    · rw [a2, b2, if_neg (by decide), if_pos (by decide), if_neg (by decide), a3, b3]; simp [sg]
    · omega
  have hx0 : 0 < x := by
    refine Nat.pos_of_ne_zero fun q => ?_
    have hI : 0 < fI f := Nat.lt_of_le_of_lt (Nat.zero_le _) (fI_pos f)
    have := hv (by omega)
    have v0 : vG f x = 0 := by
      rw [q]; unfold vG sc nG; rw [if_pos (fP_pos f), Nat.zero_mul]
    have : 0 < sc r E := Nat.mul_pos hr (Nat.two_pow_pos _)
    omega
  by_cases c : x = fI f ∨ b = fI f
  · rw [inf x b hx0 hb0 hx hb c]; exact NotS_pos (by omega) (Nat.le_refl _)
  · have hx' : x < fI f := by omega
    have hb' : b < fI f := by omega
    have qb := pparts hb0 hb'
    have qx := pparts hx0 hx'
    have hself := Rd_self (f := f) 1 ha ka
    have bx := eG_bnd f hx'
    have bf := (fmt_le f).2.2.2.2.2.1
    have hform : MulS f 1 x b = Rd f 1 false (nn f x * nn f b) (ee f x + ee f b) false := by
      unfold MulS
      rw [qx.1, qb.1, if_neg (by decide), if_neg (by decide), qx.2.1, qb.2.1]; rfl
    have hm : a ≤ MulS f 1 x b := by
      rw [hform, qx.2.2.1, qx.2.2.2]
      rw [ba] at hself
      conv => lhs; rw [← hself]
      refine Rd_le f 1 false (by omega) (by omega) ?_
      refine Nat.le_trans (hle hx' hb') ?_
      exact sc_mul (hv hx') (Nat.le_refl _) (by omega) (by omega) (by omega) (by omega)
    have hI : MulS f 1 x b ≤ fI f := by
      rw [hform]
      obtain ⟨y, y1, y2⟩ := Rd_form f 1 false (nn f x * nn f b) (ee f x + ee f b) false
      rw [y2, show sg f false = 0 from rfl]; omega
    exact NotS_pos hm hI

end Go.Proofs.Ytejfnbjhcohkiaa.N

/- Package conv: what it takes from wide and soft. Conditions: none. -/
namespace Go.Proofs.Ytejfnbjhcohkiaa.N
set_option linter.unusedVariables false
set_option linter.unusedSimpArgs false
open Go Go.Ab

theorem or_three_c {X t : Nat} (ht : t < 4) : bOr .u64 (lo (4 * X)) (t : Int) = lo (4 * X + t) := by
  unfold lo
  rw [bOr_nat (lo_lt _) (by omega)]
  have : (4 * X % 2 ^ 64) ||| t = 4 * X % 2 ^ 64 + t := or_add (s := 2) (by omega) ht
  rw [this]; congr 1; omega

theorem hi_three_c {X t : Nat} (ht : t < 4) : hi (4 * X + t) = hi (4 * X) := by
  unfold hi; congr 1; omega

theorem Len_c {R : Type} (k : Nat) {X : Nat} (h : X < 2 ^ 64) (J : Int → Option R) : wide_Len k 0 (X : Int) J = J ((bl X : Nat) : Int) := by
  have := Len_hl k (A := X) (by omega) J
  rw [hi_small h, lo_small h] at this; exact this
theorem Shl_c {R : Type} (k : Nat) {X : Nat} {n : Int} (h : X < 2 ^ 64) (hn : (Lit.int .i64 n).wf = true) (J : Int → Int → Option R) : wide_Shl k 0 (X : Int) n J = J (hi (X * 2 ^ n.toNat % 2 ^ 128)) (lo (X * 2 ^ n.toNat % 2 ^ 128)) := by
  have := Shl_hl k (A := X) (by omega) hn J
  rw [hi_small h, lo_small h] at this; exact this

/-- A power that is not too far. -/
def cec (e : Int) : Int := if e < -4000 then -4000 else if e > 4000 then 4000 else e
theorem cec_bounds (e : Int) : -4000 ≤ cec e ∧ cec e ≤ 4000 := by unfold cec; split <;> (try split) <;> omega
theorem cec_eq (e : Int) : (if 4000 < (if (-4000) > e then (-4000) else e) then 4000 else (if (-4000) > e then (-4000) else e)) = cec e := by
  unfold cec
  by_cases h : e < -4000
  · have : (-4000 : Int) > e := h
    rw [if_pos this, if_pos h]; rfl
  · have : ¬ (-4000 : Int) > e := h
    rw [if_neg this, if_neg h]

theorem Round_c {R : Type} (k : Nat) (f m : Int) (b : Bool) {N : Nat} (hN : N < 2 ^ 128) (e : Int) (x : Bool) (K : Int → Option R) :
    soft_Round k f m b (hi N) (lo N) e x K = K ((Rd f m b (N * 2 ^ 2 + x.toNat) (cec e - ((2 : Nat) : Int)) false : Nat) : Int) := by
  have hf := fmt_le f
  have hc := cec_bounds e
  unfold soft_Round soft_RoundT
  rw [shapeOf_k, cec_eq]
  cases x with
  | false =>
    rw [cond_false, round_k k f m b hN (by omega) (by omega) (.inr rfl)]
    rw [Bool.toNat_false, Nat.add_zero, Rd_scale]
  | true =>
    rw [cond_true, Len_hl k hN]
    by_cases c : ((bl N : Nat) : Int) ≤ 126
    · have hN2 : N < 2 ^ 126 := bl_le_iff.1 (by omega)
      have w : Wi64 (cec e - 2) = cec e - 2 := wrap_i64 (by omega) (by omega)
      have e4 : N * 2 ^ (2 : Int).toNat % 2 ^ 128 = 4 * N := by
        have : (2 : Int).toNat = 2 := rfl
        rw [this]; omega
      rw [decide_eq_true c, cond_true, Shl_hl k hN (by decide), e4, w]
      have o3 := or_three_c (X := N) (t := 1) (by decide)
      have h3 := hi_three_c (X := N) (t := 1) (by decide)
      rw [show (((1 : Nat) : Int)) = 1 from rfl] at o3
      rw [o3, ← h3, round_k k f m b (by omega) (by omega) (by omega) (.inr rfl)]
      have e5 : N * 2 ^ 2 + true.toNat = 4 * N + 1 := by rw [Bool.toNat_true]; omega
      rw [e5]; rfl
    · rw [decide_eq_false c, cond_false]
      have hb : fP f + 2 ≤ bl N := by omega
      have hp : 0 < N := by
        refine Nat.pos_of_ne_zero fun h => ?_
        subst h
        exact c (by decide)
      rw [round_k k f m b hN (by omega) (by omega) (.inl hp), Bool.toNat_true, Rd_stick f m b (cec e) hb (by decide) (by decide)]


theorem Round64 {R : Type} (k : Nat) (f m : Int) (b : Bool) {X : Nat} (hX : X < 2 ^ 64) {e : Int} (h1 : -4000 ≤ e) (h2 : e ≤ 4000) (K : Int → Option R) :
    soft_Round k f m b 0 (X : Int) e false K = K ((Rd f m b X e false : Nat) : Int) := by
  have h := Round_c k f m b (N := X) (by omega) e false K
  have hc : cec e = e := by unfold cec; rw [if_neg (by omega), if_neg (by omega)]
  rw [hi_small hX, lo_small hX, hc, Bool.toNat_false, Nat.add_zero, Rd_scale] at h
  exact h

theorem kd2_c {f : Int} {c : Nat} (h : kd f c = 2) : gg f c = 0 := by
  unfold kd at h
  split at h
  · cases h
  · split at h
    · cases h
    · split at h
      · cases h
      · split at h
        · assumption
        · cases h

theorem cbelow_k {R : Type} (k : Nat) (f : Int) {a : Nat} (ha : a < 2 ^ 64) (hb : bad f a = false) (K : Bool → Option R) : conv_below k f (a : Int) K = K (bw f a) := by
  have h2 := lt_2B ha hb
  have hf := fmt_le f
  have key : (bAnd .u64 (shr .u64 (a : Int) ((fP f + fE f : Nat) : Int)) 1 == 1) = bw f a := by
    rw [shr_pow (by omega), odd_eq (Nat.lt_of_le_of_lt (Nat.div_le_self _ _) ha)]
    unfold bw
    rw [hb]
    have hB : 0 < fB f := Nat.two_pow_pos _
    show (a / fB f % 2 == 1) = decide (fB f ≤ a)
    by_cases c : fB f ≤ a
    · have : a / fB f = 1 := Nat.div_eq_of_lt_le (by omega) (by omega)
      rw [this, decide_eq_true c]; rfl
    · rw [Nat.div_eq_of_lt (by omega), decide_eq_false c]; rfl
  unfold conv_below conv_belowT conv_bits conv_bitsT
  by_cases h : f = 1
  · subst h
    have w : Wi64 (32 - 1) = ((fP 1 + fE 1 : Nat) : Int) := by decide
    rw [show ((1 : Int) == 1) = true from rfl, cond_true]
    dsimp only
    rw [w, decide_eq_false (by decide), cond_false, key]
  · have e : (f == 1) = false := by rw [beq_eq_false_iff_ne]; exact h
    have hp : fP f + fE f = 63 := by rcases fmt f with ⟨h1, _⟩ | ⟨_, h1, h2, _⟩ <;> omega
    rw [hp] at key
    have w : Wi64 (64 - 1) = ((63 : Nat) : Int) := by decide
    rw [e, cond_false]
    dsimp only
    rw [w, decide_eq_false (by decide), cond_false, key]

end Go.Proofs.Ytejfnbjhcohkiaa.N

/- A finite float's power; classes and kinds. Conditions: none. -/
namespace Go.Proofs.Ytejfnbjhcohkiaa.N
set_option linter.unusedVariables false
set_option linter.unusedSimpArgs false
open Go Go.Ab

theorem Class_kd (f : Int) (a : Nat) : (ClassS f a = 5 ∨ ClassS f a = 0 ↔ kd f a = 0) ∧ (ClassS f a = 4 ↔ kd f a = 1) ∧ (ClassS f a = 1 ↔ kd f a = 2) ∧ (ClassS f a = 2 ∨ ClassS f a = 3 ↔ kd f a = 3) := by
  unfold ClassS
  cases hb : bad f a with
  | true =>
    have hk : kd f a = 0 := by unfold kd; rw [hb]; rfl
    rw [hk]; simp
  | false =>
    rcases kd_vals f a with h | h | h | h <;> rw [h] <;> simp <;> omega

/-- A finite float's number and power; of 0 the least power. -/
def e2 (f : Int) (a : Nat) : Int := if kd f a = 3 then ee f a else fL f

end Go.Proofs.Ytejfnbjhcohkiaa.N

/- Package conv: floats in the other format, ints, neighbours. Conditions: none. -/
namespace Go.Proofs.Ytejfnbjhcohkiaa.N
set_option linter.unusedVariables false
set_option linter.unusedSimpArgs false
open Go Go.Ab

theorem e2_bnd (f : Int) (a : Nat) : -1074 ≤ e2 f a ∧ e2 f a ≤ 1897 := by
  have := fmt_le f
  have := ee_bounds f a
  unfold e2; split <;> omega

theorem cfraction_k {R : Type} (k : Nat) (f : Int) (J : Int → Int → Option R) : conv_fraction k f J = J ((fP f : Nat) : Int) (fL f) := by
  unfold conv_fraction conv_fractionT fP fL
  by_cases h : f = 1
  · subst h; rfl
  · have : (f == 1) = false := by rw [beq_eq_false_iff_ne]; exact h
    rw [this]; simp [h]

theorem cvalue_k {R : Type} (k : Nat) (f : Int) {a : Nat} (ha : a < 2 ^ 64) (hk : 2 ≤ kd f a) (K : Int → Int → Option R) : conv_value k f (a : Int) K = K ((nn f a : Nat) : Int) (e2 f a) := by
  unfold conv_value conv_valueT
  have hf := fmt_le f
  have hp := fP_pos f
  have hg := gg_lt f a
  have hB := fB_le f
  have hA : AbsS f a = gg f a := by unfold AbsS; rw [if_neg (by omega)]
  have nP : ¬ (((fP f : Nat) : Int) < 0) := by omega
  rw [cfraction_k, Abs_k k f ha, hA, decide_eq_false nP, cond_false, cond_false, cond_false, shr_pow (by omega)]
  by_cases c : gg f a < 2 ^ fP f
  · have h0 : gg f a / 2 ^ fP f = 0 := Nat.div_eq_of_lt c
    rw [h0, decide_eq_false (by decide), cond_false]
    rcases kd_vals f a with h | h | h | h
    · omega
    · omega
    · rw [(nn_zero (by rw [h]; decide)).1, kd2_c h]
      have e : e2 f a = fL f := by unfold e2; rw [h]; rfl
      rw [e]
    · have hn : nn f a = gg f a := by unfold nn nG; rw [if_pos h, if_pos c]
      have he : e2 f a = fL f := by unfold e2 ee eG; rw [if_pos h, if_pos h, if_pos c]
      rw [hn, he]
  · have h : kd f a = 3 := by
      rcases kd_vals f a with h | h | h | h
      · omega
      · omega
      · exact absurd (kd2_c h) (by omega)
      · exact h
    have h3 := kd3 h
    have hd : 0 < gg f a / 2 ^ fP f := Nat.div_pos (by omega) hp
    have hM : gg f a % 2 ^ fP f < 2 ^ fP f := Nat.mod_lt _ hp
    have hdl : gg f a / 2 ^ fP f < 2 ^ fE f := by rw [Nat.div_lt_iff_lt_mul hp]; unfold fB at hg; rw [Nat.add_comm, Nat.pow_add] at hg; exact hg
    have hexp2 : 2 ^ fE f ≤ 2 ^ 11 := Nat.pow_le_pow_right (by decide) (by omega)
    have hn : nn f a = gg f a % 2 ^ fP f + 2 ^ fP f := by unfold nn nG; rw [if_pos h, if_neg c, Nat.add_comm]
    have he : e2 f a = ((gg f a / 2 ^ fP f : Nat) : Int) - 1 + fL f := by unfold e2 ee eG; rw [if_pos h, if_pos h, if_neg c]
    have e1 : bOr .u64 ((gg f a % 2 ^ fP f : Nat) : Int) (shl .u64 1 ((fP f : Nat) : Int)) = ((gg f a % 2 ^ fP f + 2 ^ fP f : Nat) : Int) := bit_or hM (by omega)
    have ew : Wi64 (Wi64 (Wi64 ((gg f a / 2 ^ fP f : Nat) : Int) - 1) + fL f) = ((gg f a / 2 ^ fP f : Nat) : Int) - 1 + fL f := by
      rw [Wi64_nat (by omega), wrap_i64 (x := ((gg f a / 2 ^ fP f : Nat) : Int) - 1) (by omega) (by omega), wrap_i64 (by omega) (by omega)]
    rw [decide_eq_true (show ((gg f a / 2 ^ fP f : Nat) : Int) > 0 by omega), cond_true, low_bits (by omega) (by omega), e1, ew, hn, he]

/-- A float in another format. -/
def TurnS (f g m : Int) (a : Nat) : Nat := if kd f a = 0 then NAN g else if kd f a = 1 then sg g (bw f a) + fI g else Rd g m (bw f a) (nn f a) (e2 f a) false

theorem cturned_k {R : Type} (k : Nat) (f g m : Int) {a : Nat} (ha : a < 2 ^ 64) (K : Int → Option R) : conv_turned k f g m (a : Int) K = K ((TurnS f g m a : Nat) : Int) := by
  unfold conv_turned conv_turnedT TurnS
  have hb := e2_bnd f a
  have n1 := nn_lt64 f a
  have hI := fB_double g
  have hIp : 0 < fI g := Nat.lt_of_le_of_lt (Nat.zero_le _) (fI_pos g)
  rw [Finite_k k f ha]
  rcases kd_vals f a with h | h | h | h
  · have e : FinS f a = false := by unfold FinS; rw [h]; rfl
    have c : (ClassS f a != 4) = true := by rw [bne_iff_ne]; intro hh; have := (Class_kd f a).2.1.1 hh; omega
    rw [e, Bool.not_false, cond_true, Class_k k f ha, c, cond_true, Nan_k, if_pos h]
  · have e : FinS f a = false := by unfold FinS; rw [h]; rfl
    have c : (ClassS f a != 4) = false := by rw [(Class_kd f a).2.1.2 h]; rfl
    have w : Wu64 (((fI g - 1 : Nat) : Int) + 1) = ((fI g : Nat) : Int) := by
      rw [show ((fI g - 1 : Nat) : Int) + 1 = ((fI g : Nat) : Int) by omega, Wu64_lt (by omega)]
    rw [e, Bool.not_false, cond_true, Class_k k f ha, c, cond_false, Most_k, cbelow_k k f ha (bad_of_kd (by rw [h]; decide)), w, if_neg (by omega), if_pos h]
    have hN := Neg_sg (f := g) false (x := fI g) (Nat.le_refl _)
    have z : sg g false = 0 := rfl
    rw [z, Nat.zero_add] at hN
    cases bw f a with
    | true => rw [cond_true, Neg_k k g (by omega), hN]; rfl
    | false => rw [cond_false, z, Nat.zero_add]
  · have e : FinS f a = true := by unfold FinS; rw [h]; rfl
    rw [e, Bool.not_true, cond_false, cvalue_k k f ha (by omega), cbelow_k k f ha (bad_of_kd (by rw [h]; decide)), Round64 k g m _ (by omega) (by omega) (by omega), if_neg (by omega), if_neg (by omega)]
  · have e : FinS f a = true := by unfold FinS; rw [h]; rfl
    rw [e, Bool.not_true, cond_false, cvalue_k k f ha (by omega), cbelow_k k f ha (bad_of_kd (by rw [h]; decide)), Round64 k g m _ (by omega) (by omega) (by omega), if_neg (by omega), if_neg (by omega)]

theorem TurnS_lt (f g m : Int) (a : Nat) : TurnS f g m a < 2 ^ 64 := by
  unfold TurnS
  split
  · exact NAN_lt64 g
  · split
    · exact form_lt ⟨_, _, Nat.le_refl _, rfl⟩
    · exact form_lt ⟨_, Rd_form ..⟩

def PlainS (f : Int) (a : Nat) : Nat := if kd f a = 0 then NAN f else if kd f a = 2 then 0 else a

theorem cPlain_k {R : Type} (k : Nat) (f : Int) {a : Nat} (ha : a < 2 ^ 64) (K : Int → Option R) : conv_Plain k f (a : Int) K = K ((PlainS f a : Nat) : Int) := by
  unfold conv_Plain conv_PlainT PlainS
  obtain ⟨c0, c1, c2, c3⟩ := Class_kd f a
  rw [Class_k k f ha, Nan_k]
  by_cases h : kd f a = 0
  · rw [if_pos h]
    rcases c0.2 h with e | e
    · rw [e, show ((5 : Int) == 0) = false from rfl, cond_false, show ((5 : Int) == 5) = true from rfl, cond_true]
    · rw [e, show ((0 : Int) == 0) = true from rfl, cond_true]
  · have d0 : (ClassS f a == 0) = false := by rw [beq_eq_false_iff_ne]; exact fun e => h (c0.1 (.inr e))
    have d5 : (ClassS f a == 5) = false := by rw [beq_eq_false_iff_ne]; exact fun e => h (c0.1 (.inl e))
    rw [if_neg h, d0, cond_false, d5, cond_false]
    by_cases h2 : kd f a = 2
    · rw [c2.2 h2, if_pos h2]; rfl
    · have d1 : (ClassS f a == 1) = false := by rw [beq_eq_false_iff_ne]; exact fun e => h2 (c2.1 e)
      rw [d1, cond_false, if_neg h2]

theorem PlainS_lt (f : Int) {a : Nat} (ha : a < 2 ^ 64) : PlainS f a < 2 ^ 64 := by
  unfold PlainS; split
  · exact NAN_lt64 f
  · split
    · decide
    · exact ha

def NextS (f : Int) (a : Nat) : Nat := if kd f a < 2 then NAN f else if kd f a = 2 then 1 else if bw f a = true then PlainS f (a - 1) else if a = fI f - 1 then a else a + 1

theorem kd3_pos {f : Int} {a : Nat} (h : kd f a = 3) : 0 < a := by
  refine Nat.pos_of_ne_zero fun h0 => ?_
  have := (kd3 h).2.1
  rw [h0] at this
  unfold gg at this
  rw [Nat.zero_mod] at this
  omega

theorem Plain3 {f : Int} {a : Nat} (h : kd f a = 3) : PlainS f a = a := by unfold PlainS; rw [if_neg (by omega), if_neg (by omega)]

theorem bw_pos {f : Int} {a : Nat} (h : bw f a = true) : fB f ≤ a := by
  unfold bw at h; split at h
  · cases h
  · simpa using h

theorem kd3_above {f : Int} {a : Nat} (ha : a < 2 ^ 64) (h : kd f a = 3) (hb : bw f a = false) : a < fI f := by
  have h3 := kd3 h
  have := parts_of ha h3.1
  rw [hb] at this
  have z : sg f false = 0 := rfl
  omega

theorem NextS_lt (f : Int) {a : Nat} (ha : a < 2 ^ 64) : NextS f a < 2 ^ 64 := by
  have hI := fB_double f
  unfold NextS
  split
  · exact NAN_lt64 f
  · split
    · decide
    · split
      · exact PlainS_lt f (by omega)
      · split
        · exact ha
        · rename_i h1 h2 h3 h4
          have : kd f a = 3 := by rcases kd_vals f a with h | h | h | h <;> omega
          have := kd3_above ha this (by simpa using h3)
          omega

def PrevS (f : Int) (a : Nat) : Nat := if kd f a < 2 then NAN f else PlainS f (NegS f (NextS f (NegS f a)))

/-- An int as a float. -/
def FromS (f m : Int) (n : Int) : Nat := Rd f m (decide (n < 0)) n.natAbs 0 false

theorem cFromInt_k {R : Type} (k : Nat) (f m : Int) {n : Int} (hn : -9223372036854775808 ≤ n ∧ n ≤ 9223372036854775807) (K : Int → Option R) : conv_FromInt k f m n K = K ((FromS f m n : Nat) : Int) := by
  unfold conv_FromInt conv_FromIntT FromS
  by_cases h : n < 0
  · have w : Wu64 (0 - Wu64 n) = ((n.natAbs : Nat) : Int) := by unfold Wu64; rw [wrap_u64, wrap_u64]; omega
    rw [decide_eq_true h, cond_true, w, Round64 k f m _ (by omega) (by omega) (by omega)]
  · have w : Wu64 n = ((n.natAbs : Nat) : Int) := by unfold Wu64; rw [wrap_u64]; omega
    rw [decide_eq_false h, cond_false, w, Round64 k f m _ (by omega) (by omega) (by omega)]

theorem FromS_lt (f m n : Int) : FromS f m n < 2 ^ 64 := form_lt ⟨_, Rd_form ..⟩

end Go.Proofs.Ytejfnbjhcohkiaa.N

/- A number that a Double has room for is a Double. Conditions: none. -/
namespace Go.Proofs.Ytejfnbjhcohkiaa.N
set_option linter.unusedVariables false
set_option linter.unusedSimpArgs false
open Go Go.Ab

theorem dbl_exact {N : Nat} {e : Int} (h0 : 0 < N) (hN : N < 2 ^ 53) (he : -1000 ≤ e) (he2 : e ≤ 900) :
    ∃ g, 0 < g ∧ g < fI 0 ∧ nG 0 g = N * 2 ^ (53 - bl N) ∧ eG 0 g = e - ((53 - bl N : Nat) : Int) ∧ ∀ m s, Rd 0 m s N e false = sg 0 s + g := by
  have b1 := bl_pos h0
  have b2 : bl N ≤ 53 := bl_le_iff.2 hN
  obtain ⟨j, hj⟩ : ∃ j, j = 53 - bl N := ⟨_, rfl⟩
  obtain ⟨M, hM⟩ : ∃ M, M = N * 2 ^ j := ⟨_, rfl⟩
  have hl : 2 ^ 52 ≤ M := by
    have := Nat.mul_le_mul_right (2 ^ j) (bl_low h0)
    rw [← Nat.pow_add, show bl N - 1 + j = 52 by omega, ← hM] at this
    exact this
  have hu : M < 2 ^ 53 := by
    have := (Nat.mul_lt_mul_right (Nat.two_pow_pos j)).2 (bl_up N)
    rw [← Nat.pow_add, show bl N + j = 53 by omega, ← hM] at this
    exact this
  obtain ⟨x, hx⟩ : ∃ x : Nat, (x : Int) = e - (j : Int) + 1075 := ⟨(e - (j : Int) + 1075).toNat, by omega⟩
  have x1 : 1 ≤ x := by omega
  have x2 : x ≤ 2000 := by omega
  obtain ⟨g, hg⟩ : ∃ g, g = x * 2 ^ 52 + (M - 2 ^ 52) := ⟨_, rfl⟩
  have hr : M - 2 ^ 52 < 2 ^ 52 := by omega
  have gd : g / 2 ^ 52 = x := by
    rw [hg, Nat.mul_comm, Nat.mul_add_div (by decide), Nat.div_eq_of_lt hr, Nat.add_zero]
  have gm : g % 2 ^ 52 = M - 2 ^ 52 := by
    rw [hg, Nat.mul_comm, Nat.mul_add_mod, Nat.mod_eq_of_lt hr]
  have hP : fP 0 = 52 := rfl
  have hL : fL 0 = -1074 := rfl
  have hI : fI 0 = 2047 * 2 ^ 52 := by decide
  have hge : ¬ g < 2 ^ 52 := by omega
  have hlt : g < fI 0 := by omega
  have n1 : nG 0 g = M := by unfold nG; rw [hP, if_neg hge, gm]; omega
  have n2 : eG 0 g = e - (j : Int) := by unfold eG; rw [hP, hL, if_neg hge, gd]; omega
  refine ⟨g, by omega, hlt, ?_, ?_, fun m s => ?_⟩
  · rw [n1, hM, hj]
  · rw [n2, hj]
  · have := Rd_G 0 m s (g := g) (by omega) hlt
    rw [n1, n2, hM, Rd_scale] at this
    exact this

/-- A float of this sign and rest. -/
theorem sgp {f : Int} (s : Bool) {x : Nat} (h0 : 0 < x) (h : x < fI f) : kd f (sg f s + x) = 3 ∧ bw f (sg f s + x) = s ∧ nn f (sg f s + x) = nG f x ∧ ee f (sg f s + x) = eG f x := by
  have hB := (fB_double f).2
  have hk : kd f (sg f s + x) = 3 := by
    rw [kd_sg s (by omega), if_neg (by omega), if_neg (by omega), if_neg (by omega)]
  have hg := gg_sg (f := f) s (x := x) (by omega)
  refine ⟨hk, hg.2.1, ?_, ?_⟩
  · unfold nn; rw [if_pos hk, hg.1]
  · unfold ee; rw [if_pos hk, hg.1]

theorem sg0 {f : Int} (s : Bool) : kd f (sg f s) = 2 ∧ bw f (sg f s) = s := by
  have hB := fB_double f
  have hI : 0 < fI f := Nat.lt_of_le_of_lt (Nat.zero_le _) (fI_pos f)
  have h1 := gg_sg (f := f) s (x := 0) (by omega)
  have h2 := kd_sg (f := f) s (x := 0) (by omega)
  rw [Nat.add_zero, if_neg (by omega), if_neg (by omega), if_pos rfl] at h2
  rw [Nat.add_zero] at h1
  exact ⟨h2, h1.2.1⟩

theorem sgI {f : Int} (s : Bool) : kd f (sg f s + fI f) = 1 ∧ bw f (sg f s + fI f) = s := by
  have hB := fB_double f
  have h1 := gg_sg (f := f) s (x := fI f) (by omega)
  have h2 := kd_sg (f := f) s (x := fI f) (by omega)
  rw [if_neg (by omega), if_pos rfl] at h2
  exact ⟨h2, h1.2.1⟩

theorem gg_I {f : Int} {a : Nat} (h : kd f a = 1) : gg f a = fI f := by
  unfold kd at h
  split at h
  · cases h
  · split at h
    · cases h
    · split at h
      · assumption
      · split at h <;> cases h

end Go.Proofs.Ytejfnbjhcohkiaa.N

/- Up, near, down and zero of one number. Conditions: none. -/
namespace Go.Proofs.Ytejfnbjhcohkiaa.N
set_option linter.unusedVariables false
set_option linter.unusedSimpArgs false
open Go Go.Ab

theorem clip_pos (f : Int) (g : Nat) (o h r : Bool) : ∃ x u n, x < fI f ∧ (u = x ∨ u = x + 1) ∧ (n = u ∨ n = x) ∧
    clip f 1 false (g + (more 1 false o h r).toNat) = u ∧ clip f 0 false (g + (more 0 false o h r).toNat) = n ∧ clip f 2 false (g + (more 2 false o h r).toNat) = x ∧ clip f 3 false (g + (more 3 false o h r).toNat) = x := by
  have hI : 0 < fI f := Nat.lt_of_le_of_lt (Nat.zero_le _) (fI_pos f)
  refine ⟨_, _, _, ?_, ?_, ?_, rfl, rfl, rfl, ?_⟩ <;> unfold clip more <;> cases o <;> cases h <;> cases r <;> simp <;> (repeat' split) <;> omega

theorem clip_neg (f : Int) (g : Nat) (o h r : Bool) : ∃ x d n, x < fI f ∧ (d = x ∨ d = x + 1) ∧ (n = d ∨ n = x) ∧
    clip f 1 true (g + (more 1 true o h r).toNat) = x ∧ clip f 0 true (g + (more 0 true o h r).toNat) = n ∧ clip f 2 true (g + (more 2 true o h r).toNat) = d ∧ clip f 3 true (g + (more 3 true o h r).toNat) = x := by
  have hI : 0 < fI f := Nat.lt_of_le_of_lt (Nat.zero_le _) (fI_pos f)
  refine ⟨_, _, _, ?_, ?_, ?_, rfl, rfl, rfl, ?_⟩ <;> unfold clip more <;> cases o <;> cases h <;> cases r <;> simp <;> (repeat' split) <;> omega

end Go.Proofs.Ytejfnbjhcohkiaa.N
