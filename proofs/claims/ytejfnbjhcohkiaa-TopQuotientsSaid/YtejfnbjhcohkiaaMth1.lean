/- A format that is none counts as a Double. Conditions: none. -/
import Derived.Test.YtejfnbjhcohkiaaMs
import Derived.Test.YtejfnbjhcohkiaaMt
import Derived.Test.YtejfnbjhcohkiaaMb
namespace Go.Proofs.Ytejfnbjhcohkiaa.N
set_option linter.unusedVariables false
set_option linter.unusedSimpArgs false
open Go Go.Ab

/-- A format that is one. -/
def fm (f : Int) : Int := if f = 1 then 1 else 0
theorem fm_P (f : Int) : fP (fm f) = fP f ∧ fE (fm f) = fE f ∧ fL (fm f) = fL f ∧ (fm f = 1 ↔ f = 1) := by
  unfold fm fP fE fL
  by_cases h : f = 1 <;> simp [h]
theorem fP_fm (f : Int) : fP (fm f) = fP f := (fm_P f).1
theorem fE_fm (f : Int) : fE (fm f) = fE f := (fm_P f).2.1
theorem fL_fm (f : Int) : fL (fm f) = fL f := (fm_P f).2.2.1
theorem bad_fm (f : Int) (a : Nat) : bad (fm f) a = bad f a := by unfold bad; rw [Bool.eq_iff_iff]; simp only [decide_eq_true_eq, (fm_P f).2.2.2]
theorem fB_fm (f : Int) : fB (fm f) = fB f := by unfold fB; rw [fP_fm, fE_fm]
theorem fI_fm (f : Int) : fI (fm f) = fI f := by unfold fI; rw [fP_fm, fE_fm]
theorem sg_fm (f : Int) (b : Bool) : sg (fm f) b = sg f b := by unfold sg; rw [fB_fm]
theorem NAN_fm (f : Int) : NAN (fm f) = NAN f := by unfold NAN; rw [fI_fm, fP_fm]
theorem gg_fm (f : Int) (a : Nat) : gg (fm f) a = gg f a := by unfold gg; rw [fB_fm]
theorem kd_fm (f : Int) (a : Nat) : kd (fm f) a = kd f a := by unfold kd; rw [bad_fm, fI_fm, gg_fm]
theorem bw_fm (f : Int) (a : Nat) : bw (fm f) a = bw f a := by unfold bw; rw [bad_fm, fB_fm]
theorem nn_fm (f : Int) (a : Nat) : nn (fm f) a = nn f a := by unfold nn nG; rw [kd_fm, gg_fm, fP_fm]
theorem ee_fm (f : Int) (a : Nat) : ee (fm f) a = ee f a := by unfold ee eG; rw [kd_fm, gg_fm, fP_fm, fL_fm]
theorem clip_fm (f m : Int) (b : Bool) (g : Nat) : clip (fm f) m b g = clip f m b g := by unfold clip; rw [fI_fm]
theorem gOf_fm (f m : Int) (b : Bool) (l : Int) (q : Nat) (h r : Bool) : gOf (fm f) m b l q h r = gOf f m b l q h r := by unfold gOf; rw [fL_fm, fP_fm]
theorem enc_fm (f m : Int) (b : Bool) (l : Int) (q : Nat) (h r : Bool) : enc (fm f) m b l q h r = enc f m b l q h r := by unfold enc; rw [sg_fm, clip_fm, gOf_fm]
theorem lastOf_fm (f : Int) (N : Nat) (e : Int) : lastOf (fm f) N e = lastOf f N e := by unfold lastOf; rw [fP_fm, fL_fm]
theorem Rd_fm (f m : Int) (b : Bool) (N : Nat) (e : Int) (r : Bool) : Rd (fm f) m b N e r = Rd f m b N e r := by unfold Rd; rw [sg_fm, lastOf_fm, enc_fm]
theorem AddX_fm (f m : Int) (bx : Bool) (X : Nat) (ex : Int) (by' : Bool) (Y : Nat) (ey : Int) : AddX (fm f) m bx X ex by' Y ey = AddX f m bx X ex by' Y ey := by unfold AddX; simp only [Rd_fm, sg_fm]
theorem NegS_fm (f : Int) (a : Nat) : NegS (fm f) a = NegS f a := by unfold NegS; rw [kd_fm, NAN_fm, fB_fm]
theorem AbsS_fm (f : Int) (a : Nat) : AbsS (fm f) a = AbsS f a := by unfold AbsS; rw [kd_fm, NAN_fm, gg_fm]
theorem FinS_fm (f : Int) (a : Nat) : FinS (fm f) a = FinS f a := by unfold FinS; rw [kd_fm]
theorem ClassS_fm (f : Int) (a : Nat) : ClassS (fm f) a = ClassS f a := by unfold ClassS; rw [bad_fm, kd_fm, gg_fm, fP_fm]
theorem CmpS_fm (f : Int) (a b : Nat) : CmpS (fm f) a b = CmpS f a b := by unfold CmpS rank; rw [kd_fm, kd_fm, bw_fm, bw_fm, gg_fm, gg_fm]
theorem AddS_fm (f m : Int) (a b : Nat) : AddS (fm f) m a b = AddS f m a b := by unfold AddS; rw [kd_fm, kd_fm, bw_fm, bw_fm, NAN_fm, AddX_fm, nn_fm, nn_fm, ee_fm, ee_fm]
theorem MulS_fm (f m : Int) (a b : Nat) : MulS (fm f) m a b = MulS f m a b := by unfold MulS; rw [kd_fm, kd_fm, bw_fm, bw_fm, NAN_fm, Rd_fm, nn_fm, nn_fm, ee_fm, ee_fm, sg_fm, fI_fm]
theorem DivS_fm (f m : Int) (a b : Nat) : DivS (fm f) m a b = DivS f m a b := by unfold DivS DivX; rw [kd_fm, kd_fm, bw_fm, bw_fm, NAN_fm, Rd_fm, nn_fm, nn_fm, ee_fm, ee_fm, sg_fm, fI_fm]

end Go.Proofs.Ytejfnbjhcohkiaa.N

/- Floats: the lowest ones. Conditions: none. -/
namespace Go.Proofs.Ytejfnbjhcohkiaa.N
set_option linter.unusedVariables false
set_option linter.unusedSimpArgs false
open Go Go.Ab

theorem nG_small {f : Int} {g : Nat} (h : g < 2 ^ (fP f + 1)) : nG f g = g ∧ eG f g = fL f := by
  have hp := fP_pos f
  rw [Nat.pow_succ] at h
  unfold nG eG
  by_cases c : g < 2 ^ fP f
  · rw [if_pos c, if_pos c]; exact ⟨rfl, rfl⟩
  · rw [if_neg c, if_neg c]
    have h1 : g / 2 ^ fP f = 1 := Nat.div_eq_of_lt_le (by omega) (by omega)
    have h2 := Nat.div_add_mod g (2 ^ fP f)
    rw [h1, Nat.mul_one] at h2
    rw [h1]
    refine ⟨by omega, by omega⟩

theorem fI_two (f : Int) : 2 ^ (fP f + 1) < fI f := by
  rcases fmt f with ⟨_, h1, h2, h3⟩ | ⟨_, h1, h2, h3⟩ <;> unfold fI <;> rw [h1, h2] <;> decide

end Go.Proofs.Ytejfnbjhcohkiaa.N

/- Rounding keeps the order. Conditions: none. -/
namespace Go.Proofs.Ytejfnbjhcohkiaa.N
set_option linter.unusedVariables false
set_option linter.unusedSimpArgs false
open Go Go.Ab

theorem bl_mono {N M : Nat} (h : N ≤ M) : bl N ≤ bl M := bl_le_iff.2 (Nat.lt_of_le_of_lt h (bl_up M))

/-- The bits below a place, as a number. -/
theorem hd_iff {N : Nat} {j : Nat} (hj : 0 < j) : hd N (j : Int) = decide (2 ^ (j - 1) ≤ N % 2 ^ j) := by
  unfold hd
  rw [decide_eq_true (show (0 : Int) < (j : Int) by omega), Bool.true_and, Int.toNat_natCast]
  obtain ⟨i, rfl⟩ : ∃ i, j = i + 1 := ⟨j - 1, by omega⟩
  rw [Nat.add_sub_cancel]
  have hp := Nat.two_pow_pos i
  have e : N % 2 ^ (i + 1) = N % 2 ^ i + 2 ^ i * (N / 2 ^ i % 2) := by rw [Nat.pow_succ, Nat.mod_mul]
  have hm := Nat.mod_lt N hp
  rw [Nat.testBit_eq_decide_div_mod_eq]
  by_cases c : N / 2 ^ i % 2 = 1
  · rw [decide_eq_true c, e, c, decide_eq_true (by omega)]
  · have : N / 2 ^ i % 2 = 0 := by omega
    rw [decide_eq_false c, e, this, decide_eq_false (by omega)]

theorem rs_iff {N : Nat} {j : Nat} (hj : 0 < j) : rs N (j : Int) = decide (N % 2 ^ j ≠ 0 ∧ N % 2 ^ j ≠ 2 ^ (j - 1)) := by
  unfold rs
  rw [decide_eq_true (show (0 : Int) < (j : Int) by omega), Bool.true_and, Int.toNat_natCast]
  obtain ⟨i, rfl⟩ : ∃ i, j = i + 1 := ⟨j - 1, by omega⟩
  rw [Nat.add_sub_cancel]
  have hp := Nat.two_pow_pos i
  have e : N % 2 ^ (i + 1) = N % 2 ^ i + 2 ^ i * (N / 2 ^ i % 2) := by rw [Nat.pow_succ, Nat.mod_mul]
  have hm := Nat.mod_lt N hp
  rw [e]
  have h2 : N / 2 ^ i % 2 = 0 ∨ N / 2 ^ i % 2 = 1 := by omega
  rcases h2 with h2 | h2 <;> rw [h2] <;> rw [decide_eq_decide] <;> omega

theorem hd_rs_low {N : Nat} {d : Int} (h : d ≤ 0) : hd N d = false ∧ rs N d = false := by
  unfold hd rs
  rw [decide_eq_false (by omega)]
  exact ⟨rfl, rfl⟩

theorem more_iff (m : Int) (s o : Bool) {n p : Nat} (hp : 0 < p) : more m s o (decide (p ≤ n)) (decide (n ≠ 0 ∧ n ≠ p)) = true ↔
    (m = 1 ∧ s = false ∧ 0 < n) ∨ (m = 2 ∧ s = true ∧ 0 < n) ∨ (m ≠ 1 ∧ m ≠ 2 ∧ m ≠ 3 ∧ p ≤ n ∧ (p < n ∨ o = true)) := by
  have hr : (decide (p ≤ n) || decide (n ≠ 0 ∧ n ≠ p)) = decide (0 < n) := by
    rw [← Bool.decide_or, decide_eq_decide]; omega
  unfold more
  rw [hr]
  by_cases h1 : m = 1
  · rw [if_pos h1, Bool.and_eq_true, Bool.not_eq_true', decide_eq_true_eq]
    constructor
    · exact fun h => .inl ⟨h1, h.1, h.2⟩
    · rintro (h | h | h)
      · exact h.2
      · omega
      · exact absurd h1 h.1
  · rw [if_neg h1]
    by_cases h2 : m = 2
    · rw [if_pos h2, Bool.and_eq_true, decide_eq_true_eq]
      constructor
      · exact fun h => .inr (.inl ⟨h2, h.1, h.2⟩)
      · rintro (h | h | h)
        · omega
        · exact h.2
        · exact absurd h2 h.2.1
    · rw [if_neg h2]
      by_cases h3 : m = 3
      · rw [if_pos h3]
        constructor
        · intro h; cases h
        · rintro (h | h | h)
          · omega
          · omega
          · exact absurd h3 h.2.2.1
      · rw [if_neg h3, Bool.and_eq_true, Bool.or_eq_true, decide_eq_true_eq, decide_eq_true_eq]
        constructor
        · rintro ⟨a, b⟩
          refine .inr (.inr ⟨h1, h2, h3, a, ?_⟩)
          rcases b with b | b
          · exact .inl (by omega)
          · exact .inr b
        · rintro (h | h | h)
          · omega
          · omega
          · refine ⟨h.2.2.2.1, ?_⟩
            rcases h.2.2.2.2 with b | b
            · exact .inl ⟨by omega, by omega⟩
            · exact .inr b

/-- With the same places above, what is more stays more. -/
theorem more_mono (m : Int) (s : Bool) (o : Bool) {N M : Nat} {j : Nat} (hj : 0 < j) (h : N % 2 ^ j ≤ M % 2 ^ j) (hm : more m s o (hd N (j : Int)) (rs N (j : Int)) = true) : more m s o (hd M (j : Int)) (rs M (j : Int)) = true := by
  rw [hd_iff hj, rs_iff hj] at hm ⊢
  have hp := Nat.two_pow_pos (j - 1)
  rw [more_iff m s o hp] at hm ⊢
  rcases hm with ⟨a, b, c⟩ | ⟨a, b, c⟩ | ⟨a, b, c, d, e⟩
  · exact .inl ⟨a, b, by omega⟩
  · exact .inr (.inl ⟨a, b, by omega⟩)
  · refine .inr (.inr ⟨a, b, c, by omega, ?_⟩)
    rcases e with e | e
    · exact .inl (by omega)
    · exact .inr e

theorem div_mono_same {N M j : Nat} (h : N ≤ M) (hq : N / 2 ^ j = M / 2 ^ j) : N % 2 ^ j ≤ M % 2 ^ j := by
  have h1 := Nat.div_add_mod N (2 ^ j)
  have h2 := Nat.div_add_mod M (2 ^ j)
  rw [hq] at h1
  omega

theorem clip_mono (f m : Int) (s : Bool) {g h : Nat} (hgh : g ≤ h) : clip f m s g ≤ clip f m s h := by
  have hI : 0 < fI f := Nat.lt_of_le_of_lt (Nat.zero_le _) (fI_pos f)
  unfold clip
  by_cases c : h < fI f
  · rw [if_pos c, if_pos (by omega)]; exact hgh
  · rw [if_neg c]
    by_cases c2 : g < fI f
    · rw [if_pos c2]; split <;> omega
    · rw [if_neg c2]; exact Nat.le_refl _

theorem Rd_mono (f m : Int) (s : Bool) {N M : Nat} (e : Int) (h : N ≤ M) : Rd f m s N e false ≤ Rd f m s M e false := by
  have hp := fP_pos f
  unfold Rd
  by_cases h0 : N = 0
  · rw [if_pos ⟨h0, rfl⟩]
    split
    · exact Nat.le_refl _
    · unfold enc; omega
  · have h1 : ¬ (N = 0 ∧ false = false) := fun q => h0 q.1
    have h2 : ¬ (M = 0 ∧ false = false) := fun q => by omega
    rw [if_neg h1, if_neg h2, Bool.false_or, Bool.false_or]
    unfold enc
    refine Nat.add_le_add_left (clip_mono f m s ?_) _
    have hbl := bl_mono h
    have hl : lastOf f N e ≤ lastOf f M e := by unfold lastOf; omega
    have q1 := qd_lt (f := f) (e := e) (show 0 < N by omega)
    have q2 := qd_lt (f := f) (e := e) (show 0 < M by omega)
    have l1 : fL f ≤ lastOf f N e := Int.le_max_right _ _
    unfold gOf
    have b1 := Bool.toNat_le (more m s (qd N (lastOf f N e - e) % 2 == 1) (hd N (lastOf f N e - e)) (rs N (lastOf f N e - e)))
    by_cases c : lastOf f N e = lastOf f M e
    · rw [← c] at q2 ⊢
      obtain ⟨d, hd'⟩ : ∃ d, d = lastOf f N e - e := ⟨_, rfl⟩
      rw [← hd'] at b1 ⊢
      have hq : qd N d ≤ qd M d := by
        unfold qd
        split
        · exact Nat.div_le_div_right h
        · exact Nat.mul_le_mul_right _ h
      by_cases cq : qd N d = qd M d
      · rw [cq]
        refine Nat.add_le_add_left ?_ _
        by_cases hd0 : 0 < d
        · obtain ⟨j, hj⟩ : ∃ j : Nat, d = (j : Int) := ⟨d.toNat, by omega⟩
          subst hj
          have hj0 : 0 < j := by omega
          have hqq : N / 2 ^ j = M / 2 ^ j := by
            unfold qd at cq
            rw [if_pos hd0, if_pos hd0, Int.toNat_natCast] at cq; exact cq
          have := more_mono m s (qd M (j : Int) % 2 == 1) hj0 (div_mono_same h hqq)
          cases hm : more m s (qd M (j : Int) % 2 == 1) (hd N (j : Int)) (rs N (j : Int)) with
          | false => exact Nat.zero_le _
          | true => rw [this hm]; exact Nat.le_refl _
        · have z1 := hd_rs_low (N := N) (d := d) (by omega)
          have z2 := hd_rs_low (N := M) (d := d) (by omega)
          rw [z1.1, z1.2, z2.1, z2.2]; exact Nat.le_refl _
      · omega
    · have hne : lastOf f M e ≠ fL f := by omega
      have g2 := qd_ge (f := f) (e := e) (show 0 < M by omega) hne
      have hz : (lastOf f N e - fL f).toNat + 1 ≤ (lastOf f M e - fL f).toNat := by omega
      have hmul := Nat.mul_le_mul_right (2 ^ fP f) hz
      rw [Nat.add_mul, Nat.one_mul] at hmul
      rw [Nat.pow_succ] at q1
      omega

end Go.Proofs.Ytejfnbjhcohkiaa.N

/- What a rounded number is worth. Conditions: none. -/
namespace Go.Proofs.Ytejfnbjhcohkiaa.N
set_option linter.unusedVariables false
set_option linter.unusedSimpArgs false
open Go Go.Ab

/-- N times 2 to the e, in units that are small enough. -/
def sc (N : Nat) (e : Int) : Nat := N * 2 ^ (e + 4000).toNat
/-- What a float above 0 is worth. -/
def vG (f : Int) (g : Nat) : Nat := sc (nG f g) (eG f g)

theorem sc_up {N : Nat} {e : Int} (j : Nat) (he : -4000 ≤ e - j) : sc (N * 2 ^ j) (e - j) = sc N e := by
  unfold sc
  rw [Nat.mul_assoc, ← Nat.pow_add]
  congr 2
  omega

theorem sc_mono {N M : Nat} {e : Int} (h : N ≤ M) : sc N e ≤ sc M e := Nat.mul_le_mul_right _ h
theorem sc_le {N M : Nat} {e : Int} (h : sc N e ≤ sc M e) : N ≤ M := Nat.le_of_mul_le_mul_right h (Nat.two_pow_pos _)

theorem eG_bnd (f : Int) {g : Nat} (h : g < fI f) : fL f ≤ eG f g ∧ eG f g ≤ 2046 + fL f := by
  by_cases h0 : g = 0
  · subst h0
    unfold eG
    rw [if_pos (fP_pos f)]
    omega
  · have := nG_bounds f (by omega) h; exact ⟨this.2.2.1, this.2.2.2⟩

/-- A number of places at a place that fits. -/
theorem vG_put {f : Int} {J q : Nat} (hq : q ≤ 2 ^ (fP f + 1)) (hJ : 0 < J → 2 ^ fP f ≤ q) : vG f (J * 2 ^ fP f + q) = sc q (fL f + J) := by
  have hp := fP_pos f
  have hf := fmt_le f
  have h2 : 2 ^ (fP f + 1) = 2 * 2 ^ fP f := by rw [Nat.pow_succ, Nat.mul_comm]
  unfold vG
  by_cases c1 : q < 2 ^ fP f
  · have : J = 0 := by
      refine Nat.eq_zero_of_not_pos fun h => ?_
      have := hJ h; omega
    subst this
    rw [Nat.zero_mul, Nat.zero_add]
    have := nG_small (f := f) (g := q) (by omega)
    rw [this.1, this.2]
    congr 1; omega
  · by_cases c2 : q = 2 ^ (fP f + 1)
    · subst c2
      have e : J * 2 ^ fP f + 2 ^ (fP f + 1) = (J + 2) * 2 ^ fP f := by rw [Nat.add_mul, h2]
      have d : (J + 2) * 2 ^ fP f / 2 ^ fP f = J + 2 := Nat.mul_div_cancel _ hp
      have m : (J + 2) * 2 ^ fP f % 2 ^ fP f = 0 := Nat.mul_mod_left _ _
      have nlt : ¬ (J + 2) * 2 ^ fP f < 2 ^ fP f := by
        have : 1 * 2 ^ fP f ≤ (J + 2) * 2 ^ fP f := Nat.mul_le_mul_right _ (by omega)
        omega
      have n1 : nG f ((J + 2) * 2 ^ fP f) = 2 ^ fP f := by unfold nG; rw [if_neg nlt, m, Nat.add_zero]
      have n2 : eG f ((J + 2) * 2 ^ fP f) = fL f + J + 1 := by unfold eG; rw [if_neg nlt, d]; omega
      rw [e, n1, n2]
      have := sc_up (N := 2 ^ fP f) (e := fL f + J + 1) 1 (by omega)
      rw [← Nat.pow_succ] at this
      rw [← this]
      congr 1; omega
    · have hr : q - 2 ^ fP f < 2 ^ fP f := by omega
      have e : J * 2 ^ fP f + q = 2 ^ fP f * (J + 1) + (q - 2 ^ fP f) := by rw [Nat.mul_add, Nat.mul_one, Nat.mul_comm]; omega
      have d : (J * 2 ^ fP f + q) / 2 ^ fP f = J + 1 := by rw [e, Nat.mul_add_div hp, Nat.div_eq_of_lt hr, Nat.add_zero]
      have m : (J * 2 ^ fP f + q) % 2 ^ fP f = q - 2 ^ fP f := by rw [e, Nat.mul_add_mod, Nat.mod_eq_of_lt hr]
      have nlt : ¬ J * 2 ^ fP f + q < 2 ^ fP f := by omega
      have n1 : nG f (J * 2 ^ fP f + q) = q := by unfold nG; rw [if_neg nlt, m]; omega
      have n2 : eG f (J * 2 ^ fP f + q) = fL f + J := by unfold eG; rw [if_neg nlt, d]; omega
      rw [n1, n2]

/-- Two numbers told at any places: the rounded ones keep the order. -/
theorem Rd_le (f m : Int) (s : Bool) {N M : Nat} {e e' : Int} (he : -4000 ≤ e) (he' : -4000 ≤ e') (h : sc N e ≤ sc M e') : Rd f m s N e false ≤ Rd f m s M e' false := by
  have h1 := Rd_scale f m s N e (e + 4000).toNat
  have h2 := Rd_scale f m s M e' (e' + 4000).toNat
  have e1 : e - ((e + 4000).toNat : Int) = -4000 := by omega
  have e2 : e' - ((e' + 4000).toNat : Int) = -4000 := by omega
  rw [e1] at h1
  rw [e2] at h2
  rw [← h1, ← h2]
  exact Rd_mono f m s _ h

/-- The places of a number that is not too small: how they are put together. -/
theorem gOf_put {f m : Int} {s : Bool} {N : Nat} {e : Int} {rest : Bool} (h0 : 0 < N) (he : -3000 ≤ e) (hlo : e ≤ lastOf f N e) :
    ∃ J q d : Nat, lastOf f N e = fL f + J ∧ lastOf f N e = e + d ∧ q < 2 ^ (fP f + 1) ∧ (0 < J → 2 ^ fP f ≤ q) ∧ q = N / 2 ^ d ∧
      Rd f m s N e rest = sg f s + clip f m s (J * 2 ^ fP f + q + (more m s (q % 2 == 1) (hd N (d : Int)) (rest || rs N (d : Int))).toNat) := by
  have l1 : fL f ≤ lastOf f N e := Int.le_max_right _ _
  obtain ⟨J, hJ⟩ : ∃ J : Nat, lastOf f N e = fL f + J := ⟨(lastOf f N e - fL f).toNat, by omega⟩
  obtain ⟨d, hd'⟩ : ∃ d : Nat, lastOf f N e = e + d := ⟨(lastOf f N e - e).toNat, by omega⟩
  have ed : lastOf f N e - e = (d : Int) := by omega
  have q1 := qd_lt (f := f) (e := e) h0
  have q2 := qd_ge (f := f) (e := e) h0
  rw [ed] at q1 q2
  have hq : qd N (d : Int) = N / 2 ^ d := by
    unfold qd
    by_cases c : (0 : Int) < (d : Int)
    · rw [if_pos c, Int.toNat_natCast]
    · have : d = 0 := by omega
      subst this
      rw [if_neg c]; simp
  refine ⟨J, qd N (d : Int), d, hJ, hd', q1, fun h => q2 (by omega), hq, ?_⟩
  unfold Rd
  rw [if_neg (fun q => by omega), ed]
  unfold enc gOf
  rw [show (lastOf f N e - fL f).toNat = J by omega]

/-- Down, above 0: what comes of it is not worth more. -/
theorem down_le {f : Int} {N : Nat} {e : Int} {rest : Bool} (h0 : 0 < N) (he : -3000 ≤ e) (hlo : e ≤ lastOf f N e) :
    ∃ g, g < fI f ∧ Rd f 2 false N e rest = sg f false + g ∧ vG f g ≤ sc N e := by
  obtain ⟨J, q, d, j1, j2, j3, j4, j5, j6⟩ := gOf_put (f := f) (m := 2) (s := false) (rest := rest) h0 he hlo
  have hm : ∀ o h r, more 2 false o h r = false := fun o h r => by unfold more; rfl
  have hI : 0 < fI f := Nat.lt_of_le_of_lt (Nat.zero_le _) (fI_pos f)
  rw [hm, Bool.toNat_false, Nat.add_zero] at j6
  have hv := vG_put (f := f) (J := J) (q := q) (by omega) j4
  have hle : sc q (fL f + J) ≤ sc N e := by
    have e1 : fL f + J = e + d := by omega
    rw [e1]
    have := sc_up (N := q) (e := e + d) d (by omega)
    rw [show e + d - d = e by omega] at this
    rw [← this, j5]
    exact sc_mono (Nat.div_mul_le_self _ _)
  by_cases c : J * 2 ^ fP f + q < fI f
  · refine ⟨J * 2 ^ fP f + q, c, ?_, by rw [hv]; exact hle⟩
    rw [j6]; unfold clip; rw [if_pos c]
  · refine ⟨fI f - 1, by omega, ?_, ?_⟩
    · rw [j6]; unfold clip; rw [if_neg c, hm, if_neg (by decide)]
    · -- the greatest float is worth less
      refine Nat.le_trans ?_ hle
      have hI2 := fI_eq f
      have hp := fP_pos f
      have hE : 2 ≤ 2 ^ fE f - 1 := by have := (fmt_le f).2.2.1; have := Nat.pow_le_pow_right (show 0 < 2 by decide) this; omega
      obtain ⟨K, hK⟩ : ∃ K, 2 ^ fE f - 1 = K + 2 := ⟨2 ^ fE f - 3, by omega⟩
      have e3 : fI f - 1 = K * 2 ^ fP f + (2 ^ (fP f + 1) - 1) := by
        rw [hI2, hK, Nat.add_mul, Nat.pow_succ]; omega
      have hv2 := vG_put (f := f) (J := K) (q := 2 ^ (fP f + 1) - 1) (by omega) (fun _ => by rw [Nat.pow_succ]; omega)
      rw [e3, hv2]
      have hJK : K < J ∨ (K = J ∧ 2 ^ (fP f + 1) ≤ q) := by
        rw [hI2, hK, Nat.add_mul] at c
        rw [Nat.pow_succ] at j3 ⊢
        by_cases cc : K < J
        · exact .inl cc
        · by_cases c2 : K = J
          · subst c2; exact .inr ⟨rfl, by omega⟩
          · have hz : J + 1 ≤ K := by omega
            have := Nat.mul_le_mul_right (2 ^ fP f) hz
            rw [Nat.add_mul, Nat.one_mul] at this
            omega
      rcases hJK with hz | ⟨rfl, hz⟩
      · have h1 := sc_up (N := 2 ^ fP f) (e := fL f + J) (J - K) (by have := (fmt_le f).2.2.2.2.2.1; omega)
        rw [show fL f + (J : Int) - ((J - K : Nat) : Int) = fL f + K by omega] at h1
        have h2 : 2 ^ (fP f + 1) ≤ 2 ^ fP f * 2 ^ (J - K) := by
          rw [← Nat.pow_add]; exact Nat.pow_le_pow_right (by decide) (by omega)
        refine Nat.le_trans (sc_mono (show 2 ^ (fP f + 1) - 1 ≤ 2 ^ fP f * 2 ^ (J - K) by omega)) ?_
        rw [h1]
        exact sc_mono (j4 (by omega))
      · exact sc_mono (by omega)

/-- Up, above 0: what comes of it is infinite or not worth less. -/
theorem up_ge {f : Int} {N : Nat} {e : Int} {rest : Bool} (h0 : 0 < N) (he : -3000 ≤ e) (hd' : e ≤ lastOf f N e) :
    ∃ g, g ≤ fI f ∧ Rd f 1 false N e rest = sg f false + g ∧ (g < fI f → sc (N + rest.toNat) e ≤ vG f g) := by
  obtain ⟨J, q, d, j1, j2, j3, j4, j5, j6⟩ := gOf_put (f := f) (m := 1) (s := false) (rest := rest) h0 he hd'
  have hm : ∀ o h r, more 1 false o h r = (h || r) := fun o h r => by unfold more; rfl
  rw [hm] at j6
  have hb := Bool.toNat_le (hd N (d : Int) || (rest || rs N (d : Int)))
  have hv := vG_put (f := f) (J := J) (q := q + (hd N (d : Int) || (rest || rs N (d : Int))).toNat) (by omega) (fun h => by have := j4 h; omega)
  refine ⟨_, clip_le f 1 false _, j6, fun hlt => ?_⟩
  unfold clip at hlt ⊢
  by_cases c : J * 2 ^ fP f + q + (hd N (d : Int) || (rest || rs N (d : Int))).toNat < fI f
  · rw [if_pos c, Nat.add_assoc, hv]
    have e1 : fL f + J = e + d := by omega
    rw [e1]
    have := sc_up (N := q + (hd N (d : Int) || (rest || rs N (d : Int))).toNat) (e := e + d) d (by omega)
    rw [show e + d - d = e by omega] at this
    rw [← this]
    refine sc_mono ?_
    have hp := Nat.two_pow_pos d
    have hdm := Nat.div_add_mod N (2 ^ d)
    have hml := Nat.mod_lt N hp
    have hrb := Bool.toNat_le rest
    rw [← j5] at hdm
    cases hx : (hd N (d : Int) || (rest || rs N (d : Int))) with
    | true =>
      rw [Bool.toNat_true, Nat.add_mul, Nat.one_mul, Nat.mul_comm q]
      omega
    | false =>
      rw [Bool.or_eq_false_iff, Bool.or_eq_false_iff] at hx
      obtain ⟨x1, x2, x3⟩ := hx
      have z : N % 2 ^ d = 0 := by
        by_cases c0 : d = 0
        · subst c0; simp [Nat.mod_one]
        · rw [hd_iff (by omega)] at x1
          rw [rs_iff (by omega)] at x3
          have p0 := Nat.two_pow_pos (d - 1)
          have y1 := of_decide_eq_false x1
          have y3 := of_decide_eq_false x3
          omega
      rw [x2, Bool.toNat_false, Nat.add_zero, Nat.add_zero, Nat.mul_comm q]
      omega
  · exfalso
    have : more 1 false true true true = true := rfl
    rw [if_neg c, if_pos this] at hlt
    omega

end Go.Proofs.Ytejfnbjhcohkiaa.N

/- Roots of package soft. Conditions: none. -/
namespace Go.Proofs.Ytejfnbjhcohkiaa.N
set_option linter.unusedVariables false
set_option linter.unusedSimpArgs false
open Go Go.Ab

noncomputable def rt (A : Nat) : Nat := Classical.choose (root_exists A)
theorem rt_spec (A : Nat) : IsRoot A (rt A) := Classical.choose_spec (root_exists A)

/-- How far a number is moved up ahead of its root. -/
def shOf (X : Nat) (e : Int) : Nat := if (e - (126 - bl X : Nat)) % 2 = 0 then 126 - bl X else 126 - bl X + 1

noncomputable def SqX (f m : Int) (X : Nat) (e : Int) : Nat :=
  Rd f m false (rt (X * 2 ^ shOf X e)) ((e - (shOf X e : Nat)) / 2) (decide (X * 2 ^ shOf X e - rt (X * 2 ^ shOf X e) * rt (X * 2 ^ shOf X e) ≠ 0))

noncomputable def SqS (f m : Int) (a : Nat) : Nat :=
  if kd f a = 2 then a else if kd f a = 0 then NAN f else if bw f a = true then NAN f else if kd f a = 1 then a else SqX f m (nn f a) (ee f a)

theorem rt_lt {A : Nat} (h : A < 2 ^ 128) : rt A < 2 ^ 64 := (rt_spec A).lt (by rw [← Nat.pow_add]; exact h)

theorem sh_bounds {X : Nat} (e : Int) (h0 : 0 < X) (hX : X < 2 ^ 53) : 73 ≤ shOf X e ∧ shOf X e ≤ 126 ∧ X * 2 ^ shOf X e < 2 ^ 128 ∧ 2 ^ 125 ≤ X * 2 ^ shOf X e := by
  have b1 := bl_pos h0
  have b2 : bl X ≤ 53 := bl_le_iff.2 hX
  have s1 : 126 - bl X ≤ shOf X e ∧ shOf X e ≤ 127 - bl X := by unfold shOf; split <;> omega
  refine ⟨by omega, by omega, ?_, ?_⟩
  · have := (Nat.mul_lt_mul_right (Nat.two_pow_pos (shOf X e))).2 (bl_up X)
    rw [← Nat.pow_add] at this
    exact Nat.lt_of_lt_of_le this (Nat.pow_le_pow_right (by decide) (by omega))
  · have := Nat.mul_le_mul_right (2 ^ shOf X e) (bl_low h0)
    rw [← Nat.pow_add] at this
    exact Nat.le_trans (Nat.pow_le_pow_right (by decide) (by omega)) this

theorem sh_even (X : Nat) (e : Int) : ∃ q : Int, e - (shOf X e : Nat) = 2 * q := by
  refine ⟨(e - (shOf X e : Nat)) / 2, ?_⟩
  have : (e - (shOf X e : Nat)) % 2 = 0 := by unfold shOf; split <;> omega
  omega

theorem half_even {x q : Int} (h : x = 2 * q) : Int.tdiv x 2 = x / 2 := by
  rw [h, Int.mul_tdiv_cancel_left q (by decide), Int.mul_ediv_cancel_left q (by decide)]

theorem rt_pos {A : Nat} (h : 0 < A) : 0 < rt A := by
  refine Nat.pos_of_ne_zero fun h0 => ?_
  have := (rt_spec A).2
  rw [h0] at this
  omega

theorem flag_hl (D : Nat) : (!((hi D == 0) && (lo D == 0))) = decide (D ≠ 0) := by
  have := hl_beq (A := D) (B := 0)
  rw [show hi 0 = 0 from by decide, show lo 0 = 0 from by decide] at this
  rw [this]
  by_cases c : D = 0
  · rw [c]; rfl
  · rw [decide_eq_true c, beq_eq_false_iff_ne.2 c]; rfl

theorem sq_core {R : Type} {k : Nat} (hk : 5000 ≤ k) (f m : Int) {X : Nat} {e : Int} (h0 : 0 < X) (hX : X < 2 ^ 53) (he : -1074 ≤ e) (he2 : e ≤ 1897) {sh : Nat} (hsh : sh = shOf X e) (K : Int → Option R) :
    wide_Shl k 0 (X : Int) (sh : Int) (fun r11 r12 => wide_Sqrt k r11 r12 (fun r13 r14 r15 =>
      soft_shape_round k ((fP f : Nat) : Int) ((fE f : Nat) : Int) (fL f) m false 0 r13 (Wi64 (Int.tdiv (Wi64 (e - (sh : Int))) 2)) (!((r14 == 0) && (r15 == 0))) (fun r16 => K r16))) = K ((SqX f m X e : Nat) : Int) := by
  obtain ⟨b1, b2, b3, b4⟩ := sh_bounds e h0 hX
  obtain ⟨q, hq⟩ := sh_even X e
  subst hsh
  have hX64 : X < 2 ^ 64 := Nat.lt_trans hX (by decide)
  have hwf : (Lit.int .i64 ((shOf X e : Nat) : Int)).wf = true := wf_nat (by omega)
  rw [Shl_64 k hX64 hwf, Int.toNat_natCast, Nat.mod_eq_of_lt b3, Sqrt_hl hk b3 (rt_spec _), flag_hl]
  have w : Wi64 (Int.tdiv (Wi64 (e - (shOf X e : Nat))) 2) = (e - (shOf X e : Nat)) / 2 := by
    rw [wrap_i64 (x := e - (shOf X e : Nat)) (by omega) (by omega), half_even hq, wrap_i64 (by omega) (by omega)]
  have hr := round_k (R := R) k f m false (N := rt (X * 2 ^ shOf X e)) (e := (e - (shOf X e : Nat)) / 2) (Nat.lt_trans (rt_lt b3) (by decide)) (by omega) (by omega)
    (rest := decide (X * 2 ^ shOf X e - rt (X * 2 ^ shOf X e) * rt (X * 2 ^ shOf X e) ≠ 0)) (.inl (rt_pos (Nat.lt_of_lt_of_le (by decide) b4))) K
  rw [hi_small (rt_lt b3), lo_small (rt_lt b3)] at hr
  rw [w]
  exact hr

theorem sq_fin {R : Type} {k : Nat} (hk : 5000 ≤ k) (f m : Int) {X : Nat} {e : Int} (h0 : 0 < X) (hX : X < 2 ^ 53) (he : -1074 ≤ e) (he2 : e ≤ 1897) (K : Int → Option R) :
    wide_Len k 0 (X : Int) (fun r25 => cond ((Int.tmod (Wi64 (e - (Wi64 (126 - r25)))) 2) != 0)
      (wide_Shl k 0 (X : Int) (Wi64 ((Wi64 (126 - r25)) + 1)) (fun r26 r27 => wide_Sqrt k r26 r27 (fun r28 r29 r30 =>
        soft_shape_round k ((fP f : Nat) : Int) ((fE f : Nat) : Int) (fL f) m false 0 r28 (Wi64 (Int.tdiv (Wi64 (e - (Wi64 ((Wi64 (126 - r25)) + 1)))) 2)) (!((r29 == 0) && (r30 == 0))) (fun r31 => K r31))))
      (wide_Shl k 0 (X : Int) (Wi64 (126 - r25)) (fun r32 r33 => wide_Sqrt k r32 r33 (fun r34 r35 r36 =>
        soft_shape_round k ((fP f : Nat) : Int) ((fE f : Nat) : Int) (fL f) m false 0 r34 (Wi64 (Int.tdiv (Wi64 (e - (Wi64 (126 - r25)))) 2)) (!((r35 == 0) && (r36 == 0))) (fun r37 => K r37))))) = K ((SqX f m X e : Nat) : Int) := by
  have hX64 : X < 2 ^ 64 := Nat.lt_trans hX (by decide)
  have b2 : bl X ≤ 53 := bl_le_iff.2 hX
  have w1 : Wi64 (126 - ((bl X : Nat) : Int)) = ((126 - bl X : Nat) : Int) := (wrap_i64 (by omega) (by omega)).trans (by omega)
  have w2 : Wi64 (((126 - bl X : Nat) : Int) + 1) = ((126 - bl X + 1 : Nat) : Int) := (wrap_i64 (by omega) (by omega)).trans (by omega)
  have w3 : Wi64 (e - ((126 - bl X : Nat) : Int)) = e - ((126 - bl X : Nat) : Int) := wrap_i64 (by omega) (by omega)
  rw [Len_64 k hX64, w1, w2]
  by_cases c : (e - ((126 - bl X : Nat) : Int)) % 2 = 0
  · have t : (Int.tmod (Wi64 (e - ((126 - bl X : Nat) : Int))) 2 != 0) = false := by
      rw [w3]
      have : Int.tmod (e - ((126 - bl X : Nat) : Int)) 2 = 0 := Int.tmod_eq_zero_of_dvd (Int.dvd_of_emod_eq_zero c)
      rw [this]; rfl
    rw [t, cond_false]
    exact sq_core hk f m h0 hX he he2 (by unfold shOf; rw [if_pos c]) K
  · have t : (Int.tmod (Wi64 (e - ((126 - bl X : Nat) : Int))) 2 != 0) = true := by
      rw [w3]
      have : Int.tmod (e - ((126 - bl X : Nat) : Int)) 2 ≠ 0 := fun h => c (Int.emod_eq_zero_of_dvd (Int.dvd_of_tmod_eq_zero h))
      exact bne_iff_ne.2 this
    rw [t, cond_true]
    exact sq_core hk f m h0 hX he he2 (by unfold shOf; rw [if_neg c]) K

theorem nn_posS {f : Int} {a : Nat} (h : kd f a = 3) : 0 < nn f a := by
  have hg : gg f a ≠ 0 := by
    intro h0
    unfold kd at h
    split at h
    · omega
    · split at h
      · omega
      · split at h
        · omega
        · omega
  have hp := Nat.two_pow_pos (fP f)
  unfold nn
  rw [if_pos h]
  unfold nG
  split <;> omega

theorem Sqrt_k {R : Type} {k : Nat} (hk : 5000 ≤ k) (f m : Int) {a : Nat} (ha : a < 2 ^ 64) (K : Int → Option R) : soft_Sqrt k f m (a : Int) K = K ((SqS f m a : Nat) : Int) := by
  unfold soft_Sqrt soft_SqrtT
  rw [apart_k k f ha]
  have n1 := nn_lt64 f a
  have b1 := ee_bounds f a
  unfold SqS
  rcases kd_vals f a with h | h | h | h
  · have e2 : (kd f a == 2) = false := by rw [h]; rfl
    have e1 : (kd f a == 1) = false := by rw [h]; rfl
    have e0 : (kd f a == 0) = true := by rw [h]; rfl
    rw [e2, cond_false, e1, cond_false, e0, cond_true, nan_k, if_neg (show ¬ kd f a = 2 by omega), if_pos h]; rfl
  · have e2 : (kd f a == 2) = false := by rw [h]; rfl
    have e1 : (kd f a == 1) = true := by rw [h]; rfl
    have e0 : (kd f a == 0) = false := by rw [h]; rfl
    rw [e2, cond_false, e1, cond_true, if_neg (show ¬ kd f a = 2 by omega), if_neg (show ¬ kd f a = 0 by omega)]
    cases hb : bw f a with
    | false => rw [Bool.not_false, cond_true, if_neg (by decide), if_pos h]
    | true => rw [Bool.not_true, cond_false, e0, cond_false, cond_true, nan_k, if_pos rfl]; rfl
  · have e2 : (kd f a == 2) = true := by rw [h]; rfl
    rw [e2, cond_true, if_pos h]
  · have e2 : (kd f a == 2) = false := by rw [h]; rfl
    have e1 : (kd f a == 1) = false := by rw [h]; rfl
    have e0 : (kd f a == 0) = false := by rw [h]; rfl
    rw [e2, cond_false, e1, cond_false, e0, cond_false, if_neg (show ¬ kd f a = 2 by omega), if_neg (show ¬ kd f a = 0 by omega)]
    cases hb : bw f a with
    | false =>
      rw [cond_false, if_neg (by decide), if_neg (show ¬ kd f a = 1 by omega)]
      exact sq_fin hk f m (nn_posS h) n1 b1.1 b1.2 K
    | true => rw [cond_true, nan_k, if_pos rfl]; rfl

end Go.Proofs.Ytejfnbjhcohkiaa.N
