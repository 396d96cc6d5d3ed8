/- The law TopQuotients, plain. Conditions: none. -/
import Derived.Test.YtejfnbjhcohkiaaTp0
import Derived.Test.YtejfnbjhcohkiaaNlawTopQuotients
namespace Go.Proofs.Ytejfnbjhcohkiaa.N
set_option linter.unusedVariables false
set_option linter.unusedSimpArgs false
open Go Go.Ab

theorem quot_both (f : Int) {a b : Nat} (ha : a < 2 ^ 64) (hb : b < 2 ^ 64) (ka : kd f a = 3) (ba : bw f a = false) (kb : kd f b = 3) (bb : bw f b = false) :
    NotS f (MulS f 2 (DivS f 2 a b) b) a = true ∧ NotS f a (MulS f 1 (DivS f 1 a b) b) = true := by
  have pa := nn_bounds ka
  have pb := nn_bounds kb
  have n1 := nn_lt64 f a
  have n2 := nn_lt64 f b
  obtain ⟨i1, i2, i3⟩ := pos_is ha ka ba
  obtain ⟨j1, j2, j3⟩ := pos_is hb kb bb
  have hf := fmt_le f
  obtain ⟨X, hX⟩ : ∃ X, X = nn f a := ⟨_, rfl⟩
  obtain ⟨Y, hY⟩ : ∃ Y, Y = nn f b := ⟨_, rfl⟩
  rw [← hX] at pa n1
  rw [← hY] at pb n2
  have bx : bl X ≤ 53 := bl_le_iff.2 n1
  have bx0 := bl_pos pa.1
  obtain ⟨up, hup⟩ : ∃ up, up = 127 - bl X := ⟨_, rfl⟩
  obtain ⟨Q, hQ⟩ : ∃ Q, Q = X * 2 ^ up / Y := ⟨_, rfl⟩
  obtain ⟨E, hE⟩ : ∃ E, E = ee f a - ee f b - (up : Int) := ⟨_, rfl⟩
  have hDiv : ∀ m, DivS f m a b = Rd f m false Q E (decide (X * 2 ^ up % Y ≠ 0)) := by
    intro m
    unfold DivS DivX
    rw [if_neg (by omega), if_neg (by omega), if_neg (by omega), ba, bb, ← hX, ← hY, ← hup, ← hQ, ← hE]; rfl
  have hlow : 2 ^ 126 ≤ X * 2 ^ up := by
    have := Nat.mul_le_mul_right (2 ^ up) (bl_low pa.1)
    rw [← Nat.pow_add, show bl X - 1 + up = 126 by omega] at this
    exact this
  have hq54 : 2 ^ 54 ≤ Q := by
    rw [hQ, Nat.le_div_iff_mul_le pb.1]
    have : 2 ^ 54 * Y ≤ 2 ^ 54 * 2 ^ 53 := Nat.mul_le_mul_left _ (by omega)
    rw [← Nat.pow_add] at this
    exact Nat.le_trans this (Nat.le_trans (Nat.pow_le_pow_right (by decide) (by decide)) hlow)
  have hbl : 55 ≤ bl Q := by
    refine Nat.le_of_not_lt fun hh => ?_
    have : Q < 2 ^ 54 := bl_le_iff.1 (by omega)
    omega
  have hlast : E ≤ lastOf f Q E := by unfold lastOf; omega
  have hdm := Nat.div_add_mod (X * 2 ^ up) Y
  rw [← hQ] at hdm
  have hml := Nat.mod_lt (X * 2 ^ up) pb.1
  have hsc : sc X (ee f a) = sc (X * 2 ^ up) (E + ee f b) := by
    have := sc_up (N := X) (e := ee f a) up (by omega)
    rw [show ee f a - (up : Int) = E + ee f b by omega] at this
    exact this.symm
  have z : sg f false = 0 := rfl
  constructor
  · obtain ⟨g, g1, g2, g3⟩ := down_le (f := f) (rest := decide (X * 2 ^ up % Y ≠ 0)) (show 0 < Q by omega) (show -3000 ≤ E by omega) hlast
    rw [hDiv, g2, z, Nat.zero_add]
    refine mul_down ha ka ba g1 j3 g3 (by omega) ?_
    rw [← hX, ← hY, hsc]
    refine sc_mono ?_
    rw [Nat.mul_comm]; omega
  · obtain ⟨g, g1, g2, g3⟩ := up_ge (f := f) (rest := decide (X * 2 ^ up % Y ≠ 0)) (show 0 < Q by omega) (show -3000 ≤ E by omega) hlast
    rw [hDiv, g2, z, Nat.zero_add]
    refine mul_up ha ka ba g1 j2 (by omega) (r := Q + (decide (X * 2 ^ up % Y ≠ 0)).toNat) (E := E) (by omega) g3 (by omega) fun _ _ => ?_
    rw [← hX, ← hY, hsc]
    refine sc_mono ?_
    rw [Nat.add_mul, Nat.mul_comm Q]
    by_cases c : X * 2 ^ up % Y ≠ 0
    · rw [decide_eq_true c, Bool.toNat_true, Nat.one_mul]; omega
    · rw [decide_eq_false c, Bool.toNat_false, Nat.zero_mul]; omega

theorem pos_of_not {f : Int} {a : Nat} (h : 2 ≤ kd f a) (hn : NotS f a 0 = false) : kd f a = 3 ∧ bw f a = false := by
  have zp := zparts (f := f)
  have zr : rank f 0 = 0 := (posf (f := f) (x := 0) (Nat.zero_le _)).2
  unfold NotS at hn
  have hn := of_decide_eq_false hn
  have hr : 0 < rank f a := by
    refine Int.lt_of_not_ge fun q => hn ⟨by omega, by omega, by rw [zr]; exact q⟩
  have k2 : kd f a ≠ 2 := by
    intro k2
    have : rank f a = 0 := by unfold rank; rw [kd2 k2]; split <;> rfl
    omega
  refine ⟨by rcases kd_vals f a with h | h | h | h <;> omega, ?_⟩
  cases hb : bw f a with
  | false => rfl
  | true => exfalso; unfold rank at hr; rw [hb, if_pos rfl] at hr; omega

theorem TopQuotients_pure : ∀ (y0 : Tup [.i .i64]) (y1 : Tup [.i .u64]) (y2 : Tup [.i .u64]), wfs (Tup.all [.i .i64] y0) → wfs (Tup.all [.i .u64] y1) → wfs (Tup.all [.i .u64] y2) → ∃ k, plumblinetop_TopQuotients k (y0) (y1) (y2) (fun q => some q) = some true := by
  intro (p : Int) a b h0 h1 h2
  obtain ⟨a, rfl, ha⟩ := u64_nat h1.1
  obtain ⟨b, rfl, hb⟩ := u64_nat h2.1
  refine ⟨5000, ?_⟩
  have hk : 5000 ≤ 5000 := Nat.le_refl _
  unfold plumblinetop_TopQuotients plumblinetop_TopQuotientsT
  rw [tformat_k]
  obtain ⟨f, hf⟩ : ∃ f, f = fm p := ⟨_, rfl⟩
  rw [← hf, Finite_k _ f ha]
  cases hfa : FinS f a with
  | false => rw [Bool.not_false, cond_true, tsound_k hk]
  | true =>
    rw [Bool.not_true, cond_false, Finite_k _ f hb]
    cases hfb : FinS f b with
    | false => rw [Bool.not_false, cond_true, tsound_k hk]
    | true =>
      have k1 : 2 ≤ kd f a := by unfold FinS at hfa; exact of_decide_eq_true hfa
      have k2 : 2 ≤ kd f b := by unfold FinS at hfb; exact of_decide_eq_true hfb
      have hn1 := fun J => not_k (R := Bool) 5000 f (a := a) (b := 0) ha (by decide) J
      have hn2 := fun J => not_k (R := Bool) 5000 f (a := b) (b := 0) hb (by decide) J
      rw [Bool.not_true, cond_false]
      refine (hn1 _).trans ?_
      cases hna : NotS f a 0 with
      | true => rw [cond_true, tsound_k hk]
      | false =>
        rw [cond_false]
        refine (hn2 _).trans ?_
        cases hnb : NotS f b 0 with
        | true => rw [cond_true, tsound_k hk]
        | false =>
          obtain ⟨a1, a2⟩ := pos_of_not k1 hna
          obtain ⟨b1, b2⟩ := pos_of_not k2 hnb
          have key := quot_both f ha hb a1 a2 b1 b2
          have d1 := DivS_lt f 2 a b
          have d2 := DivS_lt f 1 a b
          have m1 := MulS_lt f 2 (DivS f 2 a b) b
          have m2 := MulS_lt f 1 (DivS f 1 a b) b
          rw [cond_false, Div_k hk f 2 ha hb, Div_k hk f 1 ha hb, tsound_k hk, cond_true, Mul_k _ f 2 d1 hb, not_k _ f m1 ha, key.1, cond_true, Mul_k _ f 1 d2 hb, not_k _ f ha m2, key.2]

end Go.Proofs.Ytejfnbjhcohkiaa.N
