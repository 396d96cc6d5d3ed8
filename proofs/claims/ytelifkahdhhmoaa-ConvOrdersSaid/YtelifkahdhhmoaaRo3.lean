/- The reference of floats: rounding, the last steps. Conditions: none. -/
import Derived.Test.YtelifkahdhhmoaaRo2
namespace Go.Proofs.Ytelifkahdhhmoaa.N
set_option linter.unusedVariables false
set_option linter.unusedSimpArgs false
open Go Go.Ab

theorem tdiv_nat' (x y : Nat) : Int.tdiv (x : Int) (y : Int) = ((x / y : Nat) : Int) := rfl
theorem tmod_nat' (x y : Nat) : Int.tmod (x : Int) (y : Int) = ((x % y : Nat) : Int) := rfl
theorem decide_mod_succ' (A i : Nat) : (decide (A % 2 ^ (i + 1) ≠ 0)) = (decide (A % 2 ^ i ≠ 0) || A.testBit i) := by
  rw [Nat.pow_succ, Nat.mod_mul, ← Nat.toNat_testBit]
  have hp : 0 < 2 ^ i := Nat.two_pow_pos i
  cases A.testBit i <;> simp <;> omega

/-! ### The half, and what is below -/

def hI (N : Nat) (d : Int) (i : Nat) : Bool := decide (0 < d) && decide (d.toNat - 1 < i) && N.testBit (d.toNat - 1)
def rI (N : Nat) (d : Int) (i : Nat) : Bool := decide (0 < d) && decide (N % 2 ^ (min i (d.toNat - 1)) ≠ 0)

theorem rI_succ (N : Nat) (d : Int) (i : Nat) : rI N d (i + 1) = if N.testBit i = true ∧ (i : Int) < d - 1 then true else rI N d i := by
  unfold rI
  by_cases h0 : 0 < d
  · rw [decide_eq_true h0, Bool.true_and, Bool.true_and]
    by_cases h : (i : Int) < d - 1
    · have e1 : min (i + 1) (d.toNat - 1) = i + 1 := by omega
      have e2 : min i (d.toNat - 1) = i := by omega
      rw [e1, e2, decide_mod_succ' N i]
      cases N.testBit i with
      | true => rw [if_pos ⟨rfl, h⟩, Bool.or_true]
      | false => rw [if_neg (by simp), Bool.or_false]
    · have e1 : min (i + 1) (d.toNat - 1) = min i (d.toNat - 1) := by omega
      rw [e1, if_neg (fun hh => h hh.2)]
  · rw [decide_eq_false h0, Bool.false_and, Bool.false_and, if_neg (fun hh => by omega)]

theorem hI_succ (N : Nat) (d : Int) (i : Nat) : hI N d (i + 1) = if N.testBit i = true ∧ (i : Int) = d - 1 then true else hI N d i := by
  unfold hI
  by_cases h0 : 0 < d
  · rw [decide_eq_true h0, Bool.true_and, Bool.true_and]
    by_cases h : (i : Int) = d - 1
    · have e : d.toNat - 1 = i := by omega
      rw [e]
      have e1 : decide (i < i + 1) = true := decide_eq_true (by omega)
      have e2 : decide (i < i) = false := decide_eq_false (by omega)
      rw [e1, e2, Bool.true_and, Bool.false_and]
      cases N.testBit i with
      | true => rw [if_pos ⟨rfl, h⟩]
      | false => rw [if_neg (by simp)]
    · rw [if_neg (fun hh => h hh.2)]
      congr 1
      have : (d.toNat - 1 < i + 1) ↔ (d.toNat - 1 < i) := by omega
      simp only [this]
  · rw [decide_eq_false h0, Bool.false_and, Bool.false_and, Bool.false_and, Bool.false_and, if_neg (fun hh => by omega)]

theorem hI_last {N n : Nat} (d : Int) (h : N < 2 ^ n) : hI N d n = hd N d := by
  unfold hI hd
  by_cases c : d.toNat - 1 < n
  · rw [decide_eq_true c, Bool.and_true]
  · have : N.testBit (d.toNat - 1) = false := Nat.testBit_lt_two_pow (Nat.lt_of_lt_of_le h (Nat.pow_le_pow_right (by decide) (by omega)))
    rw [this, Bool.and_false, Bool.and_false]

theorem rI_last {N n : Nat} (d : Int) (h : N < 2 ^ n) : rI N d n = rs N d := by
  unfold rI rs
  by_cases c : d.toNat - 1 ≤ n
  · rw [Nat.min_eq_right c]
  · rw [Nat.min_eq_left (by omega), Nat.mod_eq_of_lt h, Nat.mod_eq_of_lt (Nat.lt_of_lt_of_le h (Nat.pow_le_pow_right (by decide) (by omega)))]

theorem hr_loop {R : Type} (k : Nat) {n N : Nat} {f m : Int} {b : Bool} {e last : Int} {x5 x6 x7 x10 : Int} {nl : Nat} (hn : n ≤ 100000) (hnl : nl ≤ n) (he : -100000 ≤ e) (he2 : e ≤ 100000) (hl : -1074 ≤ last) (hl2 : last < 1000000) (K : Bool → Bool → Option R) :
    ∀ (w i mm : Nat), i + w = nl → w < mm →
    plumblineref02_Rounded_l2 k mm f m b e x5 x6 x7 (nl : Int) last x10 (hI N (last - e) i) (rI N (last - e) i) (i : Int) (bitsOf n N) K = K (hI N (last - e) nl) (rI N (last - e) nl)
  | w, i, 0, _, h => by omega
  | 0, i, mm + 1, h1, _ => by
    rw [plumblineref02_Rounded_l2, plumblineref02_Rounded_l2B]
    have : i = nl := by omega
    subst this
    have e0 : ¬ ((i : Int) < (i : Int)) := by omega
    rw [decide_eq_false e0, cond_false]
  | w + 1, i, mm + 1, h1, h2 => by
    rw [plumblineref02_Rounded_l2, plumblineref02_Rounded_l2B]
    have e0 : ((i : Int) < (nl : Int)) := by omega
    have e1 : ((0 : Int) ≤ (i : Int)) := by omega
    have e2 : ((i : Int) < ((n : Nat) : Int)) := by omega
    have ew : Wi64 (e + (i : Int)) = e + i := wrap_i64 (by omega) (by omega)
    have ew2 : Wi64 (last - 1) = last - 1 := wrap_i64 (by omega) (by omega)
    have hget : (bitsOf n N)[i]? = some (N.testBit i) := bitsOf_get (by omega)
    have c1 : ∀ (x : Bool) (y : Bool) (J : Bool → Option R), plumblineref02_Rounded_c1 k f m b e x5 x6 x7 (nl : Int) last x10 x y (i : Int) (bitsOf n N) J = J (if N.testBit i = true ∧ (i : Int) < last - e - 1 then true else y) := by
      intro x y J
      unfold plumblineref02_Rounded_c1 plumblineref02_Rounded_c1T
      rw [decide_eq_true e1, cond_true, bitsOf_length, decide_eq_true e2, cond_true, Int.toNat_natCast, hget, Option.bind_some, ew, ew2]
      cases hb : N.testBit i with
      | false => rw [cond_false, if_neg (by simp)]
      | true =>
        rw [cond_true]
        by_cases c : e + (i : Int) < last - 1
        · rw [decide_eq_true c, cond_true, if_pos ⟨rfl, by omega⟩]
        · rw [decide_eq_false c, cond_false, if_neg (fun h => by omega)]
    have ih := hr_loop (R := R) k (n := n) (N := N) (f := f) (m := m) (b := b) (e := e) (last := last) (x5 := x5) (x6 := x6) (x7 := x7) (x10 := x10) hn hnl he he2 hl hl2 K w (i + 1) mm (by omega) (by omega)
    rw [decide_eq_true e0, cond_true, decide_eq_true e1, cond_true, bitsOf_length, decide_eq_true e2, cond_true, Int.toNat_natCast, hget, Option.bind_some, ew, ew2, Wi64_succ (by omega), c1, c1, ← rI_succ]
    rw [hI_succ] at ih
    cases hb : N.testBit i with
    | false =>
      rw [cond_false]
      rw [hb, if_neg (by simp)] at ih
      exact ih
    | true =>
      rw [cond_true]
      rw [hb] at ih
      by_cases c : (i : Int) = last - e - 1
      · have : (e + (i : Int) == last - 1) = true := by rw [beq_iff_eq]; omega
        rw [this, cond_true]
        rw [if_pos ⟨rfl, c⟩] at ih
        exact ih
      · have : (e + (i : Int) == last - 1) = false := by rw [beq_eq_false_iff_ne]; omega
        rw [this, cond_false]
        rw [if_neg (fun h => c h.2)] at ih
        exact ih

/-! ### Put together -/

theorem c3_k {R : Type} (k : Nat) (f m : Int) (b : Bool) {x q : Nat} (hx : x < 2 ^ 63) (hq : q < 2 ^ 64) (l : List Bool) (K : Int → Option R) :
    plumblineref02_Rounded_c3 k f m b ((fP f : Nat) : Int) ((fE f : Nat) : Int) (q : Int) (x : Int) l K =
      K ((sg f b + (if 2 ^ fE f - 1 ≤ x then (if more m b true true true then fI f else fI f - 1) else x * 2 ^ fP f + q % 2 ^ fP f) : Nat) : Int) := by
  have hf := fmt_le f
  have h1 := fI_lt f; have h2 := fB_le f; have h4 := fI_pos f; have h3 := sg_le f b; have h5 := fI_lt2 f; have hpp := fP_pos f
  unfold plumblineref02_Rounded_c3 plumblineref02_Rounded_c3T
  rw [decide_eq_false (pE f), cond_false, full_e]
  have most : ∀ J : Int → Option R, (plumblineref02_sign k f b (fun a1 => plumblineref02_Most k f (fun a2 => J (bOr .u64 a1 a2)))) = J ((sg f b + (fI f - 1) : Nat) : Int) := by
    intro J
    rw [rsign_k, rMost_k, or_add2 (sg_mod f b) (by omega) (by omega)]
  have inf : ∀ J : Int → Option R, plumblineref02_Inf k f b J = J ((sg f b + fI f : Nat) : Int) := fun J => rInf_k k f b J
  by_cases c : 2 ^ fE f - 1 ≤ x
  · have : ((x : Int) ≥ ((2 ^ fE f - 1 : Nat) : Int)) := by omega
    rw [decide_eq_true this, cond_true, if_pos c]
    by_cases m3 : m = 3
    · subst m3
      have hm : more 3 b true true true = false := by cases b <;> rfl
      rw [show ((3 : Int) == 3) = true from rfl, cond_true, most, hm]; rfl
    · have e3 : (m == 3) = false := by rw [beq_eq_false_iff_ne]; exact m3
      rw [e3, cond_false]
      by_cases m1 : m = 1
      · subst m1
        rw [show ((1 : Int) == 1) = true from rfl, cond_true]
        cases b with
        | true =>
          have hm : more 1 true true true true = false := rfl
          rw [cond_true, most, hm]; rfl
        | false =>
          have hm : more 1 false true true true = true := rfl
          rw [cond_false, show ((1 : Int) == 2) = false from rfl, cond_false, inf, hm]; rfl
      · have e1 : (m == 1) = false := by rw [beq_eq_false_iff_ne]; exact m1
        rw [e1, cond_false]
        by_cases m2 : m = 2
        · subst m2
          rw [show ((2 : Int) == 2) = true from rfl, cond_true]
          cases b with
          | true =>
            have hm : more 2 true true true true = true := rfl
            rw [Bool.not_true, cond_false, inf, hm]; rfl
          | false =>
            have hm : more 2 false true true true = false := rfl
            rw [Bool.not_false, cond_true, most, hm]; rfl
        · have e2 : (m == 2) = false := by rw [beq_eq_false_iff_ne]; exact m2
          have hm : more m b true true true = true := by unfold more; rw [if_neg m1, if_neg m2, if_neg m3]; rfl
          rw [e2, cond_false, inf, hm]; rfl
  · have : ¬ ((x : Int) ≥ ((2 ^ fE f - 1 : Nat) : Int)) := by omega
    rw [decide_eq_false this, cond_false, if_neg c, rsign_k, decide_eq_false (pP f)]
    repeat rw [cond_false]
    rw [low_bits (by omega) hq, pack_k (by omega) (Nat.mod_lt _ hpp), Nat.add_assoc]

theorem c4_k {R : Type} (k : Nat) (f m : Int) (b : Bool) {q : Nat} {last : Int} (hq : q < 2 ^ (fP f + 1)) (hl : fL f ≤ last) (hl2 : last < 1000001) (l : List Bool) (K : Int → Option R) :
    plumblineref02_Rounded_c4 k f m b ((fP f : Nat) : Int) ((fE f : Nat) : Int) (fL f) last (q : Int) l K =
      K ((sg f b + (if q < 2 ^ fP f then q else clip f m b ((last - fL f).toNat * 2 ^ fP f + q)) : Nat) : Int) := by
  have hf := fmt_le f
  have hpp := fP_pos f
  have hp2 : 2 ^ (fP f + 1) = 2 * 2 ^ fP f := by rw [Nat.pow_succ, Nat.mul_comm]
  have hq64 : q < 2 ^ 64 := Nat.lt_of_lt_of_le hq (Nat.pow_le_pow_right (by decide) (by omega))
  have hexp : 255 ≤ 2 ^ fE f - 1 := by
    have : 2 ^ 8 ≤ 2 ^ fE f := Nat.pow_le_pow_right (by decide) (by omega)
    omega
  unfold plumblineref02_Rounded_c4 plumblineref02_Rounded_c4T
  rw [decide_eq_false (pP f), cond_false, shl_1 (by omega)]
  by_cases c : q < 2 ^ fP f
  · have : ((q : Int) < ((2 ^ fP f : Nat) : Int)) := by omega
    rw [decide_eq_true this, cond_true, if_pos c]
    have := c3_k (R := R) k f m b (x := 0) (q := q) (by decide) hq64 l K
    rw [if_neg (by omega), Nat.zero_mul, Nat.zero_add, Nat.mod_eq_of_lt c] at this
    exact this
  · have : ¬ ((q : Int) < ((2 ^ fP f : Nat) : Int)) := by omega
    have w1 : Wu64 (Wi64 (Wi64 (last - fL f) + 1)) = (((last - fL f).toNat + 1 : Nat) : Int) := by
      rw [wrap_i64 (x := last - fL f) (by omega) (by omega), wrap_i64 (by omega) (by omega)]
      have : last - fL f + 1 = (((last - fL f).toNat + 1 : Nat) : Int) := by omega
      rw [this, Wu64_lt (by omega)]
    rw [decide_eq_false this, cond_false, if_neg c, w1]
    obtain ⟨D, hD⟩ : ∃ D, D = (last - fL f).toNat := ⟨_, rfl⟩
    rw [← hD]
    rw [c3_k k f m b (by omega) hq64 l K]
    have hmod : q % 2 ^ fP f = q - 2 ^ fP f := by rw [Nat.mod_eq_sub_mod (by omega), Nat.mod_eq_of_lt (by omega)]
    unfold clip
    by_cases cx : 2 ^ fE f - 1 ≤ D + 1
    · have hge : fI f ≤ (D + 1) * 2 ^ fP f := Nat.mul_le_mul_right _ cx
      rw [Nat.add_mul, Nat.one_mul] at hge
      have hn : ¬ D * 2 ^ fP f + q < fI f := by omega
      rw [if_pos cx, if_neg hn]
    · have hlt : (D + 2) * 2 ^ fP f ≤ fI f := Nat.mul_le_mul_right _ (by omega)
      rw [Nat.add_mul] at hlt
      have hg : (D + 1) * 2 ^ fP f + (q - 2 ^ fP f) = D * 2 ^ fP f + q := by rw [Nat.add_mul, Nat.one_mul]; omega
      have hn : D * 2 ^ fP f + q < fI f := by omega
      rw [if_neg cx, if_pos hn, hmod, hg]

theorem c5_k {R : Type} (k : Nat) (f m : Int) (b : Bool) {q : Nat} {last : Int} (hq : q ≤ 2 ^ (fP f + 1)) (hq2 : q < 2 ^ fP f → last = fL f) (hl : fL f ≤ last) (hl2 : last < 1000000) (l : List Bool) (K : Int → Option R) :
    plumblineref02_Rounded_c5 k f m b ((fP f : Nat) : Int) ((fE f : Nat) : Int) (fL f) last (q : Int) l K = K ((sg f b + clip f m b ((last - fL f).toNat * 2 ^ fP f + q) : Nat) : Int) := by
  have hf := fmt_le f
  have hpp := fP_pos f
  have hpI := fI_pos f
  have hp2 : 2 ^ (fP f + 1) = 2 * 2 ^ fP f := by rw [Nat.pow_succ, Nat.mul_comm]
  have hp53 : 2 ^ (fP f + 1) ≤ 2 ^ 53 := Nat.pow_le_pow_right (by decide) (by omega)
  have e1 : Wi64 (((fP f : Nat) : Int) + 1) = ((fP f + 1 : Nat) : Int) := by rw [wrap_i64 (by omega) (by omega)]; omega
  have c1 : ¬ (((fP f + 1 : Nat) : Int) < 0) := by omega
  unfold plumblineref02_Rounded_c5 plumblineref02_Rounded_c5T
  rw [e1, decide_eq_false c1, cond_false, shl_1 (by omega), nat_beq]
  by_cases c : q = 2 ^ (fP f + 1)
  · have : (q == 2 ^ (fP f + 1)) = true := by rw [beq_iff_eq]; exact c
    have w1 : Wi64 (last + 1) = last + 1 := wrap_i64 (by omega) (by omega)
    have w2 : Wu64 (Int.tdiv (q : Int) 2) = ((2 ^ fP f : Nat) : Int) := by
      rw [show (2 : Int) = ((2 : Nat) : Int) from rfl, tdiv_nat', Wu64_lt (by omega)]
      congr 1; omega
    rw [this, cond_true, w1, w2, c4_k k f m b (by omega) (by omega) (by omega), if_neg (Nat.lt_irrefl _)]
    have e : (last + 1 - fL f).toNat = (last - fL f).toNat + 1 := by omega
    have hg : (last + 1 - fL f).toNat * 2 ^ fP f + 2 ^ fP f = (last - fL f).toNat * 2 ^ fP f + q := by rw [e, Nat.add_mul, Nat.one_mul, c, hp2]; omega
    rw [hg]
  · have : (q == 2 ^ (fP f + 1)) = false := by rw [beq_eq_false_iff_ne]; exact c
    rw [this, cond_false, c4_k k f m b (by omega) hl (by omega)]
    by_cases c2 : q < 2 ^ fP f
    · have e : (last - fL f).toNat = 0 := by rw [hq2 c2]; omega
      rw [if_pos c2, e, Nat.zero_mul, Nat.zero_add]
      unfold clip
      rw [if_pos (by omega)]
    · rw [if_neg c2]

theorem c6_k {R : Type} (k : Nat) (f m : Int) (b : Bool) {q : Nat} {last : Int} (hq : q < 2 ^ (fP f + 1)) (hq2 : q < 2 ^ fP f → last = fL f) (hl : fL f ≤ last) (hl2 : last < 1000000) (inc : Bool) (l : List Bool) (K : Int → Option R) :
    plumblineref02_Rounded_c6 k f m b ((fP f : Nat) : Int) ((fE f : Nat) : Int) (fL f) last (q : Int) inc l K = K ((sg f b + clip f m b ((last - fL f).toNat * 2 ^ fP f + q + inc.toNat) : Nat) : Int) := by
  have hf := fmt_le f
  have hp53 : 2 ^ (fP f + 1) ≤ 2 ^ 53 := Nat.pow_le_pow_right (by decide) (by omega)
  unfold plumblineref02_Rounded_c6 plumblineref02_Rounded_c6T
  cases inc with
  | true =>
    rw [cond_true, show (q : Int) + 1 = ((q + 1 : Nat) : Int) from rfl, Wu64_lt (by omega), c5_k k f m b (by omega) (fun h => hq2 (by omega)) hl hl2]
    rfl
  | false =>
    rw [cond_false, c5_k k f m b (by omega) hq2 hl hl2]
    rfl

theorem c7_k {R : Type} {k : Nat} (f m : Int) (b : Bool) {n N : Nat} {e : Int} (hn : n ≤ 100000) (hk : n + 2 ≤ k) (hN : N < 2 ^ n) (h0 : 0 < N) (he : -100000 ≤ e) (he2 : e ≤ 100000) (K : Int → Option R) :
    plumblineref02_Rounded_c7 k f m b e ((fP f : Nat) : Int) ((fE f : Nat) : Int) (fL f) ((bl N : Nat) : Int) (lastOf f N e) (bitsOf n N) K = K ((Rd f m b N e false : Nat) : Int) := by
  have hf := fmt_le f
  have hbn : bl N ≤ n := bl_le_iff.2 hN
  have hb0 := bl_pos h0
  have hup := bl_up N
  have hl1 : fL f ≤ lastOf f N e := Int.le_max_right _ _
  have hl2 : lastOf f N e ≤ 250000 := by unfold lastOf; omega
  have hl3 : e + (bl N : Nat) - 1 - (fP f : Nat) ≤ lastOf f N e := Int.le_max_left _ _
  have hq := qd_lt (f := f) (N := N) (e := e) h0
  have hq2 : qd N (lastOf f N e - e) < 2 ^ fP f → lastOf f N e = fL f := by
    intro h
    by_cases h' : lastOf f N e = fL f
    · exact h'
    · have := qd_ge h0 h'; omega
  have hRd : Rd f m b N e false = enc f m b (lastOf f N e) (qd N (lastOf f N e - e)) (hd N (lastOf f N e - e)) (rs N (lastOf f N e - e)) := by
    unfold Rd; rw [if_neg (by omega), Bool.false_or]
  rw [hRd]
  generalize lastOf f N e = last at *
  have hQ0 : Qi N (last - e) (bl N) = 0 := by
    unfold Qi
    by_cases c : last - e ≤ ((bl N : Nat) : Int)
    · rw [if_pos c, Nat.div_eq_of_lt hup, Nat.zero_mul]
    · rw [if_neg c]
      exact Nat.div_eq_of_lt (Nat.lt_of_lt_of_le hup (Nat.pow_le_pow_right (by decide) (by omega)))
  have hw : Wi64 (((bl N : Nat) : Int) - 1) = ((bl N : Nat) : Int) - 1 := wrap_i64 (by omega) (by omega)
  unfold plumblineref02_Rounded_c7 plumblineref02_Rounded_c7T
  have l0 := fun J => q_loop (R := R) k (n := n) (N := N) (f := f) (m := m) (b := b) (e := e) (last := last) (x5 := ((fP f : Nat) : Int)) (x6 := ((fE f : Nat) : Int)) (x7 := fL f) (x8 := ((bl N : Nat) : Int)) hn he he2 (by omega) (by omega) (p := fP f) (by omega) J (bl N) k hbn (by omega)
    (by
      refine Nat.lt_of_lt_of_le hup ?_
      rw [← Nat.pow_add]
      exact Nat.pow_le_pow_right (by decide) (by omega)) (by omega) (fun _ _ => trivial) (by rw [hQ0]; exact Nat.two_pow_pos _) (by rw [Qi_zero]; exact hq)
  rw [hQ0, Qi_zero] at l0
  have l2 := fun (x10 : Int) J => hr_loop (R := R) k (n := n) (N := N) (f := f) (m := m) (b := b) (e := e) (last := last) (x5 := ((fP f : Nat) : Int)) (x6 := ((fE f : Nat) : Int)) (x7 := fL f) (x10 := x10) (nl := bl N) hn hbn he he2 (by omega) (by omega) J (bl N) 0 k (by omega) (by omega)
  have h00 : hI N (last - e) 0 = false := by unfold hI; simp
  have r00 : rI N (last - e) 0 = false := by unfold rI; simp [Nat.mod_one]
  rw [h00, r00, hI_last _ hup, rI_last _ hup] at l2
  rw [hw]
  refine (l0 _).trans ?_
  refine (l2 _ _).trans ?_
  generalize hqe : qd N (last - e) = q at *
  generalize hd N (last - e) = half at *
  generalize rs N (last - e) = rest at *
  have c6 : ∀ (inc : Bool) (l : List Bool) (J : Int → Option R), plumblineref02_Rounded_c6 k f m b ((fP f : Nat) : Int) ((fE f : Nat) : Int) (fL f) last (q : Int) inc l J = J ((sg f b + clip f m b ((last - fL f).toNat * 2 ^ fP f + q + inc.toNat) : Nat) : Int) := fun inc l J => c6_k k f m b hq hq2 hl1 (by omega) inc l J
  have hodd : (Int.tmod (q : Int) 2 == 1) = (q % 2 == 1) := by
    rw [show (2 : Int) = ((2 : Nat) : Int) from rfl, tmod_nat']
    exact nat_beq (q % 2) 1
  unfold enc gOf more
  rw [hodd]
  by_cases m1 : m = 1
  · subst m1
    rw [show ((1 : Int) == 1) = true from rfl, cond_true, if_pos rfl]
    cases b <;> cases half <;> cases rest <;> simp only [Bool.not_true, Bool.not_false, cond_true, cond_false] <;> exact c6 _ _ _
  · have e1 : (m == 1) = false := by rw [beq_eq_false_iff_ne]; exact m1
    rw [e1, cond_false, if_neg m1]
    by_cases m2 : m = 2
    · subst m2
      rw [show ((2 : Int) == 2) = true from rfl, cond_true, if_pos rfl]
      cases b <;> cases half <;> cases rest <;> simp only [Bool.not_true, Bool.not_false, cond_true, cond_false] <;> exact c6 _ _ _
    · have e2 : (m == 2) = false := by rw [beq_eq_false_iff_ne]; exact m2
      rw [e2, cond_false, if_neg m2]
      by_cases m3 : m = 3
      · subst m3
        rw [show ((3 : Int) == 3) = true from rfl, cond_true, if_pos rfl]
        exact c6 _ _ _
      · have e3 : (m == 3) = false := by rw [beq_eq_false_iff_ne]; exact m3
        rw [e3, cond_false, if_neg m3]
        cases half <;> cases rest <;> simp only [cond_true, cond_false] <;> exact c6 _ _ _

theorem Rounded_k {R : Type} {k : Nat} (f m : Int) (b : Bool) {n N : Nat} {e : Int} (hn : n ≤ 100000) (hk : n + 2 ≤ k) (hN : N < 2 ^ n) (he : -100000 ≤ e) (he2 : e ≤ 100000) (K : Int → Option R) :
    plumblineref02_Rounded k f m b e (bitsOf n N) K = K ((Rd f m b N e false : Nat) : Int) := by
  have hf := fmt_le f
  have hbn : bl N ≤ n := bl_le_iff.2 hN
  unfold plumblineref02_Rounded plumblineref02_RoundedT
  rw [rSize_k, length_k (by omega) (by omega) hN, nat_beq0]
  by_cases h0 : N = 0
  · subst h0
    have : (bl 0 == 0) = true := rfl
    rw [this, cond_true, rsign_k]; rfl
  · have hp : 0 < N := by omega
    have hb0 := bl_pos hp
    have : (bl N == 0) = false := by rw [beq_eq_false_iff_ne]; omega
    have w : Wi64 (Wi64 (Wi64 (e + ((bl N : Nat) : Int)) - 1) - ((fP f : Nat) : Int)) = e + ((bl N : Nat) : Int) - 1 - ((fP f : Nat) : Int) := by
      rw [wrap_i64 (x := e + ((bl N : Nat) : Int)) (by omega) (by omega), wrap_i64 (x := e + ((bl N : Nat) : Int) - 1) (by omega) (by omega), wrap_i64 (by omega) (by omega)]
    have h7 := c7_k (R := R) (k := k) f m b hn hk hN hp he he2 K
    unfold lastOf at h7
    rw [this, cond_false, w]
    by_cases c : e + ((bl N : Nat) : Int) - 1 - ((fP f : Nat) : Int) < fL f
    · rw [decide_eq_true c, cond_true]
      rw [Int.max_eq_right (by omega)] at h7
      exact h7
    · rw [decide_eq_false c, cond_false]
      rw [Int.max_eq_left (by omega)] at h7
      exact h7

theorem Rounded_n3_k {R : Type} {k : Nat} (hk : 2 ≤ k) (f m : Int) (b : Bool) (e : Int) (K : Int → Option R) : plumblineref02_Rounded_n3 k f m b e K = K ((Rd f m b 0 e false : Nat) : Int) := by
  obtain ⟨k, rfl⟩ : ∃ j, k = j + 1 := ⟨k - 1, by omega⟩
  unfold plumblineref02_Rounded_n3 plumblineref02_Rounded_n3T plumblineref02_length_n0 plumblineref02_length_n0T
  rw [rSize_k, plumblineref02_length_n0_l0, plumblineref02_length_n0_l0B]
  have : ¬ ((0 : Int) > 0) := by decide
  rw [decide_eq_false this, cond_false]
  show cond ((0 : Int) == 0) _ _ = _
  rw [show ((0 : Int) == 0) = true from rfl, cond_true, rsign_k]
  rfl

end Go.Proofs.Ytelifkahdhhmoaa.N
