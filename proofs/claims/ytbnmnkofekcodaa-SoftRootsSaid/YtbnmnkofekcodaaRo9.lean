/- Quotients by the reference: the digits. Conditions: none. -/
import Derived.Test.YtbnmnkofekcodaaRo7
import Derived.Test.YtbnmnkofekcodaaRo5
import Derived.Test.YtbnmnkofekcodaaNr02x2
namespace Go.Proofs.Ytbnmnkofekcodaa.N
set_option linter.unusedVariables false
set_option linter.unusedSimpArgs false
open Go Go.Ab

theorem quot_loop {R : Type} {k : Nat} (hk : 5000 ≤ k) {L X b W : Nat} (hL : L ≤ 64) (hX : X < 2 ^ L) (hW : W = X * 2 ^ 130) (hb : b < 2 ^ 64) (h0 : 0 < b) (K : List Bool → Int → Int → Option R) : ∀ (i n : Nat), i ≤ L + 130 → i < n →
    plumblineref02_quotient_l0 k n 130 ((i : Int) - 1) (bitsOf L X) (rowN (L + 130) fun j => if i ≤ j then (W / b).testBit j else false) (hi (W / 2 ^ i % b)) (lo (W / 2 ^ i % b)) 0 (b : Int) K =
      K (rowN (L + 130) (W / b).testBit) (hi (W % b)) (lo (W % b))
  | i, 0, h1, h2 => by omega
  | 0, n + 1, h1, h2 => by
    rw [plumblineref02_quotient_l0, plumblineref02_quotient_l0B]
    have e0 : ¬ ((((0 : Nat) : Int) - 1) ≥ 0) := by decide
    rw [decide_eq_false e0, cond_false]
    simp only [Nat.zero_le, if_true, Nat.pow_zero, Nat.div_one]
  | i + 1, n + 1, h1, h2 => by
    rw [plumblineref02_quotient_l0, plumblineref02_quotient_l0B]
    have e : (((i + 1 : Nat) : Int) - 1) = (i : Int) := by omega
    have e0 : ((i : Int) ≥ 0) := by omega
    have e1 : ((0 : Int) ≤ (i : Int)) := by omega
    have e2 : ((i : Int) < ((L + 130 : Nat) : Int)) := by omega
    have e3 : i < L + 130 := by omega
    have e8 : Wi64 ((i : Int) - 1) = ((i : Int) - 1) := wrap_i64 (by omega) (by omega)
    have ih := quot_loop hk hL hX hW hb h0 K i n (by omega) (by omega)
    have hP := half_step W i
    have hbit : (W / b).testBit i = decide (W / 2 ^ i / b % 2 = 1) := by
      rw [Nat.testBit_eq_decide_div_mod_eq, Nat.div_div_eq_div_mul, Nat.mul_comm, ← Nat.div_div_eq_div_mul]
    have hm := Nat.mod_lt (W / 2 ^ (i + 1)) h0
    have ht : (W.testBit i).toNat ≤ 1 := Bool.toNat_le _
    obtain ⟨q1, q2⟩ := quot_bit (P := W / 2 ^ (i + 1)) (t := (W.testBit i).toNat) h0 ht
    rw [← hP] at q1 q2
    have hX64 : W / 2 ^ (i + 1) % b < 2 ^ 64 := by omega
    have e4 : W / 2 ^ (i + 1) % b * 2 ^ (1 : Int).toNat % 2 ^ 128 = 2 * (W / 2 ^ (i + 1) % b) := by
      have : (1 : Int).toNat = 1 := rfl
      rw [this]; omega
    rw [e, e8, decide_eq_true e0, cond_true, refShl_hl hk (by omega) (by decide), e4]
    have hwt : W.testBit i = (decide (130 ≤ i) && X.testBit (i - 130)) := by rw [hW, Nat.testBit_mul_two_pow]
    -- the same at both bits
    have key : ∀ V : Nat, V = 2 * (W / 2 ^ (i + 1) % b) + (W.testBit i).toNat →
        plumblineref01_Compare k (hi V) (lo V) 0 (b : Int) (fun yr4 =>
              cond (decide (yr4 ≥ 0)) (
                plumblineref01_Sub k (hi V) (lo V) 0 (b : Int) (fun yr5 yr6 yr7 =>
                      plumblineref02_quotient_l0 k n 130 ((i : Int) - 1) (bitsOf L X) (rowN (L + 130) fun j => if j = i then true else if i + 1 ≤ j then (W / b).testBit j else false) yr5 yr6 0 (b : Int) K)) (
                plumblineref02_quotient_l0 k n 130 ((i : Int) - 1) (bitsOf L X) (rowN (L + 130) fun j => if i + 1 ≤ j then (W / b).testBit j else false) (hi V) (lo V) 0 (b : Int) K)) = K (rowN (L + 130) (W / b).testBit) (hi (W % b)) (lo (W % b)) := by
      intro V hV
      have hb' : b < 2 ^ 128 := Nat.lt_trans hb (by decide)
      have hV2 : V < 2 ^ 128 := by omega
      have hc := fun J => refCompare_hl (R := R) hk hV2 hb' J
      have hs := fun J => refSub_hl (R := R) hk hV2 hb' J
      rw [hi_small hb, lo_small hb] at hc hs
      rw [hc, hs]
      rw [← hV] at q1 q2
      by_cases hlt : V < b
      · have : ¬ (sgn V b ≥ 0) := by unfold sgn; rw [if_pos hlt]; decide
        rw [decide_eq_false this, cond_false]
        obtain ⟨a1, a2⟩ := q1 hlt
        rw [a1] at ih
        refine Eq.trans ?_ ih
        congr 1
        refine rowN_congr fun j hj => ?_
        by_cases cc : j = i
        · subst cc
          have : ¬ j + 1 ≤ j := by omega
          simp [this, hbit, a2]
        · have : (i < j) ↔ (i ≤ j) := by omega
          simp only [Nat.succ_le_iff, this]
      · have : (sgn V b ≥ 0) := by unfold sgn; rw [if_neg hlt]; split <;> decide
        rw [decide_eq_true this, cond_true]
        obtain ⟨a1, a2⟩ := q2 (by omega)
        have a3 : (V + 2 ^ 128 - b) % 2 ^ 128 = V - b := by omega
        rw [a3]
        rw [a1] at ih
        refine Eq.trans ?_ ih
        congr 1
        refine rowN_congr fun j hj => ?_
        by_cases cc : j = i
        · subst cc
          simp [hbit, a2]
        · have : (i < j) ↔ (i ≤ j) := by omega
          simp only [cc, Nat.succ_le_iff, this, if_false]
    by_cases c : (i : Int) ≥ 130
    · have wI : Wi64 ((i : Int) - 130) = ((i - 130 : Nat) : Int) := (wrap_i64 (by omega) (by omega)).trans (by omega)
      have f1 : (0 : Int) ≤ ((i - 130 : Nat) : Int) := by omega
      have f2 : ((i - 130 : Nat) : Int) < (L : Int) := by omega
      have f3 : i - 130 < L := by omega
      have d130 : decide (130 ≤ i) = true := decide_eq_true (by omega)
      rw [d130, Bool.true_and] at hwt
      rw [decide_eq_true c, cond_true, wI, decide_eq_true f1, cond_true, bitsOf_length, decide_eq_true f2, cond_true, Int.toNat_natCast, bitsOf_get f3, Option.bind_some]
      simp only [e1, e2, decide_true, cond_true, rowN_length, Int.toNat_natCast, rowN_get, if_pos e3, Option.bind_some, rowN_set]
      cases hbt : X.testBit (i - 130) with
      | true =>
        rw [cond_true, lo_or_one hX64, ← hi_or_one]
        refine key _ ?_
        rw [hwt, hbt]; rfl
      | false =>
        rw [cond_false]
        refine key _ ?_
        rw [hwt, hbt]; rfl
    · have d130 : decide (130 ≤ i) = false := decide_eq_false (by omega)
      rw [d130, Bool.false_and] at hwt
      rw [decide_eq_false c, cond_false]
      simp only [e1, e2, decide_true, cond_true, rowN_length, Int.toNat_natCast, rowN_get, if_pos e3, Option.bind_some, rowN_set]
      refine key _ ?_
      rw [hwt]; rfl

theorem quotient_k {R : Type} {k : Nat} (hk : 5000 ≤ k) {L X b : Nat} (hL : L ≤ 64) (hX : X < 2 ^ L) (hb : b < 2 ^ 64) (h0 : 0 < b) (K : Bool → List Bool → Option R) :
    plumblineref02_quotient k (b : Int) 130 (bitsOf L X) K = K (decide (X * 2 ^ 130 % b ≠ 0)) (bitsOf (L + 130) (X * 2 ^ 130 / b)) := by
  obtain ⟨W, hW⟩ : ∃ W, W = X * 2 ^ 130 := ⟨_, rfl⟩
  unfold plumblineref02_quotient plumblineref02_quotientT
  have w1 : Wi64 ((L : Int) + 130) = ((L + 130 : Nat) : Int) := (wrap_i64 (by omega) (by omega)).trans (by omega)
  have w2 : Wi64 (((L + 130 : Nat) : Int) - 1) = ((L + 130 : Nat) : Int) - 1 := wrap_i64 (by omega) (by omega)
  have e1 : (0 : Int) ≤ ((L + 130 : Nat) : Int) := by omega
  have e2 : ((L + 130 : Nat) : Int) ≤ ((L + 130 : Nat) : Int) := by omega
  have e3 : ((L + 130 : Nat) : Int) * 1 ≤ 140737488355328 := by omega
  rw [bitsOf_length, w1, decide_eq_true e1, cond_true, decide_eq_true e2, cond_true, decide_eq_true e3, cond_true, Int.toNat_natCast, List.length_replicate, w2, rowN_false, ← hW]
  have hWl : W < 2 ^ (L + 130) := by
    rw [hW, Nat.pow_add]
    exact (Nat.mul_lt_mul_right (Nat.two_pow_pos 130)).2 hX
  have h := quot_loop (R := R) hk hL hX hW hb h0 (fun r1 r2 r3 => K (!((r2 == 0) && (r3 == 0))) r1) (L + 130) k (by omega) (by omega)
  rw [Nat.div_eq_of_lt hWl, Nat.zero_mod] at h
  have er : (rowN (L + 130) fun j => if L + 130 ≤ j then (W / b).testBit j else false) = rowN (L + 130) (fun _ => false) :=
    rowN_congr fun j hj => if_neg (by omega)
  rw [er] at h
  refine h.trans ?_
  have hm := Nat.mod_lt W h0
  have hm64 : W % b < 2 ^ 64 := by omega
  rw [hi_small hm64, lo_small hm64]
  have ef : (!(((0 : Int) == 0) && (((W % b : Nat) : Int) == 0))) = decide (W % b ≠ 0) := by
    by_cases c : W % b = 0
    · rw [c]; rfl
    · have : (((W % b : Nat) : Int) == 0) = false := beq_eq_false_iff_ne.2 (by omega)
      rw [this, decide_eq_true c]; rfl
  rw [ef]
  rfl

end Go.Proofs.Ytbnmnkofekcodaa.N
