/- Products and quotients of package soft. Conditions: none. -/
import Derived.Test.YtejfnbjhcohkiaaMs
import Derived.Test.YtejfnbjhcohkiaaMb
import Derived.Test.YtejfnbjhcohkiaaMd
namespace Go.Proofs.Ytejfnbjhcohkiaa.N
set_option linter.unusedVariables false
set_option linter.unusedSimpArgs false
open Go Go.Ab

/-! ### Products, quotients -/

theorem xor_bw (x y : Bool) : (!(x == y)) = (x != y) := rfl

theorem hl0 {x : Nat} (h : x < 2 ^ 64) : (0 : Int) = hi x ∧ (x : Int) = lo x := ⟨zero_hi h, (lo_small h).symm⟩

theorem Len_64 {R : Type} (k : Nat) {X : Nat} (h : X < 2 ^ 64) (J : Int → Option R) : wide_Len k 0 (X : Int) J = J ((bl X : Nat) : Int) := by
  have := Len_hl k (A := X) (by omega) J
  rw [hi_small h, lo_small h] at this; exact this
theorem Shl_64 {R : Type} (k : Nat) {X : Nat} {n : Int} (h : X < 2 ^ 64) (hn : (Lit.int .i64 n).wf = true) (J : Int → Int → Option R) : wide_Shl k 0 (X : Int) n J = J (hi (X * 2 ^ n.toNat % 2 ^ 128)) (lo (X * 2 ^ n.toNat % 2 ^ 128)) := by
  have := Shl_hl k (A := X) (by omega) hn J
  rw [hi_small h, lo_small h] at this; exact this

theorem Mul_k {R : Type} (k : Nat) (f m : Int) {a b : Nat} (ha : a < 2 ^ 64) (hb : b < 2 ^ 64) (K : Int → Option R) : soft_Mul k f m (a : Int) (b : Int) K = K ((MulS f m a b : Nat) : Int) := by
  unfold soft_Mul soft_MulT
  rw [apart_k k f ha, apart_k k f hb]
  have n1 := nn_lt64 f a; have n2 := nn_lt64 f b
  have b1 := ee_bounds f a; have b2 := ee_bounds f b
  have hprod : nn f a * nn f b < 2 ^ 128 := by
    have := Nat.mul_lt_mul'' n1 n2
    rw [← Nat.pow_add] at this
    exact Nat.lt_of_lt_of_le this (Nat.pow_le_pow_right (by decide) (by decide))
  have w : Wi64 (ee f a + ee f b) = ee f a + ee f b := wrap_i64 (by omega) (by omega)
  have hr : ∀ J : Int → Option R, (wide_Mul k ((nn f a : Nat) : Int) ((nn f b : Nat) : Int) (fun r18 r19 => soft_shape_round k ((fP f : Nat) : Int) ((fE f : Nat) : Int) (fL f) m (!(bw f a == bw f b)) r18 r19 (Wi64 (ee f a + ee f b)) false J)) =
      J ((Rd f m (bw f a != bw f b) (nn f a * nn f b) (ee f a + ee f b) false : Nat) : Int) := by
    intro J
    rw [Mul_hl k (by omega) (by omega), w, round_k k f m _ hprod (by omega) (by omega) (.inr rfl)]
    rfl
  unfold MulS
  rcases kd_vals f a with h | h | h | h <;> rcases kd_vals f b with h' | h' | h' | h'
  case inr.inr.inl.inr.inr.inl | inr.inr.inl.inr.inr.inr | inr.inr.inr.inr.inr.inl | inr.inr.inr.inr.inr.inr => rw [h, h']; simp only [Int.reduceLT, Int.reduceGT, Int.reduceBEq, Int.reduceEq, Int.reduceBNe, reduceIte, cond_true, cond_false, or_true, true_or, or_false, or_self, and_true, true_and, and_false, false_and, and_self, decide_true, decide_false, ne_eq]; exact hr K
  all_goals rw [h, h']; simp only [Int.reduceLT, Int.reduceGT, Int.reduceBEq, Int.reduceEq, Int.reduceBNe, reduceIte, cond_true, cond_false, or_true, true_or, or_false, or_self, and_true, true_and, and_false, false_and, and_self, decide_true, decide_false, ne_eq, nan_k, inf_k, sign_k, xor_bw, NAN]

theorem Div_k {R : Type} {k : Nat} (hk : 5000 ≤ k) (f m : Int) {a b : Nat} (ha : a < 2 ^ 64) (hb : b < 2 ^ 64) (K : Int → Option R) : soft_Div k f m (a : Int) (b : Int) K = K ((DivS f m a b : Nat) : Int) := by
  unfold soft_Div soft_DivT
  rw [apart_k k f ha, apart_k k f hb]
  have n1 := nn_lt64 f a; have n2 := nn_lt64 f b
  have b1 := ee_bounds f a; have b2 := ee_bounds f b
  have hbl : bl (nn f a) ≤ 53 := bl_le_iff.2 n1
  have w1 : Wi64 (127 - ((bl (nn f a) : Nat) : Int)) = ((127 - bl (nn f a) : Nat) : Int) := by rw [wrap_i64 (by omega) (by omega)]; omega
  have w2 : Wi64 (Wi64 (ee f a - ee f b) - ((127 - bl (nn f a) : Nat) : Int)) = ee f a - ee f b - ((127 - bl (nn f a) : Nat) : Int) := by
    rw [wrap_i64 (x := ee f a - ee f b) (by omega) (by omega), wrap_i64 (by omega) (by omega)]
  have hr : kd f a = 3 → kd f b = 3 → ∀ J : Int → Option R, (wide_Len k 0 ((nn f a : Nat) : Int) (fun r21 =>
                      wide_Shl k 0 ((nn f a : Nat) : Int) (Wi64 (127 - r21)) (fun r22 r23 =>
                        wide_Div k r22 r23 ((nn f b : Nat) : Int) (fun r24 r25 r26 =>
                          soft_shape_round k ((fP f : Nat) : Int) ((fE f : Nat) : Int) (fL f) m (!(bw f a == bw f b)) r24 r25 (Wi64 ((Wi64 (ee f a - ee f b)) - (Wi64 (127 - r21)))) (r26 != 0) J)))) =
      J ((DivX f m (bw f a != bw f b) (nn f a) (nn f b) (ee f a - ee f b) (127 - bl (nn f a)) : Nat) : Int) := by
    intro h h' J
    have hn1 := nn_bounds h; have hn2 := nn_bounds h'
    rw [Len_64 k (by omega)]
    simp only [w1]
    rw [Shl_64 k (by omega) (wf_nat (by omega)), Int.toNat_natCast]
    have hsh : nn f a * 2 ^ (127 - bl (nn f a)) < 2 ^ 127 := by
      have h1 := bl_up (nn f a)
      have := Nat.mul_lt_mul_of_pos_right h1 (Nat.two_pow_pos (127 - bl (nn f a)))
      rw [← Nat.pow_add] at this
      have e : bl (nn f a) + (127 - bl (nn f a)) = 127 := by omega
      rw [e] at this; exact this
    have hsh2 : 2 ^ 126 ≤ nn f a * 2 ^ (127 - bl (nn f a)) := by
      have h1 := bl_low hn1.1
      have h2 := bl_pos hn1.1
      have := Nat.mul_le_mul_right (2 ^ (127 - bl (nn f a))) h1
      rw [← Nat.pow_add] at this
      have e : bl (nn f a) - 1 + (127 - bl (nn f a)) = 126 := by omega
      rw [e] at this; exact this
    rw [Nat.mod_eq_of_lt (by omega), Div_hl hk (by omega) (by omega) (by omega), w2]
    rw [nat_bne0]
    have hq : nn f a * 2 ^ (127 - bl (nn f a)) / nn f b < 2 ^ 128 := Nat.lt_of_le_of_lt (Nat.div_le_self _ _) (by omega)
    have hqp : 0 < nn f a * 2 ^ (127 - bl (nn f a)) / nn f b := Nat.div_pos (by omega) hn2.1
    rw [round_k k f m _ hq (by omega) (by omega) (.inl hqp)]
    unfold DivX
    congr 3
    rw [Bool.eq_iff_iff]; simp
  unfold DivS
  rcases kd_vals f a with h | h | h | h <;> rcases kd_vals f b with h' | h' | h' | h'
  case inr.inr.inr.inr.inr.inr =>
    have hr' := hr h h' K
    rw [h, h']; simp only [Int.reduceLT, Int.reduceGT, Int.reduceBEq, Int.reduceEq, Int.reduceBNe, reduceIte, cond_true, cond_false, or_true, true_or, or_false, or_self, and_true, true_and, and_false, false_and, and_self, decide_true, decide_false, ne_eq]; exact hr'
  all_goals rw [h, h']; simp only [Int.reduceLT, Int.reduceGT, Int.reduceBEq, Int.reduceEq, Int.reduceBNe, reduceIte, cond_true, cond_false, or_true, true_or, or_false, or_self, and_true, true_and, and_false, false_and, and_self, decide_true, decide_false, ne_eq, nan_k, inf_k, sign_k, xor_bw, NAN]

end Go.Proofs.Ytejfnbjhcohkiaa.N

/- Sums of package soft: two numbers. Conditions: none. -/
namespace Go.Proofs.Ytejfnbjhcohkiaa.N
set_option linter.unusedVariables false
set_option linter.unusedSimpArgs false
open Go Go.Ab

/-! ### Sums -/

theorem x60 {X : Nat} (h : X < 2 ^ 53) : X * 2 ^ 60 < 2 ^ 113 := Nat.lt_of_lt_of_eq (Nat.mul_lt_mul_of_pos_right h (Nat.two_pow_pos 60)) (Nat.pow_add 2 53 60).symm
theorem x128 {u : Nat} (h : u < 2 ^ 113) : u < 2 ^ 128 := Nat.lt_of_lt_of_le h (Nat.pow_le_pow_right (by decide) (by decide))
theorem x83 {X p : Nat} (hp : 23 ≤ p) (h : 2 ^ p ≤ X) : 2 ^ 83 ≤ X * 2 ^ 60 := by
  have h3 : 2 ^ 23 ≤ 2 ^ p := Nat.pow_le_pow_right (by decide) hp
  have := Nat.mul_le_mul_right (2 ^ 60) (Nat.le_trans h3 h)
  rw [← Nat.pow_add] at this
  exact this
theorem x_shl {R : Type} (k : Nat) {X : Nat} (h : X < 2 ^ 53) (J : Int → Int → Option R) : wide_Shl k 0 (X : Int) 60 J = J (hi (X * 2 ^ 60)) (lo (X * 2 ^ 60)) := by
  have := Shl_64 k (X := X) (n := 60) (Nat.lt_trans h (by decide)) (by decide) J
  have e : X * 2 ^ (60 : Int).toNat % 2 ^ 128 = X * 2 ^ 60 := Nat.mod_eq_of_lt (x128 (x60 h))
  rw [e] at this; exact this

theorem hl_zero (n : Nat) : ((hi n == 0) && (lo n == 0)) = (n == 0) := by
  have := hl_beq (A := n) (B := 0)
  rw [show hi 0 = 0 from by decide, show lo 0 = 0 from by decide] at this
  exact this

theorem diff_k {R : Type} (k : Nat) (f m : Int) (bx by' : Bool) {u w : Nat} (hu : u < 2 ^ 113) (hw : w < 2 ^ 114) {ex : Int} (b1 : -1074 ≤ ex) (b2 : ex ≤ 1897) {rest : Bool} (hpos : 0 < u - w ∨ 0 < w - u ∨ rest = false) (K : Int → Option R) :
    (wide_Sub k (hi u) (lo u) (hi w) (lo w) (fun r15 r16 r17 =>
                cond r17 (
                  wide_Sub k (hi w) (lo w) (hi u) (lo u) (fun r18 r19 r20 =>
                    cond ((r18 == 0) && (r19 == 0)) (
                      cond (!rest) (
                        soft_shape_round k ((fP f : Nat) : Int) ((fE f : Nat) : Int) (fL f) m (m == 2) r18 r19 (ex - 60) rest K) (
                        soft_shape_round k ((fP f : Nat) : Int) ((fE f : Nat) : Int) (fL f) m by' r18 r19 (ex - 60) rest K)) (
                      soft_shape_round k ((fP f : Nat) : Int) ((fE f : Nat) : Int) (fL f) m by' r18 r19 (ex - 60) rest K))) (
                  cond ((r15 == 0) && (r16 == 0)) (
                    cond (!rest) (
                      soft_shape_round k ((fP f : Nat) : Int) ((fE f : Nat) : Int) (fL f) m (m == 2) r15 r16 (ex - 60) rest K) (
                      soft_shape_round k ((fP f : Nat) : Int) ((fE f : Nat) : Int) (fL f) m bx r15 r16 (ex - 60) rest K)) (
                    soft_shape_round k ((fP f : Nat) : Int) ((fE f : Nat) : Int) (fL f) m bx r15 r16 (ex - 60) rest K)))) =
        K ((if u < w then Rd f m by' (w - u) (ex - 60) rest else Rd f m (if u = w ∧ rest = false then m == 2 else bx) (u - w) (ex - 60) rest : Nat) : Int) := by
  rw [Sub_hl k (by omega) (by omega)]
  by_cases c : u < w
  · have e1 : (w + 2 ^ 128 - u) % 2 ^ 128 = w - u := by omega
    have hc : decide (u < w) = true := decide_eq_true c
    have hb : (w - u == 0) = false := by rw [beq_eq_false_iff_ne]; omega
    rw [if_pos c, hc, cond_true, Sub_hl k (by omega) (by omega), e1, hl_zero, hb, cond_false]
    exact round_k k f m by' (by omega) (by omega) (by omega) (.inl (by omega)) K
  · have e1 : (u + 2 ^ 128 - w) % 2 ^ 128 = u - w := by omega
    have hc : decide (u < w) = false := decide_eq_false c
    rw [if_neg c, hc, cond_false, e1, hl_zero]
    by_cases ce : u = w
    · have hr : rest = false := by
        rcases hpos with h | h | h
        · omega
        · omega
        · exact h
      have h0 : u - w = 0 := by omega
      have hb0 : ((0 : Nat) == 0) = true := rfl
      rw [if_pos ⟨ce, hr⟩, h0, hr, hb0, cond_true, Bool.not_false, cond_true]
      exact round_k k f m (m == 2) (N := 0) (Nat.two_pow_pos _) (by omega) (by omega) (.inr rfl) K
    · have hb : (u - w == 0) = false := by rw [beq_eq_false_iff_ne]; omega
      have hn : ¬ (u = w ∧ rest = false) := fun h => ce h.1
      rw [if_neg hn, hb, cond_false]
      exact round_k k f m bx (by omega) (by omega) (by omega) (.inl (by omega)) K

theorem sum_k {R : Type} {k : Nat} (f m : Int) {X Y : Nat} {ex ey : Int} (bx by' : Bool) (hX : X < 2 ^ (fP f + 1)) (hY : Y < 2 ^ (fP f + 1)) (hX0 : 0 < X) (hY0 : 0 < Y) (hle : ey ≤ ex) (hn : ey < ex → 2 ^ fP f ≤ X)
    (b1 : -1074 ≤ ey) (b2 : ex ≤ 1897) (p4 p9 p10 p11 p12 : Int) (K : Int → Option R) :
    soft_sum k m ((fP f : Nat) : Int) ((fE f : Nat) : Int) (fL f) p4 bx (X : Int) ex p9 p10 p11 p12 by' (Y : Int) ey K = K ((AddX f m bx X ex by' Y ey : Nat) : Int) := by
  have hf := fmt_le f
  have hX53 : X < 2 ^ 53 := Nat.lt_of_lt_of_le hX (Nat.pow_le_pow_right (by decide) (by omega))
  have hY53 : Y < 2 ^ 53 := Nat.lt_of_lt_of_le hY (Nat.pow_le_pow_right (by decide) (by omega))
  rw [← SumS_eq m bx by' hX hY hY0 hle hn]
  unfold soft_sum soft_sumT SumS
  obtain ⟨d, hd⟩ : ∃ d : Nat, d = (min (ex - ey) 128).toNat := ⟨_, rfl⟩
  have hd128 : d ≤ 128 := by omega
  have w1 : (if 128 < Wi64 (ex - ey) then 128 else Wi64 (ex - ey)) = (d : Int) := by
    rw [wrap_i64 (by omega) (by omega)]; split <;> omega
  have w2 : Wi64 (ex - 60) = ex - 60 := wrap_i64 (by omega) (by omega)
  simp only [w1, w2, ← hd]
  have sX := fun J => x_shl (R := R) k hX53 J
  have sY := fun J => x_shl (R := R) k hY53 J
  rw [sX, sY]
  have hY128 : Y * 2 ^ 60 < 2 ^ 128 := x128 (x60 hY53)
  have hwd : (Lit.int .i64 (d : Int)).wf = true := wf_nat (by omega)
  rw [Shr_hl k hY128 hwd, Int.toNat_natCast]
  have hu : X * 2 ^ 60 < 2 ^ 113 := x60 hX53
  have hu0 : 0 < X * 2 ^ 60 := Nat.mul_pos hX0 (Nat.two_pow_pos 60)
  have hvY : Y * 2 ^ 60 < 2 ^ 113 := x60 hY53
  have hv := Nat.div_le_self (Y * 2 ^ 60) (2 ^ d)
  have hX23 : 2 ^ fP f ≤ X → 2 ^ 83 ≤ X * 2 ^ 60 := fun h => x83 hf.1 h
  obtain ⟨u, hue⟩ : ∃ u, u = X * 2 ^ 60 := ⟨_, rfl⟩
  obtain ⟨v, hvv⟩ : ∃ v, v = Y * 2 ^ 60 / 2 ^ d := ⟨_, rfl⟩
  obtain ⟨rest, hrr⟩ : ∃ r, r = decide (Y * 2 ^ 60 % 2 ^ d ≠ 0) := ⟨_, rfl⟩
  rw [← hue, ← hvv, ← hrr]
  rw [← hue] at hu hu0 hX23
  rw [← hvv] at hv
  clear hue sX sY hY128
  have hv113 : v < 2 ^ 113 := Nat.lt_of_le_of_lt hv hvY
  clear hv
  cases hs : (bx == by') with
  | true =>
    have hsb : bx = by' := by simpa using hs
    rw [cond_true, Add_hl k (by omega) (by omega), Nat.mod_eq_of_lt (by omega), if_pos hsb]
    exact round_k k f m bx (by omega) (by omega) (by omega) (.inl (by omega)) K
  | false =>
    have hsb : ¬ bx = by' := by simpa using hs
    rw [cond_false, if_neg hsb]
    cases hrest : rest with
    | true =>
      rw [cond_true, Bool.toNat_true]
      have hone : (0 : Int) = hi 1 ∧ (1 : Int) = lo 1 := by decide
      have ha1 := Add_hl (R := R) k (A := v) (B := 1) (by omega) (by decide)
      rw [← hone.1, ← hone.2] at ha1
      rw [ha1, Nat.mod_eq_of_lt (by omega)]
      refine diff_k k f m bx by' hu (by omega) (by omega) b2 ?_ K
      -- a rest means that the other one is much greater
      have hD : 60 < d := by
        refine Nat.lt_of_not_le fun hle => ?_
        have e2 : (2 : Nat) ^ 60 = 2 ^ (60 - d) * 2 ^ d := by rw [← Nat.pow_add]; congr 1; omega
        have : Y * 2 ^ 60 % 2 ^ d = 0 := by rw [e2, ← Nat.mul_assoc, Nat.mul_mod_left]
        rw [this, hrest] at hrr
        simp at hrr
      have hXn := hX23 (hn (by omega))
      refine .inl ?_
      have h1 : 2 ^ 61 ≤ 2 ^ d := Nat.pow_le_pow_right (by decide) hD
      have h2 : v < 2 ^ 52 := by
        have h3 : v ≤ Y * 2 ^ 60 / 2 ^ 61 := by rw [hvv]; exact Nat.div_le_div_left h1 (Nat.two_pow_pos _)
        refine Nat.lt_of_le_of_lt h3 ?_
        rw [Nat.div_lt_iff_lt_mul (Nat.two_pow_pos _), ← Nat.pow_add]
        exact hvY
      clear hvv hvY hrr
      omega
    | false =>
      rw [cond_false, Bool.toNat_false, Nat.add_zero]
      exact diff_k k f m bx by' (w := v) hu (by omega) (ex := ex) (by omega) b2 (.inr (.inr rfl)) K


end Go.Proofs.Ytejfnbjhcohkiaa.N

/- Sums of package soft. Conditions: none. -/
namespace Go.Proofs.Ytejfnbjhcohkiaa.N
set_option linter.unusedVariables false
set_option linter.unusedSimpArgs false
open Go Go.Ab

theorem ee_norm {f : Int} {a : Nat} (h : kd f a = 3) {e : Int} (he : fL f ≤ e) (hlt : e < ee f a) : 2 ^ fP f ≤ nn f a := by
  unfold ee at hlt; unfold nn
  rw [if_pos h] at hlt ⊢
  unfold eG at hlt; unfold nG
  split at hlt
  · omega
  · rename_i c; rw [if_neg c]; omega

theorem c0_sum {R : Type} (k : Nat) (f m : Int) {a b : Nat} (h : kd f a = 3) (h' : kd f b = 3) (K : Int → Option R) : (cond (decide (ee f a < ee f b))
      (soft_Add_c0 k m ((fP f : Nat) : Int) ((fE f : Nat) : Int) (fL f) 3 (bw f b) ((nn f b : Nat) : Int) (ee f b) ((fP f : Nat) : Int) ((fE f : Nat) : Int) (fL f) 3 (bw f a) ((nn f a : Nat) : Int) (ee f a) K)
      (soft_Add_c0 k m ((fP f : Nat) : Int) ((fE f : Nat) : Int) (fL f) 3 (bw f a) ((nn f a : Nat) : Int) (ee f a) ((fP f : Nat) : Int) ((fE f : Nat) : Int) (fL f) 3 (bw f b) ((nn f b : Nat) : Int) (ee f b) K)) =
      K ((AddX f m (bw f a) (nn f a) (ee f a) (bw f b) (nn f b) (ee f b) : Nat) : Int) := by
  have hf := fmt_le f
  have h1 := nn_bounds h; have h2 := nn_bounds h'
  unfold soft_Add_c0 soft_Add_c0T
  by_cases c : ee f a < ee f b
  · have hc : decide (ee f a < ee f b) = true := decide_eq_true c
    rw [hc, cond_true, AddX_comm]
    exact sum_k f m _ _ h2.2.1 h1.2.1 h2.1 h1.1 (by omega) (fun h3 => ee_norm h' h1.2.2.1 h3) (by omega) (by omega) _ _ _ _ _ K
  · have hc : decide (ee f a < ee f b) = false := decide_eq_false c
    rw [hc, cond_false]
    exact sum_k f m _ _ h1.2.1 h2.2.1 h1.1 h2.1 (by omega) (fun h3 => ee_norm h h2.2.2.1 h3) (by omega) (by omega) _ _ _ _ _ K

theorem AddX_zz (f m : Int) (bx by' : Bool) (ex ey : Int) : AddX f m bx 0 ex by' 0 ey = if bx = by' then sg f bx else sg f (m == 2) := by
  unfold AddX
  simp only [Nat.zero_mul, Nat.add_zero]
  by_cases h : bx = by'
  · rw [if_pos h, if_pos h]; unfold Rd; rw [if_pos ⟨rfl, rfl⟩]
  · rw [if_neg h, if_neg h, if_pos trivial]

theorem kd2 {f : Int} {c : Nat} (h : kd f c = 2) : gg f c = 0 := by
  unfold kd at h
  split at h
  · cases h
  · split at h
    · cases h
    · split at h
      · cases h
      · split at h
        · assumption
        · cases h

theorem zero_is {f : Int} {c : Nat} (hc : c < 2 ^ 64) (h : kd f c = 2) : c = sg f (bw f c) := by
  have hp := parts_of hc (bad_of_kd (by rw [h]; decide))
  rw [kd2 h] at hp; exact hp

end Go.Proofs.Ytejfnbjhcohkiaa.N

/- Sums of package soft. Conditions: none. -/
namespace Go.Proofs.Ytejfnbjhcohkiaa.N
set_option linter.unusedVariables false
set_option linter.unusedSimpArgs false
open Go Go.Ab

theorem Add_k {R : Type} {k : Nat} (f m : Int) {a b : Nat} (ha : a < 2 ^ 64) (hb : b < 2 ^ 64) (K : Int → Option R) : soft_Add k f m (a : Int) (b : Int) K = K ((AddS f m a b : Nat) : Int) := by
  unfold soft_Add soft_AddT
  rw [apart_k k f ha, apart_k k f hb]
  unfold AddS
  rcases kd_vals f a with h | h | h | h <;> rcases kd_vals f b with h' | h' | h' | h'
  case inl.inl | inl.inr.inl | inl.inr.inr.inl | inl.inr.inr.inr | inr.inl.inl | inr.inr.inl.inl | inr.inr.inr.inl => rw [h, h']; simp only [Int.reduceLT, Int.reduceGT, Int.reduceBEq, Int.reduceEq, Int.reduceBNe, reduceIte, cond_true, cond_false, or_true, true_or, or_false, or_self, and_true, true_and, and_false, false_and, and_self, decide_true, decide_false, ne_eq]; exact nan_k k f _ K
  case inr.inl.inr.inl =>
    have hbx : (!(bw f a == bw f b)) = decide (bw f a ≠ bw f b) := by cases bw f a <;> cases bw f b <;> rfl
    rw [h, h', hbx]
    by_cases c : bw f a = bw f b
    · have hc : decide (bw f a ≠ bw f b) = false := decide_eq_false (fun h => h c)
      rw [hc, if_neg (by simp [c]), if_pos rfl]
      simp only [Int.reduceBEq, cond_true, cond_false]
    · have hc : decide (bw f a ≠ bw f b) = true := decide_eq_true c
      rw [hc, if_pos (.inr (.inr ⟨rfl, rfl, c⟩))]
      simp only [Int.reduceBEq, cond_true, cond_false]
      exact nan_k k f _ K
  case inr.inl.inr.inr.inl | inr.inl.inr.inr.inr | inr.inr.inl.inr.inl | inr.inr.inr.inr.inl => rw [h, h']; simp only [Int.reduceLT, Int.reduceGT, Int.reduceBEq, Int.reduceEq, Int.reduceBNe, reduceIte, cond_true, cond_false, or_true, true_or, or_false, or_self, and_true, true_and, and_false, false_and, and_self, decide_true, decide_false, ne_eq]
  case inr.inr.inl.inr.inr.inl =>
    have hz := AddX_zz f m (bw f a) (bw f b) (ee f a) (ee f b)
    have hb' := zero_is hb h'
    have ha' := zero_is ha h
    have e : (if kd f a = 0 ∨ kd f b = 0 ∨ (kd f a = 1 ∧ kd f b = 1 ∧ bw f a ≠ bw f b) then NAN f else if kd f a = 1 then a else if kd f b = 1 then b else AddX f m (bw f a) (nn f a) (ee f a) (bw f b) (nn f b) (ee f b)) =
        if bw f a = bw f b then sg f (bw f a) else sg f (m == 2) := by
      rw [if_neg (by simp [h, h']), if_neg (by simp [h]), if_neg (by simp [h']), (nn_zero (by rw [h]; decide)).1, (nn_zero (by rw [h']; decide)).1]
      exact hz
    rw [e]
    have hbx : (!(bw f a == bw f b)) = decide (bw f a ≠ bw f b) := by cases bw f a <;> cases bw f b <;> rfl
    rw [h, h', hbx]
    by_cases c : bw f a = bw f b
    · simp only [c, ne_eq, not_true_eq_false, decide_false, if_true, cond_true, Int.reduceBEq, cond_false]
      rw [← hb']
    · simp only [c, ne_eq, not_false_eq_true, decide_true, if_false, cond_true, Int.reduceBEq, cond_false]
      exact sign_k k f _ _ K
  case inr.inr.inl.inr.inr.inr =>
    have hb' := nn_bounds h'
    have e : (if kd f a = 0 ∨ kd f b = 0 ∨ (kd f a = 1 ∧ kd f b = 1 ∧ bw f a ≠ bw f b) then NAN f else if kd f a = 1 then a else if kd f b = 1 then b else AddX f m (bw f a) (nn f a) (ee f a) (bw f b) (nn f b) (ee f b)) = b := by
      rw [if_neg (by simp [h, h']), if_neg (by simp [h]), if_neg (by simp [h']), (nn_zero (a := a) (by rw [h]; decide)).1, AddX_zero f m _ _ _ _ _ hb'.1, Rd_self m hb h']
    rw [e, h, h']; rfl
  case inr.inr.inr.inr.inr.inl =>
    have ha' := nn_bounds h
    have e : (if kd f a = 0 ∨ kd f b = 0 ∨ (kd f a = 1 ∧ kd f b = 1 ∧ bw f a ≠ bw f b) then NAN f else if kd f a = 1 then a else if kd f b = 1 then b else AddX f m (bw f a) (nn f a) (ee f a) (bw f b) (nn f b) (ee f b)) = a := by
      rw [if_neg (by simp [h, h']), if_neg (by simp [h]), if_neg (by simp [h']), (nn_zero (a := b) (by rw [h']; decide)).1, AddX_comm, AddX_zero f m _ _ _ _ _ ha'.1, Rd_self m ha h]
    rw [e, h, h']; rfl
  case inr.inr.inr.inr.inr.inr =>
    rw [if_neg (by simp [h, h']), if_neg (by simp [h]), if_neg (by simp [h'])]
    have := c0_sum k f m h h' K
    rw [h, h', show ((3 : Int) == 0) = false from rfl, show ((3 : Int) == 1) = false from rfl, show ((3 : Int) == 2) = false from rfl]
    repeat rw [cond_false]
    exact this

theorem Sub_k {R : Type} {k : Nat} (f m : Int) {a b : Nat} (ha : a < 2 ^ 64) (hb : b < 2 ^ 64) (hn : NegS f b < 2 ^ 64) (K : Int → Option R) : soft_Sub k f m (a : Int) (b : Int) K = K ((AddS f m a (NegS f b) : Nat) : Int) := by
  unfold soft_Sub soft_SubT
  rw [Neg_k k f hb, Add_k f m ha hn]


end Go.Proofs.Ytejfnbjhcohkiaa.N
