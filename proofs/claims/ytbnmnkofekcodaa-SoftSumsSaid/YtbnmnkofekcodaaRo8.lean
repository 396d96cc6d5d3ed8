/- Sums by the reference. Conditions: none. -/
import Derived.Test.YtbnmnkofekcodaaRo7
import Derived.Test.YtbnmnkofekcodaaRo5
import Derived.Test.YtbnmnkofekcodaaMt
import Derived.Test.YtbnmnkofekcodaaNr02x2
namespace Go.Proofs.Ytbnmnkofekcodaa.N
set_option linter.unusedVariables false
set_option linter.unusedSimpArgs false
open Go Go.Ab

theorem sum_tail {R : Type} {k : Nat} (hk : 5000 ≤ k) (f m : Int) (s t : Bool) {n n' U V : Nat} (hn : n ≤ 4000) (hn' : n' ≤ 4000) (hU : U < 2 ^ n) (hV : V < 2 ^ n') {l : Int} (hl : -2000 ≤ l) (hl2 : l ≤ 2000) (K : Int → Option R) :
    (cond (s == t) (plumblineref02_plus k (bitsOf n U) (bitsOf n' V) (fun r => plumblineref02_Rounded k f m s l r (fun q => K q)) (plumblineref02_Rounded_n3 k f m s l (fun q => K q)))
      (plumblineref02_cmp k (bitsOf n U) (bitsOf n' V) (fun c => cond (c == 0) (plumblineref02_sign k f (m == 2) (fun q => K q)) (cond (decide (c > 0))
        (plumblineref02_minus k (bitsOf n U) (bitsOf n' V) (fun r => plumblineref02_Rounded k f m s l r (fun q => K q)))
        (plumblineref02_minus k (bitsOf n' V) (bitsOf n U) (fun r => plumblineref02_Rounded k f m t l r (fun q => K q)))))))
    = K ((if s = t then Rd f m s (U + V) l false else if U = V then sg f (m == 2) else if V < U then Rd f m s (U - V) l false else Rd f m t (V - U) l false : Nat) : Int) := by
  by_cases c : s = t
  · subst c
    rw [beq_self_eq_true, cond_true, if_pos rfl]
    refine plus_k (by omega) (by omega) (by omega) hU hV _ _ _ ?_ ?_
    · intro L h1 h2
      exact Rounded_k f m s (n := L) (by omega) (by omega) h1 (by omega) (by omega) _
    · intro h1 h2
      subst h1; subst h2
      have u0 : U = 0 := by simpa using hU
      have v0 : V = 0 := by simpa using hV
      subst u0; subst v0
      exact Rounded_n3_k (by omega) f m s l _
  · have e : (s == t) = false := beq_eq_false_iff_ne.2 c
    rw [e, cond_false, if_neg c, cmp_k (by omega) (by omega) (by omega) (by omega) hU hV]
    rcases Nat.lt_trichotomy U V with h | h | h
    · have e0 : sgn U V = -1 := by rw [sgn, if_pos h]
      have e1 : ((-1 : Int) == 0) = false := rfl
      have e2 : decide ((-1 : Int) > 0) = false := rfl
      rw [e0, e1, cond_false, e2, cond_false, minus_k (by omega) (by omega) hU (by omega), Rounded_k f m t (by omega) (by omega) (Nat.lt_of_le_of_lt (Nat.sub_le _ _) hV) (by omega) (by omega), if_neg (show ¬ U = V by omega), if_neg (show ¬ V < U by omega)]
    · have e0 : sgn U V = 0 := by rw [sgn, if_neg (by omega), if_neg (by omega)]
      have e1 : ((0 : Int) == 0) = true := rfl
      rw [e0, e1, cond_true, rsign_k, if_pos h]
    · have e0 : sgn U V = 1 := by rw [sgn, if_neg (by omega), if_pos h]
      have e1 : ((1 : Int) == 0) = false := rfl
      have e2 : decide ((1 : Int) > 0) = true := rfl
      rw [e0, e1, cond_false, e2, cond_true, minus_k (by omega) (by omega) hV (by omega), Rounded_k f m s (by omega) (by omega) (Nat.lt_of_le_of_lt (Nat.sub_le _ _) hU) (by omega) (by omega), if_neg (show ¬ U = V by omega), if_pos h]

theorem shl_lt {X b d : Nat} (h : X < 2 ^ b) : X * 2 ^ d < 2 ^ (d + b) := by
  rw [Nat.add_comm, Nat.pow_add]
  exact (Nat.mul_lt_mul_right (Nat.two_pow_pos d)).2 h

theorem Add_c0_k {R : Type} {k : Nat} (hk : 5000 ≤ k) (f m : Int) (s t : Bool) {X Y : Nat} {ex ey l : Int} (hX : X < 2 ^ 64) (hY : Y < 2 ^ 64) (h1 : -1074 ≤ ex) (h2 : ex ≤ 1897) (h3 : -1074 ≤ ey) (h4 : ey ≤ 1897)
    (hl : l = min ex ey) (K : Int → Option R) : plumblineref02_Add_c0 k f m s t (X : Int) ex (Y : Int) ey l K = K ((AddX f m s X ex t Y ey : Nat) : Int) := by
  unfold plumblineref02_Add_c0 plumblineref02_Add_c0T
  have wx : Wi64 (ex - l) = (((ex - l).toNat : Nat) : Int) := (wrap_i64 (by omega) (by omega)).trans (by omega)
  have wy : Wi64 (ey - l) = (((ey - l).toNat : Nat) : Int) := (wrap_i64 (by omega) (by omega)).trans (by omega)
  have bx : bl X ≤ 64 := bl_le_iff.2 hX
  have by' : bl Y ≤ 64 := bl_le_iff.2 hY
  rw [wx, wy, bits_k (by omega) hX]
  have uX := shl_lt (d := (ex - l).toNat) (bl_up X)
  have uY := shl_lt (d := (ey - l).toNat) (bl_up Y)
  have u0 : ∀ d : Nat, 0 * 2 ^ d < 2 ^ (d + 0) := fun d => shl_lt (by decide)
  by_cases x0 : X = 0
  · rw [if_pos x0, up_n0_k k (by omega), bits_k (by omega) hY]
    by_cases y0 : Y = 0
    · rw [if_pos y0, up_n0_k k (by omega)]
      refine (sum_tail hk f m s t (by omega) (by omega) (u0 _) (u0 _) (by omega) (by omega) K).trans ?_
      subst x0; subst y0; subst hl; rfl
    · rw [if_neg y0, up_k k (by omega) (by omega)]
      refine (sum_tail hk f m s t (by omega) (by omega) (u0 _) uY (by omega) (by omega) K).trans ?_
      subst x0; subst hl; rfl
  · rw [if_neg x0, up_k k (by omega) (by omega), bits_k (by omega) hY]
    by_cases y0 : Y = 0
    · rw [if_pos y0, up_n0_k k (by omega)]
      refine (sum_tail hk f m s t (by omega) (by omega) uX (u0 _) (by omega) (by omega) K).trans ?_
      subst y0; subst hl; rfl
    · rw [if_neg y0, up_k k (by omega) (by omega)]
      refine (sum_tail hk f m s t (by omega) (by omega) uX uY (by omega) (by omega) K).trans ?_
      subst hl; rfl

theorem AddX_e2 (f m : Int) (s t : Bool) (a b : Nat) : AddX f m s (nn f a) (e2 f a) t (nn f b) (e2 f b) = AddX f m s (nn f a) (ee f a) t (nn f b) (ee f b) := by
  by_cases ha3 : kd f a = 3
  · rw [e2_of ha3]
    by_cases hb3 : kd f b = 3
    · rw [e2_of hb3]
    · rw [(nn_zero hb3).1]
      by_cases h : nn f a = 0
      · rw [h, AddX_zz, AddX_zz]
      · rw [AddX_comm, AddX_zero _ _ _ _ _ _ _ (Nat.pos_of_ne_zero h), AddX_comm, AddX_zero _ _ _ _ _ _ _ (Nat.pos_of_ne_zero h)]
  · rw [(nn_zero (a := a) ha3).1]
    by_cases hb3 : kd f b = 3
    · rw [e2_of hb3]
      by_cases h : nn f b = 0
      · rw [h, AddX_zz, AddX_zz]
      · rw [AddX_zero _ _ _ _ _ _ _ (Nat.pos_of_ne_zero h), AddX_zero _ _ _ _ _ _ _ (Nat.pos_of_ne_zero h)]
    · rw [(nn_zero (a := b) hb3).1, AddX_zz, AddX_zz]

theorem Add_c1_k {R : Type} {k : Nat} (hk : 5000 ≤ k) (f m : Int) (s t : Bool) {a b : Nat} (ha : a < 2 ^ 64) (hb : b < 2 ^ 64) (h1 : 2 ≤ kd f a) (h2 : 2 ≤ kd f b) (K : Int → Option R) :
    plumblineref02_Add_c1 k f m (a : Int) (b : Int) s t K = K ((AddX f m s (nn f a) (ee f a) t (nn f b) (ee f b) : Nat) : Int) := by
  unfold plumblineref02_Add_c1 plumblineref02_Add_c1T
  have n1 := Nat.lt_trans (nn_lt64 f a) (show 2 ^ 53 < 2 ^ 64 by decide)
  have n2 := Nat.lt_trans (nn_lt64 f b) (show 2 ^ 53 < 2 ^ 64 by decide)
  have b1 := e2_bounds f a; have b2 := e2_bounds f b
  rw [rvalue_k k f ha h1, rvalue_k k f hb h2, ← AddX_e2]
  by_cases c : e2 f b < e2 f a
  · rw [decide_eq_true c, cond_true]
    exact Add_c0_k hk f m s t n1 n2 b1.1 b1.2 b2.1 b2.2 (by omega) K
  · rw [decide_eq_false c, cond_false]
    exact Add_c0_k hk f m s t n1 n2 b1.1 b1.2 b2.1 b2.2 (by omega) K

theorem rAdd_k {R : Type} {k : Nat} (hk : 5000 ≤ k) (f m : Int) {a b : Nat} (ha : a < 2 ^ 64) (hb : b < 2 ^ 64) (K : Int → Option R) : plumblineref02_Add k f m (a : Int) (b : Int) K = K ((AddS f m a b : Nat) : Int) := by
  unfold plumblineref02_Add plumblineref02_AddT
  have hA : ∃ s : Bool, (kd f a ≠ 0 → s = bw f a) ∧ ∀ J : Bool → Option R, plumblineref02_Below k f (a : Int) J = J s := by
    by_cases h : kd f a = 0
    · obtain ⟨s, hs⟩ := rBelow_any (R := R) k f a
      exact ⟨s, fun hh => absurd h hh, hs⟩
    · exact ⟨bw f a, fun _ => rfl, fun J => rBelow_k k f ha h J⟩
  have hB : ∃ s : Bool, (kd f b ≠ 0 → s = bw f b) ∧ ∀ J : Bool → Option R, plumblineref02_Below k f (b : Int) J = J s := by
    by_cases h : kd f b = 0
    · obtain ⟨s, hs⟩ := rBelow_any (R := R) k f b
      exact ⟨s, fun hh => absurd h hh, hs⟩
    · exact ⟨bw f b, fun _ => rfl, fun J => rBelow_k k f hb h J⟩
  obtain ⟨s, hs1, hs2⟩ := hA
  obtain ⟨t, ht1, ht2⟩ := hB
  have hnan := fun J => rNan_k (R := R) k f J
  rw [hs2, ht2, risNan_k k f ha]
  unfold AddS
  by_cases za : kd f a = 0
  · rw [decide_eq_true za, cond_true, hnan, if_pos (.inl za)]
  rw [decide_eq_false za, cond_false, risNan_k k f hb]
  by_cases zb : kd f b = 0
  · rw [decide_eq_true zb, cond_true, hnan, if_pos (.inr (.inl zb))]
  have hsa := hs1 za
  subst hsa
  have htb := ht1 zb
  subst htb
  have ka : kd f a = 1 ∨ 2 ≤ kd f a := by rcases kd_vals f a with h | h | h | h <;> omega
  have kb : kd f b = 1 ∨ 2 ≤ kd f b := by rcases kd_vals f b with h | h | h | h <;> omega
  rw [decide_eq_false zb, cond_false, risInf_k k f ha]
  by_cases ia : kd f a = 1
  · rw [decide_eq_true ia, cond_true, risInf_k k f hb]
    by_cases ib : kd f b = 1
    · rw [decide_eq_true ib, cond_true]
      by_cases c : bw f a = bw f b
      · have e : (!(bw f a == bw f b)) = false := by rw [c]; simp
        have hno : ¬ (kd f a = 0 ∨ kd f b = 0 ∨ (kd f a = 1 ∧ kd f b = 1 ∧ bw f a ≠ bw f b)) := by
          rintro (h | h | ⟨_, _, h⟩)
          · exact za h
          · exact zb h
          · exact h c
        rw [e, cond_false, risInf_k k f ha, decide_eq_true ia, cond_true, if_neg hno, if_pos ia]
      · have e : (!(bw f a == bw f b)) = true := by simp [c]
        rw [e, cond_true, hnan, if_pos (.inr (.inr ⟨ia, ib, c⟩))]
    · have hno : ¬ (kd f a = 0 ∨ kd f b = 0 ∨ (kd f a = 1 ∧ kd f b = 1 ∧ bw f a ≠ bw f b)) := by
        rintro (h | h | ⟨_, h, _⟩)
        · exact za h
        · exact zb h
        · exact ib h
      rw [decide_eq_false ib, cond_false, risInf_k k f ha, decide_eq_true ia, cond_true, if_neg hno, if_pos ia]
  · have hno : ¬ (kd f a = 0 ∨ kd f b = 0 ∨ (kd f a = 1 ∧ kd f b = 1 ∧ bw f a ≠ bw f b)) := by
      rintro (h | h | ⟨h, _, _⟩)
      · exact za h
      · exact zb h
      · exact ia h
    rw [decide_eq_false ia, cond_false, risInf_k k f ha, decide_eq_false ia, cond_false, risInf_k k f hb]
    by_cases ib : kd f b = 1
    · rw [decide_eq_true ib, cond_true, if_neg hno, if_neg ia, if_pos ib]
    · rw [decide_eq_false ib, cond_false, if_neg hno, if_neg ia, if_neg ib]
      exact Add_c1_k hk f m _ _ ha hb (by omega) (by omega) K

end Go.Proofs.Ytbnmnkofekcodaa.N
