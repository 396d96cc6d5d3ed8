/- The law ConvBack, plain. Conditions: none. -/
import Derived.Test.YtelifkahdhhmoaaMth1
import Derived.Test.YtelifkahdhhmoaaNlawConvBack
namespace Go.Proofs.Ytelifkahdhhmoaa.N
set_option linter.unusedVariables false
set_option linter.unusedSimpArgs false
open Go Go.Ab

theorem Rd_nil (f m : Int) (s : Bool) (e : Int) : Rd f m s 0 e false = sg f s := by unfold Rd; rw [if_pos ⟨rfl, rfl⟩]

theorem e2_3 {f : Int} {a : Nat} (h : kd f a = 3) : e2 f a = ee f a := by unfold e2; rw [if_pos h]

theorem widen_narrow (m : Int) {a : Nat} (ha : a < 2 ^ 32) : TurnS 0 1 m (TurnS 1 0 0 a) = if kd 1 a = 0 then NAN 1 else a := by
  have hb : bad 1 a = false := decide_eq_false (fun q => by omega)
  have hp := parts_of (f := 1) (a := a) (by omega) hb
  rcases kd_vals 1 a with h | h | h | h
  · have e : TurnS 1 0 0 a = NAN 0 := by unfold TurnS; rw [if_pos h]
    rw [e, if_pos h]
    unfold TurnS; rw [if_pos (kd_NAN 0)]
  · have e : TurnS 1 0 0 a = sg 0 (bw 1 a) + fI 0 := by unfold TurnS; rw [if_neg (by omega), if_pos h]
    have i := sgI (f := 0) (bw 1 a)
    rw [e, if_neg (by omega)]
    unfold TurnS; rw [if_neg (by omega), if_pos i.1, i.2]
    rw [gg_I h] at hp; exact hp.symm
  · have e : TurnS 1 0 0 a = sg 0 (bw 1 a) := by
      unfold TurnS; rw [if_neg (by omega), if_neg (by omega), (nn_zero (f := 1) (a := a) (by omega)).1, Rd_nil]
    have i := sg0 (f := 0) (bw 1 a)
    rw [e, if_neg (by omega)]
    unfold TurnS; rw [if_neg (by omega), if_neg (by omega), (nn_zero (by rw [i.1]; decide)).1, Rd_nil, i.2]
    rw [kd2_c h] at hp; exact hp.symm
  · have hn := nn_bounds h
    have h3 := kd3 h
    have he : ee 1 a ≤ 104 := by
      have hI : fI 1 = 255 * 2 ^ 23 := by decide
      have hP : fP 1 = 23 := rfl
      have hL : fL 1 = -149 := rfl
      have hq : gg 1 a / 2 ^ 23 < 255 := by rw [Nat.div_lt_iff_lt_mul (by decide), ← hI]; exact h3.2.2
      unfold ee eG
      rw [if_pos h, hP, hL]
      split <;> omega
    have hP : 2 ^ (fP 1 + 1) = 2 ^ 24 := rfl
    have hL : fL 1 = -149 := rfl
    obtain ⟨g, g0, gI, g1, g2, g3⟩ := dbl_exact (N := nn 1 a) (e := ee 1 a) hn.1 (by omega) (by omega) (by omega)
    have e : TurnS 1 0 0 a = sg 0 (bw 1 a) + g := by
      unfold TurnS; rw [if_neg (by omega), if_neg (by omega), e2_3 h, g3]
    obtain ⟨i1, i2, i3, i4⟩ := sgp (f := 0) (bw 1 a) g0 gI
    rw [e, if_neg (by omega)]
    unfold TurnS
    rw [if_neg (by omega), if_neg (by omega), i2, i3, e2_3 i1, i4, g1, g2, Rd_scale, Rd_self m (by omega) h]

theorem back_int (m : Int) {n : Int} (h1 : -2147483648 ≤ n) (h2 : n ≤ 2147483647) : ToS 0 (FromS 0 m n) = (n, true) := by
  by_cases c : n = 0
  · subst c
    have e : FromS 0 m 0 = sg 0 false := Rd_nil 0 m false 0
    have i := sg0 (f := 0) false
    have t : truncN 0 (sg 0 false) = 0 := by
      unfold truncN
      rw [(nn_zero (by rw [i.1]; decide)).1]
      split
      · rw [Nat.zero_div]
      · rw [Nat.zero_mul]
    rw [e]
    unfold ToS
    rw [i.1, i.2, t, if_neg (by decide), if_neg (by decide), if_neg (by decide)]; rfl
  · obtain ⟨g, g0, gI, g1, g2, g3⟩ := dbl_exact (N := n.natAbs) (e := 0) (by omega) (by omega) (by decide) (by decide)
    have e : FromS 0 m n = sg 0 (decide (n < 0)) + g := g3 m _
    obtain ⟨i1, i2, i3, i4⟩ := sgp (f := 0) (decide (n < 0)) g0 gI
    have t : truncN 0 (sg 0 (decide (n < 0)) + g) = n.natAbs := by
      unfold truncN
      rw [e2_3 i1, i3, i4, g1, g2, if_pos (by omega)]
      have : (-(0 - ((53 - bl n.natAbs : Nat) : Int))).toNat = 53 - bl n.natAbs := by omega
      rw [this, Nat.mul_div_cancel _ (Nat.two_pow_pos _)]
    rw [e]
    unfold ToS
    rw [i1, i2, t, if_neg (by decide)]
    by_cases c2 : n < 0
    · rw [decide_eq_true c2, if_neg (fun q => q.elim (by omega) (fun q => by cases q.2)), if_pos rfl]
      congr 1; omega
    · rw [decide_eq_false c2, if_neg (fun q => q.elim (by omega) (fun q => by omega)), if_neg (by decide)]
      congr 1; omega

theorem i32_wf {n : Int} (hn : (Lit.int .i32 n).wf = true) : -2147483648 ≤ n ∧ n ≤ 2147483647 := by
  simp only [Lit.wf, Bool.and_eq_true, decide_eq_true_eq] at hn
  have e1 : IntKind.i32.min = -2147483648 := by decide
  have e2 : IntKind.i32.max = 2147483647 := by decide
  rw [e1, e2] at hn
  exact hn

theorem ConvBack_pure : ∀ (y0 : Tup [.i .i64]) (y1 : Tup [.i .u64]) (y2 : Tup [.i .i32]), wfs (Tup.all [.i .i64] y0) → wfs (Tup.all [.i .u64] y1) → wfs (Tup.all [.i .i32] y2) → ∃ k, plumblinelaw03_ConvBack k (y0) (y1) (y2) (fun q => some q) = some true := by
  intro (m : Int) a (n : Int) h0 h1 h2
  obtain ⟨a, rfl, ha⟩ := u64_nat h1.1
  have hn := i32_wf h2.1
  refine ⟨5000, ?_⟩
  have hk : 5000 ≤ 5000 := Nat.le_refl _
  have ta : Int.tmod (a : Int) 4294967296 = ((a % 2 ^ 32 : Nat) : Int) := rfl
  have ma := Nat.mod_lt a (show 0 < 2 ^ 32 by decide)
  have wn : Wi64 n = n := wrap_i64 (by omega) (by omega)
  have hw := widen_narrow m ma
  have hi := back_int m hn.1 hn.2
  have hT := TurnS_lt 1 0 0 (a % 2 ^ 32)
  have hF := FromS_lt 0 m n
  unfold plumblinelaw03_ConvBack plumblinelaw03_ConvBackT
  rw [ta, cWiden_k _ (by omega), cNarrow_k _ m hT, hw, wn, cFromInt_k _ 0 m (by omega), cToInt_k _ 0 hF, hi, rClass_k _ 1 (by omega)]
  have c5 : (ClassS 1 (a % 2 ^ 32) == 5) = decide (kd 1 (a % 2 ^ 32) = 0) := by
    have hb : bad 1 (a % 2 ^ 32) = false := decide_eq_false (fun q => by omega)
    have h0 := Class_bad 1 (a % 2 ^ 32)
    rw [hb, beq_eq_false_iff_ne] at h0
    have := (Class_kd 1 (a % 2 ^ 32)).1
    by_cases c : kd 1 (a % 2 ^ 32) = 0
    · rw [decide_eq_true c, beq_iff_eq]; rcases this.2 c with q | q
      · exact q
      · exact absurd q h0
    · rw [decide_eq_false c, beq_eq_false_iff_ne]; exact fun q => c (this.1 (.inl q))
  rw [c5]
  by_cases c : kd 1 (a % 2 ^ 32) = 0
  · rw [decide_eq_true c, cond_true, Nan_k, if_pos c, clive_k hk, cond_true, beq_self_eq_true, cond_true, cond_true, beq_self_eq_true]
  · rw [decide_eq_false c, cond_false, if_neg c, clive_k hk, cond_true, beq_self_eq_true, cond_true, cond_true, beq_self_eq_true]

end Go.Proofs.Ytelifkahdhhmoaa.N
