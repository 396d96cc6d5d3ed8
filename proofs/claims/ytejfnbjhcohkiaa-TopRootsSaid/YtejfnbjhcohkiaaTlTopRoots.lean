/- The law TopRoots, plain. Conditions: none. -/
import Derived.Test.YtejfnbjhcohkiaaTp0
import Derived.Test.YtejfnbjhcohkiaaMth1
import Derived.Test.YtejfnbjhcohkiaaNlawTopRoots
namespace Go.Proofs.Ytejfnbjhcohkiaa.N
set_option linter.unusedVariables false
set_option linter.unusedSimpArgs false
open Go Go.Ab

theorem rt_bl {A : Nat} (h : 2 ^ 125 ≤ A) : 63 ≤ bl (rt A) := by
  have hr62 : 2 ^ 62 ≤ rt A := by
    refine Nat.le_of_not_lt fun h => ?_
    have hs := (rt_spec A).2
    have : (rt A + 1) * (rt A + 1) ≤ 2 ^ 62 * 2 ^ 62 := Nat.mul_le_mul h h
    rw [← Nat.pow_add] at this
    have : (2 : Nat) ^ (62 + 62) < 2 ^ 125 := by decide
    omega
  refine Nat.le_of_not_lt fun h => ?_
  have : rt A < 2 ^ 62 := bl_le_iff.1 (by omega)
  omega

theorem root_down (f : Int) {a : Nat} (ha : a < 2 ^ 64) (ka : kd f a = 3) (ba : bw f a = false) : NotS f (MulS f 2 (SqS f 2 a) (SqS f 2 a)) a = true ∧ NotS f a (MulS f 1 (SqS f 1 a) (SqS f 1 a)) = true := by
  have n1 := nn_lt64 f a
  have n0 := nn_posS ka
  have b1 := ee_bounds f a
  obtain ⟨s1, s2, s3, s4⟩ := sh_bounds (ee f a) n0 n1
  obtain ⟨q, hq⟩ := sh_even (nn f a) (ee f a)
  obtain ⟨sh, hsh⟩ : ∃ sh, sh = shOf (nn f a) (ee f a) := ⟨_, rfl⟩
  obtain ⟨A, hA⟩ : ∃ A, A = nn f a * 2 ^ sh := ⟨_, rfl⟩
  rw [← hsh] at s1 s2 hq
  rw [← hsh, ← hA] at s3 s4
  have hr0 := rt_pos (A := A) (Nat.lt_of_lt_of_le (by decide) s4)
  have hbl := rt_bl s4
  have hE : (ee f a - (sh : Int)) / 2 = q := by omega
  have hf := fmt_le f
  have hlast : q ≤ lastOf f (rt A) q := by unfold lastOf; omega
  have hSq : ∀ m, SqS f m a = Rd f m false (rt A) q (decide (A - rt A * rt A ≠ 0)) := by
    intro m
    unfold SqS SqX
    rw [if_neg (by omega), if_neg (by omega), ba, if_neg (by decide), if_neg (by omega), ← hsh, hE, ← hA]
  have hspec := rt_spec A
  have hscA : sc (nn f a) (ee f a) = sc A (q + q) := by
    have := sc_up (N := nn f a) (e := ee f a) sh (by omega)
    rw [← hA, show ee f a - (sh : Int) = q + q by omega] at this
    exact this.symm
  have z : sg f false = 0 := rfl
  constructor
  · obtain ⟨g, g1, g2, g3⟩ := down_le (f := f) (rest := decide (A - rt A * rt A ≠ 0)) hr0 (show -3000 ≤ q by omega) hlast
    rw [hSq, g2, z, Nat.zero_add]
    have eb := eG_bnd f g1
    by_cases g0 : g = 0
    · refine mul_down ha ka ba g1 g1 g3 (by omega) ?_
      rw [g0, (zparts (f := f)).2.2.1, Nat.mul_zero]
      unfold sc; rw [Nat.zero_mul]; exact Nat.zero_le _
    · have p := pparts (f := f) (show 0 < g by omega) g1
      refine mul_down ha ka ba g1 g1 g3 (by omega) ?_
      rw [p.2.2.1, p.2.2.2, hscA]
      refine Nat.le_trans (sc_mul (Nat.le_refl (sc (rt A) q)) g3 (by omega) (by omega) (by omega) (by omega)) ?_
      exact sc_mono hspec.1
  · obtain ⟨g, g1, g2, g3⟩ := up_ge (f := f) (rest := decide (A - rt A * rt A ≠ 0)) hr0 (show -3000 ≤ q by omega) hlast
    rw [hSq, g2, z, Nat.zero_add]
    obtain ⟨w, hw⟩ : ∃ w, w = rt A + (decide (A - rt A * rt A ≠ 0)).toNat := ⟨_, rfl⟩
    rw [← hw] at g3
    have hAw : A ≤ w * w := by
      by_cases c : A - rt A * rt A ≠ 0
      · rw [decide_eq_true c, Bool.toNat_true] at hw
        rw [hw]; have := hspec.2; omega
      · rw [decide_eq_false c, Bool.toNat_false, Nat.add_zero] at hw
        rw [hw]; omega
    have g0 : 0 < g := by
      refine Nat.pos_of_ne_zero fun h => ?_
      have hI : 0 < fI f := Nat.lt_of_le_of_lt (Nat.zero_le _) (fI_pos f)
      have := g3 (by omega)
      have v0 : vG f g = 0 := by rw [h]; unfold vG sc nG; rw [if_pos (fP_pos f), Nat.zero_mul]
      have : 0 < sc w q := Nat.mul_pos (by omega) (Nat.two_pow_pos _)
      omega
    refine mul_up ha ka ba g1 g0 g1 (r := w) (E := q) (by omega) g3 (by omega) fun h _ => ?_
    have eb := eG_bnd f h
    have p := pparts (f := f) g0 h
    rw [p.2.2.1, p.2.2.2, hscA]
    refine Nat.le_trans (sc_mono hAw) ?_
    exact sc_mul (Nat.le_refl (sc w q)) (g3 h) (by omega) (by omega) (by omega) (by omega)

theorem SqS_lt (f m : Int) {a : Nat} (ha : a < 2 ^ 64) : SqS f m a < 2 ^ 64 := by
  unfold SqS SqX
  split
  · exact ha
  · split
    · exact NAN_lt64 f
    · split
      · exact NAN_lt64 f
      · split
        · exact ha
        · exact form_lt ⟨_, Rd_form ..⟩

theorem TopRoots_pure : ∀ (y0 : Tup [.i .i64]) (y1 : Tup [.i .u64]), wfs (Tup.all [.i .i64] y0) → wfs (Tup.all [.i .u64] y1) → ∃ k, plumblinetop_TopRoots k (y0) (y1) (fun q => some q) = some true := by
  intro (p : Int) a h0 h1
  obtain ⟨a, rfl, ha⟩ := u64_nat h1.1
  refine ⟨5000, ?_⟩
  have hk : 5000 ≤ 5000 := Nat.le_refl _
  unfold plumblinetop_TopRoots plumblinetop_TopRootsT
  rw [tformat_k]
  obtain ⟨f, hf⟩ : ∃ f, f = fm p := ⟨_, rfl⟩
  rw [← hf, Finite_k _ f ha]
  cases hfin : FinS f a with
  | false => rw [Bool.not_false, cond_true, tsound_k hk]
  | true =>
    have hfin2 : 2 ≤ kd f a := by unfold FinS at hfin; exact of_decide_eq_true hfin
    have hn0 := fun J => not_k (R := Bool) 5000 f (a := 0) (b := a) (by decide) ha J
    rw [Bool.not_true, cond_false]
    refine (hn0 _).trans ?_
    cases hnot : NotS f 0 a with
    | false => rw [Bool.not_false, cond_true, tsound_k hk]
    | true =>
      have s1 := SqS_lt f 2 ha
      have s2 := SqS_lt f 1 ha
      have m1 := MulS_lt f 2 (SqS f 2 a) (SqS f 2 a)
      have m2 := MulS_lt f 1 (SqS f 1 a) (SqS f 1 a)
      have key : NotS f (MulS f 2 (SqS f 2 a) (SqS f 2 a)) a = true ∧ NotS f a (MulS f 1 (SqS f 1 a) (SqS f 1 a)) = true := by
        unfold NotS at hnot
        have hr := (of_decide_eq_true hnot).2.2
        have zr : rank f 0 = 0 := (posf (f := f) (x := 0) (Nat.zero_le _)).2
        rw [zr] at hr
        by_cases k2 : kd f a = 2
        · have e : ∀ m, SqS f m a = a := fun m => by unfold SqS; rw [if_pos k2]
          have nz := nn_zero (f := f) (a := a) (by omega)
          have em : ∀ m, MulS f m a a = 0 := by
            intro m
            unfold MulS
            rw [if_neg (by omega), if_neg (by omega), nz.1, Nat.mul_zero]
            unfold Rd
            rw [if_pos ⟨rfl, rfl⟩]
            cases bw f a <;> rfl
          have ra : rank f a = 0 := by unfold rank; rw [kd2 k2]; split <;> rfl
          rw [e, e, em, em]
          unfold NotS
          rw [zr, ra]
          have zk : kd f 0 = 2 := zparts.1
          exact ⟨decide_eq_true ⟨by omega, by omega, Int.le_refl _⟩, decide_eq_true ⟨by omega, by omega, Int.le_refl _⟩⟩
        · have k3 : kd f a = 3 := by rcases kd_vals f a with h | h | h | h <;> omega
          have h3 := kd3 k3
          have hb : bw f a = false := by
            cases hb : bw f a with
            | false => rfl
            | true => exfalso; unfold rank at hr; rw [hb, if_pos rfl] at hr; omega
          exact root_down f ha k3 hb
      rw [Bool.not_true, cond_false, Sqrt_k hk f 2 ha, Sqrt_k hk f 1 ha, tsound_k hk, cond_true, Mul_k _ f 2 s1 s1, not_k _ f m1 ha, key.1, cond_true, Mul_k _ f 1 s2 s2, not_k _ f ha m2, key.2]

end Go.Proofs.Ytejfnbjhcohkiaa.N
