/- The law ConvSteps, plain. Conditions: none. -/
import Derived.Test.YtelifkahdhhmoaaMth1
import Derived.Test.YtelifkahdhhmoaaNlawConvSteps
namespace Go.Proofs.Ytelifkahdhhmoaa.N
set_option linter.unusedVariables false
set_option linter.unusedSimpArgs false
open Go Go.Ab

theorem rank_c {f : Int} (s : Bool) {x : Nat} (h : x ≤ fI f) : rank f (sg f s + x) = (if s then -((x : Nat) : Int) else ((x : Nat) : Int)) := by
  have hB := (fB_double f).2
  have hg := gg_sg (f := f) s (x := x) (by omega)
  unfold rank; rw [hg.1, hg.2.1]

theorem kd_c {f : Int} (s : Bool) {x : Nat} (h : x < fI f) : 2 ≤ kd f (sg f s + x) := by
  by_cases c : x = 0
  · subst c; rw [Nat.add_zero, (sg0 s).1]; decide
  · rw [(sgp s (by omega) h).1]; decide

theorem Plain_sg {f : Int} (s : Bool) {x : Nat} (h : x < fI f) : PlainS f (sg f s + x) = if x = 0 then 0 else sg f s + x := by
  unfold PlainS
  by_cases c : x = 0
  · subst c; rw [Nat.add_zero, (sg0 s).1, if_neg (by decide), if_pos rfl, if_pos rfl]
  · rw [(sgp s (by omega) h).1, if_neg (by decide), if_neg (by decide), if_neg c]

theorem Next_sg {f : Int} (s : Bool) {x : Nat} (h : x < fI f) :
    NextS f (sg f s + x) = if x = 0 then 1 else if s = true then (if x = 1 then 0 else sg f true + (x - 1)) else if x = fI f - 1 then sg f false + x else sg f false + (x + 1) := by
  unfold NextS
  by_cases c : x = 0
  · subst c; rw [Nat.add_zero, (sg0 s).1, if_neg (by decide), if_pos rfl, if_pos rfl]
  · have p := sgp (f := f) s (by omega) h
    rw [p.1, p.2.1, if_neg (by decide), if_neg (by decide), if_neg c]
    cases s with
    | true =>
      rw [if_pos rfl, if_pos rfl, show sg f true + x - 1 = sg f true + (x - 1) by omega, Plain_sg true (by omega)]
      by_cases c2 : x = 1
      · rw [if_pos (by omega), if_pos c2]
      · rw [if_neg (by omega), if_neg c2]
    | false =>
      have z : sg f false = 0 := rfl
      have nf : ¬ (false = true) := by decide
      rw [if_neg nf, if_neg nf, z, Nat.zero_add, Nat.zero_add]

theorem step {f : Int} (s : Bool) {x : Nat} (h : x < fI f) (hs : x = 0 → s = false) (hm : ¬ (s = false ∧ x = fI f - 1)) :
    ∃ t y, y < fI f ∧ NextS f (sg f s + x) = sg f t + y ∧ PrevS f (sg f t + y) = sg f s + x ∧ rank f (sg f t + y) = rank f (sg f s + x) + 1 := by
  have z : sg f false = 0 := rfl
  have hI : 2 ≤ fI f := by
    have := fI_pos f
    have h2 : 2 ^ 1 ≤ 2 ^ fP f := Nat.pow_le_pow_right (by decide) (by have := (fmt_le f).1; omega)
    omega
  have prev : ∀ (t : Bool) (y : Nat), y < fI f → PrevS f (sg f t + y) = PlainS f (NegS f (NextS f (sg f (!t) + y))) := by
    intro t y hy
    have k := kd_c t hy
    unfold PrevS
    rw [if_neg (by omega), Neg_sg t (by omega)]
  by_cases c : x = 0
  · subst c
    have := hs rfl
    subst this
    refine ⟨false, 1, by omega, ?_, ?_, ?_⟩
    · rw [Next_sg false h, if_pos rfl, z]
    · rw [prev false 1 (by omega), Bool.not_false, Next_sg true (by omega), if_neg (by decide), if_pos rfl, if_pos rfl]
      have := Neg_sg (f := f) false (x := 0) (by omega)
      rw [z, Nat.zero_add] at this
      rw [this, Plain_sg _ (by omega), if_pos rfl, z]
    · rw [rank_c false (by omega), rank_c false (by omega)]; simp
  · cases s with
    | true =>
      by_cases c2 : x = 1
      · subst c2
        refine ⟨false, 0, by omega, ?_, ?_, ?_⟩
        · rw [Next_sg true h, if_neg (by decide), if_pos rfl, if_pos rfl, z]
        · rw [prev false 0 (by omega), Next_sg _ (by omega), if_pos rfl]
          have := Neg_sg (f := f) false (x := 1) (by omega)
          rw [z, Nat.zero_add] at this
          rw [this, Plain_sg _ (by omega), if_neg (by decide)]; rfl
        · rw [rank_c false (by omega), rank_c true (by omega)]; simp
      · refine ⟨true, x - 1, by omega, ?_, ?_, ?_⟩
        · rw [Next_sg true h, if_neg c, if_pos rfl, if_neg c2]
        · rw [prev true (x - 1) (by omega), Bool.not_true, Next_sg false (by omega), if_neg (by omega), if_neg (by decide), if_neg (by omega), show x - 1 + 1 = x by omega, Neg_sg false (by omega), Plain_sg _ (by omega), if_neg c]; rfl
        · rw [rank_c true (by omega), rank_c true (by omega)]; simp; omega
    | false =>
      have hx : x ≠ fI f - 1 := fun q => hm ⟨rfl, q⟩
      refine ⟨false, x + 1, by omega, ?_, ?_, ?_⟩
      · rw [Next_sg false h, if_neg c, if_neg (by decide), if_neg hx]
      · rw [prev false (x + 1) (by omega), Bool.not_false, Next_sg true (by omega), if_neg (by omega), if_pos rfl, if_neg (by omega), show x + 1 - 1 = x by omega, Neg_sg true (by omega), Plain_sg _ (by omega), if_neg c]; rfl
      · rw [rank_c false (by omega), rank_c false (by omega)]; simp

theorem fin_form {f : Int} {a : Nat} (ha : a < 2 ^ 64) (h : 2 ≤ kd f a) : ∃ s x, x < fI f ∧ (x = 0 → s = false) ∧ PlainS f a = sg f s + x := by
  have hI : 0 < fI f := Nat.lt_of_le_of_lt (Nat.zero_le _) (fI_pos f)
  rcases kd_vals f a with h' | h' | h' | h'
  · omega
  · omega
  · refine ⟨false, 0, hI, fun _ => rfl, ?_⟩
    unfold PlainS; rw [if_neg (by omega), if_pos h']; rfl
  · have h3 := kd3 h'
    exact ⟨bw f a, gg f a, h3.2.2, fun q => by omega, (Plain3 h').trans (parts_of ha h3.1)⟩

theorem ConvSteps_pure : ∀ (y0 : Tup [.i .i64]) (y1 : Tup [.i .u64]) (y2 : Tup [.i .u64]), wfs (Tup.all [.i .i64] y0) → wfs (Tup.all [.i .u64] y1) → wfs (Tup.all [.i .u64] y2) → ∃ k, plumblinelaw03_ConvSteps k (y0) (y1) (y2) (fun q => some q) = some true := by
  intro (f : Int) a b h0 h1 h2
  obtain ⟨a, rfl, ha⟩ := u64_nat h1.1
  obtain ⟨b, rfl, hb⟩ := u64_nat h2.1
  refine ⟨5000, ?_⟩
  have hk : 5000 ≤ 5000 := Nat.le_refl _
  unfold plumblinelaw03_ConvSteps plumblinelaw03_ConvStepsT
  rw [Finite_k _ f ha]
  by_cases h : kd f a < 2
  · have e : FinS f a = false := by unfold FinS; exact decide_eq_false (by omega)
    have n1 : NextS f a = NAN f := by unfold NextS; rw [if_pos h]
    have n2 : PrevS f a = NAN f := by unfold PrevS; rw [if_pos h]
    rw [e, Bool.not_false, cond_true, clive_k hk, cond_true, cNext_k _ f ha, n1, Nan_k, beq_self_eq_true, cond_true, cPrev_k _ f ha, n2, Nan_k, beq_self_eq_true]
  · have e : FinS f a = true := by unfold FinS; exact decide_eq_true (by omega)
    have hp := PlainS_lt f ha
    obtain ⟨s, x, hx, hs, hP⟩ := fin_form (f := f) ha (by omega)
    have hI := fB_double f
    have z : sg f false = 0 := rfl
    rw [e, Bool.not_true, cond_false, cPlain_k _ f ha, cNext_k _ f hp, Most_k]
    by_cases hm : PlainS f a = fI f - 1
    · have n1 : NextS f (PlainS f a) = PlainS f a := by
        have hIp : 0 < fI f := by omega
        have i2 : 2 ≤ fI f := by
          have := fI_pos f
          have h2 : 2 ^ 1 ≤ 2 ^ fP f := Nat.pow_le_pow_right (by decide) (by have := (fmt_le f).1; omega)
          omega
        have := Next_sg (f := f) false (x := fI f - 1) (by omega)
        rw [z, Nat.zero_add, if_neg (by omega), if_neg (by decide), if_pos rfl] at this
        rw [hm, this]
      have c : (((PlainS f a : Nat) : Int) == ((fI f - 1 : Nat) : Int)) = true := by rw [beq_iff_eq, hm]
      rw [c, cond_true, clive_k hk, cond_true, n1, beq_self_eq_true]
    · have c : (((PlainS f a : Nat) : Int) == ((fI f - 1 : Nat) : Int)) = false := by rw [beq_eq_false_iff_ne]; omega
      have hm' : ¬ (s = false ∧ x = fI f - 1) := by
        rintro ⟨rfl, rfl⟩
        rw [z, Nat.zero_add] at hP
        exact hm hP
      obtain ⟨t, y, hy, q1, q2, q3⟩ := step s hx hs hm'
      have hn := NextS_lt f hp
      have kn := kd_c t hy
      have kp := kd_c s hx
      rw [c, cond_false, cPrev_k _ f hn]
      rw [hP] at hp hn ⊢
      rw [q1] at hn ⊢
      have ne : (((PrevS f (sg f t + y) : Nat) : Int) != ((sg f s + x : Nat) : Int)) = false := by rw [q2]; simp
      have fn : FinS f (sg f t + y) = true := by unfold FinS; exact decide_eq_true kn
      have c1 : CmpS f (sg f s + x) (sg f t + y) = (-1, true) := by
        unfold CmpS; rw [if_neg (by omega), q3]; unfold sgnI; rw [if_pos (by omega)]
      rw [ne, cond_false, Finite_k _ f hn, fn, Bool.not_true, cond_false, Compare_k _ f hp hn, Compare_k _ f hp hb, Compare_k _ f hb hn, clive_k hk, cond_true, c1]
      dsimp only
      rw [decide_eq_true (show (-1 : Int) < 0 by decide), cond_true]
      by_cases kb : kd f b = 0
      · have c2 : CmpS f (sg f s + x) b = (0, false) := by unfold CmpS; rw [if_pos (.inr kb)]
        rw [c2]; rfl
      · have c2 : CmpS f (sg f s + x) b = (sgnI (rank f (sg f s + x)) (rank f b), true) := by unfold CmpS; rw [if_neg (by omega)]
        have c3 : CmpS f b (sg f t + y) = (sgnI (rank f b) (rank f (sg f t + y)), true) := by unfold CmpS; rw [if_neg (by omega)]
        rw [c2, c3, q3]
        dsimp only
        rw [Bool.not_true, cond_false]
        by_cases lt : rank f (sg f s + x) < rank f b
        · have w : sgnI (rank f (sg f s + x)) (rank f b) = -1 := by unfold sgnI; rw [if_pos lt]
          have w2 : ¬ sgnI (rank f b) (rank f (sg f s + x) + 1) < 0 := by unfold sgnI; rw [if_neg (by omega)]; split <;> decide
          rw [w, decide_eq_true (by decide), cond_true, decide_eq_false w2]; rfl
        · have w : ¬ sgnI (rank f (sg f s + x)) (rank f b) < 0 := by unfold sgnI; rw [if_neg lt]; split <;> decide
          rw [decide_eq_false w, cond_false]

end Go.Proofs.Ytelifkahdhhmoaa.N
