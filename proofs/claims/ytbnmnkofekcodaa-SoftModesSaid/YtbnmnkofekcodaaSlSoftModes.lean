/- The law SoftModes, plain. Conditions: none. -/
import Derived.Test.YtbnmnkofekcodaaMth1
import Derived.Test.YtbnmnkofekcodaaNlawSoftModes
namespace Go.Proofs.Ytbnmnkofekcodaa.N
set_option linter.unusedVariables false
set_option linter.unusedSimpArgs false
open Go Go.Ab

theorem sgnI_nonneg {x y : Int} (h : y ≤ x) : decide (sgnI x y < 0) = false := by
  unfold sgnI; rw [if_neg (by omega)]; split <;> decide

theorem modes_c0 {R : Type} {k : Nat} (hk : 5000 ≤ k) (f : Int) {u d : Nat} (hu : u < 2 ^ 64) (hd : d < 2 ^ 64) (ku : kd f u ≠ 0) (kdn : kd f d ≠ 0)
    (h : rank f u = rank f d ∨ FinS f d = false ∨ rank f u ≤ rank f (AddS f 1 d 1)) (K : Bool → Option R) :
    plumblinelaw02_SoftModes_c0 k f (u : Int) (d : Int) K = K true := by
  unfold plumblinelaw02_SoftModes_c0 plumblinelaw02_SoftModes_c0T
  rw [Compare_k k f hu hd]
  have e1 : (CmpS f u d).1 = sgnI (rank f u) (rank f d) := by unfold CmpS; rw [if_neg (by omega)]
  by_cases c : rank f u = rank f d
  · have : ((CmpS f u d).1 == 0) = true := by rw [e1, c]; unfold sgnI; rw [if_neg (by omega), if_neg (by omega)]; rfl
    rw [this, cond_true, live_k hk]
  · have : ((CmpS f u d).1 == 0) = false := by
      rw [e1]; unfold sgnI
      by_cases c2 : rank f u < rank f d
      · rw [if_pos c2]; rfl
      · rw [if_neg c2, if_pos (by omega)]; rfl
    have hA : AddS f 1 d 1 < 2 ^ 64 := AddS_lt f 1 hd (by decide)
    rw [this, cond_false]
    refine (Add_k (b := 1) f 1 hd (by decide) _).trans ?_
    rw [Compare_k k f hA hu, live_k hk, cond_true]
    by_cases c3 : (CmpS f (AddS f 1 d 1) u).1 ≥ 0
    · rw [decide_eq_true c3, cond_true]
    · rw [decide_eq_false c3, cond_false, Finite_k k f hd]
      rcases h with h | h | h
      · exact absurd h c
      · rw [h]; rfl
      · exfalso
        refine c3 ?_
        unfold CmpS
        split
        · exact Int.le_refl _
        · show 0 ≤ sgnI _ _
          unfold sgnI; rw [if_neg (by omega)]; split <;> decide

theorem SoftModes_pure : ∀ (y0 : Tup [.i .i64]) (y1 : Tup [.i .i64]) (y2 : Tup [.i .u64, .i .u64]), wfs (Tup.all [.i .i64] y0) → wfs (Tup.all [.i .i64] y1) → wfs (Tup.all [.i .u64, .i .u64] y2) → ∃ k, plumblinelaw02_SoftModes k (y0) (y1) (y2.1) (y2.2) (fun q => some q) = some true := by
  intro (op : Int) (f : Int) ⟨a, b⟩ h0 h1 h2
  obtain ⟨a, rfl, ha⟩ := u64_nat h2.1
  obtain ⟨b, rfl, hb⟩ := u64_nat h2.2.1
  refine ⟨5000, ?_⟩
  have hk : 5000 ≤ 5000 := Nat.le_refl _
  have l1 := byS_lt op f 1 ha hb
  have l0 := byS_lt op f 0 ha hb
  have l2 := byS_lt op f 2 ha hb
  have hM := MO_byS op f a b
  unfold plumblinelaw02_SoftModes plumblinelaw02_SoftModesT
  rw [by_k hk op f 1 ha hb, by_k hk op f 0 ha hb, by_k hk op f 2 ha hb, by_k hk op f 3 ha hb, Compare_k _ f l1 l0, Compare_k _ f l0 l2]
  obtain ⟨u, hu⟩ : ∃ u, u = byS op f 1 a b := ⟨_, rfl⟩
  obtain ⟨n, hn⟩ : ∃ u, u = byS op f 0 a b := ⟨_, rfl⟩
  obtain ⟨d, hd⟩ : ∃ u, u = byS op f 2 a b := ⟨_, rfl⟩
  obtain ⟨z, hz⟩ : ∃ u, u = byS op f 3 a b := ⟨_, rfl⟩
  rw [← hu, ← hn, ← hd, ← hz] at hM ⊢
  rw [← hu] at l1
  rw [← hn] at l0
  rw [← hd] at l2
  rcases hM with ⟨m1, m2, m3, m4⟩ | ⟨m1, m2, m3, m4, m5, m6, m7, m8⟩
  · have c1 : (CmpS f u n).2 = false := by unfold CmpS; rw [if_pos (.inr m1)]
    rw [c1, Bool.not_false, cond_true, live_k hk, cond_true, m2, ← m4, ← m3, beq_self_eq_true, cond_true, cond_true]
  · have c1 : CmpS f u n = (sgnI (rank f u) (rank f n), true) := by unfold CmpS; rw [if_neg (by omega)]
    have c2 : CmpS f n d = (sgnI (rank f n) (rank f d), true) := by unfold CmpS; rw [if_neg (by omega)]
    have hc := modes_c0 (R := Bool) hk f l1 l2 m1 m3 m8
    rw [c1, c2]
    dsimp only
    rw [Bool.not_true, cond_false, cond_false]
    unfold plumblinelaw02_SoftModes_c1 plumblinelaw02_SoftModes_c1T
    rw [sgnI_nonneg m4, sgnI_nonneg m5, cond_false, cond_false, hc]
    have nb : ∀ x y : Nat, (((x : Nat) : Int) != ((y : Nat) : Int)) = decide (x ≠ y) := by
      intro x y
      by_cases h : x = y
      · subst h; simp
      · rw [decide_eq_true h, bne_iff_ne]; omega
    rw [nb, nb, nb, nb]
    by_cases e1 : n = u
    · rw [decide_eq_false (show ¬ n ≠ u by omega), cond_false]
      by_cases e2 : z = u
      · rw [decide_eq_false (show ¬ z ≠ u by omega), cond_false]
      · rw [decide_eq_true e2, cond_true, decide_eq_false (show ¬ z ≠ d by omega), cond_false]
    · rw [decide_eq_true e1, cond_true, decide_eq_false (show ¬ n ≠ d by omega), cond_false]
      by_cases e2 : z = u
      · rw [decide_eq_false (show ¬ z ≠ u by omega), cond_false]
      · rw [decide_eq_true e2, cond_true, decide_eq_false (show ¬ z ≠ d by omega), cond_false]

end Go.Proofs.Ytbnmnkofekcodaa.N
