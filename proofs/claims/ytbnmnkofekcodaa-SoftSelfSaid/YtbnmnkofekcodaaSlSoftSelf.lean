/- The law SoftSelf, plain. Conditions: none. -/
import Derived.Test.YtbnmnkofekcodaaMth1
import Derived.Test.YtbnmnkofekcodaaRo1
import Derived.Test.YtbnmnkofekcodaaMt
import Derived.Test.YtbnmnkofekcodaaNlawSoftSelf
namespace Go.Proofs.Ytbnmnkofekcodaa.N
set_option linter.unusedVariables false
set_option linter.unusedSimpArgs false
open Go Go.Ab

def oneOf (g : Int) : Nat := if g = 1 then 1065353216 else 4607182418800017408

theorem one_parts {g : Int} (hg : g = 0 ∨ g = 1) : kd g (oneOf g) = 3 ∧ bw g (oneOf g) = false ∧ nn g (oneOf g) = 2 ^ fP g ∧ ee g (oneOf g) = -((fP g : Nat) : Int) ∧ oneOf g < 2 ^ 64 ∧ kd g 0 = 2 := by
  rcases hg with rfl | rfl <;> decide +kernel

theorem nn_pos3 {f : Int} {a : Nat} (h : kd f a = 3) : 0 < nn f a := by
  have hg : gg f a ≠ 0 := by
    intro h0
    unfold kd at h
    split at h
    · omega
    · split at h
      · omega
      · split at h
        · omega
        · omega
  have hp := Nat.two_pow_pos (fP f)
  unfold nn
  rw [if_pos h]
  unfold nG
  split <;> omega

theorem rd_one {g : Int} (hg : g = 0 ∨ g = 1) (m : Int) : Rd g m false 1 0 false = oneOf g := by
  obtain ⟨h1, h2, h3, h4, h5, _⟩ := one_parts hg
  have hs := Rd_self (f := g) m h5 h1
  rw [h2, h3, h4] at hs
  have := Rd_scale g m false 1 0 (fP g)
  rw [Nat.one_mul, Int.zero_sub, hs] at this
  exact this.symm

theorem sub_self {g : Int} (m : Int) {a : Nat} (ha : a < 2 ^ 64) (h3 : kd g a = 3) : AddS g m a (NegS g a) = sg g (m == 2) := by
  obtain ⟨n1, n2, n3, n4⟩ := Neg_parts ha (show kd g a ≠ 0 by omega)
  have c1 : ¬ (kd g a = 0 ∨ kd g a = 0 ∨ (kd g a = 1 ∧ kd g a = 1 ∧ bw g a ≠ !bw g a)) := by
    rintro (h | h | ⟨h, _, _⟩) <;> omega
  have c2 : ¬ kd g a = 1 := by omega
  have c3 : ¬ bw g a = !bw g a := by cases bw g a <;> decide
  unfold AddS
  rw [n1, n2, n3, n4, if_neg c1, if_neg c2, if_neg c2]
  unfold AddX
  dsimp only
  rw [if_neg c3, if_pos rfl]

theorem div_self' {g : Int} (hg : g = 0 ∨ g = 1) (m : Int) {a : Nat} (ha : a < 2 ^ 64) (h3 : kd g a = 3) : DivS g m a a = oneOf g := by
  have hp := nn_pos3 h3
  have c1 : ¬ (kd g a = 0 ∨ kd g a = 0 ∨ (kd g a = kd g a ∧ kd g a < 3)) := by
    rintro (h | h | ⟨_, h⟩) <;> omega
  have c2 : ¬ (kd g a = 1 ∨ kd g a = 2) := by omega
  have hs : (bw g a != bw g a) = false := by simp
  unfold DivS
  rw [if_neg c1, if_neg c2, if_neg c2, hs, Int.sub_self]
  unfold DivX
  have hd : decide (nn g a * 2 ^ (127 - bl (nn g a)) % nn g a ≠ 0) = false := by rw [Nat.mul_mod_right]; rfl
  rw [hd, Nat.mul_div_cancel_left _ hp]
  have := Rd_scale g m false 1 0 (127 - bl (nn g a))
  rw [Nat.one_mul] at this
  rw [this, rd_one hg]

theorem mul_one' {g : Int} (hg : g = 0 ∨ g = 1) (m : Int) {a : Nat} (ha : a < 2 ^ 64) (h3 : kd g a = 3) : MulS g m a (oneOf g) = a := by
  obtain ⟨o1, o2, o3, o4, o5, _⟩ := one_parts hg
  have c1 : ¬ (kd g a = 0 ∨ (3 : Int) = 0) := by omega
  have c2 : ¬ (kd g a = 1 ∨ (3 : Int) = 1) := by omega
  have hs : (bw g a != false) = bw g a := by cases bw g a <;> rfl
  unfold MulS
  rw [o1, o2, o3, o4, if_neg c1, if_neg c2, hs, ← Int.sub_eq_add_neg, Rd_scale, Rd_self m ha h3]

theorem add_zero' {g : Int} (hg : g = 0 ∨ g = 1) (m : Int) {a : Nat} (ha : a < 2 ^ 64) (h3 : kd g a = 3) : AddS g m a 0 = a := by
  obtain ⟨_, _, _, _, _, z⟩ := one_parts hg
  have c1 : ¬ (kd g a = 0 ∨ kd g 0 = 0 ∨ (kd g a = 1 ∧ kd g 0 = 1 ∧ bw g a ≠ bw g 0)) := by
    rintro (h | h | ⟨h, _, _⟩) <;> omega
  have c2 : ¬ kd g a = 1 := by omega
  have c3 : ¬ kd g 0 = 1 := by omega
  unfold AddS
  rw [if_neg c1, if_neg c2, if_neg c3, (nn_zero (f := g) (a := 0) (by omega)).1, AddX_comm, AddX_zero _ _ _ _ _ _ _ (nn_pos3 h3), Rd_self m ha h3]

theorem self_c0 {R : Type} {k : Nat} (hk : 5000 ≤ k) {g : Int} (hg : g = 0 ∨ g = 1) (m f' : Int) {a : Nat} (ha : a < 2 ^ 64) (h3 : kd g a = 3) (K : Bool → Option R) :
    plumblinelaw02_SoftSelf_c0 k (a : Int) g ((oneOf g : Nat) : Int) ((sg g (m == 2) : Nat) : Int) f' m K = K true := by
  unfold plumblinelaw02_SoftSelf_c0 plumblinelaw02_SoftSelf_c0T
  rw [live_k hk, cond_true, Sub_k g m ha ha (Neg_lt g ha), sub_self m ha h3, beq_self_eq_true, cond_true, Div_k hk g m ha ha, div_self' hg m ha h3, beq_self_eq_true, cond_true,
    Mul_k k g m ha (one_parts hg).2.2.2.2.1, mul_one' hg m ha h3, beq_self_eq_true, cond_true]
  refine (Add_k (b := 0) g m ha (by decide) _).trans ?_
  rw [add_zero' hg m ha h3, beq_self_eq_true]

theorem self_c1 {R : Type} {k : Nat} (hk : 5000 ≤ k) {g : Int} (hg : g = 0 ∨ g = 1) (m f' : Int) {a : Nat} (ha : a < 2 ^ 64) (h3 : kd g a = 3) (K : Bool → Option R) :
    plumblinelaw02_SoftSelf_c1 k (a : Int) g ((oneOf g : Nat) : Int) f' m K = K true := by
  unfold plumblinelaw02_SoftSelf_c1 plumblinelaw02_SoftSelf_c1T
  have h0 := self_c0 (R := R) hk hg m f' ha h3 K
  by_cases c : m = 2
  · have e : (m == 2) = true := by rw [c]; rfl
    rw [e, cond_true]
    refine (Neg_k (a := 0) k g (by decide) _).trans ?_
    have hz : NegS g 0 = sg g true := by rcases hg with rfl | rfl <;> decide +kernel
    rw [e] at h0
    rw [hz]
    exact h0
  · have e : (m == 2) = false := beq_eq_false_iff_ne.2 c
    rw [e] at h0
    rw [e, cond_false]
    exact h0

theorem fm_vals (f : Int) : fm f = 0 ∨ fm f = 1 := by
  unfold fm; split
  · exact .inr rfl
  · exact .inl rfl

theorem SoftSelf_pure : ∀ (y0 : Tup [.i .i64, .i .i64]) (y1 : Tup [.i .u64]), wfs (Tup.all [.i .i64, .i .i64] y0) → wfs (Tup.all [.i .u64] y1) → ∃ k, plumblinelaw02_SoftSelf k (y0.1) (y0.2) (y1) (fun q => some q) = some true := by
  intro ⟨f, m⟩ a h0 h1
  obtain ⟨a, rfl, ha⟩ := u64_nat h1.1
  refine ⟨5000, ?_⟩
  have hk : 5000 ≤ 5000 := Nat.le_refl _
  unfold plumblinelaw02_SoftSelf plumblinelaw02_SoftSelfT
  rw [format_k, rFinite_k _ (fm f) ha]
  cases hF : FinS (fm f) a with
  | false => rw [Bool.not_false, cond_true, live_k hk]
  | true =>
    rw [Bool.not_true, cond_false, rClass_k _ (fm f) ha]
    have h2 : 2 ≤ kd (fm f) a := by unfold FinS at hF; exact of_decide_eq_true hF
    by_cases c : ClassS (fm f) a = 1
    · have e : (ClassS (fm f) a == 1) = true := by rw [c]; rfl
      rw [e, cond_true, live_k hk]
    · have e : (ClassS (fm f) a == 1) = false := beq_eq_false_iff_ne.2 c
      have n2 : kd (fm f) a ≠ 2 := fun h => c ((Class_kd (fm f) a).2.2.1.2 h)
      have h3 : kd (fm f) a = 3 := by rcases kd_vals (fm f) a with h | h | h | h <;> omega
      have key := self_c1 (R := Bool) hk (fm_vals f) m f ha h3 (fun q => some q)
      rw [e, cond_false]
      unfold plumblinelaw02_SoftSelf_c2 plumblinelaw02_SoftSelf_c2T
      have e0 : ((oneOf 0 : Nat) : Int) = 4607182418800017408 := by decide +kernel
      have e1 : ((oneOf 1 : Nat) : Int) = 1065353216 := by decide +kernel
      have d0 : ((0 : Int) == 1) = false := rfl
      have d1 : ((1 : Int) == 1) = true := rfl
      rcases fm_vals f with hg | hg
      · rw [hg, e0] at key
        rw [hg, d0, cond_false]
        exact key
      · rw [hg, e1] at key
        rw [hg, d1, cond_true]
        exact key

end Go.Proofs.Ytbnmnkofekcodaa.N
