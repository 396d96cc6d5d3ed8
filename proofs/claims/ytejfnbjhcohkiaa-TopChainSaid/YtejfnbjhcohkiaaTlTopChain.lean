/- The law TopChain, plain. Conditions: none. -/
import Derived.Test.YtejfnbjhcohkiaaMth1
import Derived.Test.YtejfnbjhcohkiaaNlawTopChain
namespace Go.Proofs.Ytejfnbjhcohkiaa.N
set_option linter.unusedVariables false
set_option linter.unusedSimpArgs false
open Go Go.Ab

theorem chain_at0 {R : Type} (k fu : Nat) (s : Int) (a1 a2 a3 a4 a5 a6 a7 : Int) (l : List Int) (K0 : Bool → Option R) (K1 : Int → List Int → Bool → Option R) :
    plumblinetop_TopChain_l1 k (fu + 1) s 0 a1 a2 a3 a4 a5 a6 a7 16 l false K0 K1 = octagon_Oct_Limit k (Wi64 (0 + 1)) false 0 true (Wi64 (Int.tmod a1 1000)) 16 l false (fun y1 y2 y3 =>
      cond (y1 != 0) (K0 false) (plumblinetop_TopChain_l1 k fu (Wi64 (s + (Wi64 (Int.tmod a1 1000)))) (Wi64 (0 + 1)) a1 a2 a3 a4 a5 a6 a7 16 y2 y3 K0 K1)) := by kernel_rfl

theorem chain_at1 {R : Type} (k fu : Nat) (s : Int) (a1 a2 a3 a4 a5 a6 a7 : Int) (l : List Int) (K0 : Bool → Option R) (K1 : Int → List Int → Bool → Option R) :
    plumblinetop_TopChain_l1 k (fu + 1) s 1 a1 a2 a3 a4 a5 a6 a7 16 l false K0 K1 = octagon_Oct_Limit k (Wi64 (1 + 1)) false 1 true (Wi64 (Int.tmod a2 1000)) 16 l false (fun y1 y2 y3 =>
      cond (y1 != 0) (K0 false) (plumblinetop_TopChain_l1 k fu (Wi64 (s + (Wi64 (Int.tmod a2 1000)))) (Wi64 (1 + 1)) a1 a2 a3 a4 a5 a6 a7 16 y2 y3 K0 K1)) := by kernel_rfl

theorem chain_at2 {R : Type} (k fu : Nat) (s : Int) (a1 a2 a3 a4 a5 a6 a7 : Int) (l : List Int) (K0 : Bool → Option R) (K1 : Int → List Int → Bool → Option R) :
    plumblinetop_TopChain_l1 k (fu + 1) s 2 a1 a2 a3 a4 a5 a6 a7 16 l false K0 K1 = octagon_Oct_Limit k (Wi64 (2 + 1)) false 2 true (Wi64 (Int.tmod a3 1000)) 16 l false (fun y1 y2 y3 =>
      cond (y1 != 0) (K0 false) (plumblinetop_TopChain_l1 k fu (Wi64 (s + (Wi64 (Int.tmod a3 1000)))) (Wi64 (2 + 1)) a1 a2 a3 a4 a5 a6 a7 16 y2 y3 K0 K1)) := by kernel_rfl

theorem chain_at3 {R : Type} (k fu : Nat) (s : Int) (a1 a2 a3 a4 a5 a6 a7 : Int) (l : List Int) (K0 : Bool → Option R) (K1 : Int → List Int → Bool → Option R) :
    plumblinetop_TopChain_l1 k (fu + 1) s 3 a1 a2 a3 a4 a5 a6 a7 16 l false K0 K1 = octagon_Oct_Limit k (Wi64 (3 + 1)) false 3 true (Wi64 (Int.tmod a4 1000)) 16 l false (fun y1 y2 y3 =>
      cond (y1 != 0) (K0 false) (plumblinetop_TopChain_l1 k fu (Wi64 (s + (Wi64 (Int.tmod a4 1000)))) (Wi64 (3 + 1)) a1 a2 a3 a4 a5 a6 a7 16 y2 y3 K0 K1)) := by kernel_rfl

theorem chain_at4 {R : Type} (k fu : Nat) (s : Int) (a1 a2 a3 a4 a5 a6 a7 : Int) (l : List Int) (K0 : Bool → Option R) (K1 : Int → List Int → Bool → Option R) :
    plumblinetop_TopChain_l1 k (fu + 1) s 4 a1 a2 a3 a4 a5 a6 a7 16 l false K0 K1 = octagon_Oct_Limit k (Wi64 (4 + 1)) false 4 true (Wi64 (Int.tmod a5 1000)) 16 l false (fun y1 y2 y3 =>
      cond (y1 != 0) (K0 false) (plumblinetop_TopChain_l1 k fu (Wi64 (s + (Wi64 (Int.tmod a5 1000)))) (Wi64 (4 + 1)) a1 a2 a3 a4 a5 a6 a7 16 y2 y3 K0 K1)) := by kernel_rfl

theorem chain_at5 {R : Type} (k fu : Nat) (s : Int) (a1 a2 a3 a4 a5 a6 a7 : Int) (l : List Int) (K0 : Bool → Option R) (K1 : Int → List Int → Bool → Option R) :
    plumblinetop_TopChain_l1 k (fu + 1) s 5 a1 a2 a3 a4 a5 a6 a7 16 l false K0 K1 = octagon_Oct_Limit k (Wi64 (5 + 1)) false 5 true (Wi64 (Int.tmod a6 1000)) 16 l false (fun y1 y2 y3 =>
      cond (y1 != 0) (K0 false) (plumblinetop_TopChain_l1 k fu (Wi64 (s + (Wi64 (Int.tmod a6 1000)))) (Wi64 (5 + 1)) a1 a2 a3 a4 a5 a6 a7 16 y2 y3 K0 K1)) := by kernel_rfl

theorem chain_at6 {R : Type} (k fu : Nat) (s : Int) (a1 a2 a3 a4 a5 a6 a7 : Int) (l : List Int) (K0 : Bool → Option R) (K1 : Int → List Int → Bool → Option R) :
    plumblinetop_TopChain_l1 k (fu + 1) s 6 a1 a2 a3 a4 a5 a6 a7 16 l false K0 K1 = octagon_Oct_Limit k (Wi64 (6 + 1)) false 6 true (Wi64 (Int.tmod a7 1000)) 16 l false (fun y1 y2 y3 =>
      cond (y1 != 0) (K0 false) (plumblinetop_TopChain_l1 k fu (Wi64 (s + (Wi64 (Int.tmod a7 1000)))) (Wi64 (6 + 1)) a1 a2 a3 a4 a5 a6 a7 16 y2 y3 K0 K1)) := by kernel_rfl

theorem chain_at7 {R : Type} (k fu : Nat) (s : Int) (a1 a2 a3 a4 a5 a6 a7 : Int) (l : List Int) (K0 : Bool → Option R) (K1 : Int → List Int → Bool → Option R) :
    plumblinetop_TopChain_l1 k (fu + 1) s 7 a1 a2 a3 a4 a5 a6 a7 16 l false K0 K1 = K1 s l false := by kernel_rfl

/-- Points that keep all limits. -/
def VC (c : Nat → Int) (v : Nat → Int) : Prop := Pt v ∧ (∀ i, i < 7 → v (2 * i + 2) + v (2 * i + 1) ≤ c i) ∧ 5 ≤ v 0 ∧ v 0 ≤ 9

/-- The sum of the first ones. -/
def sumC (c : Nat → Int) : Nat → Int
  | 0 => 0
  | i + 1 => sumC c i + c i

theorem sumC_bnd {c : Nat → Int} (h : ∀ i, 0 ≤ c i ∧ c i < 1000) : ∀ i, 0 ≤ sumC c i ∧ sumC c i ≤ 1000 * i
  | 0 => by rw [sumC]; omega
  | i + 1 => by
    have := sumC_bnd h i
    have := h i
    rw [sumC]; omega

/-- Of variables the nodes. -/
def ofVars (x : Nat → Int) (p : Nat) : Int := if p % 2 = 0 then x (p / 2) else -(x (p / 2))

theorem ofVars_pt {x : Nat → Int} (h : ∀ i, -8589934592 ≤ x i ∧ x i ≤ 8589934592) : Pt (ofVars x) := by
  refine ⟨fun p hp => ?_, fun p hp => ?_⟩
  · unfold ofVars px
    by_cases c : p % 2 = 0
    · rw [if_pos c, if_neg (by omega), if_pos c, show (p + 1) / 2 = p / 2 by omega]
    · rw [if_neg c, if_pos (by omega), if_neg c, show (p - 1) / 2 = p / 2 by omega]; omega
  · have := h (p / 2)
    unfold ofVars; split <;> omega

theorem ofVars_even (x : Nat → Int) (i : Nat) : ofVars x (2 * i) = x i ∧ ofVars x (2 * i + 1) = -(x i) := by
  unfold ofVars
  rw [if_pos (by omega), if_neg (by omega), show 2 * i / 2 = i by omega, show (2 * i + 1) / 2 = i by omega]
  exact ⟨rfl, rfl⟩

theorem VC_of {c x : Nat → Int} (h : ∀ i, -8589934592 ≤ x i ∧ x i ≤ 8589934592) (hc : ∀ i, i < 7 → x (i + 1) - x i ≤ c i) (h0 : 5 ≤ x 0) (h1 : x 0 ≤ 9) : VC c (ofVars x) := by
  refine ⟨ofVars_pt h, fun i hi => ?_, ?_, ?_⟩
  · have a1 := (ofVars_even x (i + 1)).1
    have a2 := (ofVars_even x i).2
    have := hc i hi
    rw [show 2 * i + 2 = 2 * (i + 1) by omega, a1, a2]; omega
  · have := (ofVars_even x 0).1; rw [Nat.mul_zero] at this; rw [this]; exact h0
  · have := (ofVars_even x 0).1; rw [Nat.mul_zero] at this; rw [this]; exact h1

theorem w1_VC {c : Nat → Int} (h : ∀ i, 0 ≤ c i ∧ c i < 1000) : VC c (ofVars fun i => if i < 8 then 9 + sumC c i else 9) := by
  refine VC_of (fun i => ?_) (fun i hi => ?_) ?_ ?_
  · by_cases c' : i < 8
    · rw [if_pos c']; have := sumC_bnd h i; omega
    · rw [if_neg c']; omega
  · rw [if_pos (by omega), if_pos (by omega), sumC]; omega
  · rw [if_pos (by decide), sumC]; decide
  · rw [if_pos (by decide), sumC]; decide

theorem w2_VC {c : Nat → Int} (h : ∀ i, 0 ≤ c i ∧ c i < 1000) : VC c (ofVars fun i => if i = 0 then 5 else -8589934592) := by
  refine VC_of (fun i => ?_) (fun i hi => ?_) ?_ ?_
  · split <;> omega
  · have := h i
    rw [if_neg (by omega)]
    split <;> omega
  · decide
  · decide

theorem VC_ok {c : Nat → Int} (h : ∀ i, 0 ≤ c i ∧ c i < 1000) : VOk (VC c) := ⟨fun v hv => hv.1, _, w1_VC h⟩

/-- What is known behind so many limits. -/
structure Inv (c : Nat → Int) (i : Nat) (l : List Int) : Prop where
  g : G (VC c) l
  b1 : 0 < i → mat l (2 * i) 1 ≤ sumC c i
  b2 : 0 < i → mat l 1 (2 * i) ≤ sumC c i

theorem inv_step {c : Nat → Int} (h : ∀ i, 0 ≤ c i ∧ c i < 1000) {R : Type} {k : Nat} (hk : 100 ≤ k) {i : Nat} (hi : i < 7) {l : List Int} (hI : Inv c i l) (K : Int → List Int → Bool → Option R) :
    ∃ l', octagon_Oct_Limit k ((i + 1 : Nat) : Int) false (i : Int) true (c i) 16 l false K = K 0 l' false ∧ Inv c (i + 1) l' := by
  have hc := h i
  obtain ⟨l1, l', a1, a2, a3, a4, a5, a6, a7⟩ := limit_k (VC_ok h) hk hI.g hi hc.1 (by omega) (fun v hv => hv.2.1 i hi) K
  refine ⟨l', a1, a5, fun _ => ?_, fun _ => ?_⟩
  · rw [sumC, show 2 * (i + 1) = 2 * i + 2 by omega]
    by_cases c0 : i = 0
    · subst c0
      have := a6 2 1 (by decide) (by decide)
      rw [sumC]
      simp only [Nat.mul_zero, Nat.zero_add] at a3 ⊢
      omega
    · have x1 := a7 (2 * i + 1) (2 * i + 2) 1 (by omega) (by omega) (by omega)
      have e : px (2 * i + 1) = 2 * i := by unfold px; rw [if_neg (by omega)]; omega
      rw [e] at x1
      have x2 := a2 (2 * i) 1 (by omega) (by omega)
      have x3 := hI.b1 (by omega)
      omega
  · rw [sumC, show 2 * (i + 1) = 2 * i + 2 by omega]
    by_cases c0 : i = 0
    · subst c0
      have := a6 1 2 (by decide) (by decide)
      rw [sumC]
      simp only [Nat.mul_zero, Nat.zero_add] at a4 ⊢
      omega
    · have x1 := a7 (2 * i) 1 (2 * i + 2) (by omega) (by omega) (by omega)
      have e : px (2 * i) = 2 * i + 1 := by unfold px; rw [if_pos (by omega)]
      rw [e] at x1
      have x2 := a2 1 (2 * i) (by omega) (by omega)
      have x3 := hI.b2 (by omega)
      omega

theorem chain_run {R : Type} {k fu : Nat} (hk : 100 ≤ k) {a1 a2 a3 a4 a5 a6 a7 : Int} {c : Nat → Int} (h : ∀ i, 0 ≤ c i ∧ c i < 1000)
    (e1 : Int.tmod a1 1000 = c 0) (e2 : Int.tmod a2 1000 = c 1) (e3 : Int.tmod a3 1000 = c 2) (e4 : Int.tmod a4 1000 = c 3) (e5 : Int.tmod a5 1000 = c 4) (e6 : Int.tmod a6 1000 = c 5) (e7 : Int.tmod a7 1000 = c 6)
    (K0 : Bool → Option R) (K1 : Int → List Int → Bool → Option R) :
    ∃ l', plumblinetop_TopChain_l1 k (fu + 8) 0 0 a1 a2 a3 a4 a5 a6 a7 16 initL false K0 K1 = K1 (sumC c 7) l' false ∧ Inv c 7 l' := by
  have wc : ∀ i, Wi64 (c i) = c i := fun i => by have := h i; exact wrap_i64 (by omega) (by omega)
  have ws : ∀ i, i < 7 → Wi64 (sumC c i + c i) = sumC c (i + 1) := fun i hi => by
    have := h i; have := sumC_bnd h i
    rw [sumC]; exact wrap_i64 (by omega) (by omega)
  have w0 : ((0 : Int) != 0) = false := rfl
  have I0 : Inv c 0 initL := ⟨init_G (VC_ok h), fun q => absurd q (by decide), fun q => absurd q (by decide)⟩
  obtain ⟨l1, s1, I1⟩ := inv_step h hk (i := 0) (by decide) I0 (fun y1 y2 y3 => cond (y1 != 0) (K0 false) (plumblinetop_TopChain_l1 k (fu + 7) (Wi64 (0 + (Wi64 (Int.tmod a1 1000)))) (Wi64 (0 + 1)) a1 a2 a3 a4 a5 a6 a7 16 y2 y3 K0 K1))
  obtain ⟨l2, s2, I2⟩ := inv_step h hk (i := 1) (by decide) I1 (fun y1 y2 y3 => cond (y1 != 0) (K0 false) (plumblinetop_TopChain_l1 k (fu + 6) (Wi64 (sumC c 1 + (Wi64 (Int.tmod a2 1000)))) (Wi64 (1 + 1)) a1 a2 a3 a4 a5 a6 a7 16 y2 y3 K0 K1))
  obtain ⟨l3, s3, I3⟩ := inv_step h hk (i := 2) (by decide) I2 (fun y1 y2 y3 => cond (y1 != 0) (K0 false) (plumblinetop_TopChain_l1 k (fu + 5) (Wi64 (sumC c 2 + (Wi64 (Int.tmod a3 1000)))) (Wi64 (2 + 1)) a1 a2 a3 a4 a5 a6 a7 16 y2 y3 K0 K1))
  obtain ⟨l4, s4, I4⟩ := inv_step h hk (i := 3) (by decide) I3 (fun y1 y2 y3 => cond (y1 != 0) (K0 false) (plumblinetop_TopChain_l1 k (fu + 4) (Wi64 (sumC c 3 + (Wi64 (Int.tmod a4 1000)))) (Wi64 (3 + 1)) a1 a2 a3 a4 a5 a6 a7 16 y2 y3 K0 K1))
  obtain ⟨l5, s5, I5⟩ := inv_step h hk (i := 4) (by decide) I4 (fun y1 y2 y3 => cond (y1 != 0) (K0 false) (plumblinetop_TopChain_l1 k (fu + 3) (Wi64 (sumC c 4 + (Wi64 (Int.tmod a5 1000)))) (Wi64 (4 + 1)) a1 a2 a3 a4 a5 a6 a7 16 y2 y3 K0 K1))
  obtain ⟨l6, s6, I6⟩ := inv_step h hk (i := 5) (by decide) I5 (fun y1 y2 y3 => cond (y1 != 0) (K0 false) (plumblinetop_TopChain_l1 k (fu + 2) (Wi64 (sumC c 5 + (Wi64 (Int.tmod a6 1000)))) (Wi64 (5 + 1)) a1 a2 a3 a4 a5 a6 a7 16 y2 y3 K0 K1))
  obtain ⟨l7, s7, I7⟩ := inv_step h hk (i := 6) (by decide) I6 (fun y1 y2 y3 => cond (y1 != 0) (K0 false) (plumblinetop_TopChain_l1 k (fu + 1) (Wi64 (sumC c 6 + (Wi64 (Int.tmod a7 1000)))) (Wi64 (6 + 1)) a1 a2 a3 a4 a5 a6 a7 16 y2 y3 K0 K1))
  refine ⟨l7, ?_, I7⟩
  rw [chain_at0, e1, wc, show Wi64 (0 + 1) = ((1 : Nat) : Int) by decide]
  rw [e1, wc, show Wi64 (0 + 1) = ((1 : Nat) : Int) by decide] at s1
  refine s1.trans ?_
  rw [w0, cond_false, show (0 : Int) + c 0 = sumC c 0 + c 0 from rfl, ws 0 (by decide)]
  rw [show ((1 : Nat) : Int) = 1 from rfl]
  rw [chain_at1, e2, wc, show Wi64 (1 + 1) = ((2 : Nat) : Int) by decide]
  rw [e2, wc, show Wi64 (1 + 1) = ((2 : Nat) : Int) by decide] at s2
  refine s2.trans ?_
  rw [w0, cond_false, ws 1 (by decide)]
  rw [show ((2 : Nat) : Int) = 2 from rfl]
  rw [chain_at2, e3, wc, show Wi64 (2 + 1) = ((3 : Nat) : Int) by decide]
  rw [e3, wc, show Wi64 (2 + 1) = ((3 : Nat) : Int) by decide] at s3
  refine s3.trans ?_
  rw [w0, cond_false, ws 2 (by decide)]
  rw [show ((3 : Nat) : Int) = 3 from rfl]
  rw [chain_at3, e4, wc, show Wi64 (3 + 1) = ((4 : Nat) : Int) by decide]
  rw [e4, wc, show Wi64 (3 + 1) = ((4 : Nat) : Int) by decide] at s4
  refine s4.trans ?_
  rw [w0, cond_false, ws 3 (by decide)]
  rw [show ((4 : Nat) : Int) = 4 from rfl]
  rw [chain_at4, e5, wc, show Wi64 (4 + 1) = ((5 : Nat) : Int) by decide]
  rw [e5, wc, show Wi64 (4 + 1) = ((5 : Nat) : Int) by decide] at s5
  refine s5.trans ?_
  rw [w0, cond_false, ws 4 (by decide)]
  rw [show ((5 : Nat) : Int) = 5 from rfl]
  rw [chain_at5, e6, wc, show Wi64 (5 + 1) = ((6 : Nat) : Int) by decide]
  rw [e6, wc, show Wi64 (5 + 1) = ((6 : Nat) : Int) by decide] at s6
  refine s6.trans ?_
  rw [w0, cond_false, ws 5 (by decide)]
  rw [show ((6 : Nat) : Int) = 6 from rfl]
  rw [chain_at6, e7, wc, show Wi64 (6 + 1) = ((7 : Nat) : Int) by decide]
  rw [e7, wc, show Wi64 (6 + 1) = ((7 : Nat) : Int) by decide] at s7
  refine s7.trans ?_
  rw [w0, cond_false, ws 6 (by decide)]
  rw [show ((7 : Nat) : Int) = 7 from rfl]
  exact chain_at7 k fu _ a1 a2 a3 a4 a5 a6 a7 l7 K0 K1

theorem u16_nat {n : Int} (hn : (Lit.int .u16 n).wf = true) : 0 ≤ n ∧ n ≤ 65535 := by
  simp only [Lit.wf, Bool.and_eq_true, decide_eq_true_eq] at hn
  have e1 : IntKind.u16.min = 0 := by decide
  have e2 : IntKind.u16.max = 65535 := by decide
  rw [e1, e2] at hn
  exact hn

theorem TopChain_pure : ∀ (y0 : Tup [.i .u16, .i .u16, .i .u16, .i .u16, .i .u16, .i .u16, .i .u16]), wfs (Tup.all [.i .u16, .i .u16, .i .u16, .i .u16, .i .u16, .i .u16, .i .u16] y0) → ∃ k, plumblinetop_TopChain k (y0.1) (y0.2.1) (y0.2.2.1) (y0.2.2.2.1) (y0.2.2.2.2.1) (y0.2.2.2.2.2.1) (y0.2.2.2.2.2.2) (fun q => some q) = some true := by
  intro ⟨a1, a2, a3, a4, a5, a6, a7⟩ h0
  have b1 := u16_nat h0.1
  have b2 := u16_nat h0.2.1
  have b3 := u16_nat h0.2.2.1
  have b4 := u16_nat h0.2.2.2.1
  have b5 := u16_nat h0.2.2.2.2.1
  have b6 := u16_nat h0.2.2.2.2.2.1
  have b7 := u16_nat h0.2.2.2.2.2.2.1
  refine ⟨220, ?_⟩
  have hk : 100 ≤ 220 := by decide
  obtain ⟨c, hc⟩ : ∃ c : Nat → Int, c = fun i => if i = 0 then Int.tmod a1 1000 else if i = 1 then Int.tmod a2 1000 else if i = 2 then Int.tmod a3 1000 else if i = 3 then Int.tmod a4 1000 else if i = 4 then Int.tmod a5 1000 else if i = 5 then Int.tmod a6 1000 else Int.tmod a7 1000 := ⟨_, rfl⟩
  have tm : ∀ a : Int, 0 ≤ a → 0 ≤ Int.tmod a 1000 ∧ Int.tmod a 1000 < 1000 := fun a ha => ⟨Int.tmod_nonneg _ ha, Int.tmod_lt_of_pos _ (by decide)⟩
  have h : ∀ i, 0 ≤ c i ∧ c i < 1000 := by
    intro i
    rw [hc]
    dsimp only
    repeat' split
    all_goals first | exact tm _ b1.1 | exact tm _ b2.1 | exact tm _ b3.1 | exact tm _ b4.1 | exact tm _ b5.1 | exact tm _ b6.1 | exact tm _ b7.1
  have sb := sumC_bnd h 7
  unfold plumblinetop_TopChain plumblinetop_TopChainT
  rw [show (220 : Nat) = 200 + 20 from rfl, new8, show (200 + 20 : Nat) = 220 from rfl]
  obtain ⟨l7, r1, I7⟩ := chain_run (R := Bool) (k := 220) (fu := 212) hk h (by rw [hc]; rfl) (by rw [hc]; rfl) (by rw [hc]; rfl) (by rw [hc]; rfl) (by rw [hc]; rfl) (by rw [hc]; rfl) (by rw [hc]; rfl) (fun r15 => some r15) (fun r16 r17 r18 =>
      octagon_Oct_Bound 220 7 false 0 true 16 r17 r18 (fun r19 =>
        cond (r19 != r16) (
          some false) (
          octagon_Oct_Set 220 0 false 5 9 16 r17 r18 (fun r20 r21 r22 =>
            cond (r20 != 0) (
              some false) (
              octagon_Oct_Empty 220 16 r21 r22 (
                cond (!r22) (
                  octagon_Oct_Range 220 7 16 r21 r22 (fun r23 r24 r25 =>
                    cond (r25 == (Wi64 (9 + r16))) (
                      octagon_Oct_Range 220 7 16 r21 r22 (fun r26 r27 r28 =>
                        some (r27 == (-2147483648)))) (
                      some false))) (
                  some false)))))))
  refine r1.trans ?_
  have hv1 := w1_VC h
  have hv2 := w2_VC h
  have v14 : ofVars (fun i => if i < 8 then 9 + sumC c i else 9) 14 = 9 + sumC c 7 := by rfl
  have v1 : ofVars (fun i => if i < 8 then 9 + sumC c i else 9) 1 = -(9 + sumC c 0) := by rfl
  have v15 : ofVars (fun i => if i = 0 then 5 else -8589934592) 15 = 8589934592 := by decide
  have z0 : sumC c 0 = 0 := rfl
  have hB : mat l7 14 1 = sumC c 7 := by
    have u1 := I7.b1 (by decide)
    have u2 := I7.g.snd _ hv1 14 1 (by decide) (by decide)
    rw [v14, v1] at u2
    have : mat l7 (2 * 7) 1 = mat l7 14 1 := rfl
    omega
  have hB2 : mat l7 1 14 ≤ sumC c 7 := I7.b2 (by decide)
  have g1 : l7[(14 * 16) + 0 + 1]? = some (mat l7 14 1) := by rw [Nat.add_zero]; exact mat_get I7.g.len (by decide) (by decide)
  have hbound : ∀ J : Int → Option Bool, octagon_Oct_Bound 220 7 false 0 true 16 l7 false J = J (sumC c 7) := by
    intro J
    have h7 := fun J => has_k (R := Bool) 220 (i := 7) (by decide) l7 false J
    have h00 := fun J => has_k (R := Bool) 220 (i := 0) (by decide) l7 false J
    unfold octagon_Oct_Bound octagon_Oct_BoundT
    refine (h7 _).trans ?_
    rw [Bool.not_true, cond_false]
    refine (h00 _).trans ?_
    rw [Bool.not_true, cond_false, cond_false]
    rw [node_pos, node_neg, show Wi64 (2 * 7) = 14 by decide, show Wi64 (Wi64 (2 * 0) + 1) = 1 by decide, decide_eq_true (by decide), cond_true, decide_eq_true (by decide), cond_true, decide_eq_true (by decide), cond_true, decide_eq_true (by decide), cond_true,
      show (14 : Int).toNat = 14 from rfl, show (1 : Int).toNat = 1 from rfl, g1, Option.bind_some, hB]
  rw [hbound]
  have ne : (sumC c 7 != sumC c 7) = false := by simp
  rw [ne, cond_false]
  obtain ⟨l2, l', q1, q2, q3, q4, q5, q6⟩ := set_k (VC_ok h) hk I7.g (fun v hv => by have := hv.2.2; omega) (fun v hv => by
      have a := hv.2.2
      have b := hv.1.1 0 (by decide)
      have e : px 0 = 1 := rfl
      rw [e] at b
      omega) (fun r20 r21 r22 =>
            cond (r20 != 0) (
              some false) (
              octagon_Oct_Empty 220 16 r21 r22 (
                cond (!r22) (
                  octagon_Oct_Range 220 7 16 r21 r22 (fun r23 r24 r25 =>
                    cond (r25 == (Wi64 (9 + sumC c 7))) (
                      octagon_Oct_Range 220 7 16 r21 r22 (fun r26 r27 r28 =>
                        some (r27 == (-2147483648)))) (
                      some false))) (
                  some false))))
  refine q1.trans ?_
  rw [show ((0 : Int) != 0) = false from rfl, cond_false]
  unfold octagon_Oct_Empty octagon_Oct_EmptyT
  rw [Bool.not_false, cond_true]
  have hhi : mat l' 14 14 / 2 = 9 + sumC c 7 := by
    have u1 := q6 0 1 14 14 (by decide) (by decide) (by decide) (by decide)
    have e1 : px 1 = 0 := rfl
    have e0 : px 0 = 1 := rfl
    rw [e1, e0] at u1
    have u2 := q2 14 1 (by decide) (by decide)
    have u3 := q2 1 14 (by decide) (by decide)
    have u4 := q4.snd _ hv1 14 14 (by decide) (by decide)
    rw [v14] at u4
    omega
  have hlo : mat l' 15 15 / 2 = 8589934592 := by
    have u1 := q4.ub 15 15 (by decide) (by decide)
    have u4 := q4.snd _ hv2 15 15 (by decide) (by decide)
    rw [v15] at u4
    omega
  have hr := fun J => range_k (R := Bool) 220 q4.len hlo hhi (by decide) (by decide) (by decide) (by omega) (by omega) J
  have w9 : Wi64 (9 + sumC c 7) = 9 + sumC c 7 := wrap_i64 (by omega) (by omega)
  rw [hr, w9, beq_self_eq_true, cond_true, hr]
  rfl

end Go.Proofs.Ytejfnbjhcohkiaa.N
