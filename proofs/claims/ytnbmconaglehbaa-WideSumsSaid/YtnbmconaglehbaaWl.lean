/- The laws of numbers of 128 bits, each as a plain statement about the functions. Conditions: none. -/
import Derived.Test.YtnbmconaglehbaaWm10
import Derived.Test.YtnbmconaglehbaaAb25
namespace Go.Proofs.Ytnbmconaglehbaa.N
set_option linter.unusedVariables false
set_option linter.unusedSimpArgs false
open Go Go.Ab

theorem two_hl {x y : Int} (h : wfs [.i .u64 x, .i .u64 y]) : ∃ A, A < 2 ^ 128 ∧ x = hi A ∧ y = lo A := by
  obtain ⟨n, rfl, hn⟩ := u64_nat h.1
  obtain ⟨m, rfl, hm⟩ := u64_nat h.2.1
  exact ⟨V n m, V_lt hn hm, (hi_V hm).symm, (lo_V hm).symm⟩

theorem WideMoves_pure : ∀ (y0 : Tup [.i .u64, .i .u64]) (y1 : Tup [.i .i64]), wfs (Tup.all [.i .u64, .i .u64] y0) → wfs (Tup.all [.i .i64] y1) → ∃ k, plumblinelaw01_WideMoves k (y0.1) (y0.2) (y1) (fun q => some q) = some true := by
  intro ⟨a, b⟩ n h0 h1
  obtain ⟨A, hA, rfl, rfl⟩ := two_hl h0
  refine ⟨5000, ?_⟩
  have hk : 5000 ≤ 5000 := Nat.le_refl _
  have hn : (Lit.int .i64 n).wf = true := h1.1
  unfold plumblinelaw01_WideMoves
  rw [Shr_hl _ hA hn, refShr_hl hk hA hn, live_true hk, Shl_hl _ hA hn, refShl_hl hk hA hn]
  simp

theorem WideRoots_pure : ∀ (y0 : Tup [.i .u64, .i .u64]), wfs (Tup.all [.i .u64, .i .u64] y0) → ∃ k, plumblinelaw01_WideRoots k (y0.1) (y0.2) (fun q => some q) = some true := by
  intro ⟨a, b⟩ h0
  obtain ⟨A, hA, rfl, rfl⟩ := two_hl h0
  refine ⟨5000, ?_⟩
  have hk : 5000 ≤ 5000 := Nat.le_refl _
  obtain ⟨s, hs⟩ := root_exists A
  unfold plumblinelaw01_WideRoots
  rw [Sqrt_hl hk hA hs, refSqrt_hl hk hA hs, live_true hk]
  simp

theorem WideSums_pure : ∀ (y0 : Tup [.i .u64, .i .u64]) (y1 : Tup [.i .u64, .i .u64]), wfs (Tup.all [.i .u64, .i .u64] y0) → wfs (Tup.all [.i .u64, .i .u64] y1) → ∃ k, plumblinelaw01_WideSums k (y0.1) (y0.2) (y1.1) (y1.2) (fun q => some q) = some true := by
  intro ⟨a, b⟩ ⟨c, d⟩ h0 h1
  obtain ⟨A, hA, rfl, rfl⟩ := two_hl h0
  obtain ⟨B, hB, rfl, rfl⟩ := two_hl h1
  refine ⟨5000, ?_⟩
  have hk : 5000 ≤ 5000 := Nat.le_refl _
  unfold plumblinelaw01_WideSums
  rw [Add_hl _ hA hB, refAdd_hl hk hA hB, Sub_hl _ hA hB, refSub_hl hk hA hB, live_true hk]
  simp

theorem WideProducts_pure : ∀ (y0 : Tup [.i .u64]) (y1 : Tup [.i .u64]), wfs (Tup.all [.i .u64] y0) → wfs (Tup.all [.i .u64] y1) → ∃ k, plumblinelaw01_WideProducts k (y0) (y1) (fun q => some q) = some true := by
  intro a b h0 h1
  obtain ⟨A, rfl, hA⟩ := u64_nat h0.1
  obtain ⟨B, rfl, hB⟩ := u64_nat h1.1
  refine ⟨5000, ?_⟩
  have hk : 5000 ≤ 5000 := Nat.le_refl _
  unfold plumblinelaw01_WideProducts
  rw [live_true hk]
  simp only [cond_true, Mul_hl _ hA hB, Mul_hl _ hB hA, refMul_hl hk hA hB, Nat.mul_comm B A]
  simp

theorem WideSizes_pure : ∀ (y0 : Tup [.i .u64, .i .u64]) (y1 : Tup [.i .u64, .i .u64]), wfs (Tup.all [.i .u64, .i .u64] y0) → wfs (Tup.all [.i .u64, .i .u64] y1) → ∃ k, plumblinelaw01_WideSizes k (y0.1) (y0.2) (y1.1) (y1.2) (fun q => some q) = some true := by
  intro ⟨a, b⟩ ⟨c, d⟩ h0 h1
  obtain ⟨A, hA, rfl, rfl⟩ := two_hl h0
  obtain ⟨B, hB, rfl, rfl⟩ := two_hl h1
  refine ⟨5000, ?_⟩
  have hk : 5000 ≤ 5000 := Nat.le_refl _
  unfold plumblinelaw01_WideSizes
  simp only [Compare_hl hk, refCompare_hl hk hA hB, live_true hk, cond_true, Len_hl _ hA, refLen_hl hk hA]
  simp

theorem WideTurns_pure : ∀ (y0 : Tup [.i .u64, .i .u64]) (y1 : Tup [.i .i64]), wfs (Tup.all [.i .u64, .i .u64] y0) → wfs (Tup.all [.i .i64] y1) → ∃ k, plumblinelaw01_WideTurns k (y0.1) (y0.2) (y1) (fun q => some q) = some true := by
  intro ⟨a, b⟩ (n : Int) h0 h1
  obtain ⟨A, hA, rfl, rfl⟩ := two_hl h0
  refine ⟨5000, ?_⟩
  have hk : 5000 ≤ 5000 := Nat.le_refl _
  have hn : (Lit.int .i64 n).wf = true := h1.1
  unfold plumblinelaw01_WideTurns
  simp only [live_true hk, Len_hl _ hA]
  by_cases c1 : n < 0
  · simp only [c1, decide_true, cond_true]
  · simp only [c1, decide_false, cond_false]
    have hb : bl A ≤ 128 := bl_le_iff.2 hA
    have e : Wi64 (128 - ((bl A : Nat) : Int)) = ((128 - bl A : Nat) : Int) := by rw [wrap_i64 (by omega) (by omega)]; omega
    rw [e]
    by_cases c2 : n > ((128 - bl A : Nat) : Int)
    · simp only [c2, decide_true, cond_true]
    · simp only [c2, decide_false, cond_false]
      rw [Shl_hl _ hA hn]
      have hlt : A * 2 ^ n.toNat < 2 ^ 128 := by
        have h2 := (bl_le_iff (n := A)).1 (Nat.le_refl _)
        have h3 : A * 2 ^ n.toNat < 2 ^ bl A * 2 ^ n.toNat := Nat.mul_lt_mul_of_pos_right h2 (Nat.two_pow_pos _)
        rw [← Nat.pow_add] at h3
        exact Nat.lt_of_lt_of_le h3 (Nat.pow_le_pow_right (by decide) (by omega))
      rw [Nat.mod_eq_of_lt hlt, Shr_hl _ hlt hn, Nat.mul_div_cancel _ (Nat.two_pow_pos _), Nat.mul_mod_left]
      simp

theorem WideSquares_pure : ∀ (y0 : Tup [.i .u64, .i .u64]), wfs (Tup.all [.i .u64, .i .u64] y0) → ∃ k, plumblinelaw01_WideSquares k (y0.1) (y0.2) (fun q => some q) = some true := by
  intro ⟨a, b⟩ h0
  obtain ⟨A, hA, rfl, rfl⟩ := two_hl h0
  refine ⟨5000, ?_⟩
  have hk : 5000 ≤ 5000 := Nat.le_refl _
  obtain ⟨s, hs⟩ := root_exists A
  have hs64 : s < 2 ^ 64 := hs.lt (by rw [← Nat.pow_add]; exact hA)
  unfold plumblinelaw01_WideSquares
  rw [Sqrt_hl hk hA hs, Mul_hl _ hs64 hs64]
  have h1 := hs.1
  have h2 := hs.2
  rw [sq_succ] at h2
  generalize s * s = q at *
  rw [Add_hl _ (by omega) (by omega)]
  have e1 : (q + (A - q)) % 2 ^ 128 = A := by omega
  have e2 : ¬ 2 ^ 128 ≤ q + (A - q) := by omega
  have e3 : (s + s) % 2 ^ 128 = 2 * s := by omega
  have h3 := Add_hl (R := Bool) 5000 (A := s) (B := s) (by omega) (by omega)
  rw [hi_small hs64, lo_small hs64] at h3
  rw [h3, live_true hk, Compare_hl hk, e1, e3]
  have : sgn (A - q) (2 * s) ≤ 0 := by unfold sgn; split; decide; rw [if_neg (by omega)]; decide
  simp [e2, this]

theorem WideParts_pure : ∀ (y0 : Tup [.i .u64, .i .u64]) (y1 : Tup [.i .u64]), wfs (Tup.all [.i .u64, .i .u64] y0) → wfs (Tup.all [.i .u64] y1) → ∃ k, plumblinelaw01_WideParts k (y0.1) (y0.2) (y1) (fun q => some q) = some true := by
  intro ⟨a, b⟩ c h0 h1
  obtain ⟨A, hA, rfl, rfl⟩ := two_hl h0
  obtain ⟨B, rfl, hB⟩ := u64_nat h1.1
  refine ⟨5000, ?_⟩
  have hk : 5000 ≤ 5000 := Nat.le_refl _
  unfold plumblinelaw01_WideParts
  by_cases hz : B = 0
  · subst hz
    unfold wide_Div plumblineref01_Div
    have : (((0 : Nat) : Int) == 0) = true := rfl
    simp only [this, cond_true, live_true hk]
    rfl
  · rw [Div_hl hk hA hB hz, refDiv_hl hk hA hB hz, live_true hk]
    simp

theorem WideBack_pure : ∀ (y0 : Tup [.i .u64, .i .u64]) (y1 : Tup [.i .u64, .i .u64]), wfs (Tup.all [.i .u64, .i .u64] y0) → wfs (Tup.all [.i .u64, .i .u64] y1) → ∃ k, plumblinelaw01_WideBack k (y0.1) (y0.2) (y1.1) (y1.2) (fun q => some q) = some true := by
  intro ⟨a, b⟩ ⟨c, d⟩ h0 h1
  obtain ⟨A, hA, rfl, rfl⟩ := two_hl h0
  obtain ⟨B, hB, rfl, rfl⟩ := two_hl h1
  refine ⟨5000, ?_⟩
  have hk : 5000 ≤ 5000 := Nat.le_refl _
  unfold plumblinelaw01_WideBack
  have hAB : (A + B) % 2 ^ 128 < 2 ^ 128 := Nat.mod_lt _ (by decide)
  rw [Add_hl _ hA hB, Sub_hl _ hAB hB]
  have e1 : ((A + B) % 2 ^ 128 + 2 ^ 128 - B) % 2 ^ 128 = A := by omega
  rw [e1]
  simp only [live_true hk, cond_true, beq_self_eq_true, Bool.and_self, Bool.not_true, cond_false]
  obtain ⟨m, hm⟩ : ∃ m, m = B % 2 ^ 64 := ⟨_, rfl⟩
  have hm64 : m < 2 ^ 64 := by rw [hm]; exact lo_lt B
  have hlo : lo B = (m : Int) := by unfold lo; rw [hm]
  rw [hlo]
  by_cases hz : m = 0
  · subst hz; rfl
  · have c1 : ((m : Int) == 0) = false := by rw [beq_eq_false_iff_ne]; omega
    have hmpos : 0 < m := by omega
    have hr : A % m < m := Nat.mod_lt _ hmpos
    rw [c1, cond_false, Div_hl hk hA hm64 hz]
    have hq : A / m < 2 ^ 128 := Nat.lt_of_le_of_lt (Nat.div_le_self _ _) hA
    show (wide_Mul 5000 ((A / m % 2 ^ 64 : Nat) : Int) (m : Int) _) = _
    rw [Mul_hl _ (lo_lt _) hm64]
    show (wide_Mul 5000 ((A / m / 2 ^ 64 : Nat) : Int) (m : Int) _) = _
    rw [Mul_hl _ (hi_lt hq) hm64]
    have hdm := Nat.div_add_mod A m
    have hdq := Nat.div_add_mod (A / m) (2 ^ 64)
    have e2 : A / m / 2 ^ 64 * m * 2 ^ 64 + A / m % 2 ^ 64 * m + A % m = A := by
      rw [Nat.mul_right_comm, ← Nat.add_mul, Nat.mul_comm _ (2 ^ 64), hdq, Nat.mul_comm]
      exact hdm
    have e3 : A / m % 2 ^ 64 * m < 2 ^ 128 := by omega
    have e4 : A / m / 2 ^ 64 * m < 2 ^ 64 := by omega
    generalize hX : A / m / 2 ^ 64 * m = X at *
    generalize hY : A / m % 2 ^ 64 * m = Y at *
    have z1 : (hi X != 0) = false := by rw [hi_small e4]; rfl
    have z2 : ¬ (((A % m : Nat) : Int) ≥ (m : Int)) := by omega
    rw [z1]
    simp only [z2, decide_false, cond_false]
    have hX1 : lo X = hi (X * 2 ^ 64) := by unfold lo hi; rw [Nat.mul_div_cancel _ (by decide), Nat.mod_eq_of_lt e4]
    have hX2 : (0 : Int) = lo (X * 2 ^ 64) := by unfold lo; rw [Nat.mul_mod_left]; rfl
    have s1 := Add_hl (R := Bool) 5000 (A := Y) (B := X * 2 ^ 64) e3 (by omega)
    rw [← hX1, ← hX2] at s1
    rw [s1]
    have s2 := Add_hl (R := Bool) 5000 (A := (Y + X * 2 ^ 64) % 2 ^ 128) (B := A % m) (Nat.mod_lt _ (by decide)) (by omega)
    rw [hi_small (show A % m < 2 ^ 64 by omega), lo_small (show A % m < 2 ^ 64 by omega)] at s2
    rw [s2]
    have e5 : (Y + X * 2 ^ 64) % 2 ^ 128 = Y + X * 2 ^ 64 := by omega
    have e6 : (Y + X * 2 ^ 64 + A % m) % 2 ^ 128 = A := by omega
    have e7 : ¬ 2 ^ 128 ≤ Y + X * 2 ^ 64 := by omega
    have e8 : ¬ 2 ^ 128 ≤ Y + X * 2 ^ 64 + A % m := by omega
    rw [e5, e6]
    simp [e7, e8]

end Go.Proofs.Ytnbmconaglehbaa.N
