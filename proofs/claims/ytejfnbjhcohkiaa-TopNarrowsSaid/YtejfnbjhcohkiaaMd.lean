/- Quotients. Conditions: none. -/
import Derived.Test.YtejfnbjhcohkiaaMa
namespace Go.Proofs.Ytejfnbjhcohkiaa.N
set_option linter.unusedVariables false
set_option linter.unusedSimpArgs false
open Go Go.Ab





/-- What is subtracted round and round is the true difference, if that is a word. -/
theorem Wu64_diff {x y r : Nat} (h : x = y + r) (hr : r < 2 ^ 64) : Wu64 (Wu64 (x : Int) - Wu64 (y : Int)) = (r : Int) := by
  rw [Wu64_nat, Wu64_nat]
  unfold Wu64
  rw [wrap_u64]
  subst h
  rw [e64] at *
  omega

/-- A digit that is guessed by the upper half is put right by the two loops alike. -/
theorem digit_step {u d Y yn1 yn0 q r : Nat} (hY : Y = yn1 * 2 ^ 32 + yn0) (hu : u < Y) (hd : d < 2 ^ 32) (h0 : yn0 < 2 ^ 32) (h1 : 2 ^ 31 ≤ yn1) (hq : q * yn1 + r = u) (hge : (u * 2 ^ 32 + d) / Y ≤ q) :
    (2 ^ 32 ≤ q → (u * 2 ^ 32 + d) / Y < q) ∧ (q * yn0 > 2 ^ 32 * r + d → (u * 2 ^ 32 + d) / Y < q) ∧ (q * yn0 ≤ 2 ^ 32 * r + d → (u * 2 ^ 32 + d) / Y = q) := by
  have hYpos : 0 < Y := by omega
  have hlt : (u * 2 ^ 32 + d) / Y < 2 ^ 32 := by
    rw [Nat.div_lt_iff_lt_mul hYpos]
    have : (u + 1) * 2 ^ 32 ≤ Y * 2 ^ 32 := Nat.mul_le_mul_right _ hu
    rw [Nat.mul_comm (2 ^ 32) Y]
    omega
  have eq : q * Y = q * yn1 * 2 ^ 32 + q * yn0 := by rw [hY, Nat.mul_add, Nat.mul_assoc]
  refine ⟨fun h => Nat.lt_of_lt_of_le hlt h, fun h => ?_, fun h => ?_⟩
  · rw [Nat.div_lt_iff_lt_mul hYpos, eq]
    generalize q * yn1 = a at *
    generalize q * yn0 = b at *
    omega
  · refine Nat.le_antisymm hge ?_
    rw [Nat.le_div_iff_mul_le hYpos, eq]
    generalize q * yn1 = a at *
    generalize q * yn0 = b at *
    omega

theorem guess_ge {u d Y yn1 yn0 : Nat} (hY : Y = yn1 * 2 ^ 32 + yn0) (hd : d < 2 ^ 32) (h1 : 2 ^ 31 ≤ yn1) : (u * 2 ^ 32 + d) / Y ≤ u / yn1 := by
  have hYpos : 0 < Y := by omega
  have h : (u * 2 ^ 32 + d) / Y ≤ (u * 2 ^ 32 + d) / (yn1 * 2 ^ 32) := by
    refine Nat.div_le_div_left ?_ ?_ <;> omega
  refine Nat.le_trans h ?_
  rw [Nat.mul_comm yn1, ← Nat.div_div_eq_div_mul]
  have : (u * 2 ^ 32 + d) / 2 ^ 32 = u := by omega
  rw [this]
  exact Nat.le_refl _

theorem guess_le {u Y yn1 yn0 q r : Nat} (hY : Y = yn1 * 2 ^ 32 + yn0) (hu : u < Y) (h0 : yn0 < 2 ^ 32) (h1 : 2 ^ 31 ≤ yn1) (hq : q * yn1 + r = u) : q ≤ 2 ^ 32 + 1 := by
  refine Nat.le_of_not_lt fun h => ?_
  have : (2 ^ 32 + 2) * yn1 ≤ q * yn1 := Nat.mul_le_mul_right _ h
  omega

theorem Div64_l0 {R : Type} (k : Nat) {Y yn1 yn0 u d : Nat} (hY : Y = yn1 * 2 ^ 32 + yn0) (hYl : Y < 2 ^ 64) (hu : u < Y) (hd : d < 2 ^ 32) (h0 : yn0 < 2 ^ 32) (h1 : 2 ^ 31 ≤ yn1) (x1 x2 x5 x7 : Int) (K : Int → Option R) :
    ∀ (m n q r : Nat), q * yn1 + r = u → (u * 2 ^ 32 + d) / Y ≤ q → r < 2 ^ 32 → 2 ^ 32 ≤ r + m * yn1 → m < n →
    bits_Div64_l0 k n x1 x2 (yn1 : Int) (yn0 : Int) x5 (d : Int) x7 (q : Int) (r : Int) K = K (((u * 2 ^ 32 + d) / Y : Nat) : Int)
  | m, 0, q, r, _, _, _, _, hn => by omega
  | 0, n + 1, q, r, hq, hge, hr, hm, hn => by omega
  | m + 1, n + 1, q, r, hq, hge, hr, hm, hn => by
    rw [bits_Div64_l0, bits_Div64_l0B]
    obtain ⟨s1, s2, s3⟩ := digit_step hY hu hd h0 h1 hq hge
    have hle := guess_le hY hu h0 h1 hq
    have hy1 : yn1 < 2 ^ 32 := by omega
    have w1 : Wu64 ((r : Int) + (yn1 : Int)) = ((r + yn1 : Nat) : Int) := by rw [← Int.natCast_add]; exact Wu64_lt (by omega)
    have hdec : (u * 2 ^ 32 + d) / Y < q → (cond (decide ((((r + yn1 : Nat) : Int)) ≥ 4294967296)) (K (Wu64 ((q : Int) - 1))) (bits_Div64_l0 k n x1 x2 (yn1 : Int) (yn0 : Int) x5 (d : Int) x7 (Wu64 ((q : Int) - 1)) (((r + yn1 : Nat) : Int)) K)) = K (((u * 2 ^ 32 + d) / Y : Nat) : Int) := by
      intro hlt
      have hqpos : 1 ≤ q := Nat.lt_of_le_of_lt (Nat.zero_le _) hlt
      have w2 : Wu64 ((q : Int) - 1) = ((q - 1 : Nat) : Int) := by
        rw [show (1 : Int) = ((1 : Nat) : Int) from rfl, Wu64_sub (by omega), Nat.mod_eq_of_lt (by omega)]
      rw [w2]
      have hq' : (q - 1) * yn1 + (r + yn1) = u := by
        obtain ⟨q', rfl⟩ : ∃ q', q = q' + 1 := ⟨q - 1, by omega⟩
        rw [Nat.add_sub_cancel, ← hq, Nat.add_mul, Nat.one_mul]; omega
      have hge' : (u * 2 ^ 32 + d) / Y ≤ q - 1 := Nat.le_sub_one_of_lt hlt
      by_cases c : ((((r + yn1 : Nat) : Int)) ≥ 4294967296)
      · simp only [c, decide_true, cond_true]
        obtain ⟨_, _, s3'⟩ := digit_step hY hu hd h0 h1 hq' hge'
        have : (q - 1) * yn0 ≤ 2 ^ 32 * (r + yn1) + d := by
          have a1 : (q - 1) * yn0 ≤ 2 ^ 32 * (2 ^ 32 - 1) := Nat.mul_le_mul (by omega) (by omega)
          omega
        rw [s3' this]
      · simp only [c, decide_false, cond_false]
        have e : m * yn1 + yn1 = (m + 1) * yn1 := by rw [Nat.add_mul, Nat.one_mul]
        exact Div64_l0 k hY hYl hu hd h0 h1 x1 x2 x5 x7 K m n (q - 1) (r + yn1) hq' hge' (by omega) (by omega) (by omega)
    rw [w1]
    by_cases c1 : ((q : Int) ≥ 4294967296)
    · simp only [c1, decide_true, cond_true]
      exact hdec (s1 (by omega))
    · simp only [c1, decide_false, cond_false]
      have hqy : q * yn0 < 2 ^ 64 := by
        have a1 : q * yn0 ≤ (2 ^ 32 - 1) * (2 ^ 32 - 1) := Nat.mul_le_mul (by omega) (by omega)
        omega
      have w3 : Wu64 ((q : Int) * (yn0 : Int)) = ((q * yn0 : Nat) : Int) := by rw [← Int.natCast_mul]; exact Wu64_lt hqy
      have w4 : Wu64 (Wu64 (4294967296 * (r : Int)) + (d : Int)) = ((2 ^ 32 * r + d : Nat) : Int) := by
        rw [show (4294967296 : Int) * (r : Int) = ((2 ^ 32 * r : Nat) : Int) from by omega, Wu64_lt (by omega), ← Int.natCast_add, Wu64_lt (by omega)]
      rw [w3, w4]
      by_cases c2 : (((q * yn0 : Nat) : Int) > ((2 ^ 32 * r + d : Nat) : Int))
      · simp only [c2, decide_true, cond_true]
        exact hdec (s2 (Int.ofNat_lt.1 c2))
      · simp only [c2, decide_false, cond_false]
        rw [s3 (Nat.le_of_not_lt fun h => c2 (Int.ofNat_lt.2 h))]

theorem Div64_l1 {R : Type} (k : Nat) {Y yn1 yn0 u d : Nat} (hY : Y = yn1 * 2 ^ 32 + yn0) (hYl : Y < 2 ^ 64) (hu : u < Y) (hd : d < 2 ^ 32) (h0 : yn0 < 2 ^ 32) (h1 : 2 ^ 31 ≤ yn1) (x1 x2 x6 x8 : Int) (K : Int → Option R) :
    ∀ (m n q r : Nat), q * yn1 + r = u → (u * 2 ^ 32 + d) / Y ≤ q → r < 2 ^ 32 → 2 ^ 32 ≤ r + m * yn1 → m < n →
    bits_Div64_l1 k n x1 x2 (yn1 : Int) (yn0 : Int) (d : Int) x6 (r : Int) x8 (q : Int) K = K (((u * 2 ^ 32 + d) / Y : Nat) : Int)
  | m, 0, q, r, _, _, _, _, hn => by omega
  | 0, n + 1, q, r, hq, hge, hr, hm, hn => by omega
  | m + 1, n + 1, q, r, hq, hge, hr, hm, hn => by
    rw [bits_Div64_l1, bits_Div64_l1B]
    obtain ⟨s1, s2, s3⟩ := digit_step hY hu hd h0 h1 hq hge
    have hle := guess_le hY hu h0 h1 hq
    have hy1 : yn1 < 2 ^ 32 := by omega
    have w1 : Wu64 ((r : Int) + (yn1 : Int)) = ((r + yn1 : Nat) : Int) := by rw [← Int.natCast_add]; exact Wu64_lt (by omega)
    have hdec : (u * 2 ^ 32 + d) / Y < q → (cond (decide ((((r + yn1 : Nat) : Int)) ≥ 4294967296)) (K (Wu64 ((q : Int) - 1))) (bits_Div64_l1 k n x1 x2 (yn1 : Int) (yn0 : Int) (d : Int) x6 (((r + yn1 : Nat) : Int)) x8 (Wu64 ((q : Int) - 1)) K)) = K (((u * 2 ^ 32 + d) / Y : Nat) : Int) := by
      intro hlt
      have hqpos : 1 ≤ q := Nat.lt_of_le_of_lt (Nat.zero_le _) hlt
      have w2 : Wu64 ((q : Int) - 1) = ((q - 1 : Nat) : Int) := by
        rw [show (1 : Int) = ((1 : Nat) : Int) from rfl, Wu64_sub (by omega), Nat.mod_eq_of_lt (by omega)]
      rw [w2]
      have hq' : (q - 1) * yn1 + (r + yn1) = u := by
        obtain ⟨q', rfl⟩ : ∃ q', q = q' + 1 := ⟨q - 1, by omega⟩
        rw [Nat.add_sub_cancel, ← hq, Nat.add_mul, Nat.one_mul]; omega
      have hge' : (u * 2 ^ 32 + d) / Y ≤ q - 1 := Nat.le_sub_one_of_lt hlt
      by_cases c : ((((r + yn1 : Nat) : Int)) ≥ 4294967296)
      · simp only [c, decide_true, cond_true]
        obtain ⟨_, _, s3'⟩ := digit_step hY hu hd h0 h1 hq' hge'
        have : (q - 1) * yn0 ≤ 2 ^ 32 * (r + yn1) + d := by
          have a1 : (q - 1) * yn0 ≤ 2 ^ 32 * (2 ^ 32 - 1) := Nat.mul_le_mul (by omega) (by omega)
          omega
        rw [s3' this]
      · simp only [c, decide_false, cond_false]
        have e : m * yn1 + yn1 = (m + 1) * yn1 := by rw [Nat.add_mul, Nat.one_mul]
        exact Div64_l1 k hY hYl hu hd h0 h1 x1 x2 x6 x8 K m n (q - 1) (r + yn1) hq' hge' (by omega) (by omega) (by omega)
    rw [w1]
    by_cases c1 : ((q : Int) ≥ 4294967296)
    · simp only [c1, decide_true, cond_true]
      exact hdec (s1 (by omega))
    · simp only [c1, decide_false, cond_false]
      have hqy : q * yn0 < 2 ^ 64 := by
        have a1 : q * yn0 ≤ (2 ^ 32 - 1) * (2 ^ 32 - 1) := Nat.mul_le_mul (by omega) (by omega)
        omega
      have w3 : Wu64 ((q : Int) * (yn0 : Int)) = ((q * yn0 : Nat) : Int) := by rw [← Int.natCast_mul]; exact Wu64_lt hqy
      have w4 : Wu64 (Wu64 (4294967296 * (r : Int)) + (d : Int)) = ((2 ^ 32 * r + d : Nat) : Int) := by
        rw [show (4294967296 : Int) * (r : Int) = ((2 ^ 32 * r : Nat) : Int) from by omega, Wu64_lt (by omega), ← Int.natCast_add, Wu64_lt (by omega)]
      rw [w3, w4]
      by_cases c2 : (((q * yn0 : Nat) : Int) > ((2 ^ 32 * r + d : Nat) : Int))
      · simp only [c2, decide_true, cond_true]
        exact hdec (s2 (Int.ofNat_lt.1 c2))
      · simp only [c2, decide_false, cond_false]
        rw [s3 (Nat.le_of_not_lt fun h => c2 (Int.ofNat_lt.2 h))]

theorem tdiv_nat (x y : Nat) : Int.tdiv (x : Int) (y : Int) = ((x / y : Nat) : Int) := rfl

theorem tmod_nat (x y : Nat) : Int.tmod (x : Int) (y : Int) = ((x % y : Nat) : Int) := rfl

theorem Div64_nat {R : Type} {k : Nat} (hk : 5000 ≤ k) {h l y : Nat} (hl : l < 2 ^ 64) (hy : y < 2 ^ 64) (hh : h < y) (K : Int → Int → Option R) :
    bits_Div64 k (h : Int) (l : Int) (y : Int) K = K (((h * 2 ^ 64 + l) / y : Nat) : Int) (((h * 2 ^ 64 + l) % y : Nat) : Int) := by
  have hypos : 0 < y := by omega
  unfold bits_Div64 bits_Div64T
  have c1 : ((y : Int) == 0) = false := by rw [beq_eq_false_iff_ne]; omega
  have c2 : ¬ ((y : Int) ≤ (h : Int)) := by omega
  have c3 : ¬ ((y : Int) = 0) := by omega
  rw [c1]
  simp only [c2, decide_false, cond_false]
  by_cases hz : h = 0
  · subst hz
    have : (((0 : Nat) : Int) == 0) = true := rfl
    rw [this]
    simp only [c3, decide_false, cond_true, cond_false, tdiv_nat, tmod_nat]
    rw [Wu64_lt (Nat.lt_of_le_of_lt (Nat.div_le_self _ _) hl), Nat.zero_mul, Nat.zero_add]
  have c4 : ((h : Int) == 0) = false := by rw [beq_eq_false_iff_ne]; omega
  rw [c4]
  simp only [cond_false]
  unfold bits_LeadingZeros64 bits_LeadingZeros64T
  rw [Len64_nat k hy]
  have hb64 : bl y ≤ 64 := bl_le_iff.2 hy
  obtain ⟨s, hs⟩ : ∃ s, s = 64 - bl y := ⟨_, rfl⟩
  have w1 : Wi64 (64 - ((bl y : Nat) : Int)) = (s : Int) := by rw [wrap_i64 (by omega) (by omega)]; omega
  have hs64 : s < 64 := by
    have : 0 < bl y := by unfold bl; rw [if_neg (by omega)]; omega
    omega
  have w2 : Wu64 (s : Int) = (s : Int) := Wu64_lt (by omega)
  have w3 : Wu64 (64 - (s : Int)) = ((64 - s : Nat) : Int) := by
    rw [show (64 : Int) = ((64 : Nat) : Int) from rfl, Wu64_sub (by omega), Nat.mod_eq_of_lt (by omega)]
  rw [w1]
  simp only [w2, w3]
  have c5 : ¬ ((s : Int) < 0) := by omega
  have c6 : ¬ (((64 - s : Nat) : Int) < 0) := by omega
  simp only [c5, c6, decide_false, cond_false]
  -- the divisor moved up
  have hys : y * 2 ^ s < 2 ^ 64 := by
    have := (bl_le_iff (n := y)).1 (Nat.le_refl _)
    have h2 : 2 ^ 64 = 2 ^ bl y * 2 ^ s := by rw [← Nat.pow_add]; congr 1; omega
    rw [h2]; exact Nat.mul_lt_mul_of_pos_right this (Nat.two_pow_pos s)
  have hys2 : 2 ^ 63 ≤ y * 2 ^ s := by
    have hlow : 2 ^ (bl y - 1) ≤ y := by
      refine Nat.le_of_not_lt fun h => ?_
      have := bl_le_iff.2 h
      have : 0 < bl y := by unfold bl; rw [if_neg (by omega)]; omega
      omega
    have h2 : 2 ^ 63 = 2 ^ (bl y - 1) * 2 ^ s := by rw [← Nat.pow_add]; congr 1; omega
    rw [h2]; exact Nat.mul_le_mul_right _ hlow
  have eY : shl .u64 (y : Int) (s : Int) = ((y * 2 ^ s : Nat) : Int) := by rw [shl_nat y s (by omega), Nat.mod_eq_of_lt hys]
  -- the number moved up
  have hle : l / 2 ^ (64 - s) < 2 ^ s := by
    rw [Nat.div_lt_iff_lt_mul (Nat.two_pow_pos _), ← Nat.pow_add]
    have : s + (64 - s) = 64 := by omega
    rw [this]; exact hl
  have hhs : h * 2 ^ s + l / 2 ^ (64 - s) < y * 2 ^ s := by
    have : (h + 1) * 2 ^ s ≤ y * 2 ^ s := Nat.mul_le_mul_right _ hh
    rw [Nat.add_mul, Nat.one_mul] at this
    omega
  have eU : bOr .u64 (shl .u64 (h : Int) (s : Int)) (shr .u64 (l : Int) ((64 - s : Nat) : Int)) = ((h * 2 ^ s + l / 2 ^ (64 - s) : Nat) : Int) := by
    have h1 : h * 2 ^ s < 2 ^ 64 := Nat.lt_of_le_of_lt (Nat.le_add_right _ _) (Nat.lt_trans hhs hys)
    rw [shl_nat h s (by omega), Nat.mod_eq_of_lt h1, shr_nat l (64 - s) (by omega), bOr_nat h1 (Nat.lt_of_le_of_lt (Nat.div_le_self _ _) hl)]
    rw [or_add (s := s) (by simp) hle]
  have eL : shl .u64 (l : Int) (s : Int) = ((l * 2 ^ s % 2 ^ 64 : Nat) : Int) := shl_nat l s (by omega)
  have eN : (h * 2 ^ 64 + l) * 2 ^ s = (h * 2 ^ s + l / 2 ^ (64 - s)) * 2 ^ 64 + l * 2 ^ s % 2 ^ 64 := by
    have hp : 2 ^ 64 = 2 ^ s * 2 ^ (64 - s) := by rw [← Nat.pow_add]; congr 1; omega
    have e3 : l * 2 ^ s / 2 ^ 64 = l / 2 ^ (64 - s) := by
      rw [hp, Nat.mul_comm l, Nat.mul_div_mul_left _ _ (Nat.two_pow_pos s)]
    rw [← e3, Nat.add_mul, Nat.add_mul]
    have := Nat.div_add_mod (l * 2 ^ s) (2 ^ 64)
    rw [Nat.mul_right_comm h]
    omega
  rw [eU, eY, eL]
  have hNq : (h * 2 ^ 64 + l) / y = (h * 2 ^ 64 + l) * 2 ^ s / (y * 2 ^ s) := (Nat.mul_div_mul_right _ _ (Nat.two_pow_pos s)).symm
  have hNr : ((h * 2 ^ 64 + l) * 2 ^ s % (y * 2 ^ s)) / 2 ^ s = (h * 2 ^ 64 + l) % y := by
    rw [Nat.mul_mod_mul_right, Nat.mul_div_cancel _ (Nat.two_pow_pos s)]
  rw [hNq, ← hNr, eN]
  have hLlt : l * 2 ^ s % 2 ^ 64 < 2 ^ 64 := lo_lt _
  clear hNq hNr eN eL eU eY hle w1 w2 w3 c1 c2 c3 c4 c5 c6
  generalize hY : y * 2 ^ s = Y at *
  generalize h * 2 ^ s + l / 2 ^ (64 - s) = U at *
  generalize l * 2 ^ s % 2 ^ 64 = L at *
  simp only [shr32, and32 hLlt, and32 hys]
  have hyn1 : 2 ^ 31 ≤ Y / 2 ^ 32 := by omega
  have hyn1' : Y / 2 ^ 32 < 2 ^ 32 := by omega
  have hyn0 : Y % 2 ^ 32 < 2 ^ 32 := by omega
  have hYe : Y = Y / 2 ^ 32 * 2 ^ 32 + Y % 2 ^ 32 := by omega
  have cy : ¬ (((Y / 2 ^ 32 : Nat) : Int) = 0) := by omega
  simp only [cy, decide_false, cond_false, tdiv_nat]
  have hL1 : L / 2 ^ 32 < 2 ^ 32 := by omega
  have hL0 : L % 2 ^ 32 < 2 ^ 32 := by omega
  have first : ∀ u : Nat, u < Y → Wu64 ((u / (Y / 2 ^ 32) : Nat) : Int) = ((u / (Y / 2 ^ 32) : Nat) : Int) ∧ Wu64 ((u : Int) - Wu64 (((u / (Y / 2 ^ 32) : Nat) : Int) * ((Y / 2 ^ 32 : Nat) : Int))) = ((u % (Y / 2 ^ 32) : Nat) : Int) := by
    intro u hu
    have hle := Nat.div_le_self u (Y / 2 ^ 32)
    have hm := Nat.div_add_mod u (Y / 2 ^ 32)
    have hp : u / (Y / 2 ^ 32) * (Y / 2 ^ 32) ≤ u := Nat.div_mul_le_self _ _
    refine ⟨Wu64_lt (by omega), ?_⟩
    rw [← Int.natCast_mul, Wu64_lt (by omega), Wu64_sub hp]
    rw [Nat.mul_comm] at hm
    rw [Nat.mod_eq_of_lt (by omega)]
    omega
  have pre : ∀ u : Nat, u < Y → u / (Y / 2 ^ 32) * (Y / 2 ^ 32) + u % (Y / 2 ^ 32) = u ∧ u % (Y / 2 ^ 32) < 2 ^ 32 ∧ 2 ^ 32 ≤ u % (Y / 2 ^ 32) + 4 * (Y / 2 ^ 32) := by
    intro u hu
    have hm := Nat.div_add_mod u (Y / 2 ^ 32)
    have hr := Nat.mod_lt u (show 0 < Y / 2 ^ 32 by omega)
    rw [Nat.mul_comm]
    exact ⟨hm, by omega, by omega⟩
  obtain ⟨f1, f2⟩ := first U hhs
  obtain ⟨g1, g2, g3⟩ := pre U hhs
  rw [f1, f2, Div64_l0 k hYe hys hhs hL1 hyn0 hyn1 _ _ _ _ _ 4 k _ _ g1 (guess_ge hYe hL1 hyn1) g2 g3 (by omega)]
  -- the second digit
  have hYpos : 0 < Y := by omega
  have hdm := Nat.div_add_mod (U * 2 ^ 32 + L / 2 ^ 32) Y
  have hr1 := Nat.mod_lt (U * 2 ^ 32 + L / 2 ^ 32) hYpos
  have hq1 : (U * 2 ^ 32 + L / 2 ^ 32) / Y < 2 ^ 32 := by
    rw [Nat.div_lt_iff_lt_mul hYpos]
    have : (U + 1) * 2 ^ 32 ≤ Y * 2 ^ 32 := Nat.mul_le_mul_right _ hhs
    rw [Nat.mul_comm (2 ^ 32) Y]
    omega
  have e21 : Wu64 (Wu64 (Wu64 ((U : Int) * 4294967296) + ((L / 2 ^ 32 : Nat) : Int)) - Wu64 ((((U * 2 ^ 32 + L / 2 ^ 32) / Y : Nat) : Int) * (Y : Int))) = (((U * 2 ^ 32 + L / 2 ^ 32) % Y : Nat) : Int) := by
    have a1 : Wu64 (Wu64 ((U : Int) * 4294967296) + ((L / 2 ^ 32 : Nat) : Int)) = Wu64 ((U * 2 ^ 32 + L / 2 ^ 32 : Nat) : Int) := by
      rw [show (U : Int) * 4294967296 = ((U * 2 ^ 32 : Nat) : Int) from by omega, Wu64_nat, ← Int.natCast_add, Wu64_nat, Wu64_nat]
      omega
    rw [a1, ← Int.natCast_mul]
    refine Wu64_diff ?_ (by omega)
    rw [Nat.mul_comm (_ / Y)]; exact hdm.symm
  simp only [e21]
  obtain ⟨U1, hU1⟩ : ∃ x, x = (U * 2 ^ 32 + L / 2 ^ 32) % Y := ⟨_, rfl⟩
  obtain ⟨Q1, hQ1⟩ : ∃ x, x = (U * 2 ^ 32 + L / 2 ^ 32) / Y := ⟨_, rfl⟩
  simp only [← hU1, ← hQ1] at hdm hr1 hq1 ⊢
  obtain ⟨f1', f2'⟩ := first U1 hr1
  obtain ⟨g1', g2', g3'⟩ := pre U1 hr1
  simp only [tdiv_nat]
  rw [f1', f2', Div64_l1 k hYe hys hr1 hL0 hyn0 hyn1 _ _ _ _ _ 4 k _ _ g1' (guess_ge hYe hL0 hyn1) g2' g3' (by omega)]
  have c5 : ¬ ((s : Int) < 0) := by omega
  have hdm2 := Nat.div_add_mod (U1 * 2 ^ 32 + L % 2 ^ 32) Y
  have hr2 := Nat.mod_lt (U1 * 2 ^ 32 + L % 2 ^ 32) hYpos
  have hq2 : (U1 * 2 ^ 32 + L % 2 ^ 32) / Y < 2 ^ 32 := by
    rw [Nat.div_lt_iff_lt_mul hYpos]
    have : (U1 + 1) * 2 ^ 32 ≤ Y * 2 ^ 32 := Nat.mul_le_mul_right _ hr1
    rw [Nat.mul_comm (2 ^ 32) Y]
    omega
  have e22 : Wu64 (Wu64 (Wu64 ((U1 : Int) * 4294967296) + ((L % 2 ^ 32 : Nat) : Int)) - Wu64 ((((U1 * 2 ^ 32 + L % 2 ^ 32) / Y : Nat) : Int) * (Y : Int))) = (((U1 * 2 ^ 32 + L % 2 ^ 32) % Y : Nat) : Int) := by
    have a1 : Wu64 (Wu64 ((U1 : Int) * 4294967296) + ((L % 2 ^ 32 : Nat) : Int)) = Wu64 ((U1 * 2 ^ 32 + L % 2 ^ 32 : Nat) : Int) := by
      rw [show (U1 : Int) * 4294967296 = ((U1 * 2 ^ 32 : Nat) : Int) from by omega, Wu64_nat, ← Int.natCast_add, Wu64_nat, Wu64_nat]
      omega
    rw [a1, ← Int.natCast_mul]
    refine Wu64_diff ?_ (by omega)
    rw [Nat.mul_comm (_ / Y)]; exact hdm2.symm
  rw [e22]
  obtain ⟨U2, hU2⟩ : ∃ x, x = (U1 * 2 ^ 32 + L % 2 ^ 32) % Y := ⟨_, rfl⟩
  obtain ⟨Q2, hQ2⟩ : ∃ x, x = (U1 * 2 ^ 32 + L % 2 ^ 32) / Y := ⟨_, rfl⟩
  simp only [← hU2, ← hQ2] at hdm2 hr2 hq2 ⊢
  have hN : U * 2 ^ 64 + L = Y * (Q1 * 2 ^ 32 + Q2) + U2 := by
    have a2 : Y * (Q1 * 2 ^ 32 + Q2) = Y * Q1 * 2 ^ 32 + Y * Q2 := by rw [Nat.mul_add, Nat.mul_assoc]
    rw [a2]
    generalize Y * Q1 = p at *
    generalize Y * Q2 = q at *
    omega
  have eQ : (U * 2 ^ 64 + L) / Y = Q1 * 2 ^ 32 + Q2 := by
    rw [hN, Nat.mul_add_div hYpos, Nat.div_eq_of_lt hr2, Nat.add_zero]
  have eR : (U * 2 ^ 64 + L) % Y = U2 := by
    rw [hN, Nat.mul_add_mod, Nat.mod_eq_of_lt hr2]
  rw [eQ, eR]
  have w5 : Wu64 (Wu64 ((Q1 : Int) * 4294967296) + (Q2 : Int)) = ((Q1 * 2 ^ 32 + Q2 : Nat) : Int) := by
    rw [show (Q1 : Int) * 4294967296 = ((Q1 * 2 ^ 32 : Nat) : Int) from by omega, Wu64_lt (by omega), ← Int.natCast_add, Wu64_lt (by omega)]
  rw [w5, shr_nat U2 s (by omega)]

theorem Div_hl {R : Type} {k : Nat} (hk : 5000 ≤ k) {A b : Nat} (hA : A < 2 ^ 128) (hb : b < 2 ^ 64) (h0 : b ≠ 0) (K : Int → Int → Int → Option R) :
    wide_Div k (hi A) (lo A) (b : Int) K = K (hi (A / b)) (lo (A / b)) ((A % b : Nat) : Int) := by
  unfold wide_Div wide_DivT
  have c1 : ((b : Int) == 0) = false := by rw [beq_eq_false_iff_ne]; omega
  have c2 : ¬ ((b : Int) = 0) := by omega
  rw [c1]
  simp only [c2, decide_false, cond_false]
  have hb0 : 0 < b := by omega
  unfold hi lo
  simp only [tdiv_nat, tmod_nat]
  rw [Div64_nat hk (lo_lt A) hb (Nat.mod_lt _ hb0), Wu64_lt (Nat.lt_of_le_of_lt (Nat.div_le_self _ _) (hi_lt hA))]
  have hV := V_hl A
  unfold V at hV
  have hdm := Nat.div_add_mod (A / 2 ^ 64) b
  have e : A = b * (A / 2 ^ 64 / b * 2 ^ 64) + (A / 2 ^ 64 % b * 2 ^ 64 + A % 2 ^ 64) := by
    rw [← Nat.mul_assoc]
    conv => lhs; rw [← hV, ← hdm]
    rw [Nat.add_mul, Nat.add_assoc]
  have eq : A / b = A / 2 ^ 64 / b * 2 ^ 64 + (A / 2 ^ 64 % b * 2 ^ 64 + A % 2 ^ 64) / b := by
    conv => lhs; rw [e]
    rw [Nat.mul_add_div hb0]
  have er : A % b = (A / 2 ^ 64 % b * 2 ^ 64 + A % 2 ^ 64) % b := by
    conv => lhs; rw [e]
    rw [Nat.mul_add_mod]
  have hlt : (A / 2 ^ 64 % b * 2 ^ 64 + A % 2 ^ 64) / b < 2 ^ 64 := by
    rw [Nat.div_lt_iff_lt_mul hb0]
    have h1 : A / 2 ^ 64 % b < b := Nat.mod_lt _ hb0
    have h2 : (A / 2 ^ 64 % b + 1) * 2 ^ 64 ≤ b * 2 ^ 64 := Nat.mul_le_mul_right _ h1
    have h3 := lo_lt A
    rw [Nat.mul_comm (2 ^ 64) b]
    omega
  rw [eq, ← er]
  obtain ⟨q, hq⟩ : ∃ q, q = A / 2 ^ 64 / b := ⟨_, rfl⟩
  obtain ⟨r, hr⟩ : ∃ r, r = (A / 2 ^ 64 % b * 2 ^ 64 + A % 2 ^ 64) / b := ⟨_, rfl⟩
  rw [← hq, ← hr]
  rw [← hr] at hlt
  have e1 : (q * 2 ^ 64 + r) / 2 ^ 64 = q := by omega
  have e2 : (q * 2 ^ 64 + r) % 2 ^ 64 = r := by omega
  rw [e1, e2]

end Go.Proofs.Ytejfnbjhcohkiaa.N
