/- The law ConvHexes, plain. Conditions: none. -/
import Derived.Test.YtelifkahdhhmoaaMth1
import Derived.Test.YtelifkahdhhmoaaNlawConvHexes
namespace Go.Proofs.Ytelifkahdhhmoaa.N
set_option linter.unusedVariables false
set_option linter.unusedSimpArgs false
open Go Go.Ab

theorem hex_inj {n a b : Nat} (ha : a < 2 ^ (4 * n)) (hb : b < 2 ^ (4 * n)) (h : bytesOf (tabI n fun j => hexd (a / 2 ^ (4 * (n - 1 - j)) % 16)) = bytesOf (tabI n fun j => hexd (b / 2 ^ (4 * (n - 1 - j)) % 16))) : a = b := by
  have hm : ∀ x : Nat, ∀ c ∈ tabI n (fun j => hexd (x / 2 ^ (4 * (n - 1 - j)) % 16)), 0 ≤ c ∧ c < 256 := by
    intro x c hc
    simp only [tabI, List.mem_map] at hc
    obtain ⟨j, _, rfl⟩ := hc
    exact hexd_bnd (Nat.mod_lt _ (by decide))
  have h2 := bytesOf_inj (hm a) (hm b) h
  apply Nat.eq_of_testBit_eq
  intro t
  by_cases c : t / 4 < n
  · have h3 := congrArg (fun l : List Int => l[n - 1 - t / 4]?) h2
    simp only [tabI_get] at h3
    rw [if_pos (by omega), if_pos (by omega), Option.some.injEq, show n - 1 - (n - 1 - t / 4) = t / 4 by omega] at h3
    have h4 := hexd_inj (Nat.mod_lt _ (by decide)) (Nat.mod_lt _ (by decide)) h3
    have h5 := congrArg (fun x : Nat => x.testBit (t % 4)) h4
    have e16 : (16 : Nat) = 2 ^ 4 := by decide
    simp only [e16, Nat.testBit_mod_two_pow, Nat.testBit_div_two_pow] at h5
    have e1 : decide (t % 4 < 4) = true := decide_eq_true (by omega)
    have e2 : t % 4 + 4 * (t / 4) = t := by omega
    have e3 : 4 * (t / 4) + t % 4 = t := by omega
    simpa only [e1, Bool.true_and, e2, e3] using h5
  · have e : 2 ^ (4 * n) ≤ 2 ^ t := Nat.pow_le_pow_right (by decide) (by omega)
    rw [Nat.testBit_lt_two_pow (Nat.lt_of_lt_of_le ha e), Nat.testBit_lt_two_pow (Nat.lt_of_lt_of_le hb e)]

theorem hexes {f : Int} {n a b : Nat} (hn : n = if f = 1 then 8 else 16) (ha : a < 2 ^ (4 * n)) (hb : b < 2 ^ (4 * n)) (h1 : bad f a = false) (h2 : bad f b = false) :
    ((ByteArray.toList (HexS f a) == ByteArray.toList (HexS f b)) == ((a : Int) == (b : Int))) = true ∧ (HexS f a).size = n ∧ (HexS f b).size = n := by
  have e : ∀ x, bad f x = false → HexS f x = bytesOf (tabI n fun j => hexd (x / 2 ^ (4 * (n - 1 - j)) % 16)) := by
    intro x hx
    unfold HexS hexL
    rw [hx, if_neg (show ¬ (false = true) by decide), ← hn]
  rw [e a h1, e b h2, bytesOf_size, bytesOf_size, tabI_length, tabI_length]
  refine ⟨?_, rfl, rfl⟩
  rw [toList_beq]
  by_cases c : a = b
  · subst c; simp
  · have : ¬ bytesOf (tabI n fun j => hexd (a / 2 ^ (4 * (n - 1 - j)) % 16)) = bytesOf (tabI n fun j => hexd (b / 2 ^ (4 * (n - 1 - j)) % 16)) := fun q => c (hex_inj ha hb q)
    have e2 : ((a : Int) == (b : Int)) = false := by rw [beq_eq_false_iff_ne]; omega
    rw [decide_eq_false this, e2]; rfl

theorem ConvHexes_pure : ∀ (y0 : Tup [.i .i64]) (y1 : Tup [.i .u64]) (y2 : Tup [.i .u64]), wfs (Tup.all [.i .i64] y0) → wfs (Tup.all [.i .u64] y1) → wfs (Tup.all [.i .u64] y2) → ∃ k, plumblinelaw03_ConvHexes k (y0) (y1) (y2) (fun q => some q) = some true := by
  intro (f : Int) a b h0 h1 h2
  obtain ⟨a, rfl, ha⟩ := u64_nat h1.1
  obtain ⟨b, rfl, hb⟩ := u64_nat h2.1
  refine ⟨5000, ?_⟩
  have hk : 5000 ≤ 5000 := Nat.le_refl _
  unfold plumblinelaw03_ConvHexes plumblinelaw03_ConvHexesT
  rw [cformat_k]
  by_cases h : f = 1
  · have e : fm f = 1 := (fm_P f).2.2.2.2 h
    have ta : ∀ x : Nat, Int.tmod (x : Int) 4294967296 = ((x % 2 ^ 32 : Nat) : Int) := fun x => rfl
    have ma := Nat.mod_lt a (show 0 < 2 ^ 32 by decide)
    have mb := Nat.mod_lt b (show 0 < 2 ^ 32 by decide)
    have nb : ∀ x : Nat, x < 2 ^ 32 → bad 1 x = false := fun x hx => decide_eq_false (fun q => by omega)
    obtain ⟨q1, q2, q3⟩ := hexes (f := 1) (n := 8) rfl (a := a % 2 ^ 32) (b := b % 2 ^ 32) ma mb (nb _ ma) (nb _ mb)
    rw [e, show ((1 : Int) == 1) = true from rfl, cond_true, ta, ta, cHex_k hk 1 (by omega), cHex_k hk 1 (by omega), clive_k hk, cond_true, q1, cond_true, q2, q3]
    rfl
  · have e : fm f = 0 := by unfold fm; rw [if_neg h]
    obtain ⟨q1, q2, q3⟩ := hexes (f := 0) (n := 16) rfl (a := a) (b := b) ha hb rfl rfl
    rw [e, show ((0 : Int) == 1) = false from rfl, cond_false, cHex_k hk 0 ha, cHex_k hk 0 hb, clive_k hk, cond_true, q1, cond_true, q2, q3]
    rfl

end Go.Proofs.Ytelifkahdhhmoaa.N
