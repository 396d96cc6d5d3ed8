/- The law ConvInts, plain. Conditions: none. -/
import Derived.Test.YtelifkahdhhmoaaMth1
import Derived.Test.YtelifkahdhhmoaaNlawConvInts
namespace Go.Proofs.Ytelifkahdhhmoaa.N
set_option linter.unusedVariables false
set_option linter.unusedSimpArgs false
open Go Go.Ab

theorem ints_loop {R : Type} {k : Nat} (hk : 5000 ≤ k) (f : Int) {n : Int} (hn : -9223372036854775808 ≤ n ∧ n ≤ 9223372036854775807) (x4 : Int) (x5 : Bool) (x6 : Int) (x7 : Bool) (K0 : Bool → Option R) (K1 : Option R) : ∀ (d fu i : Nat), d + i = 4 → d < fu →
    plumblinelaw03_ConvInts_l0 k fu f n (fm f) x4 x5 x6 x7 (i : Int) K0 K1 = K1
  | d, 0, i, h1, h2 => by omega
  | 0, fu + 1, i, h1, h2 => by
    rw [plumblinelaw03_ConvInts_l0, plumblinelaw03_ConvInts_l0B, decide_eq_false (by omega), cond_false]
  | d + 1, fu + 1, i, h1, h2 => by
    rw [plumblinelaw03_ConvInts_l0, plumblinelaw03_ConvInts_l0B, decide_eq_true (by omega), cond_true, cFromInt_k k f _ hn, rFromInt_k hk (fm f) _ hn, FromS_fm]
    have : (((FromS f (i : Int) n : Nat) : Int) != ((FromS f (i : Int) n : Nat) : Int)) = false := by simp
    rw [this, cond_false, Wi64_succ (by omega)]
    exact ints_loop hk f hn x4 x5 x6 x7 K0 K1 d fu (i + 1) (by omega) (by omega)

theorem ConvInts_pure : ∀ (y0 : Tup [.i .i64]) (y1 : Tup [.i .i64]) (y2 : Tup [.i .u64]), wfs (Tup.all [.i .i64] y0) → wfs (Tup.all [.i .i64] y1) → wfs (Tup.all [.i .u64] y2) → ∃ k, plumblinelaw03_ConvInts k (y0) (y1) (y2) (fun q => some q) = some true := by
  intro (f : Int) (n : Int) a h0 h1 h2
  obtain ⟨a, rfl, ha⟩ := u64_nat h2.1
  refine ⟨5000, ?_⟩
  have hk : 5000 ≤ 5000 := Nat.le_refl _
  have hl := fun x4 x5 x6 x7 K0 K1 => ints_loop (R := Bool) hk f (i64_wf h1.1) x4 x5 x6 x7 K0 K1 4 5000 0 (by decide) (by decide)
  unfold plumblinelaw03_ConvInts plumblinelaw03_ConvIntsT
  rw [cformat_k, cToInt_k _ f ha, rToInt_k hk (fm f) ha, ToS_fm]
  refine (hl _ _ _ _ _ _).trans ?_
  rw [clive_k hk, cond_true, beq_self_eq_true, cond_true, beq_self_eq_true]

end Go.Proofs.Ytelifkahdhhmoaa.N
