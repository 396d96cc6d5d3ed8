/- The law TopInts, plain. Conditions: none. -/
import Derived.Test.YtejfnbjhcohkiaaMt
import Derived.Test.YtejfnbjhcohkiaaMth1
import Derived.Test.YtejfnbjhcohkiaaNlawTopInts
namespace Go.Proofs.Ytejfnbjhcohkiaa.N
set_option linter.unusedVariables false
set_option linter.unusedSimpArgs false
open Go Go.Ab

theorem ToS_int {w : Int} (h : w.natAbs < 2 ^ 53) : ToS 0 (intF w) = if -2147483648 ≤ w ∧ w ≤ 2147483647 then (w, true) else (0, false) := by
  rcases intF_parts h with ⟨a0, a1, a2, a3, a4⟩ | ⟨a0, a1, a2, j, a3, a4, a5⟩
  · have t : truncN 0 (intF w) = 0 := by
      unfold truncN
      rw [a4]
      split
      · rw [Nat.zero_div]
      · rw [Nat.zero_mul]
    unfold ToS
    rw [a2, a3, t, if_neg (by decide), if_neg (by decide), if_neg (by decide), if_pos (by omega), a0]; rfl
  · have e : e2 0 (intF w) = -(j : Int) := by unfold e2; rw [if_pos a1, a5]
    have t : truncN 0 (intF w) = w.natAbs := by
      unfold truncN
      rw [e, if_pos (by omega), show (-(-(j : Int))).toNat = j by omega, a4, Nat.mul_div_cancel _ (Nat.two_pow_pos _)]
    unfold ToS
    rw [a1, a2, t, if_neg (by decide)]
    by_cases c : w < 0
    · rw [decide_eq_true c]
      by_cases g : -2147483648 ≤ w ∧ w ≤ 2147483647
      · rw [if_neg (fun q => q.elim (by omega) (fun q => by cases q.2)), if_pos rfl, if_pos g]
        congr 1; omega
      · rw [if_pos (.inl (by omega)), if_neg g]
    · rw [decide_eq_false c]
      by_cases g : -2147483648 ≤ w ∧ w ≤ 2147483647
      · rw [if_neg (fun q => q.elim (by omega) (fun q => by omega)), if_neg (by decide), if_pos g]
        congr 1; omega
      · have : 2 ^ 31 < w.natAbs ∨ (w.natAbs = 2 ^ 31 ∧ false = false) := by
          by_cases q : w.natAbs = 2 ^ 31
          · exact .inr ⟨q, rfl⟩
          · exact .inl (by omega)
        rw [if_pos this, if_neg g]

theorem ToS_sg (s : Bool) : ToS 0 (sg 0 s) = (0, true) := by
  have p := sg0 (f := 0) s
  have t : truncN 0 (sg 0 s) = 0 := by
    unfold truncN
    rw [(nn_zero (by rw [p.1]; decide)).1]
    split
    · rw [Nat.zero_div]
    · rw [Nat.zero_mul]
  unfold ToS
  rw [p.1, t, if_neg (by decide), if_neg (fun q => q.elim (by decide) (fun q => absurd q.1 (by decide)))]
  split <;> rfl

theorem Plain_int {w : Int} (h : w.natAbs < 2 ^ 53) : PlainS 0 (intF w) = intF w := by
  rcases intF_parts h with ⟨a0, a1, a2, a3, a4⟩ | ⟨a0, a1, a2, j, a3, a4, a5⟩
  · unfold PlainS; rw [if_neg (by omega), if_pos a2, a1]
  · exact Plain3 a1

theorem intF_zero : intF 0 = 0 := by unfold intF; rw [show (0 : Int).natAbs = 0 from rfl, Rd_nilF]; rfl

/-- A number, and what it should be. -/
def Fits (l : Nat) (w : Int) : Prop := l < 2 ^ 64 ∧ w.natAbs < 2 ^ 53 ∧ ToS 0 l = (if -2147483648 ≤ w ∧ w ≤ 2147483647 then (w, true) else (0, false)) ∧ PlainS 0 l = intF w

theorem fits_int {w : Int} (h : w.natAbs < 2 ^ 53) : Fits (intF w) w := ⟨intF_lt w, h, ToS_int h, Plain_int h⟩

theorem fits_zero (s : Bool) : Fits (sg 0 s) 0 := by
  have p := sg0 (f := 0) s
  refine ⟨?_, by decide, ?_, ?_⟩
  · have := sg_le 0 s; have := fB_le 0; omega
  · rw [ToS_sg]; rfl
  · unfold PlainS; rw [p.1, if_neg (by decide), if_pos rfl, intF_zero]

theorem ints_step {R : Type} (k fu : Nat) (K0 : Bool → Option R) (K1 : Option R) {i : Nat} (hi : i < 3) {x2 x3 : List Int} (n2 : x2.length = 3) (n3 : x3.length = 3) {l : Nat} {w : Int}
    (h2 : x2[i]? = some ((l : Nat) : Int)) (h3 : x3[i]? = some w) (hF : Fits l w) :
    plumblinetop_TopInts_l0 k (fu + 1) (i : Int) x2 x3 K0 K1 = plumblinetop_TopInts_l0 k fu ((i + 1 : Nat) : Int) x2 x3 K0 K1 := by
  obtain ⟨f1, f2, f3, f4⟩ := hF
  have hFI := fun J => cFromInt_k (R := R) k 0 0 (n := w) (by omega) J
  have hPl := fun J => cPlain_k (R := R) k 0 f1 J
  have hTo := fun J => cToInt_k (R := R) k 0 f1 J
  have e0 : decide ((0 : Int) ≤ (i : Int)) = true := decide_eq_true (by omega)
  have e3 : decide ((i : Int) < ((3 : Nat) : Int)) = true := decide_eq_true (by omega)
  have fin : (conv_Plain k 0 ((l : Nat) : Int) (fun yr8 => cond (decide ((0 : Int) ≤ (i : Int))) (cond (decide ((i : Int) < (((List.length x3) : Nat) : Int)))
      (Option.bind (x3[(Int.toNat (i : Int))]?) fun ye9 => conv_FromInt k 0 0 ye9 (fun yr10 => cond (yr8 != yr10) (K0 false) (plumblinetop_TopInts_l0 k fu (Wi64 ((i : Int) + 1)) x2 x3 K0 K1))) none) none)) =
      plumblinetop_TopInts_l0 k fu ((i + 1 : Nat) : Int) x2 x3 K0 K1 := by
    rw [hPl, e0, cond_true, n3, e3, cond_true, Int.toNat_natCast, h3, Option.bind_some, hFI, f4]
    have : (((intF w : Nat) : Int) != ((FromS 0 0 w : Nat) : Int)) = false := by
      have : intF w = FromS 0 0 w := rfl
      rw [this]; simp
    rw [this, cond_false, Wi64_succ (by omega)]
  rw [plumblinetop_TopInts_l0, plumblinetop_TopInts_l0B]
  rw [decide_eq_true (show (i : Int) < 3 by omega), cond_true, e0, cond_true, n2, e3, cond_true, Int.toNat_natCast, h2, Option.bind_some, hTo, cond_true, n3, e3, cond_true, h3, Option.bind_some, f3]
  rw [n3, Int.toNat_natCast, e0, e3, h3] at fin
  by_cases c1 : w ≥ -2147483648
  · rw [decide_eq_true c1, cond_true, cond_true, cond_true, Option.bind_some]
    by_cases c2 : w ≤ 2147483647
    · rw [if_pos ⟨c1, c2⟩, decide_eq_true c2]
      dsimp only
      rw [show (!(true == true)) = false from rfl, cond_false, cond_true, cond_true, cond_true, Option.bind_some]
      have : (w != w) = false := by simp
      rw [this, cond_false, cond_true, cond_true, Option.bind_some]
      exact fin
    · rw [if_neg (fun q => c2 q.2), decide_eq_false c2]
      dsimp only
      rw [show (!(false == false)) = false from rfl, cond_false, cond_false, cond_true, cond_true, Option.bind_some]
      exact fin
  · rw [decide_eq_false c1, cond_false, if_neg (fun q => c1 q.1)]
    dsimp only
    rw [show (!(false == false)) = false from rfl, cond_false, cond_true, cond_true, Option.bind_some]
    exact fin

theorem i32_wf' {n : Int} (hn : (Lit.int .i32 n).wf = true) : -2147483648 ≤ n ∧ n ≤ 2147483647 := by
  simp only [Lit.wf, Bool.and_eq_true, decide_eq_true_eq] at hn
  have e1 : IntKind.i32.min = -2147483648 := by decide
  have e2 : IntKind.i32.max = 2147483647 := by decide
  rw [e1, e2] at hn
  exact hn

theorem w16_bnd (x : Int) : -32768 ≤ Wi16 x ∧ Wi16 x ≤ 32767 := by
  unfold Wi16
  have e1 : IntKind.bits .i16 = 16 := rfl
  simp only [IntKind.wrap, IntKind.signed, e1]
  simp
  omega

theorem TopInts_pure : ∀ (y0 : Tup [.i .i32]) (y1 : Tup [.i .i32]), wfs (Tup.all [.i .i32] y0) → wfs (Tup.all [.i .i32] y1) → ∃ k, plumblinetop_TopInts k (y0) (y1) (fun q => some q) = some true := by
  intro (a : Int) (b : Int) h0 h1
  have ha := i32_wf' h0.1
  have hb := i32_wf' h1.1
  refine ⟨5000, ?_⟩
  have wa : Wi64 a = a := wrap_i64 (by omega) (by omega)
  have wb : Wi64 b = b := wrap_i64 (by omega) (by omega)
  obtain ⟨p, hp⟩ : ∃ p, p = Wi16 a := ⟨_, rfl⟩
  obtain ⟨q, hq⟩ : ∃ q, q = Wi16 b := ⟨_, rfl⟩
  have bp := w16_bnd a
  have bq := w16_bnd b
  rw [← hp] at bp
  rw [← hq] at bq
  have wp : Wi64 p = p := wrap_i64 (by omega) (by omega)
  have wq : Wi64 q = q := wrap_i64 (by omega) (by omega)
  have hm : (p * q).natAbs ≤ 2 ^ 15 * 2 ^ 15 := by rw [Int.natAbs_mul]; exact Nat.mul_le_mul (by omega) (by omega)
  have s1 : Wi64 (a + b) = a + b := wrap_i64 (by omega) (by omega)
  have s2 : Wi64 (a - b) = a - b := wrap_i64 (by omega) (by omega)
  have s3 : Wi64 (p * q) = p * q := wrap_i64 (by omega) (by omega)
  have F : ∀ (n : Int), -9223372036854775808 ≤ n ∧ n ≤ 9223372036854775807 → ∀ J : Int → Option Bool, conv_FromInt 5000 0 0 n J = J ((intF n : Nat) : Int) := fun n hn J => cFromInt_k (R := Bool) 5000 0 0 hn J
  have f1 := fits_int (w := a + b) (by omega)
  have f2 := fits_int (w := a - b) (by omega)
  have f3 : Fits (MulS 0 0 (intF p) (intF q)) (p * q) := by
    rcases mul_int (a := p) (b := q) (by omega) (by omega) with h | ⟨h, s, h'⟩
    · rw [h]; exact fits_int (by omega)
    · rw [h, h']; exact fits_zero s
  unfold plumblinetop_TopInts plumblinetop_TopIntsT
  rw [wa, wb, ← hp, ← hq, wp, wq, s1, s2, s3, F a (by omega), F b (by omega), Add_k 0 0 (intF_lt a) (intF_lt b), add_int (by omega) (by omega),
    Sub_k 0 0 (intF_lt a) (intF_lt b) (Neg_lt 0 (intF_lt b)), sub_int (by omega) (by omega), F p (by omega), F q (by omega), Mul_k _ 0 0 (intF_lt p) (intF_lt q)]
  have t0 := fun K0 K1 => ints_step (R := Bool) 5000 4999 K0 K1 (i := 0) (by decide) (x2 := [((intF (a + b) : Nat) : Int), ((intF (a - b) : Nat) : Int), ((MulS 0 0 (intF p) (intF q) : Nat) : Int)]) (x3 := [a + b, a - b, p * q]) rfl rfl rfl rfl f1
  have t1 := fun K0 K1 => ints_step (R := Bool) 5000 4998 K0 K1 (i := 1) (by decide) (x2 := [((intF (a + b) : Nat) : Int), ((intF (a - b) : Nat) : Int), ((MulS 0 0 (intF p) (intF q) : Nat) : Int)]) (x3 := [a + b, a - b, p * q]) rfl rfl rfl rfl f2
  have t2 := fun K0 K1 => ints_step (R := Bool) 5000 4997 K0 K1 (i := 2) (by decide) (x2 := [((intF (a + b) : Nat) : Int), ((intF (a - b) : Nat) : Int), ((MulS 0 0 (intF p) (intF q) : Nat) : Int)]) (x3 := [a + b, a - b, p * q]) rfl rfl rfl rfl f3
  refine (t0 _ _).trans ((t1 _ _).trans ((t2 _ _).trans ?_))
  rw [plumblinetop_TopInts_l0, plumblinetop_TopInts_l0B, decide_eq_false (by decide), cond_false]

end Go.Proofs.Ytejfnbjhcohkiaa.N
