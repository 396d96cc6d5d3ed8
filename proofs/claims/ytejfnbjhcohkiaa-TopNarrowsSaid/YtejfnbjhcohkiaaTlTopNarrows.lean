/- The law TopNarrows, plain. Conditions: none. -/
import Derived.Test.YtejfnbjhcohkiaaMth1
import Derived.Test.YtejfnbjhcohkiaaNlawTopNarrows
namespace Go.Proofs.Ytejfnbjhcohkiaa.N
set_option linter.unusedVariables false
set_option linter.unusedSimpArgs false
open Go Go.Ab

theorem tWiden_k {R : Type} (k : Nat) {a : Nat} (ha : a < 2 ^ 64) (K : Int → Option R) : conv_Widen k (a : Int) K = K ((TurnS 1 0 0 a : Nat) : Int) := by
  unfold conv_Widen conv_WidenT; rw [cturned_k k 1 0 0 ha]
theorem tNarrow_k {R : Type} (k : Nat) (m : Int) {a : Nat} (ha : a < 2 ^ 64) (K : Int → Option R) : conv_Narrow k m (a : Int) K = K ((TurnS 0 1 m a : Nat) : Int) := by
  unfold conv_Narrow conv_NarrowT; rw [cturned_k k 0 1 m ha]

theorem Rd_nil' (f m : Int) (s : Bool) (e : Int) : Rd f m s 0 e false = sg f s := by unfold Rd; rw [if_pos ⟨rfl, rfl⟩]

/-- Near: the sign plays no part. -/
theorem Rd_near (f : Int) (s : Bool) (N : Nat) (e : Int) (r : Bool) : Rd f 0 s N e r = sg f s + Rd f 0 false N e r := by
  have hm : ∀ o h r, more 0 s o h r = more 0 false o h r := fun o h r => by unfold more; rfl
  have z : sg f false = 0 := rfl
  unfold Rd
  split
  · rw [z, Nat.add_zero]
  · unfold enc gOf clip
    rw [hm, hm, z, Nat.zero_add]

/-- A Single's worth as a Double. -/
def wd (x : Nat) : Nat := if x = fI 1 then fI 0 else if x = 0 then 0 else Rd 0 0 false (nG 1 x) (eG 1 x) false

theorem wd_le (x : Nat) : wd x ≤ fI 0 := by
  unfold wd
  split
  · exact Nat.le_refl _
  · split
    · exact Nat.zero_le _
    · obtain ⟨y, y1, y2⟩ := Rd_form 0 0 false (nG 1 x) (eG 1 x) false
      rw [y2, show sg 0 false = 0 from rfl]; omega

theorem widen_sg (s : Bool) {x : Nat} (hx : x ≤ fI 1) : TurnS 1 0 0 (sg 1 s + x) = sg 0 s + wd x := by
  unfold wd TurnS
  by_cases c1 : x = fI 1
  · have i := sgI (f := 1) s
    rw [if_pos c1, c1, i.1, i.2, if_neg (by decide), if_pos rfl]
  · rw [if_neg c1]
    by_cases c2 : x = 0
    · have i := sg0 (f := 1) s
      rw [if_pos c2, c2, Nat.add_zero, i.1, i.2, if_neg (by decide), if_neg (by decide), (nn_zero (by rw [i.1]; decide)).1, Rd_nil', Nat.add_zero]
    · have p := sgp (f := 1) s (x := x) (by omega) (by omega)
      have e : e2 1 (sg 1 s + x) = eG 1 x := by unfold e2; rw [if_pos p.1, p.2.2.2]
      rw [if_neg c2, p.1, p.2.1, p.2.2.1, e, if_neg (by decide), if_neg (by decide), Rd_near]

/-- A Double between its Singles: by what they are worth. -/
theorem between {N : Nat} {e : Int} (h0 : 0 < N) (he : -1074 ≤ e) (hd : e ≤ lastOf 1 N e) {g : Nat} (hg : g = Rd 0 0 false N e false) :
    ∃ x u, x ≤ fI 1 ∧ u ≤ fI 1 ∧ Rd 1 2 false N e false = sg 1 false + x ∧ Rd 1 1 false N e false = sg 1 false + u ∧ wd x ≤ g ∧ g ≤ wd u := by
  obtain ⟨x, x1, x2, x3⟩ := down_le (f := 1) (rest := false) h0 (show -3000 ≤ e by omega) hd
  obtain ⟨u, u1, u2, u3⟩ := up_ge (f := 1) (rest := false) h0 (show -3000 ≤ e by omega) hd
  refine ⟨x, u, by omega, u1, x2, u2, ?_, ?_⟩
  · unfold wd
    rw [if_neg (by omega)]
    split
    · exact Nat.zero_le _
    · have b := eG_bnd 1 x1
      have bl := (fmt_le 1).2.2.2.2.2.1
      rw [hg]
      exact Rd_le 0 0 false (by omega) (by omega) x3
  · unfold wd
    obtain ⟨y, y1, y2⟩ := Rd_form 0 0 false N e false
    by_cases c : u = fI 1
    · rw [if_pos c, hg, y2, show sg 0 false = 0 from rfl]; omega
    · have hu := u3 (by omega)
      rw [Bool.toNat_false, Nat.add_zero] at hu
      have u0 : u ≠ 0 := by
        intro q
        have v0 : vG 1 u = 0 := by rw [q]; unfold vG sc nG; rw [if_pos (fP_pos 1), Nat.zero_mul]
        have : 0 < sc N e := Nat.mul_pos h0 (Nat.two_pow_pos _)
        omega
      have b := eG_bnd 1 (show u < fI 1 by omega)
      have bl := (fmt_le 1).2.2.2.2.2.1
      rw [if_neg c, if_neg u0, hg]
      exact Rd_le 0 0 false (by omega) (by omega) hu

theorem rank_sg' {f : Int} (s : Bool) {x : Nat} (h : x ≤ fI f) : rank f (sg f s + x) = (if s then -((x : Nat) : Int) else ((x : Nat) : Int)) ∧ kd f (sg f s + x) ≠ 0 := by
  have hB := (fB_double f).2
  have hg := gg_sg (f := f) s (x := x) (by omega)
  constructor
  · unfold rank; rw [hg.1, hg.2.1]
  · rw [kd_sg s (by omega), if_neg (by omega)]
    split
    · decide
    · split <;> decide

theorem NotS_sg {f : Int} (s : Bool) {x y : Nat} (hx : x ≤ fI f) (hy : y ≤ fI f) (h : if s = true then y ≤ x else x ≤ y) : NotS f (sg f s + x) (sg f s + y) = true := by
  obtain ⟨a1, a2⟩ := rank_sg' s hx
  obtain ⟨b1, b2⟩ := rank_sg' s hy
  unfold NotS
  refine decide_eq_true ⟨a2, b2, ?_⟩
  rw [a1, b1]
  cases s with
  | true => simp only [if_true] at h ⊢; omega
  | false => simp only [Bool.false_eq_true, if_false] at h ⊢; omega

theorem near_one (s : Bool) (N : Nat) (e : Int) : Rd 1 0 s N e false = Rd 1 2 s N e false ∨ Rd 1 0 s N e false = Rd 1 1 s N e false := by
  unfold Rd
  split
  · exact .inl rfl
  · unfold enc gOf
    cases s with
    | false =>
      obtain ⟨x, u, n, h1, h2, h3, h4, h5, h6, h7⟩ := clip_pos 1 ((lastOf 1 N e - fL 1).toNat * 2 ^ fP 1 + qd N (lastOf 1 N e - e)) (qd N (lastOf 1 N e - e) % 2 == 1) (hd N (lastOf 1 N e - e)) (false || rs N (lastOf 1 N e - e))
      rw [h4, h5, h6]
      rcases h3 with h | h
      · exact .inr (by rw [h])
      · exact .inl (by rw [h])
    | true =>
      obtain ⟨x, u, n, h1, h2, h3, h4, h5, h6, h7⟩ := clip_neg 1 ((lastOf 1 N e - fL 1).toNat * 2 ^ fP 1 + qd N (lastOf 1 N e - e)) (qd N (lastOf 1 N e - e) % 2 == 1) (hd N (lastOf 1 N e - e)) (false || rs N (lastOf 1 N e - e))
      rw [h4, h5, h6]
      rcases h3 with h | h
      · exact .inl (by rw [h])
      · exact .inr (by rw [h])

theorem narrows {a : Nat} (ha : a < 2 ^ 64) (h : kd 0 a ≠ 0) : NotS 0 (TurnS 1 0 0 (TurnS 0 1 2 a)) a = true ∧ NotS 0 a (TurnS 1 0 0 (TurnS 0 1 1 a)) = true ∧ (TurnS 0 1 0 a = TurnS 0 1 2 a ∨ TurnS 0 1 0 a = TurnS 0 1 1 a) := by
  have hb := bad_of_kd h
  have hp := parts_of ha hb
  have gI : gg 0 a ≤ fI 0 := gg_le_of_kd h
  have same : ∀ x ≤ fI 1, (∀ m, TurnS 0 1 m a = sg 1 (bw 0 a) + x) → wd x = gg 0 a → NotS 0 (TurnS 1 0 0 (TurnS 0 1 2 a)) a = true ∧ NotS 0 a (TurnS 1 0 0 (TurnS 0 1 1 a)) = true ∧ (TurnS 0 1 0 a = TurnS 0 1 2 a ∨ TurnS 0 1 0 a = TurnS 0 1 1 a) := by
    intro x hx hT hw
    have hW := widen_sg (bw 0 a) hx
    rw [hw, ← hp] at hW
    rw [hT, hT, hT, hW]
    have hn : NotS 0 a a = true := by unfold NotS; exact decide_eq_true ⟨h, h, Int.le_refl _⟩
    exact ⟨hn, hn, .inl rfl⟩
  rcases kd_vals 0 a with k | k | k | k
  · exact absurd k h
  · refine same (fI 1) (Nat.le_refl _) (fun m => ?_) ?_
    · unfold TurnS; rw [if_neg h, if_pos k]
    · unfold wd; rw [if_pos rfl, gg_I k]
  · refine same 0 (Nat.zero_le _) (fun m => ?_) ?_
    · unfold TurnS; rw [if_neg h, if_neg (by omega), (nn_zero (by omega)).1, Rd_nil', Nat.add_zero]
    · have hI : fI 1 ≠ 0 := by decide
      unfold wd; rw [if_neg (fun q => hI q.symm), if_pos rfl, kd2 k]
  · have nb := nn_bounds k
    have hL : fL 0 = -1074 := rfl
    have hT : ∀ m, TurnS 0 1 m a = Rd 1 m (bw 0 a) (nn 0 a) (ee 0 a) false := by
      intro m
      have e : e2 0 a = ee 0 a := by unfold e2; rw [if_pos k]
      unfold TurnS; rw [if_neg h, if_neg (by omega), e]
    have hself := Rd_self (f := 0) 0 ha k
    rw [Rd_near] at hself
    have hg : gg 0 a = Rd 0 0 false (nn 0 a) (ee 0 a) false := by
      have : sg 0 (bw 0 a) + Rd 0 0 false (nn 0 a) (ee 0 a) false = sg 0 (bw 0 a) + gg 0 a := hself.trans hp
      omega
    have hlast : ee 0 a ≤ lastOf 1 (nn 0 a) (ee 0 a) := by
      unfold lastOf
      have hP : fP 1 = 23 := rfl
      have hL1 : fL 1 = -149 := rfl
      rw [hP, hL1]
      by_cases c : fL 0 < ee 0 a
      · have := ee_norm k (Int.le_refl _) c
        have hP0 : fP 0 = 52 := rfl
        rw [hP0] at this
        have hbl : 53 ≤ bl (nn 0 a) := by
          refine Nat.le_of_not_lt fun q => ?_
          have : nn 0 a < 2 ^ 52 := bl_le_iff.1 (by omega)
          omega
        omega
      · omega
    obtain ⟨x, u, hx, hu, e1, e2', e3, e4⟩ := between (N := nn 0 a) (e := ee 0 a) nb.1 (by omega) hlast hg
    have nr := near_one (bw 0 a) (nn 0 a) (ee 0 a)
    rw [hT, hT, hT]
    refine ⟨?_, ?_, nr⟩
    · cases hs : bw 0 a with
      | false =>
        rw [e1, widen_sg false hx]
        rw [hs] at hp
        rw [hp]
        exact NotS_sg false (wd_le x) gI (by simpa using e3)
      | true =>
        obtain ⟨y, y1, y2, y3⟩ := Rd_flip 1 false (nn 0 a) (ee 0 a) false
        rw [Bool.not_false] at y3
        have : y = u := by rw [y2] at e2'; omega
        subst this
        rw [y3, widen_sg true hu]
        rw [hs] at hp
        rw [hp]
        exact NotS_sg true (wd_le y) gI (by simpa using e4)
    · cases hs : bw 0 a with
      | false =>
        rw [e2', widen_sg false hu]
        rw [hs] at hp
        rw [hp]
        exact NotS_sg false gI (wd_le u) (by simpa using e4)
      | true =>
        obtain ⟨y, y1, y2, y3⟩ := Rd_flip 1 true (nn 0 a) (ee 0 a) false
        rw [Bool.not_true] at y3
        have : y = x := by rw [y3] at e1; omega
        subst this
        rw [y2, widen_sg true hx]
        rw [hs] at hp
        rw [hp]
        exact NotS_sg true gI (wd_le y) (by simpa using e3)

theorem TopNarrows_pure : ∀ (y0 : Tup [.i .u64]), wfs (Tup.all [.i .u64] y0) → ∃ k, plumblinetop_TopNarrows k (y0) (fun q => some q) = some true := by
  intro a h0
  obtain ⟨a, rfl, ha⟩ := u64_nat h0.1
  refine ⟨5000, ?_⟩
  have hk : 5000 ≤ 5000 := Nat.le_refl _
  have d1 : TurnS 1 0 0 1065353216 = 4607182418800017408 := by decide +kernel
  have hW : ∀ J : Int → Option Bool, conv_Widen 5000 1065353216 J = J ((4607182418800017408 : Nat) : Int) := fun J => (tWiden_k (R := Bool) 5000 (a := 1065353216) (by decide) J).trans (by rw [d1])
  have q1 : (((4607182418800017408 : Nat) : Int) == 4607182418800017408) = true := by decide
  have c5 : (ClassS 0 a == 5) = decide (kd 0 a = 0) := by
    have hb : bad 0 a = false := decide_eq_false (fun q => by omega)
    unfold ClassS
    rw [hb, if_neg (by decide)]
    by_cases c : kd 0 a = 0
    · rw [if_pos c, decide_eq_true c]; rfl
    · rw [if_neg c, decide_eq_false c]
      split
      · rfl
      · split
        · rfl
        · split <;> rfl
  unfold plumblinetop_TopNarrows plumblinetop_TopNarrowsT
  rw [Class_k _ 0 ha, c5]
  by_cases c : kd 0 a = 0
  · rw [decide_eq_true c, cond_true, hW, q1]
  · obtain ⟨n1, n2, n3⟩ := narrows ha c
    have t := fun m => TurnS_lt 0 1 m a
    have w1 := TurnS_lt 1 0 0 (TurnS 0 1 2 a)
    have w2 := TurnS_lt 1 0 0 (TurnS 0 1 1 a)
    rw [decide_eq_false c, cond_false, tNarrow_k _ 2 ha, tNarrow_k _ 1 ha, tNarrow_k _ 0 ha, tWiden_k _ (t 2), not_k _ 0 w1 ha, n1, cond_true, tWiden_k _ (t 1), not_k _ 0 ha w2, n2, cond_true]
    by_cases e : TurnS 0 1 0 a = TurnS 0 1 2 a
    · have : (((TurnS 0 1 0 a : Nat) : Int) == ((TurnS 0 1 2 a : Nat) : Int)) = true := by rw [beq_iff_eq, e]
      rw [this, cond_true, hW, q1]
    · have e' : TurnS 0 1 0 a = TurnS 0 1 1 a := n3.resolve_left e
      have h1 : (((TurnS 0 1 0 a : Nat) : Int) == ((TurnS 0 1 2 a : Nat) : Int)) = false := by rw [beq_eq_false_iff_ne]; omega
      have h2 : (((TurnS 0 1 0 a : Nat) : Int) == ((TurnS 0 1 1 a : Nat) : Int)) = true := by rw [beq_iff_eq, e']
      rw [h1, cond_false, h2, cond_true, hW, q1]

end Go.Proofs.Ytejfnbjhcohkiaa.N
