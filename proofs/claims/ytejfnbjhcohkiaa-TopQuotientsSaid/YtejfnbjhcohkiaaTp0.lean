/- Laws through the layers: what they share. Conditions: none. -/
import Derived.Test.YtejfnbjhcohkiaaMt
import Derived.Test.YtejfnbjhcohkiaaMth1
import Derived.Test.YtejfnbjhcohkiaaNlaw
namespace Go.Proofs.Ytejfnbjhcohkiaa.N
set_option linter.unusedVariables false
set_option linter.unusedSimpArgs false
open Go Go.Ab

theorem tformat_k {R : Type} (k : Nat) (f : Int) (K : Int → Option R) : plumblinetop_format k f K = K (fm f) := by
  unfold plumblinetop_format plumblinetop_formatT fm
  by_cases h : f = 1
  · subst h; rfl
  · have : (f == 1) = false := by rw [beq_eq_false_iff_ne]; exact h
    rw [this, cond_false, if_neg h]

/-- Not above. -/
def NotS (f : Int) (a b : Nat) : Bool := decide (kd f a ≠ 0 ∧ kd f b ≠ 0 ∧ rank f a ≤ rank f b)

theorem not_k {R : Type} (k : Nat) (f : Int) {a b : Nat} (ha : a < 2 ^ 64) (hb : b < 2 ^ 64) (K : Bool → Option R) : plumblinetop_not k f (a : Int) (b : Int) K = K (NotS f a b) := by
  unfold plumblinetop_not plumblinetop_notT NotS
  rw [Compare_k k f ha hb]
  by_cases h : kd f a = 0 ∨ kd f b = 0
  · have c : CmpS f a b = (0, false) := by unfold CmpS; rw [if_pos h]
    have hn : ¬ (kd f a ≠ 0 ∧ kd f b ≠ 0 ∧ rank f a ≤ rank f b) := fun q => h.elim q.1 q.2.1
    rw [c, decide_eq_false hn]; rfl
  · have c : CmpS f a b = (sgnI (rank f a) (rank f b), true) := by unfold CmpS; rw [if_neg h]
    rw [c]
    dsimp only
    rw [cond_true]
    congr 1
    rw [decide_eq_decide]
    unfold sgnI
    by_cases c1 : rank f a < rank f b
    · rw [if_pos c1]; omega
    · rw [if_neg c1]
      by_cases c2 : rank f b < rank f a
      · rw [if_pos c2]; omega
      · rw [if_neg c2]; omega

theorem tsound_k {R : Type} {k : Nat} (hk : 5000 ≤ k) (K : Bool → Option R) : plumblinetop_sound k K = K true := by
  unfold plumblinetop_sound plumblinetop_soundT
  have d3 : AddS 0 0 4607182418800017408 4607182418800017408 = 4611686018427387904 := by decide +kernel
  have l1 : (4607182418800017408 : Int) = ((4607182418800017408 : Nat) : Int) := rfl
  have q3 : (((4611686018427387904 : Nat) : Int) == 4611686018427387904) = true := by decide
  have hm := fun J => Mul_hl (R := R) k (A := 3) (B := 5) (by decide) (by decide) J
  rw [l1, Add_k 0 0 (by decide) (by decide), d3, q3, cond_true]
  refine (hm _).trans ?_
  rfl

theorem sc_min {x y : Nat} {a b l : Int} (h : sc x a ≤ sc y b) (ha : l ≤ a) (hb : l ≤ b) (hl : -4000 ≤ l) : x * 2 ^ (a - l).toNat ≤ y * 2 ^ (b - l).toNat := by
  have h1 := sc_up (N := x) (e := a) (a - l).toNat (by omega)
  have h2 := sc_up (N := y) (e := b) (b - l).toNat (by omega)
  rw [show a - ((a - l).toNat : Int) = l by omega] at h1
  rw [show b - ((b - l).toNat : Int) = l by omega] at h2
  rw [← h1, ← h2] at h
  exact sc_le h

theorem sc_mul {x y z w : Nat} {a b c d : Int} (h : sc x a ≤ sc y b) (h' : sc z c ≤ sc w d) (ha : -2500 ≤ a) (hb : -2500 ≤ b) (hc : -1500 ≤ c) (hd : -1500 ≤ d) : sc (x * z) (a + c) ≤ sc (y * w) (b + d) := by
  have m1 := sc_min h (l := min a b) (by omega) (by omega) (by omega)
  have m2 := sc_min h' (l := min c d) (by omega) (by omega) (by omega)
  have h1 := sc_up (N := x * z) (e := a + c) ((a - min a b).toNat + (c - min c d).toNat) (by omega)
  have h2 := sc_up (N := y * w) (e := b + d) ((b - min a b).toNat + (d - min c d).toNat) (by omega)
  rw [show a + c - (((a - min a b).toNat + (c - min c d).toNat : Nat) : Int) = min a b + min c d by omega, Nat.pow_add] at h1
  rw [show b + d - (((b - min a b).toNat + (d - min c d).toNat : Nat) : Int) = min a b + min c d by omega, Nat.pow_add] at h2
  rw [← h1, ← h2]
  refine sc_mono ?_
  have := Nat.mul_le_mul m1 m2
  rw [Nat.mul_mul_mul_comm, Nat.mul_mul_mul_comm y] at this
  exact this

theorem posf {f : Int} {x : Nat} (h : x ≤ fI f) : kd f x ≠ 0 ∧ rank f x = (x : Int) := by
  have hB := (fB_double f).2
  have hg := gg_sg (f := f) false (x := x) (by omega)
  have hk := kd_sg (f := f) false (x := x) (by omega)
  have z : sg f false + x = x := by unfold sg; simp
  rw [z] at hg hk
  constructor
  · rw [hk, if_neg (by omega)]; split
    · decide
    · split <;> decide
  · unfold rank; rw [hg.1, hg.2.1]; rfl

theorem NotS_pos {f : Int} {x y : Nat} (h : x ≤ y) (hy : y ≤ fI f) : NotS f x y = true := by
  obtain ⟨a1, a2⟩ := posf (f := f) (x := x) (by omega)
  obtain ⟨b1, b2⟩ := posf (f := f) (x := y) hy
  unfold NotS
  exact decide_eq_true ⟨a1, b1, by rw [a2, b2]; omega⟩

/-- Parts of a float above 0. -/
theorem pparts {f : Int} {x : Nat} (h0 : 0 < x) (h : x < fI f) : kd f x = 3 ∧ bw f x = false ∧ nn f x = nG f x ∧ ee f x = eG f x := by
  have hB := (fB_double f).2
  have z : sg f false + x = x := by unfold sg; simp
  have hk := kd_sg (f := f) false (x := x) (by omega)
  have hg := gg_sg (f := f) false (x := x) (by omega)
  rw [z] at hk hg
  rw [if_neg (by omega), if_neg (by omega), if_neg (by omega)] at hk
  refine ⟨hk, hg.2.1, ?_, ?_⟩
  · unfold nn; rw [if_pos hk, hg.1]
  · unfold ee; rw [if_pos hk, hg.1]

theorem zparts {f : Int} : kd f 0 = 2 ∧ bw f 0 = false ∧ nn f 0 = 0 ∧ ee f 0 = 0 := by
  have hB := (fB_double f).2
  have hI : 0 < fI f := Nat.lt_of_le_of_lt (Nat.zero_le _) (fI_pos f)
  have z : sg f false + 0 = 0 := rfl
  have hk := kd_sg (f := f) false (x := 0) (by omega)
  have hg := gg_sg (f := f) false (x := 0) (by omega)
  rw [z] at hk hg
  rw [if_neg (by omega), if_neg (by omega), if_pos rfl] at hk
  have := nn_zero (f := f) (a := 0) (by omega)
  exact ⟨hk, hg.2.1, this.1, this.2⟩

theorem iparts {f : Int} : kd f (fI f) = 1 ∧ bw f (fI f) = false := by
  have hB := (fB_double f).2
  have z : sg f false + fI f = fI f := by unfold sg; simp
  have hk := kd_sg (f := f) false (x := fI f) (by omega)
  have hg := gg_sg (f := f) false (x := fI f) (by omega)
  rw [z] at hk hg
  rw [if_neg (by omega), if_pos rfl] at hk
  exact ⟨hk, hg.2.1⟩

/-- A float above 0 is less than the infinite one, and is itself. -/
theorem pos_is {f : Int} {a : Nat} (ha : a < 2 ^ 64) (h : kd f a = 3) (hb : bw f a = false) : a = gg f a ∧ 0 < a ∧ a < fI f := by
  have h3 := kd3 h
  have := parts_of ha h3.1
  rw [hb, show sg f false = 0 from rfl, Nat.zero_add] at this
  exact ⟨this, by omega, by omega⟩

/-- A product, rounded down, of two that are worth no more. -/
theorem mul_down {f : Int} {x b a : Nat} {r : Nat} {E : Int} (ha : a < 2 ^ 64) (ka : kd f a = 3) (ba : bw f a = false) (hx : x < fI f) (hb : b < fI f) (hv : vG f x ≤ sc r E) (hE : -2500 ≤ E)
    (hle : sc (r * nn f b) (E + ee f b) ≤ sc (nn f a) (ee f a)) : NotS f (MulS f 2 x b) a = true := by
  obtain ⟨p1, p2, p3⟩ := pos_is ha ka ba
  have hxp : (x = 0 ∨ 0 < x) := by omega
  have hbp : (b = 0 ∨ 0 < b) := by omega
  have zero : ∀ (s : Bool) (e : Int), Rd f 2 s 0 e false = sg f s := fun s e => by unfold Rd; rw [if_pos ⟨rfl, rfl⟩]
  have z0 : sg f false = 0 := rfl
  have zz := zparts (f := f)
  have eb := ee_bounds f b
  have ea := ee_bounds f a
  rcases hbp with rfl | hb0
  · have : MulS f 2 x 0 = 0 := by
      have kx : kd f x = 2 ∨ kd f x = 3 := by
        rcases hxp with rfl | hx0
        · exact .inl zz.1
        · exact .inr (pparts hx0 hx).1
      have bx : bw f x = false := by
        rcases hxp with rfl | hx0
        · exact zz.2.1
        · exact (pparts hx0 hx).2.1
      unfold MulS
      rw [zz.1, if_neg (by omega), if_neg (by omega), zz.2.2.1, Nat.mul_zero, zero, bx, zz.2.1]; rfl
    rw [this]; exact NotS_pos (by omega) (by omega)
  · have qb := pparts hb0 hb
    rcases hxp with rfl | hx0
    · have : MulS f 2 0 b = 0 := by
        unfold MulS
        rw [zz.1, qb.1, if_neg (by decide), if_neg (by decide), zz.2.2.1, Nat.zero_mul, zero, zz.2.1, qb.2.1]; rfl
      rw [this]; exact NotS_pos (by omega) (by omega)
    · have qx := pparts hx0 hx
      have hself := Rd_self (f := f) 2 ha ka
      have bx := eG_bnd f hx
      have bf := (fmt_le f).2.2.2.2.2.1
      have hm : MulS f 2 x b ≤ a := by
        unfold MulS
        rw [qx.1, qb.1, if_neg (by decide), if_neg (by decide), qx.2.1, qb.2.1, qx.2.2.1, qx.2.2.2]
        rw [ba] at hself
        conv => rhs; rw [← hself]
        refine Rd_le f 2 false (by omega) (by omega) ?_
        refine Nat.le_trans ?_ hle
        exact sc_mul hv (Nat.le_refl _) (by omega) (by omega) (by omega) (by omega)
      exact NotS_pos hm (by omega)

/-- A product, rounded up, of two that are worth no less. -/
theorem mul_up {f : Int} {x b a : Nat} {r : Nat} {E : Int} (ha : a < 2 ^ 64) (ka : kd f a = 3) (ba : bw f a = false) (hx : x ≤ fI f) (hb0 : 0 < b) (hb : b ≤ fI f) (hr : 0 < r) (hv : x < fI f → sc r E ≤ vG f x) (hE : -2500 ≤ E)
    (hle : x < fI f → b < fI f → sc (nn f a) (ee f a) ≤ sc (r * nn f b) (E + ee f b)) : NotS f a (MulS f 1 x b) = true := by
  obtain ⟨p1, p2, p3⟩ := pos_is ha ka ba
  have ii := iparts (f := f)
  have eb := ee_bounds f b
  have ea := ee_bounds f a
  have inf : ∀ u v : Nat, 0 < u → 0 < v → u ≤ fI f → v ≤ fI f → (u = fI f ∨ v = fI f) → MulS f 1 u v = fI f := by
    intro u v u0 v0 hu hv huv
    have ku : (u = fI f ∧ kd f u = 1 ∧ bw f u = false) ∨ (u < fI f ∧ kd f u = 3 ∧ bw f u = false) := by
      by_cases c : u = fI f
      · exact .inl ⟨c, by rw [c]; exact ii.1, by rw [c]; exact ii.2⟩
      · have := pparts u0 (show u < fI f by omega); exact .inr ⟨by omega, this.1, this.2.1⟩
    have kv : (v = fI f ∧ kd f v = 1 ∧ bw f v = false) ∨ (v < fI f ∧ kd f v = 3 ∧ bw f v = false) := by
      by_cases c : v = fI f
      · exact .inl ⟨c, by rw [c]; exact ii.1, by rw [c]; exact ii.2⟩
      · have := pparts v0 (show v < fI f by omega); exact .inr ⟨by omega, this.1, this.2.1⟩
    unfold MulS
    rcases ku with ⟨a1, a2, a3⟩ | ⟨a1, a2, a3⟩ <;> rcases kv with ⟨b1, b2, b3⟩ | ⟨b1, b2, b3⟩
    · rw [a2, b2, if_neg (by decide), if_pos (by decide), if_neg (by decide), a3, b3]; simp [sg]
    · rw [a2, b2, if_neg (by decide), if_pos (by decide), if_neg (by decide), a3, b3]; simp [sg]
    · rw [a2, b2, if_neg (by decide), if_pos (by decide), if_neg (by decide), a3, b3]; simp [sg]
    · omega
  have hx0 : 0 < x := by
    refine Nat.pos_of_ne_zero fun q => ?_
    have hI : 0 < fI f := Nat.lt_of_le_of_lt (Nat.zero_le _) (fI_pos f)
    have := hv (by omega)
    have v0 : vG f x = 0 := by
      rw [q]; unfold vG sc nG; rw [if_pos (fP_pos f), Nat.zero_mul]
    have : 0 < sc r E := Nat.mul_pos hr (Nat.two_pow_pos _)
    omega
  by_cases c : x = fI f ∨ b = fI f
  · rw [inf x b hx0 hb0 hx hb c]; exact NotS_pos (by omega) (Nat.le_refl _)
  · have hx' : x < fI f := by omega
    have hb' : b < fI f := by omega
    have qb := pparts hb0 hb'
    have qx := pparts hx0 hx'
    have hself := Rd_self (f := f) 1 ha ka
    have bx := eG_bnd f hx'
    have bf := (fmt_le f).2.2.2.2.2.1
    have hform : MulS f 1 x b = Rd f 1 false (nn f x * nn f b) (ee f x + ee f b) false := by
      unfold MulS
      rw [qx.1, qb.1, if_neg (by decide), if_neg (by decide), qx.2.1, qb.2.1]; rfl
    have hm : a ≤ MulS f 1 x b := by
      rw [hform, qx.2.2.1, qx.2.2.2]
      rw [ba] at hself
      conv => lhs; rw [← hself]
      refine Rd_le f 1 false (by omega) (by omega) ?_
      refine Nat.le_trans (hle hx' hb') ?_
      exact sc_mul (hv hx') (Nat.le_refl _) (by omega) (by omega) (by omega) (by omega)
    have hI : MulS f 1 x b ≤ fI f := by
      rw [hform]
      obtain ⟨y, y1, y2⟩ := Rd_form f 1 false (nn f x * nn f b) (ee f x + ee f b) false
      rw [y2, show sg f false = 0 from rfl]; omega
    exact NotS_pos hm hI

end Go.Proofs.Ytejfnbjhcohkiaa.N
