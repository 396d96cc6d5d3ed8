/- Octagons: bounds of two nodes each; what closing keeps. Conditions: none. -/
import Derived.Test.YtejfnbjhcohkiaaMa
import Derived.Test.YtejfnbjhcohkiaaNoctagon
namespace Go.Proofs.Ytejfnbjhcohkiaa.N
set_option linter.unusedVariables false
set_option linter.unusedSimpArgs false
open Go Go.Ab

/-- A node negated. -/
def px (p : Nat) : Nat := if p % 2 = 0 then p + 1 else p - 1
theorem px_lt {p : Nat} (h : p < 16) : px p < 16 := by unfold px; split <;> omega
theorem px_px (p : Nat) : px (px p) = p := by unfold px; split <;> split <;> omega
theorem px_ne (p : Nat) : px p ≠ p := by unfold px; split <;> omega
theorem bxor1 {p : Nat} (h : p < 16) : bXor .i64 (p : Int) 1 = ((px p : Nat) : Int) :=
  (by decide +kernel : ∀ p : Fin 16, bXor .i64 ((p.val : Nat) : Int) 1 = ((px p.val : Nat) : Int)) ⟨p, h⟩
theorem shr1 (x : Int) : shr .i64 x 1 = x / 2 := by
  unfold shr
  rw [show (2 : Int) ^ (min (1 : Int).toNat (IntKind.bits .i64)) = 2 by decide]
  exact Int.fdiv_eq_ediv_of_nonneg x (by decide)

def mat (l : List Int) (p q : Nat) : Int := (l[p * 16 + q]?).getD 0

theorem mat_get {l : List Int} (hl : l.length = 256) {p q : Nat} (hp : p < 16) (hq : q < 16) : l[p * 16 + q]? = some (mat l p q) := by
  unfold mat
  rw [List.getElem?_eq_getElem (by omega)]; rfl

theorem mat_set {l : List Int} (hl : l.length = 256) {p q p' q' : Nat} (m : Int) (hp : p < 16) (hq : q < 16) (hp' : p' < 16) (hq' : q' < 16) :
    mat (l.set (p * 16 + q) m) p' q' = if p' = p ∧ q' = q then m else mat l p' q' := by
  unfold mat
  rw [List.getElem?_set]
  by_cases h : p * 16 + q = p' * 16 + q'
  · have : p' = p ∧ q' = q := by omega
    rw [if_pos h, if_pos (by omega), if_pos this]; rfl
  · have : ¬ (p' = p ∧ q' = q) := by omega
    rw [if_neg h, if_neg this]

/-- Values of the nodes. -/
def Pt (v : Nat → Int) : Prop := (∀ p, p < 16 → v (px p) = -(v p)) ∧ ∀ p, p < 16 → -8589934592 ≤ v p ∧ v p ≤ 8589934592
def VOk (V : (Nat → Int) → Prop) : Prop := (∀ v, V v → Pt v) ∧ ∃ v, V v

structure G (V : (Nat → Int) → Prop) (l : List Int) : Prop where
  len : l.length = 256
  snd : ∀ v, V v → ∀ p q, p < 16 → q < 16 → v p + v q ≤ mat l p q
  ub : ∀ p q, p < 16 → q < 16 → mat l p q ≤ 17179869184

def Le (l' l : List Int) : Prop := ∀ p q, p < 16 → q < 16 → mat l' p q ≤ mat l p q
theorem Le.refl (l : List Int) : Le l l := fun _ _ _ _ => Int.le_refl _
theorem Le.trans {a b c : List Int} (h : Le a b) (h' : Le b c) : Le a c := fun p q hp hq => Int.le_trans (h p q hp hq) (h' p q hp hq)

theorem G.lb {V : (Nat → Int) → Prop} {l : List Int} (h : G V l) (hV : VOk V) {p q : Nat} (hp : p < 16) (hq : q < 16) : -17179869184 ≤ mat l p q := by
  obtain ⟨v, hv⟩ := hV.2
  have := h.snd v hv p q hp hq
  have h1 := (hV.1 v hv).2 p hp
  have h2 := (hV.1 v hv).2 q hq
  omega

theorem G.set {V : (Nat → Int) → Prop} {l : List Int} (h : G V l) {p q : Nat} {m : Int} (hp : p < 16) (hq : q < 16) (hs : ∀ v, V v → v p + v q ≤ m) (hm : m ≤ mat l p q) :
    G V (l.set (p * 16 + q) m) ∧ Le (l.set (p * 16 + q) m) l := by
  have hle : Le (l.set (p * 16 + q) m) l := by
    intro p' q' hp' hq'
    rw [mat_set h.len m hp hq hp' hq']
    by_cases c : p' = p ∧ q' = q
    · rw [if_pos c, c.1, c.2]; exact hm
    · rw [if_neg c]; exact Int.le_refl _
  refine ⟨⟨by rw [List.length_set]; exact h.len, fun v hv p' q' hp' hq' => ?_, fun p' q' hp' hq' => Int.le_trans (hle p' q' hp' hq') (h.ub p' q' hp' hq')⟩, hle⟩
  rw [mat_set h.len m hp hq hp' hq']
  by_cases c : p' = p ∧ q' = q
  · rw [if_pos c, c.1, c.2]; exact hs v hv
  · rw [if_neg c]; exact h.snd v hv p' q' hp' hq'

/-- A row, over one node. -/
theorem cl0 {V : (Nat → Int) → Prop} (hV : VOk V) {R : Type} (k : Nat) {r p : Nat} (hr : r < 16) (hp : p < 16) (x5 x6 x7 x8 x11 : Int) (x13 : Bool) (K : List Int → Option R) : ∀ (fu i : Nat) (l : List Int), i ≤ 16 → 16 - i < fu → G V l →
    ∃ l', octagon_Oct_close_l0 k fu (r : Int) (p : Int) (p * 16) 16 x5 x6 x7 x8 16 (i : Int) x11 l x13 K = K l' ∧ G V l' ∧ Le l' l ∧ ∀ q, i ≤ q → q < 16 → mat l' p q ≤ mat l p r + mat l (px r) q
  | 0, i, l, h1, h2, _ => by omega
  | fu + 1, i, l, h1, h2, hG => by
    by_cases c : i < 16
    · have hx := px_lt hr
      have e1 : decide ((i : Int) < 16) = true := decide_eq_true (by omega)
      have e2 : decide ((0 : Int) ≤ (i : Int)) = true := decide_eq_true (by omega)
      have e3 : decide ((i : Int) < ((16 : Nat) : Int)) = true := decide_eq_true (by omega)
      have e4 : decide ((0 : Int) ≤ (p : Int)) = true := decide_eq_true (by omega)
      have e5 : decide ((p : Int) < 16) = true := decide_eq_true (by omega)
      have e6 : decide ((0 : Int) ≤ (r : Int)) = true := decide_eq_true (by omega)
      have e7 : decide ((r : Int) < 16) = true := decide_eq_true (by omega)
      have e8 : decide ((0 : Int) ≤ ((px r : Nat) : Int)) = true := decide_eq_true (by omega)
      have e9 : decide (((px r : Nat) : Int) < 16) = true := decide_eq_true (by omega)
      have g1 := mat_get hG.len hp c
      have g2 : l[p * 16 + 0 + r]? = some (mat l p r) := by rw [Nat.add_zero]; exact mat_get hG.len hp hr
      have g3 : l[px r * 16 + 0 + i]? = some (mat l (px r) i) := by rw [Nat.add_zero]; exact mat_get hG.len hx c
      have b1 := hG.lb hV hp hr
      have b2 := hG.lb hV hx c
      have b3 := hG.ub p r hp hr
      have b4 := hG.ub (px r) i hx c
      have w : Wi64 (mat l p r + mat l (px r) i) = mat l p r + mat l (px r) i := wrap_i64 (by omega) (by omega)
      obtain ⟨m, hm⟩ : ∃ m, m = if mat l p r + mat l (px r) i < mat l p i then mat l p r + mat l (px r) i else mat l p i := ⟨_, rfl⟩
      have m1 : m ≤ mat l p i := by rw [hm]; split <;> omega
      have m2 : m ≤ mat l p r + mat l (px r) i := by rw [hm]; split <;> omega
      have ms : ∀ v, V v → v p + v i ≤ m := by
        intro v hv
        have s1 := hG.snd v hv p i hp c
        have s2 := hG.snd v hv p r hp hr
        have s3 := hG.snd v hv (px r) i hx c
        have s4 := (hV.1 v hv).1 r hr
        rw [hm]; split <;> omega
      obtain ⟨G1, L1⟩ := hG.set hp c ms m1
      obtain ⟨l', q1, q2, q3, q4⟩ := cl0 hV k hr hp x5 x6 x7 x8 x11 x13 K fu (i + 1) (l.set (p * 16 + i) m) (by omega) (by omega) G1
      refine ⟨l', ?_, q2, q3.trans L1, fun q hq hq2 => ?_⟩
      · rw [octagon_Oct_close_l0, octagon_Oct_close_l0B]
        simp only [bxor1 hr, e1, e2, e3, e4, e5, e6, e7, e8, e9, cond_true, Int.toNat_natCast, g1, g2, g3, Option.bind_some, w]
        rw [← hm, Wi64_succ (by omega)]
        exact q1
      · by_cases cq : q = i
        · subst cq
          have := q3 p q hp hq2
          rw [mat_set hG.len m hp c hp hq2, if_pos ⟨rfl, rfl⟩] at this
          omega
        · have := q4 q (by omega) hq2
          have a1 := L1 p r hp hr
          have a2 := L1 (px r) q hx hq2
          omega
    · have : i = 16 := by omega
      subst this
      refine ⟨l, ?_, hG, Le.refl l, fun q hq hq2 => by omega⟩
      rw [octagon_Oct_close_l0, octagon_Oct_close_l0B, decide_eq_false (by decide), cond_false]

/-- All rows, over one node. -/
theorem cl1 {V : (Nat → Int) → Prop} (hV : VOk V) {R : Type} {k : Nat} (hk : 100 ≤ k) {r : Nat} (hr : r < 16) (x2 x3 : Int) (x8 : Bool) (K : List Int → Option R) : ∀ (fu p : Nat) (l : List Int), p ≤ 16 → 16 - p < fu → G V l →
    ∃ l', octagon_Oct_close_l1 k fu (r : Int) x2 x3 16 (p : Int) 16 l x8 K = K l' ∧ G V l' ∧ Le l' l ∧ ∀ p' q, p ≤ p' → p' < 16 → q < 16 → mat l' p' q ≤ mat l p' r + mat l (px r) q
  | 0, p, l, h1, h2, _ => by omega
  | fu + 1, p, l, h1, h2, hG => by
    by_cases c : p < 16
    · have e1 : decide ((p : Int) < 16) = true := decide_eq_true (by omega)
      have e2 : decide ((0 : Int) ≤ (p : Int)) = true := decide_eq_true (by omega)
      have hx := px_lt hr
      obtain ⟨l1, q1, q2, q3, q4⟩ := cl0 hV k hr c x2 x3 16 (p : Int) 16 x8 (fun yyr1 => octagon_Oct_close_l1 k fu (r : Int) x2 x3 16 (Wi64 ((p : Int) + 1)) 16 yyr1 x8 K) k 0 l (by omega) (by omega) hG
      obtain ⟨l', t1, t2, t3, t4⟩ := cl1 hV hk hr x2 x3 x8 K fu (p + 1) l1 (by omega) (by omega) q2
      refine ⟨l', ?_, t2, t3.trans q3, fun p' q hp' hp2 hq => ?_⟩
      · rw [octagon_Oct_close_l1, octagon_Oct_close_l1B]
        simp only [e1, e2, cond_true, Int.toNat_natCast]
        refine q1.trans ?_
        rw [Wi64_succ (by omega)]
        exact t1
      · by_cases cp : p' = p
        · subst cp
          have a1 := t3 p' q hp2 hq
          have a2 := q4 q (by omega) hq
          omega
        · have := t4 p' q (by omega) hp2 hq
          have a1 := q3 p' r hp2 hr
          have a2 := q3 (px r) q hx hq
          omega
    · have : p = 16 := by omega
      subst this
      refine ⟨l, ?_, hG, Le.refl l, fun p' q hq hq2 => by omega⟩
      rw [octagon_Oct_close_l1, octagon_Oct_close_l1B, decide_eq_false (by decide), cond_false]

/-- Over all nodes, one behind the other. -/
theorem cl2 {V : (Nat → Int) → Prop} (hV : VOk V) {R : Type} {k : Nat} (hk : 100 ≤ k) (x5 : Bool) (K : List Int → Option R) : ∀ (fu r : Nat) (l : List Int), r ≤ 16 → 16 - r < fu → G V l →
    ∃ l', octagon_Oct_close_l2 k fu 16 (r : Int) 16 l x5 K = K l' ∧ G V l' ∧ Le l' l ∧ (∀ r' p q, r ≤ r' → r' < 16 → p < 16 → q < 16 → mat l' p q ≤ mat l p r' + mat l (px r') q) ∧
      (∀ r1 r2 p q, r ≤ r1 → r1 < r2 → r2 < 16 → p < 16 → q < 16 → mat l' p q ≤ mat l p r2 + (mat l (px r2) r1 + mat l (px r1) q))
  | 0, r, l, h1, h2, _ => by omega
  | fu + 1, r, l, h1, h2, hG => by
    by_cases c : r < 16
    · have e1 : decide ((r : Int) < 16) = true := decide_eq_true (by omega)
      obtain ⟨l1, q1, q2, q3, q4⟩ := cl1 hV hk c 16 (r : Int) x5 (fun yr1 => octagon_Oct_close_l2 k fu 16 (Wi64 ((r : Int) + 1)) 16 yr1 x5 K) k 0 l (by omega) (by omega) hG
      obtain ⟨l', t1, t2, t3, t4, t5⟩ := cl2 hV hk x5 K fu (r + 1) l1 (by omega) (by omega) q2
      refine ⟨l', ?_, t2, t3.trans q3, fun r' p q hr' hr2 hp hq => ?_, fun r1 r2 p q h3 h4 h5 hp hq => ?_⟩
      · rw [octagon_Oct_close_l2, octagon_Oct_close_l2B, e1, cond_true]
        refine q1.trans ?_
        rw [Wi64_succ (by omega)]
        exact t1
      · by_cases cr : r' = r
        · subst cr
          have a1 := t3 p q hp hq
          have a2 := q4 p q (by omega) hp hq
          omega
        · have := t4 r' p q (by omega) hr2 hp hq
          have a1 := q3 p r' hp hr2
          have a2 := q3 (px r') q (px_lt hr2) hq
          omega
      · by_cases cr : r1 = r
        · subst cr
          have a0 := t4 r2 p q (by omega) h5 hp hq
          have a1 := q3 p r2 hp h5
          have a2 := q4 (px r2) q (by omega) (px_lt h5) hq
          omega
        · have a0 := t5 r1 r2 p q (by omega) h4 h5 hp hq
          have a1 := q3 p r2 hp h5
          have a2 := q3 (px r2) r1 (px_lt h5) (by omega)
          have a3 := q3 (px r1) q (px_lt (by omega)) hq
          omega
    · have : r = 16 := by omega
      subst this
      refine ⟨l, ?_, hG, Le.refl l, fun r' p q h3 h4 => by omega, fun r1 r2 p q h3 h4 h5 => by omega⟩
      rw [octagon_Oct_close_l2, octagon_Oct_close_l2B, decide_eq_false (by decide), cond_false]

theorem ofloor_k {R : Type} (k : Nat) (x : Int) (K : Int → Option R) : octagon_floor k x K = K (x / 2) := by
  unfold octagon_floor octagon_floorT; rw [shr1]

/-- Twice a whole number. -/
theorem cl3 {V : (Nat → Int) → Prop} (hV : VOk V) {R : Type} (k : Nat) (x5 : Bool) (K : List Int → Option R) : ∀ (fu p : Nat) (l : List Int), p ≤ 16 → 16 - p < fu → G V l →
    ∃ l', octagon_Oct_close_l3 k fu 16 (p : Int) 16 l x5 K = K l' ∧ G V l' ∧ Le l' l
  | 0, p, l, h1, h2, _ => by omega
  | fu + 1, p, l, h1, h2, hG => by
    by_cases c : p < 16
    · have e1 : decide ((p : Int) < 16) = true := decide_eq_true (by omega)
      have e2 : decide ((0 : Int) ≤ (p : Int)) = true := decide_eq_true (by omega)
      have g1 : l[p * 16 + 0 + p]? = some (mat l p p) := by rw [Nat.add_zero]; exact mat_get hG.len c c
      have b1 := hG.lb hV c c
      have b2 := hG.ub p p c c
      have w : Wi64 (2 * (mat l p p / 2)) = 2 * (mat l p p / 2) := wrap_i64 (by omega) (by omega)
      obtain ⟨G1, L1⟩ := hG.set (m := 2 * (mat l p p / 2)) c c (fun v hv => by have := hG.snd v hv p p c c; omega) (by omega)
      obtain ⟨l', q1, q2, q3⟩ := cl3 hV k x5 K fu (p + 1) (l.set (p * 16 + p) (2 * (mat l p p / 2))) (by omega) (by omega) G1
      refine ⟨l', ?_, q2, q3.trans L1⟩
      rw [octagon_Oct_close_l3, octagon_Oct_close_l3B]
      simp only [e1, e2, cond_true, Int.toNat_natCast, g1, Option.bind_some, ofloor_k, w]
      rw [Wi64_succ (by omega)]
      exact q1
    · have : p = 16 := by omega
      subst this
      exact ⟨l, by rw [octagon_Oct_close_l3, octagon_Oct_close_l3B, decide_eq_false (by decide), cond_false], hG, Le.refl l⟩

/-- What two halves say. -/
theorem cl4 {V : (Nat → Int) → Prop} (hV : VOk V) {R : Type} (k : Nat) {p : Nat} (hp : p < 16) (x2 x3 : Int) (x8 : Bool) (K : List Int → Option R) : ∀ (fu i : Nat) (l : List Int), i ≤ 16 → 16 - i < fu → G V l →
    ∃ l', octagon_Oct_close_l4 k fu (p : Int) x2 x3 16 (i : Int) 16 l x8 K = K l' ∧ G V l' ∧ Le l' l
  | 0, i, l, h1, h2, _ => by omega
  | fu + 1, i, l, h1, h2, hG => by
    by_cases c : i < 16
    · have e1 : decide ((i : Int) < 16) = true := decide_eq_true (by omega)
      have e2 : decide ((0 : Int) ≤ (i : Int)) = true := decide_eq_true (by omega)
      have e4 : decide ((0 : Int) ≤ (p : Int)) = true := decide_eq_true (by omega)
      have e5 : decide ((p : Int) < 16) = true := decide_eq_true (by omega)
      by_cases cx : i = px p
      · have hb : ((i : Int) == ((px p : Nat) : Int)) = true := by rw [beq_iff_eq, cx]
        obtain ⟨l', q1, q2, q3⟩ := cl4 hV k hp x2 x3 x8 K fu (i + 1) l (by omega) (by omega) hG
        refine ⟨l', ?_, q2, q3⟩
        rw [octagon_Oct_close_l4, octagon_Oct_close_l4B, e1, cond_true, bxor1 hp, hb, cond_true, Wi64_succ (by omega)]
        exact q1
      · have hb : ((i : Int) == ((px p : Nat) : Int)) = false := by rw [beq_eq_false_iff_ne]; omega
        have g1 : l[p * 16 + 0 + i]? = some (mat l p i) := by rw [Nat.add_zero]; exact mat_get hG.len hp c
        have g2 : l[p * 16 + 0 + p]? = some (mat l p p) := by rw [Nat.add_zero]; exact mat_get hG.len hp hp
        have g3 : l[i * 16 + 0 + i]? = some (mat l i i) := by rw [Nat.add_zero]; exact mat_get hG.len c c
        have b1 := hG.lb hV hp hp
        have b2 := hG.ub p p hp hp
        have b3 := hG.lb hV c c
        have b4 := hG.ub i i c c
        have w : Wi64 (mat l p p / 2 + mat l i i / 2) = mat l p p / 2 + mat l i i / 2 := wrap_i64 (by omega) (by omega)
        obtain ⟨m, hm⟩ : ∃ m, m = if mat l p p / 2 + mat l i i / 2 < mat l p i then mat l p p / 2 + mat l i i / 2 else mat l p i := ⟨_, rfl⟩
        have m1 : m ≤ mat l p i := by rw [hm]; split <;> omega
        have ms : ∀ v, V v → v p + v i ≤ m := by
          intro v hv
          have s1 := hG.snd v hv p i hp c
          have s2 := hG.snd v hv p p hp hp
          have s3 := hG.snd v hv i i c c
          rw [hm]; split <;> omega
        obtain ⟨G1, L1⟩ := hG.set hp c ms m1
        obtain ⟨l', q1, q2, q3⟩ := cl4 hV k hp x2 x3 x8 K fu (i + 1) (l.set (p * 16 + i) m) (by omega) (by omega) G1
        refine ⟨l', ?_, q2, q3.trans L1⟩
        rw [octagon_Oct_close_l4, octagon_Oct_close_l4B]
        simp only [bxor1 hp, hb, e1, e2, e4, e5, cond_true, cond_false, Int.toNat_natCast, g1, g2, g3, Option.bind_some, ofloor_k, w]
        rw [← hm, Wi64_succ (by omega)]
        exact q1
    · have : i = 16 := by omega
      subst this
      exact ⟨l, by rw [octagon_Oct_close_l4, octagon_Oct_close_l4B, decide_eq_false (by decide), cond_false], hG, Le.refl l⟩

/-- It is not empty, as long as a point is in it. -/
theorem cl5 {V : (Nat → Int) → Prop} (hV : VOk V) {R : Type} {k : Nat} (hk : 100 ≤ k) (K : List Int → Bool → Option R) : ∀ (fu p : Nat) (l : List Int), p ≤ 16 → 16 - p < fu → G V l →
    ∃ l', octagon_Oct_close_l5 k fu 16 (p : Int) 16 l false K = K l' false ∧ G V l' ∧ Le l' l
  | 0, p, l, h1, h2, _ => by omega
  | fu + 1, p, l, h1, h2, hG => by
    by_cases c : p < 16
    · have hx := px_lt c
      have e1 : decide ((p : Int) < 16) = true := decide_eq_true (by omega)
      have e2 : decide ((0 : Int) ≤ (p : Int)) = true := decide_eq_true (by omega)
      have e3 : decide ((0 : Int) ≤ ((px p : Nat) : Int)) = true := decide_eq_true (by omega)
      have e4 : decide (((px p : Nat) : Int) < 16) = true := decide_eq_true (by omega)
      have g1 : l[p * 16 + 0 + px p]? = some (mat l p (px p)) := by rw [Nat.add_zero]; exact mat_get hG.len c hx
      have g2 : l[p * 16 + 0 + p]? = some (mat l p p) := by rw [Nat.add_zero]; exact mat_get hG.len c c
      have g3 : l[px p * 16 + 0 + px p]? = some (mat l (px p) (px p)) := by rw [Nat.add_zero]; exact mat_get hG.len hx hx
      have b1 := hG.ub p p c c
      have b2 := hG.ub (px p) (px p) hx hx
      have b3 := hG.lb hV c c
      have b4 := hG.lb hV hx hx
      obtain ⟨v, hv⟩ := hV.2
      have s1 := hG.snd v hv p (px p) c hx
      have s2 := hG.snd v hv p p c c
      have s3 := hG.snd v hv (px p) (px p) hx hx
      have s4 := (hV.1 v hv).1 p c
      have n1 : decide (mat l p (px p) < 0) = false := decide_eq_false (by omega)
      have w : Wi64 (mat l p p + mat l (px p) (px p)) = mat l p p + mat l (px p) (px p) := wrap_i64 (by omega) (by omega)
      have n2 : decide (mat l p p + mat l (px p) (px p) < 0) = false := decide_eq_false (by omega)
      obtain ⟨l1, q1, q2, q3⟩ := cl4 hV k c 16 (p : Int) false (fun yr4 => octagon_Oct_close_l5 k fu 16 (Wi64 ((p : Int) + 1)) 16 yr4 false K) k 0 l (by omega) (by omega) hG
      obtain ⟨l', t1, t2, t3⟩ := cl5 hV hk K fu (p + 1) l1 (by omega) (by omega) q2
      refine ⟨l', ?_, t2, t3.trans q3⟩
      rw [octagon_Oct_close_l5, octagon_Oct_close_l5B]
      simp only [bxor1 c, e1, e2, e3, e4, cond_true, Int.toNat_natCast, g1, g2, g3, Option.bind_some, n1, w, n2, cond_false]
      refine q1.trans ?_
      rw [Wi64_succ (by omega)]
      exact t1
    · have : p = 16 := by omega
      subst this
      exact ⟨l, by rw [octagon_Oct_close_l5, octagon_Oct_close_l5B, decide_eq_false (by decide), cond_false], hG, Le.refl l⟩

theorem close_k {V : (Nat → Int) → Prop} (hV : VOk V) {R : Type} {k : Nat} (hk : 100 ≤ k) {l : List Int} (hG : G V l) (K : List Int → Bool → Option R) :
    ∃ l', octagon_Oct_close k 16 l false K = K l' false ∧ G V l' ∧ Le l' l ∧ (∀ r p q, r < 16 → p < 16 → q < 16 → mat l' p q ≤ mat l p r + mat l (px r) q) ∧
      (∀ r1 r2 p q, r1 < r2 → r2 < 16 → p < 16 → q < 16 → mat l' p q ≤ mat l p r2 + (mat l (px r2) r1 + mat l (px r1) q)) := by
  obtain ⟨l1, a1, a2, a3, a4, a5⟩ := cl2 hV hk false (fun r1 => octagon_Oct_close_l3 k k 16 0 16 r1 false (fun r2 => octagon_Oct_close_l5 k k 16 0 16 r2 false (fun r3 r4 => K r3 r4))) k 0 l (by omega) (by omega) hG
  obtain ⟨l2, b1, b2, b3⟩ := cl3 hV k false (fun r2 => octagon_Oct_close_l5 k k 16 0 16 r2 false (fun r3 r4 => K r3 r4)) k 0 l1 (by omega) (by omega) a2
  obtain ⟨l3, c1, c2, c3⟩ := cl5 hV hk (fun r3 r4 => K r3 r4) k 0 l2 (by omega) (by omega) b2
  refine ⟨l3, ?_, c2, c3.trans (b3.trans a3), fun r p q hr hp hq => ?_, fun r1 r2 p q h1 h2 hp hq => ?_⟩
  · unfold octagon_Oct_close octagon_Oct_closeT
    rw [cond_false]
    exact a1.trans (b1.trans c1)
  · have x1 := c3 p q hp hq
    have x2 := b3 p q hp hq
    have x3 := a4 r p q (by omega) hr hp hq
    omega
  · have x1 := c3 p q hp hq
    have x2 := b3 p q hp hq
    have x3 := a5 r1 r2 p q (by omega) h1 h2 hp hq
    omega

end Go.Proofs.Ytejfnbjhcohkiaa.N

/- Octagons: limits, ranges, the new one. Conditions: none. -/
namespace Go.Proofs.Ytejfnbjhcohkiaa.N
set_option linter.unusedVariables false
set_option linter.unusedSimpArgs false
open Go Go.Ab

theorem node_pos {R : Type} (k : Nat) (a : Int) (K : Int → Option R) : octagon_node k a false K = K (Wi64 (2 * a)) := rfl
theorem node_neg {R : Type} (k : Nat) (a : Int) (K : Int → Option R) : octagon_node k a true K = K (Wi64 (Wi64 (2 * a) + 1)) := rfl

theorem has_k {R : Type} (k : Nat) {i : Nat} (hi : i < 8) (l : List Int) (e : Bool) (K : Bool → Option R) : octagon_Oct_has k (i : Int) 16 l e K = K true := by
  unfold octagon_Oct_has octagon_Oct_hasT
  have w : Wi64 (Int.tdiv 16 2) = 8 := by decide
  rw [decide_eq_true (show (i : Int) ≥ 0 by omega), cond_true, w, decide_eq_true (show (i : Int) < 8 by omega)]

theorem may1_k {R : Type} {k : Nat} (hk : 100 ≤ k) {far c : Int} (h1 : -far ≤ c) (h2 : c ≤ far) (h3 : 0 ≤ far) (h4 : far ≤ 34359738368) {i : Nat} (hi : i < 8) (l : List Int) (e : Bool) (K : Int → Option R) :
    octagon_Oct_may k far c 16 l e [(i : Int)] K = K 0 := by
  obtain ⟨k', rfl⟩ : ∃ k', k = k' + 2 := ⟨k - 2, by omega⟩
  unfold octagon_Oct_may octagon_Oct_mayT
  have w : Wi64 (0 - far) = -far := (wrap_i64 (by omega) (by omega)).trans (by omega)
  have w1 : Wi64 (0 + 1) = 1 := by decide
  rw [octagon_Oct_may_l0, octagon_Oct_may_l0B]
  simp only [List.length_cons, List.length_nil]
  rw [decide_eq_true (by decide), cond_true, decide_eq_true (by decide), cond_true, cond_true]
  simp only [Int.toNat_zero, List.getElem?_cons_zero, Option.bind_some]
  rw [has_k _ hi, Bool.not_true, cond_false, w1, octagon_Oct_may_l0, octagon_Oct_may_l0B, decide_eq_false (by decide), cond_false, w, decide_eq_false (by omega), cond_false, decide_eq_false (by omega), cond_false]

theorem may2_k {R : Type} {k : Nat} (hk : 100 ≤ k) {far c : Int} (h1 : -far ≤ c) (h2 : c ≤ far) (h3 : 0 ≤ far) (h4 : far ≤ 34359738368) {i j : Nat} (hi : i < 8) (hj : j < 8) (l : List Int) (e : Bool) (K : Int → Option R) :
    octagon_Oct_may k far c 16 l e [(i : Int), (j : Int)] K = K 0 := by
  obtain ⟨k', rfl⟩ : ∃ k', k = k' + 3 := ⟨k - 3, by omega⟩
  unfold octagon_Oct_may octagon_Oct_mayT
  have w : Wi64 (0 - far) = -far := (wrap_i64 (by omega) (by omega)).trans (by omega)
  have w1 : Wi64 (0 + 1) = 1 := by decide
  have w2 : Wi64 (1 + 1) = 2 := by decide
  rw [octagon_Oct_may_l0, octagon_Oct_may_l0B]
  simp only [List.length_cons, List.length_nil]
  rw [decide_eq_true (by decide), cond_true, decide_eq_true (by decide), cond_true, cond_true]
  simp only [Int.toNat_zero, List.getElem?_cons_zero, Option.bind_some]
  rw [has_k _ hi, Bool.not_true, cond_false, w1, octagon_Oct_may_l0, octagon_Oct_may_l0B, decide_eq_true (by decide), cond_true, decide_eq_true (by decide), cond_true]
  simp only [List.length_cons, List.length_nil, Int.toNat_one, List.getElem?_cons_succ, List.getElem?_cons_zero, Option.bind_some]
  rw [decide_eq_true (by decide), cond_true, has_k _ hj, Bool.not_true, cond_false, w2, octagon_Oct_may_l0, octagon_Oct_may_l0B, decide_eq_false (by decide), cond_false, w, decide_eq_false (by omega), cond_false, decide_eq_false (by omega), cond_false]

theorem let_k {V : (Nat → Int) → Prop} {R : Type} (k : Nat) {l : List Int} (hG : G V l) {p q : Nat} (hp : p < 16) (hq : q < 16) {c : Int} (hs : ∀ v, V v → v p + v q ≤ c) (e : Bool) (K : List Int → Option R) :
    ∃ l', octagon_Oct_let k (p : Int) (q : Int) c 16 l e K = K l' ∧ G V l' ∧ Le l' l ∧ mat l' p q ≤ c ∧ mat l' q p ≤ c := by
  obtain ⟨m, hm⟩ : ∃ m, m = if c < mat l p q then c else mat l p q := ⟨_, rfl⟩
  have m1 : m ≤ mat l p q := by rw [hm]; split <;> omega
  have m2 : m ≤ c := by rw [hm]; split <;> omega
  have ms : ∀ v, V v → v p + v q ≤ m := fun v hv => by
    have a1 := hs v hv; have a2 := hG.snd v hv p q hp hq
    rw [hm]; split <;> omega
  obtain ⟨G1, L1⟩ := hG.set hp hq ms m1
  obtain ⟨l1, hl1⟩ : ∃ l1, l1 = l.set (p * 16 + q) m := ⟨_, rfl⟩
  rw [← hl1] at G1 L1
  obtain ⟨n, hn⟩ : ∃ n, n = if c < mat l1 q p then c else mat l1 q p := ⟨_, rfl⟩
  have n1 : n ≤ mat l1 q p := by rw [hn]; split <;> omega
  have n2 : n ≤ c := by rw [hn]; split <;> omega
  have ns : ∀ v, V v → v q + v p ≤ n := fun v hv => by
    have a1 := hs v hv; have a2 := G1.snd v hv q p hq hp
    rw [hn]; split <;> omega
  obtain ⟨G2, L2⟩ := G1.set hq hp ns n1
  refine ⟨l1.set (q * 16 + p) n, ?_, G2, L2.trans L1, ?_, ?_⟩
  · have e1 : decide ((0 : Int) ≤ (p : Int)) = true := decide_eq_true (by omega)
    have e2 : decide ((p : Int) < 16) = true := decide_eq_true (by omega)
    have e3 : decide ((0 : Int) ≤ (q : Int)) = true := decide_eq_true (by omega)
    have e4 : decide ((q : Int) < 16) = true := decide_eq_true (by omega)
    have g1 : l[p * 16 + 0 + q]? = some (mat l p q) := by rw [Nat.add_zero]; exact mat_get hG.len hp hq
    have g2 : l1[q * 16 + 0 + p]? = some (mat l1 q p) := by rw [Nat.add_zero]; exact mat_get G1.len hq hp
    have hl1' : l.set (p * 16 + 0 + q) m = l1 := hl1.symm
    unfold octagon_Oct_let octagon_Oct_letT
    simp only [e1, e2, e3, e4, cond_true, Int.toNat_natCast, g1, Option.bind_some]
    rw [← hm, hl1', g2, Option.bind_some, Option.bind_some, ← hn]
    rfl
  · have h2 := L2 p q hp hq
    have h1 : mat l1 p q = m := by rw [hl1, mat_set hG.len m hp hq hp hq, if_pos ⟨rfl, rfl⟩]
    omega
  · rw [mat_set G1.len n hq hp hq hp, if_pos ⟨rfl, rfl⟩]; exact n2

/-- A limit of the difference of two. -/
theorem limit_k {V : (Nat → Int) → Prop} (hV : VOk V) {R : Type} {k : Nat} (hk : 100 ≤ k) {l : List Int} (hG : G V l) {i : Nat} (hi : i < 7) {c : Int} (c0 : 0 ≤ c) (c1 : c ≤ 1000) (hs : ∀ v, V v → v (2 * i + 2) + v (2 * i + 1) ≤ c) (K : Int → List Int → Bool → Option R) :
    ∃ l1 l', octagon_Oct_Limit k ((i + 1 : Nat) : Int) false (i : Int) true c 16 l false K = K 0 l' false ∧ Le l1 l ∧ mat l1 (2 * i + 2) (2 * i + 1) ≤ c ∧ mat l1 (2 * i + 1) (2 * i + 2) ≤ c ∧ G V l' ∧ Le l' l1 ∧
      (∀ r p q, r < 16 → p < 16 → q < 16 → mat l' p q ≤ mat l1 p r + mat l1 (px r) q) := by
  obtain ⟨l1, a1, a2, a3, a4, a5⟩ := let_k k hG (p := 2 * i + 2) (q := 2 * i + 1) (by omega) (by omega) hs false (fun r4 => octagon_Oct_close k 16 r4 false (fun r5 r6 => K 0 r5 r6))
  obtain ⟨l', b1, b2, b3, b4, b5⟩ := close_k hV hk a2 (fun r5 r6 => K 0 r5 r6)
  refine ⟨l1, l', ?_, a3, a4, a5, b2, b3, b4⟩
  have w1 : Wi64 (2 * ((i + 1 : Nat) : Int)) = ((2 * i + 2 : Nat) : Int) := (wrap_i64 (by omega) (by omega)).trans (by omega)
  have w2 : Wi64 (2 * (i : Int)) = ((2 * i : Nat) : Int) := (wrap_i64 (by omega) (by omega)).trans (by omega)
  have w3 : Wi64 (((2 * i : Nat) : Int) + 1) = ((2 * i + 1 : Nat) : Int) := (wrap_i64 (by omega) (by omega)).trans (by omega)
  unfold octagon_Oct_Limit octagon_Oct_LimitT
  rw [may2_k hk (by omega) (by omega) (by decide) (by decide) (by omega) (by omega)]
  rw [show ((0 : Int) != 0) = false from rfl, cond_false]
  rw [node_pos, node_neg, w1, w2, w3]
  exact a1.trans b1

/-- A range of the first one. -/
theorem set_k {V : (Nat → Int) → Prop} (hV : VOk V) {R : Type} {k : Nat} (hk : 100 ≤ k) {l : List Int} (hG : G V l) (hs1 : ∀ v, V v → v 0 + v 0 ≤ 18) (hs2 : ∀ v, V v → v 1 + v 1 ≤ -10) (K : Int → List Int → Bool → Option R) :
    ∃ l2 l', octagon_Oct_Set k 0 false 5 9 16 l false K = K 0 l' false ∧ Le l2 l ∧ mat l2 0 0 ≤ 18 ∧ G V l' ∧ Le l' l2 ∧
      (∀ r1 r2 p q, r1 < r2 → r2 < 16 → p < 16 → q < 16 → mat l' p q ≤ mat l2 p r2 + (mat l2 (px r2) r1 + mat l2 (px r1) q)) := by
  obtain ⟨l1, a1, a2, a3, a4, a5⟩ := let_k k hG (p := 0) (q := 0) (by decide) (by decide) hs1 false (fun r3 =>
    octagon_Oct_let k (Wi64 ((Wi64 (2 * 0)) + 1)) (Wi64 ((Wi64 (2 * 0)) + 1)) (Wi64 ((-2) * 5)) 16 r3 false (fun r4 => octagon_Oct_close k 16 r4 false (fun r5 r6 => K 0 r5 r6)))
  obtain ⟨l2, b1, b2, b3, b4, b5⟩ := let_k k a2 (p := 1) (q := 1) (by decide) (by decide) hs2 false (fun r4 => octagon_Oct_close k 16 r4 false (fun r5 r6 => K 0 r5 r6))
  obtain ⟨l', d1, d2, d3, d4, d5⟩ := close_k hV hk b2 (fun r5 r6 => K 0 r5 r6)
  refine ⟨l2, l', ?_, b3.trans a3, Int.le_trans (b3 0 0 (by decide) (by decide)) a4, d2, d3, d5⟩
  have hm := fun J => may1_k (R := R) hk (far := 0) (c := 0) (by decide) (by decide) (by decide) (by decide) (i := 0) (by decide) l false J
  unfold octagon_Oct_Set octagon_Oct_SetT
  refine (hm _).trans ?_
  rw [show ((0 : Int) != 0) = false from rfl, cond_false]
  unfold span_IntRight span_IntRightT
  rw [cond_false, decide_eq_true (by decide), cond_true, decide_eq_true (by decide), cond_true, decide_eq_true (by decide)]
  exact a1.trans (b1.trans d1)

theorem range_k {R : Type} (k : Nat) {l : List Int} (hl : l.length = 256) {lo hi : Int} (h1 : mat l 15 15 / 2 = lo) (h2 : mat l 14 14 / 2 = hi) (b1 : -9000000000 ≤ lo) (b2 : lo ≤ 9000000000) (hr : 2147483648 ≤ lo) (hh : -2147483648 ≤ hi) (hh2 : hi ≤ 2147483647) (K : Bool → Int → Int → Option R) :
    octagon_Oct_Range k 7 16 l false K = K false (-2147483648) hi := by
  have hh3 := fun J => has_k (R := R) k (i := 7) (by decide) l false J
  have g1 : l[(15 * 16) + 0 + 15]? = some (mat l 15 15) := by rw [Nat.add_zero]; exact mat_get hl (by decide) (by decide)
  have g2 : l[(14 * 16) + 0 + 14]? = some (mat l 14 14) := by rw [Nat.add_zero]; exact mat_get hl (by decide) (by decide)
  have w1 : Wi64 ((Wi64 (2 * 7)) + 1) = 15 := by decide
  have w2 : Wi64 (2 * 7) = 14 := by decide
  have w3 : Wi64 (0 - lo) = -lo := (wrap_i64 (by omega) (by omega)).trans (by omega)
  have t1 : (15 : Int).toNat = 15 := rfl
  have t2 : (14 : Int).toNat = 14 := rfl
  unfold octagon_Oct_Range octagon_Oct_RangeT
  refine (hh3 _).trans ?_
  rw [Bool.not_true, cond_false, cond_false, w1, w2, t1, t2, g1, g2]
  simp only [show decide ((0 : Int) ≤ 15) = true by decide, show decide ((15 : Int) < 16) = true by decide, show decide ((0 : Int) ≤ 14) = true by decide, show decide ((14 : Int) < 16) = true by decide, cond_true, Option.bind_some]
  rw [ofloor_k, h1]
  rw [ofloor_k, h2, w3]
  unfold span_IntOf span_IntOfT span_IntRight span_IntRightT
  have i2 : (if 2147483647 < hi then (2147483647 : Int) else hi) = hi := if_neg (by omega)
  have i1 : (if (-2147483648 : Int) > -lo then (-2147483648 : Int) else -lo) = -2147483648 := by
    by_cases c : (-2147483648 : Int) > -lo
    · rw [if_pos c]
    · rw [if_neg c]; omega
  rw [i1, i2, cond_false, decide_eq_true (by decide), cond_true, decide_eq_true (by omega), cond_true, decide_eq_true (by omega)]
  rfl

def initL : List Int := (List.range 256).map fun i => if i % 16 = px (i / 16) then 0 else 17179869184

theorem new8 {R : Type} (n : Nat) (A : Option R) (B : Int → List Int → Bool → Option R) : octagon_New (n + 20) 8 A B = B 16 initL false := by kernel_rfl

theorem init_mat : ∀ p q : Fin 16, mat initL p.val q.val = if q.val = px p.val then 0 else 17179869184 := by decide +kernel

theorem init_G {V : (Nat → Int) → Prop} (hV : VOk V) : G V initL := by
  refine ⟨by decide +kernel, fun v hv p q hp hq => ?_, fun p q hp hq => ?_⟩
  · have h := init_mat ⟨p, hp⟩ ⟨q, hq⟩
    have hP := hV.1 v hv
    simp only at h
    rw [h]
    by_cases c : q = px p
    · rw [if_pos c, c, hP.1 p hp]; omega
    · rw [if_neg c]
      have a1 := hP.2 p hp
      have a2 := hP.2 q hq
      omega
  · have h := init_mat ⟨p, hp⟩ ⟨q, hq⟩
    simp only at h
    rw [h]; split <;> decide

end Go.Proofs.Ytejfnbjhcohkiaa.N
