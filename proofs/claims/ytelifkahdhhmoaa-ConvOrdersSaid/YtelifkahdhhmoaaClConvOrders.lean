/- The law ConvOrders, plain. Conditions: none. -/
import Derived.Test.YtelifkahdhhmoaaMth1
import Derived.Test.YtelifkahdhhmoaaNlawConvOrders
namespace Go.Proofs.Ytelifkahdhhmoaa.N
set_option linter.unusedVariables false
set_option linter.unusedSimpArgs false
open Go Go.Ab

theorem LitX_big {P : Nat} (hP : P = 1200) (f : Int) {X Y : Nat} (hX : X < 2 ^ 60) (hY0 : 0 < Y) (hY : Y < 2 ^ 57) : LitX f X Y = Rd f 0 false (2 * (X * 2 ^ P / Y) + (decide (X * 2 ^ P % Y ≠ 0)).toNat) (-1201) false := by
  unfold LitX
  by_cases c : X = 0
  · subst c
    have e : 2 * (0 * 2 ^ P / Y) + (decide (0 * 2 ^ P % Y ≠ 0)).toNat = 0 := by rw [Nat.zero_mul, Nat.zero_div, Nat.zero_mod]; rfl
    rw [if_pos rfl, e]
    unfold Rd
    rw [if_pos ⟨rfl, rfl⟩]; rfl
  · have := div_rel_c hP f 0 false 0 (show 0 < X by omega) hX hY0 hY
    rw [Int.zero_sub] at this
    rw [if_neg c, this]

theorem quo_mono {A B Y : Nat} (h : A ≤ B) (hY : 0 < Y) : 2 * (A / Y) + (decide (A % Y ≠ 0)).toNat ≤ 2 * (B / Y) + (decide (B % Y ≠ 0)).toNat := by
  have h1 := Nat.div_le_div_right (c := Y) h
  have b1 := Bool.toNat_le (decide (A % Y ≠ 0))
  by_cases c : A / Y = B / Y
  · have d1 := Nat.div_add_mod A Y
    have d2 := Nat.div_add_mod B Y
    rw [c] at d1 ⊢
    refine Nat.add_le_add_left ?_ _
    by_cases c2 : A % Y = 0
    · rw [decide_eq_false (by omega)]; exact Nat.zero_le _
    · rw [decide_eq_true c2, decide_eq_true (show B % Y ≠ 0 by omega)]; exact Nat.le_refl _
  · omega

theorem LitX_mono (f : Int) {X Z Y : Nat} (h : X ≤ Z) (hZ : Z < 2 ^ 60) (hY0 : 0 < Y) (hY : Y < 2 ^ 57) : LitX f X Y ≤ LitX f Z Y := by
  obtain ⟨P, hP⟩ : ∃ P, P = 1200 := ⟨_, rfl⟩
  rw [LitX_big hP f (by omega) hY0 hY, LitX_big hP f hZ hY0 hY]
  exact Rd_mono f 0 false _ (quo_mono (Nat.mul_le_mul_right _ h) hY0)

theorem LitX_form (f : Int) (X Y : Nat) (hX : X < 2 ^ 60) (hY0 : 0 < Y) (hY : Y < 2 ^ 57) : LitX f X Y ≤ fI f := by
  obtain ⟨P, hP⟩ : ∃ P, P = 1200 := ⟨_, rfl⟩
  rw [LitX_big hP f hX hY0 hY]
  obtain ⟨x, h1, h2⟩ := Rd_form f 0 false (2 * (X * 2 ^ P / Y) + (decide (X * 2 ^ P % Y ≠ 0)).toNat) (-1201) false
  rw [h2, show sg f false = 0 from rfl]; omega

theorem pos_rank {f : Int} {x : Nat} (h : x ≤ fI f) : kd f x ≠ 0 ∧ rank f x = (x : Int) := by
  have hB := (fB_double f).2
  have hg := gg_sg (f := f) false (x := x) (by omega)
  have hk := kd_sg (f := f) false (x := x) (by omega)
  have z : sg f false + x = x := by unfold sg; simp
  rw [z] at hg hk
  constructor
  · rw [hk, if_neg (by omega)]; split
    · decide
    · split <;> decide
  · unfold rank; rw [hg.1, hg.2.1]; rfl

/-- Six places. -/
def pad6 (L : List Nat) : List Nat := List.replicate (6 - L.length) 48 ++ L

theorem vd_zeros (n : Nat) (L : List Nat) : vd 0 (List.replicate n 48 ++ L) = vd 0 L := by
  induction n with
  | zero => rfl
  | succ n ih => rw [List.replicate_succ, List.cons_append, vd_cons]; exact ih

theorem places_loop {R : Type} (k : Nat) (x1 : Int) (K : ByteArray → Option R) : ∀ (fu : Nat) (L : List Nat), L.length ≤ 6 → 6 - L.length < fu →
    plumblinelaw03_places_l0 k fu x1 (txt L) K = K (txt (pad6 L))
  | 0, L, h, h2 => by omega
  | fu + 1, L, h, h2 => by
    rw [plumblinelaw03_places_l0, plumblinelaw03_places_l0B, txt_size]
    by_cases c : L.length < 6
    · have t : (⟨#[48]⟩ : ByteArray) = txt [48] := by decide
      have b : Nat.ble ((txt [48]).size + L.length) 9223372036854775807 = true := by rw [txt_size]; exact Nat.ble_eq_true_of_le (by simp; omega)
      have ih := places_loop k x1 K fu (48 :: L) (by simp; omega) (by simp; omega)
      rw [decide_eq_true (show ((L.length : Nat) : Int) < 6 by omega), cond_true, t, b, cond_true, txt_app]
      refine ih.trans ?_
      unfold pad6
      congr 2
      obtain ⟨m, hm⟩ : ∃ m, 6 - L.length = m + 1 := ⟨5 - L.length, by omega⟩
      rw [hm, List.length_cons, show 6 - (L.length + 1) = m by omega, List.replicate_succ', List.append_assoc]; rfl
    · rw [decide_eq_false (show ¬ ((L.length : Nat) : Int) < 6 by omega), cond_false]
      unfold pad6
      rw [show 6 - L.length = 0 by omega]; rfl

theorem places_k {R : Type} {k : Nat} (hk : 5000 ≤ k) {n : Nat} (hn : n < 2 ^ 32) (K : ByteArray → Option R) : plumblinelaw03_places k (n : Int) K = K (txt (decL 9 (n / 1000000) ++ 46 :: pad6 (decL 5 (n % 1000000)))) := by
  unfold plumblinelaw03_places plumblinelaw03_placesT
  have hm := Nat.mod_lt n (show 0 < 1000000 by decide)
  have w1 : Wi64 (Int.tmod (n : Int) 1000000) = ((n % 1000000 : Nat) : Int) := by
    rw [show Int.tmod (n : Int) 1000000 = ((n % 1000000 : Nat) : Int) from rfl, wrap_i64 (by omega) (by omega)]
  have w2 : Wi64 (Wu32 (Int.tdiv (n : Int) 1000000)) = ((n / 1000000 : Nat) : Int) := by
    have : Wu32 ((n / 1000000 : Nat) : Int) = ((n / 1000000 : Nat) : Int) := by
      unfold Wu32
      have e1 : IntKind.bits .u32 = 32 := rfl
      simp only [IntKind.wrap, IntKind.signed, e1]
      simp
      omega
    rw [show Int.tdiv (n : Int) 1000000 = ((n / 1000000 : Nat) : Int) from rfl, this, wrap_i64 (by omega) (by omega)]
  have l1 := decL_len 5 (n % 1000000)
  have l2 := decL_len 9 (n / 1000000)
  have t : (⟨#[46]⟩ : ByteArray) = txt [46] := by decide
  have lp : (pad6 (decL 5 (n % 1000000))).length = 6 := by unfold pad6; rw [List.length_append, List.length_replicate]; omega
  have b1 : Nat.ble ((txt (decL 9 (n / 1000000))).size + (txt [46]).size) 9223372036854775807 = true := by rw [txt_size, txt_size]; exact Nat.ble_eq_true_of_le (by simp; omega)
  have b2 : Nat.ble ((txt (decL 9 (n / 1000000) ++ [46])).size + (txt (pad6 (decL 5 (n % 1000000)))).size) 9223372036854775807 = true := by rw [txt_size, txt_size, lp]; exact Nat.ble_eq_true_of_le (by simp; omega)
  have hp := fun J => places_loop (R := R) k (n : Int) J k (decL 5 (n % 1000000)) (by omega) (by omega)
  rw [w1, digits_k hk (f := 5) (by omega) (by decide), hp, w2, digits_k hk (f := 9) (by omega) (by decide), t, b1, cond_true, txt_app, b2, cond_true, txt_app, List.append_assoc]
  rfl

theorem places_lit {R : Type} {k : Nat} (hk : 5000 ≤ k) (f : Int) {n : Nat} (hn : n < 2 ^ 32) (K : Int → Int → Option R) : conv_Literal k f (txt (decL 9 (n / 1000000) ++ 46 :: pad6 (decL 5 (n % 1000000)))) K = K ((LitX f n (10 ^ 6) : Nat) : Int) 0 := by
  have hm := Nat.mod_lt n (show 0 < 1000000 by decide)
  have l1 := decL_len 5 (n % 1000000)
  have l2 := decL_len 9 (n / 1000000)
  have d2 := decL_dg 9 (n / 1000000)
  have lp : (pad6 (decL 5 (n % 1000000))).length = 6 := by unfold pad6; rw [List.length_append, List.length_replicate]; omega
  have d1 : (pad6 (decL 5 (n % 1000000))).all dg = true := by
    unfold pad6
    rw [List.all_append, decL_dg, Bool.and_true, List.all_eq_true]
    intro c hc
    rw [List.eq_of_mem_replicate hc]; rfl
  have e : bys (txt (decL 9 (n / 1000000) ++ 46 :: pad6 (decL 5 (n % 1000000)))) = decL 9 (n / 1000000) ++ 46 :: pad6 (decL 5 (n % 1000000)) := by
    apply bys_txt
    intro c hc
    rw [List.mem_append, List.mem_cons] at hc
    rcases hc with hc | hc | hc
    · have := all_dg_lt d2 c hc; omega
    · omega
    · have := all_dg_lt d1 c hc; omega
  rw [cLiteral_k hk f _ (by rw [e, List.length_append, List.length_cons, lp]; omega) (by rw [e, List.length_append, List.length_cons, lp]; omega), e,
    LitS_real f d2 d1 (fun q => by rw [q] at l2; simp at l2) (fun q => by rw [q] at lp; simp at lp) (by rw [lp]; omega)]
  have hv : vd 0 (decL 9 (n / 1000000) ++ pad6 (decL 5 (n % 1000000))) = n := by
    have sh : ∀ (L : List Nat) (m : Nat), vd m L = m * 10 ^ L.length + vd 0 L := by
      intro L
      induction L with
      | nil => intro m; rw [vd_nil, vd_nil, List.length_nil, Nat.pow_zero]; omega
      | cons c L ih =>
        intro m
        rw [vd_cons, vd_cons, ih (10 * m + (c - 48)), ih (10 * 0 + (c - 48)), List.length_cons, Nat.pow_succ, Nat.add_mul, Nat.mul_zero, Nat.zero_add, Nat.mul_comm 10 m, Nat.mul_assoc, Nat.mul_comm 10]
        omega
    rw [vd_app, decL_vd 9 _ (by omega), sh, lp]
    unfold pad6
    rw [vd_zeros, decL_vd 5 _ (by omega)]
    omega
  rw [hv, lp]

theorem orders_c {R : Type} {k : Nat} (hk : 5000 ≤ k) (f : Int) {a b : Nat} (ha : a < 2 ^ 32) (hb : b < 2 ^ 32) (h : a ≤ b) (K : Bool → Option R) :
    (soft_Compare k f ((LitX f a (10 ^ 6) : Nat) : Int) ((LitX f b (10 ^ 6) : Nat) : Int) (fun r7 r8 => plumblinelaw03_live k (fun r9 => cond r9 (cond ((0 : Int) == 0) (cond ((0 : Int) == 0) (cond r8 (K (decide (r7 ≤ 0))) (K false)) (K false)) (K false)) (K false)))) = K true := by
  have hI := fB_double f
  have f1 := LitX_form f a (10 ^ 6) (by omega) (by decide) (by decide)
  have f2 := LitX_form f b (10 ^ 6) (by omega) (by decide) (by decide)
  have hm := LitX_mono f h (show b < 2 ^ 60 by omega) (show 0 < 10 ^ 6 by decide) (by decide)
  obtain ⟨k1, r1⟩ := pos_rank f1
  obtain ⟨k2, r2⟩ := pos_rank f2
  have hc : CmpS f (LitX f a (10 ^ 6)) (LitX f b (10 ^ 6)) = (sgnI ((LitX f a (10 ^ 6) : Nat) : Int) ((LitX f b (10 ^ 6) : Nat) : Int), true) := by
    unfold CmpS; rw [if_neg (by omega), r1, r2]
  have hs : sgnI ((LitX f a (10 ^ 6) : Nat) : Int) ((LitX f b (10 ^ 6) : Nat) : Int) ≤ 0 := by
    unfold sgnI
    by_cases c : ((LitX f a (10 ^ 6) : Nat) : Int) < ((LitX f b (10 ^ 6) : Nat) : Int)
    · rw [if_pos c]; decide
    · rw [if_neg c, if_neg (by omega)]; decide
  rw [Compare_k k f (by omega) (by omega), hc, clive_k hk, cond_true]
  dsimp only
  rw [decide_eq_true hs]; rfl

theorem ConvOrders_pure : ∀ (y0 : Tup [.i .i64]) (y1 : Tup [.i .u32]) (y2 : Tup [.i .u32]), wfs (Tup.all [.i .i64] y0) → wfs (Tup.all [.i .u32] y1) → wfs (Tup.all [.i .u32] y2) → ∃ k, plumblinelaw03_ConvOrders k (y0) (y1) (y2) (fun q => some q) = some true := by
  intro (f : Int) (a : Int) (b : Int) h0 h1 h2
  have u32 : ∀ {n : Int}, (Lit.int .u32 n).wf = true → ∃ x : Nat, n = (x : Int) ∧ x < 2 ^ 32 := by
    intro n hn
    simp only [Lit.wf, Bool.and_eq_true, decide_eq_true_eq] at hn
    have e1 : IntKind.u32.min = 0 := by decide
    have e2 : IntKind.u32.max = 4294967295 := by decide
    rw [e1, e2] at hn
    exact ⟨n.toNat, by omega, by omega⟩
  obtain ⟨a, rfl, ha⟩ := u32 h1.1
  obtain ⟨b, rfl, hb⟩ := u32 h2.1
  refine ⟨6000, ?_⟩
  have hk : 5000 ≤ 6000 := by decide
  unfold plumblinelaw03_ConvOrders plumblinelaw03_ConvOrdersT
  by_cases c : b < a
  · rw [decide_eq_true (show (a : Int) > (b : Int) by omega), cond_true, places_k hk hb, places_lit hk f hb, places_k hk ha, places_lit hk f ha]
    exact orders_c hk f hb ha (by omega) _
  · rw [decide_eq_false (show ¬ (a : Int) > (b : Int) by omega), cond_false, places_k hk ha, places_lit hk f ha, places_k hk hb, places_lit hk f hb]
    exact orders_c hk f ha hb (by omega) _

end Go.Proofs.Ytelifkahdhhmoaa.N
