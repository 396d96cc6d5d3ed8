/- The law ConvWhole, plain. Conditions: none. -/
import Derived.Test.YtelifkahdhhmoaaMth1
import Derived.Test.YtelifkahdhhmoaaNlawConvWhole
namespace Go.Proofs.Ytelifkahdhhmoaa.N
set_option linter.unusedVariables false
set_option linter.unusedSimpArgs false
open Go Go.Ab

theorem LitX_whole (f : Int) {X Y : Nat} (hY : 0 < Y) : LitX f (X * Y) Y = Rd f 0 false X 0 false := by
  unfold LitX
  by_cases c : X = 0
  · subst c
    rw [Nat.zero_mul, if_pos rfl]
    unfold Rd
    rw [if_pos ⟨rfl, rfl⟩]; rfl
  · have h0 : X * Y ≠ 0 := Nat.mul_ne_zero c (by omega)
    rw [if_neg h0]
    unfold DivX
    have e : X * Y * 2 ^ (127 - bl (X * Y)) = Y * (X * 2 ^ (127 - bl (X * Y))) := by rw [Nat.mul_comm X Y, Nat.mul_assoc]
    have d : decide (Y * (X * 2 ^ (127 - bl (X * Y))) % Y ≠ 0) = false := by rw [Nat.mul_mod_right]; rfl
    rw [e, d, Nat.mul_div_cancel_left _ hY, Rd_scale]

theorem u32_nat {n : Int} (hn : (Lit.int .u32 n).wf = true) : ∃ x : Nat, n = (x : Int) ∧ x < 2 ^ 32 := by
  simp only [Lit.wf, Bool.and_eq_true, decide_eq_true_eq] at hn
  have e1 : IntKind.u32.min = 0 := by decide
  have e2 : IntKind.u32.max = 4294967295 := by decide
  rw [e1, e2] at hn
  exact ⟨n.toNat, by omega, by omega⟩

theorem ConvWhole_pure : ∀ (y0 : Tup [.i .i64]) (y1 : Tup [.i .u32]), wfs (Tup.all [.i .i64] y0) → wfs (Tup.all [.i .u32] y1) → ∃ k, plumblinelaw03_ConvWhole k (y0) (y1) (fun q => some q) = some true := by
  intro (f : Int) (n : Int) h0 h1
  obtain ⟨n, rfl, hn⟩ := u32_nat h1.1
  refine ⟨6000, ?_⟩
  have hk : 5000 ≤ 6000 := by decide
  have wn : Wi64 (n : Int) = (n : Int) := wrap_i64 (by omega) (by omega)
  obtain ⟨D, hD⟩ : ∃ D, D = decL 9 n := ⟨_, rfl⟩
  have hl := decL_len 9 n
  have hd := decL_dg 9 n
  have hv := decL_vd 9 n (by omega)
  rw [← hD] at hl hd hv
  have hlt : ∀ c ∈ D, c < 256 := fun c hc => by have := all_dg_lt hd c hc; omega
  have dne : D ≠ [] := fun q => by rw [q] at hl; simp at hl
  have t1 : (⟨#[46, 48]⟩ : ByteArray) = txt [46, 48] := by decide
  have t2 : (⟨#[48, 48]⟩ : ByteArray) = txt [48, 48] := by decide
  have t3 : (⟨#[46, 48, 48]⟩ : ByteArray) = txt [46, 48, 48] := by decide
  have b1 : Nat.ble ((txt D).size + (txt [46, 48]).size) 9223372036854775807 = true := by rw [txt_size, txt_size]; exact Nat.ble_eq_true_of_le (by simp; omega)
  have b2 : Nat.ble ((txt [48, 48]).size + (txt D).size) 9223372036854775807 = true := by rw [txt_size, txt_size]; exact Nat.ble_eq_true_of_le (by simp; omega)
  have b3 : Nat.ble ((txt ([48, 48] ++ D)).size + (txt [46, 48, 48]).size) 9223372036854775807 = true := by rw [txt_size, txt_size]; exact Nat.ble_eq_true_of_le (by simp; omega)
  have e1 : bys (txt (D ++ [46, 48])) = D ++ 46 :: [48] := by
    rw [bys_txt]
    intro c hc
    rw [List.mem_append] at hc
    rcases hc with hc | hc
    · exact hlt c hc
    · simp at hc; omega
  have e2 : bys (txt ([48, 48] ++ D ++ [46, 48, 48])) = ([48, 48] ++ D) ++ 46 :: [48, 48] := by
    rw [bys_txt]
    intro c hc
    rw [List.mem_append, List.mem_append] at hc
    rcases hc with (hc | hc) | hc
    · simp at hc; omega
    · exact hlt c hc
    · simp at hc; omega
  have e3 : bys (txt D) = D := bys_txt hlt
  have l1 : LitS f (D ++ 46 :: [48]) = (((FromS f 0 (n : Int) : Nat) : Int), 0) := by
    rw [LitS_real f hd (by rfl) dne (by simp) (by simp; omega)]
    have : vd 0 (D ++ [48]) = n * 10 ^ 1 := by rw [vd_app, hv, vd_cons, vd_nil]; omega
    rw [this]
    show (((LitX f (n * 10 ^ 1) (10 ^ 1) : Nat) : Int), (0 : Int)) = _
    rw [LitX_whole f (by decide)]
    unfold FromS
    rw [decide_eq_false (by omega)]; rfl
  have l2 : LitS f (([48, 48] ++ D) ++ 46 :: [48, 48]) = (((FromS f 0 (n : Int) : Nat) : Int), 0) := by
    have hd2 : ([48, 48] ++ D).all dg = true := by rw [List.all_append, hd]; rfl
    rw [LitS_real f hd2 (by rfl) (by simp) (by simp) (by simp; omega)]
    have : vd 0 (([48, 48] ++ D) ++ [48, 48]) = n * 10 ^ 2 := by
      rw [vd_app, vd_app]
      have z : vd 0 [48, 48] = 0 := rfl
      rw [z, hv, vd_cons, vd_cons, vd_nil]; omega
    rw [this]
    show (((LitX f (n * 10 ^ 2) (10 ^ 2) : Nat) : Int), (0 : Int)) = _
    rw [LitX_whole f (by decide)]
    unfold FromS
    rw [decide_eq_false (by omega)]; rfl
  have hL1 := fun J => cLiteral_k (R := Bool) (k := 6000) hk f (txt (D ++ [46, 48])) (by rw [e1]; simp; omega) (by rw [e1]; simp; omega) J
  have hL2 := fun J => cLiteral_k (R := Bool) (k := 6000) hk f (txt ([48, 48] ++ D ++ [46, 48, 48])) (by rw [e2]; simp; omega) (by rw [e2]; simp; omega) J
  have hI := fun J => cInt_k (R := Bool) (k := 6000) hk (txt D) (by rw [e3]; omega) (by rw [e3]; omega) J
  rw [e1, l1] at hL1
  rw [e2, l2] at hL2
  have hIS : IntS (bys (txt D)) = if 2147483647 < n then (0, 2) else ((n : Int), 0) := by
    have hdec : decode D = some (D, none) := by
      have h := (dw_all hd []).1
      rw [List.append_nil] at h
      unfold decode
      rw [h]
      simp [dne]
    rw [e3]
    unfold IntS
    rw [hdec]
    dsimp only
    rw [if_neg (by omega), hv]
  rw [hIS] at hI
  unfold plumblinelaw03_ConvWhole plumblinelaw03_ConvWholeT
  rw [wn, digits_k hk (f := 9) (by omega) (by decide), ← hD, t1, t2, t3, b1, cond_true, txt_app, hL1, b2, cond_true, txt_app, b3, cond_true, txt_app, hL2, cFromInt_k _ f 0 (by omega), hI]
  by_cases c : 2147483647 < n
  · rw [decide_eq_true (show (n : Int) > 2147483647 by omega), cond_true, if_pos c, clive_k hk, cond_true, beq_self_eq_true, beq_self_eq_true, cond_true, cond_true, cond_true, cond_true]; rfl
  · rw [decide_eq_false (show ¬ (n : Int) > 2147483647 by omega), cond_false, if_neg c, clive_k hk, cond_true]
    simp

end Go.Proofs.Ytelifkahdhhmoaa.N
