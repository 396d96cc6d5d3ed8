/- Cells of blocks: what a place reads, and what a store makes of it. Conditions: none. -/
import Derived.Test.YtnbmconaglehbaaAb4
namespace Go.Ab
set_option linter.unusedVariables false
set_option linter.unusedSimpArgs false
open Go

theorem Tup.all_length : ∀ (sh : List SK) (x : Tup sh), (Tup.all sh x).length = sh.length
  | [], _ => rfl
  | [k], _ => rfl
  | k :: k' :: ks, x => by simp [Tup.all, Tup.all_length (k' :: ks) x.2]

theorem SK.un_av : ∀ {k : SK} {v : AV} {x : k.ty}, k.un v = some x → k.av x = v
  | .b, .b y, x, h => by simp [SK.un] at h; subst h; rfl
  | .i k, .i k' y, x, h => by
    simp only [SK.un] at h
    split at h
    · rename_i hk; subst hk; cases h; rfl
    · cases h
  | .s, .s y, x, h => by simp [SK.un] at h; subst h; rfl

theorem Tup.un_all : ∀ {sh : List SK} {vs : List AV} {x : Tup sh}, Tup.un sh vs = some x → Tup.all sh x = vs
  | [], [], x, h => rfl
  | [k], [v], x, h => by simp only [Tup.un] at h; simp [Tup.all, SK.un_av h]
  | k :: k' :: ks, v :: vs, x, h => by
    simp only [Tup.un] at h
    cases h1 : k.un v with
    | none => simp [h1] at h
    | some a =>
      simp only [h1, Option.bind_some] at h
      cases h2 : Tup.un (k' :: ks) vs with
      | none => simp [h2] at h
      | some b =>
        simp only [h2, Option.bind_some, Option.some.injEq] at h
        subst h
        simp [Tup.all, SK.un_av h1, Tup.un_all h2]
  | [], _ :: _, _, h => by simp [Tup.un] at h
  | [k], [], _, h => by simp [Tup.un] at h
  | [k], _ :: _ :: _, _, h => by simp [Tup.un] at h
  | k :: k' :: ks, [], _, h => by simp [Tup.un] at h

theorem flatRow_length (sh : List SK) : ∀ xs : List (Tup sh), (flatRow sh xs).length = xs.length * sh.length
  | [] => by simp [flatRow]
  | x :: xs => by
    have := flatRow_length sh xs
    unfold flatRow at *
    rw [List.flatMap_cons, List.length_append, this, Tup.all_length, List.length_cons, Nat.succ_mul]; omega

theorem seg_append_left {a b : List AV} {f n : Nat} (h : f + n ≤ a.length) : seg (a ++ b) f n = seg a f n := by
  unfold seg
  rw [List.drop_append_of_le_length (by omega), List.take_append_of_le_length (by simp; omega)]

theorem seg_append_right {a b : List AV} {f n : Nat} (h : a.length ≤ f) : seg (a ++ b) f n = seg b (f - a.length) n := by
  unfold seg
  rw [List.drop_append, List.drop_eq_nil_of_le h]; simp

theorem seg_length {a : List AV} {f n : Nat} (h : f + n ≤ a.length) : (seg a f n).length = n := by
  unfold seg; simp; omega

theorem flatRow_seg (sh : List SK) : ∀ (xs : List (Tup sh)) (e o n : Nat) (x : Tup sh), xs[e]? = some x → o + n ≤ sh.length →
    seg (flatRow sh xs) (e * sh.length + o) n = seg (Tup.all sh x) o n ∧ e * sh.length + o + n ≤ (flatRow sh xs).length
  | [], e, _, _, _, h, _ => by simp at h
  | y :: xs, 0, o, n, x, h, hl => by
    simp at h; subst h
    have h1 : flatRow sh (y :: xs) = Tup.all sh y ++ flatRow sh xs := by simp [flatRow]
    rw [h1]
    constructor
    · rw [seg_append_left (by rw [Tup.all_length]; omega)]; congr 1; omega
    · rw [List.length_append, Tup.all_length]; omega
  | y :: xs, e + 1, o, n, x, h, hl => by
    simp at h
    obtain ⟨h2, h3⟩ := flatRow_seg sh xs e o n x h hl
    have h1 : flatRow sh (y :: xs) = Tup.all sh y ++ flatRow sh xs := by simp [flatRow]
    have h4 : (e + 1) * sh.length + o = sh.length + (e * sh.length + o) := by rw [Nat.succ_mul]; omega
    rw [h1]
    constructor
    · rw [seg_append_right (by rw [Tup.all_length]; omega), Tup.all_length, h4, Nat.add_sub_cancel_left]; exact h2
    · rw [List.length_append, Tup.all_length]; omega

theorem putSeg_length {a vs : List AV} {f : Nat} (h : f + vs.length ≤ a.length) : (putSeg a f vs).length = a.length := by
  unfold putSeg; simp; omega

theorem putSeg_append_left {a b vs : List AV} {f : Nat} (h : f + vs.length ≤ a.length) : putSeg (a ++ b) f vs = putSeg a f vs ++ b := by
  unfold putSeg
  rw [List.take_append_of_le_length (by omega), List.drop_append_of_le_length (by omega)]
  simp [List.append_assoc]

theorem putSeg_append_right {a b vs : List AV} {f : Nat} (h : a.length ≤ f) : putSeg (a ++ b) f vs = a ++ putSeg b (f - a.length) vs := by
  unfold putSeg
  rw [List.take_append, List.take_of_length_le h, List.drop_append, List.drop_eq_nil_of_le (by omega)]
  rw [show f + vs.length - a.length = f - a.length + vs.length by omega]
  simp [List.append_assoc]

theorem flatRow_set (sh : List SK) : ∀ (xs : List (Tup sh)) (e o : Nat) (vs : List AV) (x y : Tup sh), xs[e]? = some x → Tup.all sh y = putSeg (Tup.all sh x) o vs → o + vs.length ≤ sh.length →
    flatRow sh (xs.set e y) = putSeg (flatRow sh xs) (e * sh.length + o) vs
  | [], e, _, _, _, _, h, _, _ => by simp at h
  | z :: xs, 0, o, vs, x, y, h, hy, hl => by
    simp at h; subst h
    have h1 : ∀ (u : Tup sh) (us : List (Tup sh)), flatRow sh (u :: us) = Tup.all sh u ++ flatRow sh us := fun u us => by simp [flatRow]
    rw [List.set_cons_zero, h1, h1, hy, putSeg_append_left (by rw [Tup.all_length]; omega)]
    congr 2; omega
  | z :: xs, e + 1, o, vs, x, y, h, hy, hl => by
    simp at h
    have h1 : ∀ (u : Tup sh) (us : List (Tup sh)), flatRow sh (u :: us) = Tup.all sh u ++ flatRow sh us := fun u us => by simp [flatRow]
    rw [List.set_cons_succ, h1, h1, flatRow_set sh xs e o vs x y h hy hl]
    have h4 : (e + 1) * sh.length + o = sh.length + (e * sh.length + o) := by rw [Nat.succ_mul]; omega
    rw [putSeg_append_right (by rw [Tup.all_length]; omega), Tup.all_length, h4, Nat.add_sub_cancel_left]

section
variable {R : Type}

theorem cond_some {b : Bool} {x : Option R} {r : R} (h : cond b x none = some r) : b = true ∧ x = some r := by
  cases b
  · cases h
  · exact ⟨rfl, h⟩

theorem cond_none_some {b : Bool} {x : Option R} {r : R} (h : cond b none x = some r) : b = false ∧ x = some r := by
  cases b
  · exact ⟨rfl, h⟩
  · cases h

theorem pickE_sound {e : Nat} {K : Nat → Option R} {r : R} : ∀ {fuel j : Nat}, pickE e K fuel j = some r → j ≤ e ∧ e < j + fuel ∧ K e = some r
  | 0, j, h => by cases h
  | f + 1, j, h => by
    rw [pickE] at h
    by_cases hj : e = j
    · subst hj; rw [beq_self] at h; exact ⟨Nat.le_refl _, by omega, h⟩
    · rw [beq_ne hj] at h
      obtain ⟨h1, h2, h3⟩ := pickE_sound h
      exact ⟨by omega, by omega, h3⟩

theorem rdRow_sound {sh : List SK} {xs : List (Tup sh)} {e o len : Nat} {K : List AV → Option R} {r : R} (h : rdRow sh xs e o len K = some r) :
    ∃ l, K l = some r ∧ l = seg (flatRow sh xs) (e * sh.length + o) len ∧ e * sh.length + o + len ≤ (flatRow sh xs).length := by
  unfold rdRow at h
  obtain ⟨h1, h2⟩ := cond_some h
  cases hx : xs[e]? with
  | none => rw [hx] at h2; cases h2
  | some x =>
    rw [hx] at h2
    obtain ⟨h3, h4⟩ := flatRow_seg sh xs e o len x hx (by simpa using h1)
    exact ⟨_, h2, h3.symm, h4⟩

theorem rdCells_sound {cs : List AV} {f len : Nat} {K : List AV → Option R} {r : R} (h : rdCells cs f len K = some r) : ∃ l, K l = some r ∧ l = seg cs f len ∧ f + len ≤ cs.length := by
  unfold rdCells at h
  obtain ⟨h1, h2⟩ := cond_some h
  exact ⟨_, h2, rfl, by simpa using h1⟩

theorem beq_eq {i j : Nat} (h : Nat.beq i j = true) : i = j := Nat.eq_of_beq_eq_true h

theorem bool_cases {b : Bool} {x y : Option R} {r : R} (h : cond b x y = some r) : (b = true ∧ x = some r) ∨ (b = false ∧ y = some r) := by
  cases b
  · exact .inr ⟨rfl, h⟩
  · exact .inl ⟨rfl, h⟩

def Blk.okMix (b : Blk) : Prop := ∀ pre sh n xs post, b = .mix pre sh n xs post → xs.length = n

theorem rd_sound {b : Blk} {base e sz o len : Nat} {K : List AV → Option R} {r : R} (h : rd b base e sz o len K = some r) :
    b.isCells = true ∧ ∃ l, K l = some r ∧ (b.okMix → l = seg b.flat (base + e * sz + o) len ∧ base + e * sz + o + len ≤ b.flat.length) := by
  unfold rd at h
  split at h
  · rename_i cs
    refine ⟨rfl, ?_⟩
    rcases bool_cases h with ⟨h1, h2⟩ | ⟨_, h2⟩
    · obtain ⟨l, h3, h4, h5⟩ := rdCells_sound h2
      have := beq_eq h1; subst this
      exact ⟨l, h3, fun _ => ⟨by simpa [Blk.flat] using h4, by simpa [Blk.flat] using h5⟩⟩
    · obtain ⟨_, _, h3⟩ := pickE_sound h2
      obtain ⟨l, h3, h4, h5⟩ := rdCells_sound h3
      exact ⟨l, h3, fun _ => ⟨h4, h5⟩⟩
  · rename_i sh xs
    refine ⟨rfl, ?_⟩
    rcases bool_cases h with ⟨h1, h2⟩ | ⟨_, h2⟩
    · obtain ⟨l, h3, h4, h5⟩ := rdRow_sound h2
      have := beq_eq h1; subst this
      rw [Nat.mul_comm, Nat.div_add_mod] at h4 h5
      exact ⟨l, h3, fun _ => ⟨by simpa [Blk.flat] using h4, by simpa [Blk.flat] using h5⟩⟩
    · obtain ⟨h1, h2'⟩ := cond_some h2
      rw [Bool.and_eq_true] at h1
      have h6 := beq_eq h1.1; have h7 := beq_eq h1.2; subst h6; subst h7
      obtain ⟨l, h3, h4, h5⟩ := rdRow_sound h2'
      exact ⟨l, h3, fun _ => ⟨by simpa [Blk.flat] using h4, by simpa [Blk.flat] using h5⟩⟩
  · rename_i pre sh n xs post
    refine ⟨rfl, ?_⟩
    have hrow : ∀ {f len : Nat}, f + len ≤ (flatRow sh xs).length → seg (pre ++ flatRow sh xs ++ post) (pre.length + f) len = seg (flatRow sh xs) f len ∧ pre.length + f + len ≤ (pre ++ flatRow sh xs ++ post).length := by
      intro f len hl
      rw [List.append_assoc]
      constructor
      · rw [seg_append_right (by omega), Nat.add_sub_cancel_left, seg_append_left hl]
      · simp only [List.length_append]; omega
    rcases bool_cases h with ⟨h1, h2⟩ | ⟨_, h2⟩
    · have := beq_eq h1; subst this
      simp only [Nat.mul_zero, Nat.add_zero]
      rcases bool_cases h2 with ⟨h3, h4⟩ | ⟨_, h4⟩
      · obtain ⟨l, h5, h6, h7⟩ := rdCells_sound h4
        refine ⟨l, h5, fun _ => ⟨?_, ?_⟩⟩
        · rw [h6]; simp only [Blk.flat]; rw [List.append_assoc, seg_append_left h7]
        · simp only [Blk.flat, List.length_append]; omega
      · rcases bool_cases h4 with ⟨h5, h6⟩ | ⟨_, h6⟩
        · obtain ⟨l, h7, h8, h9⟩ := rdCells_sound h6
          have h5' : pre.length + sh.length * n ≤ base + o := by simpa using h5
          refine ⟨l, h7, fun hf => ?_⟩
          have hn := hf pre sh n xs post rfl
          have hpl : (pre ++ flatRow sh xs).length = pre.length + sh.length * n := by rw [List.length_append, flatRow_length, hn, Nat.mul_comm]
          constructor
          · rw [h8]; simp only [Blk.flat]; rw [seg_append_right (by omega), hpl]
          · simp only [Blk.flat]; rw [List.length_append, hpl]; omega
        · obtain ⟨h7, h8⟩ := cond_some h6
          obtain ⟨l, h9, h10, h11⟩ := rdRow_sound h8
          have h7' : pre.length ≤ base + o := by simpa using h7
          rw [Nat.mul_comm, Nat.div_add_mod] at h10 h11
          obtain ⟨h12, h13⟩ := hrow h11
          rw [Nat.add_sub_cancel' h7'] at h12 h13
          exact ⟨l, h9, fun _ => ⟨by rw [h10]; exact h12.symm, h13⟩⟩
    · obtain ⟨h1, h2'⟩ := cond_some h2
      rw [Bool.and_eq_true] at h1
      have h6 := beq_eq h1.1; have h7 := beq_eq h1.2; subst h6; subst h7
      obtain ⟨l, h9, h10, h11⟩ := rdRow_sound h2'
      obtain ⟨h12, h13⟩ := hrow h11
      rw [Nat.add_assoc]
      exact ⟨l, h9, fun _ => ⟨by rw [h10]; exact h12.symm, h13⟩⟩
  · cases h

theorem wrRow_sound {sh : List SK} {xs : List (Tup sh)} {e o : Nat} {vs : List AV} {K : List (Tup sh) → Option R} {r : R} (h : wrRow sh xs e o vs K = some r) :
    ∃ ys, K ys = some r ∧ flatRow sh ys = putSeg (flatRow sh xs) (e * sh.length + o) vs ∧ e * sh.length + o + vs.length ≤ (flatRow sh xs).length ∧ ys.length = xs.length := by
  unfold wrRow at h
  obtain ⟨hlen, h⟩ := cond_some h
  cases hx : xs[e]? with
  | none => rw [hx] at h; cases h
  | some x =>
    rw [hx, Option.bind_some] at h
    cases hu : Tup.un sh (putSeg (Tup.all sh x) o vs) with
    | none => rw [hu] at h; cases h
    | some y =>
      rw [hu, Option.bind_some] at h
      have hy := Tup.un_all hu
      have hl : o + vs.length ≤ sh.length := by simpa using hlen
      obtain ⟨_, h4⟩ := flatRow_seg sh xs e o vs.length x hx hl
      exact ⟨_, h, flatRow_set sh xs e o vs x y hx hy hl, h4, by simp⟩

theorem wrCells_sound {cs : List AV} {f : Nat} {vs : List AV} {K : List AV → Option R} {r : R} (h : wrCells cs f vs K = some r) : K (putSeg cs f vs) = some r ∧ f + vs.length ≤ cs.length := by
  unfold wrCells at h
  obtain ⟨h1, h2⟩ := cond_some h
  exact ⟨h2, by simpa using h1⟩

/-- The same form, other cells. -/
def Blk.alike : Blk → Blk → Prop
  | .cells a, .cells b => b.length = a.length
  | .row sh xs, .row sh' ys => sh' = sh ∧ ys.length = xs.length
  | .mix pre sh n xs post, .mix pre' sh' n' ys post' => pre'.length = pre.length ∧ sh'.length = sh.length ∧ n' = n ∧ ys.length = n ∧ post'.length = post.length
  | _, _ => False

theorem wr_sound {b : Blk} {base e sz o : Nat} {vs : List AV} {K : Blk → Option R} {r : R} (h : wr b base e sz o vs K = some r) :
    b.isCells = true ∧ ∃ b', K b' = some r ∧ (b.okMix → b'.flat = putSeg b.flat (base + e * sz + o) vs ∧ base + e * sz + o + vs.length ≤ b.flat.length ∧ b.alike b') := by
  unfold wr at h
  split at h
  · rename_i cs
    refine ⟨rfl, ?_⟩
    rcases bool_cases h with ⟨h1, h2⟩ | ⟨_, h2⟩
    · obtain ⟨h3, h4⟩ := wrCells_sound h2
      have := beq_eq h1; subst this
      exact ⟨_, h3, fun _ => ⟨by simp [Blk.flat], by simpa [Blk.flat] using h4, putSeg_length h4⟩⟩
    · obtain ⟨_, _, h3⟩ := pickE_sound h2
      obtain ⟨h3, h4⟩ := wrCells_sound h3
      exact ⟨_, h3, fun _ => ⟨rfl, h4, putSeg_length h4⟩⟩
  · rename_i sh xs
    refine ⟨rfl, ?_⟩
    rcases bool_cases h with ⟨h1, h2⟩ | ⟨_, h2⟩
    · obtain ⟨ys, h3, h4, h5, h6⟩ := wrRow_sound h2
      have := beq_eq h1; subst this
      rw [Nat.mul_comm, Nat.div_add_mod] at h4 h5
      exact ⟨_, h3, fun _ => ⟨by simpa [Blk.flat] using h4, by simpa [Blk.flat] using h5, rfl, h6⟩⟩
    · obtain ⟨h1, h2'⟩ := cond_some h2
      rw [Bool.and_eq_true] at h1
      have h6 := beq_eq h1.1; have h7 := beq_eq h1.2; subst h6; subst h7
      obtain ⟨ys, h3, h4, h5, h6⟩ := wrRow_sound h2'
      exact ⟨_, h3, fun _ => ⟨by simpa [Blk.flat] using h4, by simpa [Blk.flat] using h5, rfl, h6⟩⟩
  · rename_i pre sh n xs post
    refine ⟨rfl, ?_⟩
    have hrow : ∀ {f : Nat} {ys : List (Tup sh)}, f + vs.length ≤ (flatRow sh xs).length → flatRow sh ys = putSeg (flatRow sh xs) f vs →
        pre ++ flatRow sh ys ++ post = putSeg (pre ++ flatRow sh xs ++ post) (pre.length + f) vs ∧ pre.length + f + vs.length ≤ (pre ++ flatRow sh xs ++ post).length := by
      intro f ys hl hy
      rw [List.append_assoc, List.append_assoc]
      constructor
      · rw [putSeg_append_right (by omega), Nat.add_sub_cancel_left, putSeg_append_left hl, hy]
      · simp only [List.length_append]; omega
    rcases bool_cases h with ⟨h1, h2⟩ | ⟨_, h2⟩
    · have := beq_eq h1; subst this
      simp only [Nat.mul_zero, Nat.add_zero]
      rcases bool_cases h2 with ⟨h3, h4⟩ | ⟨_, h4⟩
      · obtain ⟨h5, h7⟩ := wrCells_sound h4
        refine ⟨_, h5, fun hf => ⟨?_, ?_, putSeg_length h7, rfl, rfl, hf pre sh n xs post rfl, rfl⟩⟩
        · simp only [Blk.flat]; rw [List.append_assoc, List.append_assoc, putSeg_append_left h7]
        · simp only [Blk.flat, List.length_append]; omega
      · rcases bool_cases h4 with ⟨h5, h6⟩ | ⟨_, h6⟩
        · obtain ⟨h7, h9⟩ := wrCells_sound h6
          have h5' : pre.length + sh.length * n ≤ base + o := by simpa using h5
          refine ⟨_, h7, fun hf => ?_⟩
          have hn := hf pre sh n xs post rfl
          have hpl : (pre ++ flatRow sh xs).length = pre.length + sh.length * n := by rw [List.length_append, flatRow_length, hn, Nat.mul_comm]
          refine ⟨?_, ?_, rfl, rfl, rfl, hn, putSeg_length h9⟩
          · simp only [Blk.flat]; rw [putSeg_append_right (by omega), hpl]
          · simp only [Blk.flat]; rw [List.length_append, hpl]; omega
        · obtain ⟨h7, h8⟩ := cond_some h6
          obtain ⟨ys, h9, h10, h11, h12⟩ := wrRow_sound h8
          have h7' : pre.length ≤ base + o := by simpa using h7
          rw [Nat.mul_comm, Nat.div_add_mod] at h10 h11
          obtain ⟨h13, h14⟩ := hrow h11 h10
          rw [Nat.add_sub_cancel' h7'] at h13 h14
          exact ⟨_, h9, fun hf => ⟨h13, h14, rfl, rfl, rfl, h12.trans (hf pre sh n xs post rfl), rfl⟩⟩
    · obtain ⟨h1, h2'⟩ := cond_some h2
      rw [Bool.and_eq_true] at h1
      have h6 := beq_eq h1.1; have h7 := beq_eq h1.2; subst h6; subst h7
      obtain ⟨ys, h9, h10, h11, h12⟩ := wrRow_sound h2'
      obtain ⟨h13, h14⟩ := hrow h11 h10
      rw [Nat.add_assoc]
      exact ⟨_, h9, fun hf => ⟨h13, h14, rfl, rfl, rfl, h12.trans (hf pre sh n xs post rfl), rfl⟩⟩
  · cases h

end
end Go.Ab
