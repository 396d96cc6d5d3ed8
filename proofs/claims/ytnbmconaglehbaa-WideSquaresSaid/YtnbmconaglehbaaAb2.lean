/- What an abstract state says of the machine's, and that turning its names keeps it. Conditions: none. -/
import Derived.Test.YtnbmconaglehbaaAb1
namespace Go.Ab
set_option linter.unusedVariables false
set_option linter.unusedSimpArgs false
set_option linter.constructorNameAsVariable false
open Go

structure Ent where
  r : Option Nat
  off : Nat
  size : Nat
  n : Nat
  sz : Nat

abbrev Env := Nat → Option Ent

def flatRow (sh : List SK) (xs : List (Tup sh)) : List AV := xs.flatMap (Tup.all sh)

mutual
inductive VRel (E : Env) : AV → Value → Prop
  | b (x : Bool) : VRel E (.b x) (.bool x)
  | i (k : IntKind) (x : Int) : VRel E (.i k x) (.int k x)
  | s (x : ByteArray) : VRel E (.s x) (.string x)
  | np : VRel E .np (.pointer none)
  | nsl : VRel E .nsl (.slice none 0 0)
  | nf : VRel E .nf .nilFunc
  | ni : VRel E .ni .nilIface
  | nm : VRel E .nm (.map none)
  | u : VRel E .u undef
  | junk (v : Value) : VRel E .junk v
  | ptr {id base e sz o : Nat} {ent : Ent} {r : Nat} (h : E id = some ent) (hr : ent.r = some r) :
      VRel E (.ptr id base e sz o) (.pointer (some ⟨r, ent.off + (base + e * sz + o), none⟩))
  | sw {id : Nat} {ent : Ent} {r cap : Nat} (h : E id = some ent) (hr : ent.r = some r) (hn : ent.n ≤ cap) (hc : ent.off + cap * ent.sz ≤ ent.size) :
      VRel E (.sw id) (.slice (some ⟨r, ent.off, none⟩) ent.n cap)
  | sw0 {id : Nat} {ent : Ent} (h : E id = some ent) (hn : ent.n = 0) : VRel E (.sw id) (.slice none 0 0)
  | sl {id base e sz n : Nat} {ent : Ent} {r cap : Nat} (h : E id = some ent) (hr : ent.r = some r) (hn : n ≤ cap) :
      VRel E (.sl id base e sz n) (.slice (some ⟨r, ent.off + (base + e * sz), none⟩) n cap)
  | sl0 {id base e sz n cap : Nat} {b : Option Addr} (hn : n = 0) : VRel E (.sl id base e sz n) (.slice b 0 cap)
  | agg {cs : List AV} {vs : Array Value} (h : VRelL E cs vs.toList) : VRel E (.agg cs) (.agg vs)
  | mix {pre : List AV} {sh : List SK} {n : Nat} {xs : List (Tup sh)} {post : List AV} {vs : Array Value}
      (h : VRelL E (pre ++ flatRow sh xs ++ post) vs.toList) (hn : xs.length = n) : VRel E (.mix pre sh n xs post) (.agg vs)
  | tup {cs : List AV} {vs : Array Value} (h : VRelL E cs vs.toList) : VRel E (.tup cs) (.tuple vs)
  | fn {f : Nat} {cap : List AV} {caps : Array Value} (h : VRelL E cap caps.toList) : VRel E (.fn f cap) (.func (.func f) #[] caps)
inductive VRelL (E : Env) : List AV → List Value → Prop
  | nil : VRelL E [] []
  | cons {v : AV} {vs : List AV} {x : Value} {xs : List Value} (h : VRel E v x) (t : VRelL E vs xs) : VRelL E (v :: vs) (x :: xs)
end

theorem VRelL.length {E : Env} : ∀ {vs : List AV} {xs : List Value}, VRelL E vs xs → vs.length = xs.length
  | [], [], _ => rfl
  | _ :: _, _ :: _, .cons _ t => by simp [VRelL.length t]

theorem VRelL.get {E : Env} : ∀ {vs : List AV} {xs : List Value}, VRelL E vs xs → ∀ (j : Nat) (v : AV), vs[j]? = some v → ∃ x, xs[j]? = some x ∧ VRel E v x
  | [], [], _, j, v, h => by simp at h
  | _ :: _, _ :: _, .cons hv t, 0, v, h => by simp at h; subst h; exact ⟨_, rfl, hv⟩
  | _ :: _, _ :: _, .cons hv t, j + 1, v, h => by simp at h ⊢; exact VRelL.get t j v h

theorem VRelL.of_get {E : Env} : ∀ {vs : List AV} {xs : List Value}, vs.length = xs.length → (∀ (j : Nat) (v : AV) (x : Value), vs[j]? = some v → xs[j]? = some x → VRel E v x) → VRelL E vs xs
  | [], [], _, _ => .nil
  | v :: vs, x :: xs, hl, h => .cons (h 0 v x rfl rfl) (VRelL.of_get (by simpa using hl) fun j v x hv hx => h (j + 1) v x (by simpa using hv) (by simpa using hx))
  | [], _ :: _, hl, _ => by simp at hl
  | _ :: _, [], hl, _ => by simp at hl

theorem VRelL.append {E : Env} {vs ws : List AV} {xs ys : List Value} (h : VRelL E vs xs) (k : VRelL E ws ys) : VRelL E (vs ++ ws) (xs ++ ys) := by
  refine VRelL.of_get (by simp [h.length, k.length]) fun j v x hv hx => ?_
  by_cases hj : j < vs.length
  · rw [List.getElem?_append_left hj] at hv
    rw [List.getElem?_append_left (h.length ▸ hj)] at hx
    obtain ⟨y, hy, hr⟩ := h.get j v hv
    rw [hx] at hy; cases hy; exact hr
  · rw [List.getElem?_append_right (by omega)] at hv
    rw [List.getElem?_append_right (by rw [← h.length]; omega)] at hx
    obtain ⟨y, hy, hr⟩ := k.get _ v hv
    rw [← h.length, hy] at hx; cases hx; exact hr

/-- Of one value each. -/
theorem VRelL.sub {E : Env} {vs : List AV} {xs : List Value} (h : VRelL E vs xs) (f n : Nat) : VRelL E ((vs.drop f).take n) ((xs.drop f).take n) := by
  refine VRelL.of_get (by simp [h.length]) fun j v x hv hx => ?_
  simp only [List.getElem?_take, List.getElem?_drop] at hv hx
  split at hv
  · rename_i hj
    rw [if_pos hj] at hx
    obtain ⟨y, hy, hr⟩ := h.get _ v hv
    rw [hx] at hy; cases hy; exact hr
  · cases hv

def Ext (E E' : Env) : Prop := ∀ id ent, E id = some ent → E' id = some ent

mutual
theorem VRel.mono {E E' : Env} (hE : Ext E E') : ∀ {v : AV} {x : Value}, VRel E v x → VRel E' v x
  | _, _, .b x => .b x
  | _, _, .i k x => .i k x
  | _, _, .s x => .s x
  | _, _, .np => .np
  | _, _, .nsl => .nsl
  | _, _, .nf => .nf
  | _, _, .ni => .ni
  | _, _, .nm => .nm
  | _, _, .u => .u
  | _, _, .junk v => .junk v
  | _, _, .ptr h hr => .ptr (hE _ _ h) hr
  | _, _, .sw h hr hn hc => .sw (hE _ _ h) hr hn hc
  | _, _, .sw0 h hn => .sw0 (hE _ _ h) hn
  | _, _, .sl h hr hn => .sl (hE _ _ h) hr hn
  | _, _, .sl0 hn => .sl0 hn
  | _, _, .agg h => .agg (VRelL.mono hE h)
  | _, _, .mix h hn => .mix (VRelL.mono hE h) hn
  | _, _, .tup h => .tup (VRelL.mono hE h)
  | _, _, .fn h => .fn (VRelL.mono hE h)
theorem VRelL.mono {E E' : Env} (hE : Ext E E') : ∀ {v : List AV} {x : List Value}, VRelL E v x → VRelL E' v x
  | _, _, .nil => .nil
  | _, _, .cons h t => .cons (VRel.mono hE h) (VRelL.mono hE t)
end

/-! ### Names -/

theorem Tup.all_ids : ∀ (sh : List SK) (x : Tup sh), AV.idsL (Tup.all sh x) = []
  | [], _ => rfl
  | [k], x => by cases k <;> rfl
  | k :: k' :: ks, x => by
    have := Tup.all_ids (k' :: ks) x.2
    cases k <;> simpa [Tup.all, AV.idsL, SK.av, AV.ids] using this

theorem Tup.all_ren (f : Nat → Nat) : ∀ (sh : List SK) (x : Tup sh), AV.renL f (Tup.all sh x) = Tup.all sh x
  | [], _ => rfl
  | [k], x => by cases k <;> rfl
  | k :: k' :: ks, x => by
    have := Tup.all_ren f (k' :: ks) x.2
    cases k <;> simpa [Tup.all, AV.renL, SK.av, AV.ren] using this

theorem renL_append (f : Nat → Nat) : ∀ (a b : List AV), AV.renL f (a ++ b) = AV.renL f a ++ AV.renL f b
  | [], b => rfl
  | v :: a, b => by simp [AV.renL, renL_append f a b]

theorem idsL_append : ∀ (a b : List AV), AV.idsL (a ++ b) = AV.idsL a ++ AV.idsL b
  | [], b => rfl
  | v :: a, b => by simp [AV.idsL, idsL_append a b]

theorem renL_length (f : Nat → Nat) : ∀ (a : List AV), (AV.renL f a).length = a.length
  | [] => rfl
  | v :: a => by simp [AV.renL, renL_length f a]

theorem flatRow_ren (f : Nat → Nat) (sh : List SK) : ∀ xs : List (Tup sh), AV.renL f (flatRow sh xs) = flatRow sh xs
  | [] => rfl
  | x :: xs => by
    have := flatRow_ren f sh xs
    unfold flatRow at *
    rw [List.flatMap_cons, renL_append, Tup.all_ren, this]

mutual
theorem VRel.ren {E E' : Env} {f : Nat → Nat} : ∀ {v : AV} {x : Value}, VRel E v x → (∀ id ∈ v.ids, E' (f id) = E id) → VRel E' (v.ren f) x
  | _, _, .b x, _ => .b x
  | _, _, .i k x, _ => .i k x
  | _, _, .s x, _ => .s x
  | _, _, .np, _ => .np
  | _, _, .nsl, _ => .nsl
  | _, _, .nf, _ => .nf
  | _, _, .ni, _ => .ni
  | _, _, .nm, _ => .nm
  | _, _, .u, _ => .u
  | _, _, .junk v, _ => .junk v
  | _, _, .ptr h hr, hf => .ptr ((hf _ (by simp [AV.ids])).trans h) hr
  | _, _, .sw h hr hn hc, hf => .sw ((hf _ (by simp [AV.ids])).trans h) hr hn hc
  | _, _, .sw0 h hn, hf => .sw0 ((hf _ (by simp [AV.ids])).trans h) hn
  | _, _, .sl h hr hn, hf => .sl ((hf _ (by simp [AV.ids])).trans h) hr hn
  | _, _, .sl0 hn, hf => .sl0 hn
  | _, _, .agg h, hf => .agg (VRelL.ren h (by simpa [AV.ids] using hf))
  | _, _, .mix (pre := pre) (sh := sh) (xs := xs) (post := post) h hn, hf => by
    rw [AV.ren]
    refine .mix ?_ hn
    have h' := VRelL.ren (f := f) (E' := E') h (by
      intro id hid
      rw [idsL_append, idsL_append] at hid
      refine hf id ?_
      simp only [AV.ids]
      simp only [List.mem_append] at hid ⊢
      rcases hid with (hid | hid) | hid
      · exact .inl hid
      · exfalso
        have : ∀ ys : List (Tup sh), AV.idsL (flatRow sh ys) = [] := by
          intro ys
          induction ys with
          | nil => rfl
          | cons y ys ih => unfold flatRow at *; rw [List.flatMap_cons, idsL_append, Tup.all_ids, ih]; rfl
        rw [this] at hid; cases hid
      · exact .inr hid)
    rwa [renL_append, renL_append, flatRow_ren] at h'
  | _, _, .tup h, hf => .tup (VRelL.ren h (by simpa [AV.ids] using hf))
  | _, _, .fn h, hf => .fn (VRelL.ren h (by simpa [AV.ids] using hf))
theorem VRelL.ren {E E' : Env} {f : Nat → Nat} : ∀ {v : List AV} {x : List Value}, VRelL E v x → (∀ id ∈ AV.idsL v, E' (f id) = E id) → VRelL E' (AV.renL f v) x
  | _, _, .nil, _ => .nil
  | _, _, .cons h t, hf => .cons (VRel.ren h (fun id hid => hf id (by simp [AV.idsL, hid]))) (VRelL.ren t (fun id hid => hf id (by simp [AV.idsL, hid])))
end
end Go.Ab
