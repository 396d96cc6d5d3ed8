/- A law's arguments, read: flat ones. What is told of a law's function is its row. Conditions: none. -/
import Derived.Test.YtnbmconaglehbaaAb23
import GoSem.ClaimChange
import Derived.WideShapes
import Derived.Below
import Derived.ChangeArms
import Derived.OpenShut
namespace Go.Ab
set_option linter.unusedVariables false
set_option linter.unusedSimpArgs false
open Go

/-- The cells of a type that holds no address: their kinds. -/
def flatFs (P : Program) (g : Nat → Option (List SK)) : List (Nat × Nat) → Nat → Option (List SK)
  | [], _ => some []
  | (off, t) :: r, n => cond (Nat.beq off n) ((g t).bind fun x => (flatFs P g r (n + x.length)).bind fun y => some (x ++ y)) none

def places (c e : Nat) : Nat → Nat → List (Nat × Nat)
  | 0, _ => []
  | m + 1, i => (i * c, e) :: places c e m (i + 1)

def flatD (P : Program) (g : Nat → Option (List SK)) : TypeDesc → Option (List SK)
  | .bool => some [.b]
  | .int k => some [.i k]
  | .string => some [.s]
  | .struct fs => flatFs P g (fs.toList.map fun f => (f.offset, f.type)) 0
  | .array n e => flatFs P g (places (P.cellsOf e) e n 0) 0
  | _ => none

def flatK (P : Program) : Nat → Nat → Option (List SK)
  | 0, _ => none
  | d + 1, t => ((P.underlying t).bind (flatD P (flatK P d))).bind fun sh => cond (Nat.beq sh.length (P.cellsOf t)) (some sh) none

def wfs : List AV → Prop
  | [] => True
  | .i k n :: r => (Lit.int k n).wf = true ∧ wfs r
  | .s s :: r => s.size ≤ maxLen ∧ wfs r
  | _ :: r => wfs r

theorem wfs_append : ∀ {a b : List AV}, wfs a → wfs b → wfs (a ++ b)
  | [], b, _, h => h
  | v :: a, b, h, k => by
    cases v <;> simp only [List.cons_append, wfs] at h ⊢ <;> first | exact ⟨h.1, wfs_append h.2 k⟩ | exact wfs_append h k

theorem ofKinds_append : ∀ {a b : List SK} {x y : List AV}, ofKinds a x → ofKinds b y → ofKinds (a ++ b) (x ++ y)
  | [], b, [], y, _, h => h
  | k :: a, b, v :: x, y, h, h' => ⟨h.1, ofKinds_append h.2 h'⟩
  | [], _, _ :: _, _, h, _ => h.elim
  | _ :: _, _, [], _, h, _ => h.elim

theorem un_of : ∀ {sh : List SK} {vs : List AV}, ofKinds sh vs → ∃ x : Tup sh, Tup.all sh x = vs
  | [], [], _ => ⟨(), rfl⟩
  | [k], [v], h => by
    obtain ⟨⟨x, hx⟩, _⟩ := h
    exact ⟨x, by simp only [Tup.all]; rw [SK.un_av hx]⟩
  | k :: k' :: ks, v :: vs, h => by
    obtain ⟨⟨x, hx⟩, h2⟩ := h
    obtain ⟨y, hy⟩ := un_of h2
    exact ⟨(x, y), by simp only [Tup.all]; rw [SK.un_av hx, hy]⟩
  | [], _ :: _, h => h.elim
  | _ :: _, [], h => h.elim
  | [_], _ :: _ :: _, h => h.2.elim

section
variable {P : Program} {H : Type} {enc : TypeId × Value → H} {w : World} {base : Nat} {sp : Nat → Bool} {held : Bool}

def FlatOk (sh : List SK) (cs : List Value) (ps : List MemPlace) : Prop :=
  ∃ vs, ofKinds sh vs ∧ wfs vs ∧ ps = [] ∧ (∀ E, VRelL E vs cs) ∧ cs.length = sh.length

theorem flat_parts {g : Nat → Option (List SK)} {tr : Nat → List Value → Option (DataW H × List MemPlace)} {cs : List Value} (hg : ∀ t sh x ps c, g t = some sh → tr t c = some (x, ps) → FlatOk sh c ps) (hgl : ∀ t sh, g t = some sh → sh.length = P.cellsOf t) :
    ∀ (l : List (Nat × Nat)) (n : Nat) (sh : List SK) (xs : List (DataW H × List MemPlace)), flatFs P g l n = some sh → xs.length = l.length → (∀ (i : Nat) (p : Nat × Nat), l[i]? = some p → tr p.2 ((cs.drop p.1).take (P.cellsOf p.2)) = xs[i]?) →
      n + sh.length ≤ cs.length → FlatOk sh ((cs.drop n).take sh.length) (xs.flatMap (·.2))
  | [], n, sh, [], h, _, hx, hl => by
    cases h
    exact ⟨[], trivial, trivial, rfl, fun E => by simpa using VRelL.nil, by simp⟩
  | (off, t) :: l, n, sh, (x1, p1) :: ys, h, hxl, hx, hl => by
    rw [flatFs] at h
    obtain ⟨hoff, h⟩ := cond_some h
    have := beq_eq hoff; subst this
    cases hgt : g t with
    | none => rw [hgt] at h; cases h
    | some s1 =>
      rw [hgt, Option.bind_some] at h
      cases hr : flatFs P g l (off + s1.length) with
      | none => rw [hr] at h; cases h
      | some s2 =>
        rw [hr, Option.bind_some] at h
        cases h
        have h1 : tr t ((cs.drop off).take (P.cellsOf t)) = some (x1, p1) := hx 0 (off, t) rfl
        rw [List.length_append] at hl
        obtain ⟨v1, k1, w1, e1, r1, l1⟩ := hg t s1 x1 p1 _ hgt h1
        obtain ⟨v2, k2, w2, e2, r2, l2⟩ := flat_parts hg hgl l (off + s1.length) s2 ys hr (by simpa using hxl) (fun i p hp => by have := hx (i + 1) p (by simpa using hp); simpa using this) (by omega)
        have hsp : (cs.drop off).take (s1 ++ s2).length = (cs.drop off).take (P.cellsOf t) ++ (cs.drop (off + s1.length)).take s2.length := by
          rw [List.length_append, List.take_add, ← hgl t s1 hgt, List.drop_drop]
        refine ⟨v1 ++ v2, ofKinds_append k1 k2, wfs_append w1 w2, ?_, fun E => ?_, ?_⟩
        · simp only [List.flatMap_cons, e1, e2]; rfl
        · rw [hsp]; exact (r1 E).append (r2 E)
        · simp only [List.length_take, List.length_drop, List.length_append]; omega
  | [], _, _, _ :: _, _, hl, _, _ => by simp at hl
  | _ :: _, _, _, [], _, hl, _, _ => by simp at hl

theorem places_get (c e : Nat) : ∀ (m i j : Nat) (p : Nat × Nat), (places c e m i)[j]? = some p → p = ((i + j) * c, e) ∧ j < m
  | 0, i, j, p, h => by simp [places] at h
  | m + 1, i, 0, p, h => by simp [places] at h; exact ⟨by rw [← h]; rfl, by omega⟩
  | m + 1, i, j + 1, p, h => by
    simp only [places, List.getElem?_cons_succ] at h
    obtain ⟨h1, h2⟩ := places_get c e m (i + 1) j p h
    exact ⟨by rw [h1, show i + 1 + j = i + (j + 1) by omega], by omega⟩

theorem places_len (c e : Nat) : ∀ (m i : Nat), (places c e m i).length = m
  | 0, i => rfl
  | m + 1, i => by simp [places, places_len c e m (i + 1)]

theorem flat_len (d t : Nat) (sh : List SK) (h : flatK P d t = some sh) : sh.length = P.cellsOf t := by
  cases d with
  | zero => cases h
  | succ d =>
    rw [flatK] at h
    cases ho : (P.underlying t).bind (flatD P (flatK P d)) with
    | none => rw [ho] at h; cases h
    | some s =>
      rw [ho, Option.bind_some] at h
      obtain ⟨h1, h2⟩ := cond_some h
      cases h2; exact beq_eq h1

theorem flat_trod : ∀ (d t : Nat) (sh : List SK) (fuel : Nat) (x : DataW H) (ps : List MemPlace) (cs : List Value), flatK P d t = some sh → DataW.trod enc P w base sp held fuel t cs = some (x, ps) → FlatOk sh cs ps
  | 0, t, sh, fuel, x, ps, cs, h, _ => by cases h
  | d + 1, t, sh, fuel, x, ps, cs, h, ht => by
    have hlen := flat_len _ _ _ h
    rw [flatK] at h
    cases hu : P.underlying t with
    | none => rw [hu] at h; cases h
    | some u =>
      rw [hu, Option.bind_some] at h
      cases hd : flatD P (flatK P d) u with
      | none => rw [hd] at h; cases h
      | some s =>
        rw [hd, Option.bind_some] at h
        obtain ⟨_, h⟩ := cond_some h
        cases h
        cases u with
        | bool =>
          cases hd
          obtain ⟨b, rfl, hx⟩ := DataW.trod_bool hu ht
          cases hx
          exact ⟨[.b b], ⟨⟨b, rfl⟩, trivial⟩, trivial, rfl, fun E => .cons (.b _) .nil, rfl⟩
        | int k =>
          cases hd
          obtain ⟨n, rfl, hx, hw⟩ := DataW.trod_int hu ht
          cases hx
          exact ⟨[.i k n], ⟨⟨n, by simp [SK.un]⟩, trivial⟩, ⟨hw, trivial⟩, rfl, fun E => .cons (.i _ _) .nil, rfl⟩
        | string =>
          cases hd
          obtain ⟨s, rfl, hx, hw⟩ := DataW.trod_string hu ht
          cases hx
          exact ⟨[.s s], ⟨⟨s, rfl⟩, trivial⟩, ⟨hw, trivial⟩, rfl, fun E => .cons (.s _) .nil, rfl⟩
        | struct fs =>
          obtain ⟨xs, m, rfl, hx, hcl, hxl, hall⟩ := DataW.trod_struct hu ht
          cases hx
          have := flat_parts (P := P) (g := flatK P d) (tr := DataW.trod enc P w base sp held m) (cs := cs) (fun t sh x ps c h1 h2 => flat_trod d t sh m x ps c h1 h2) (fun t sh h => flat_len d t sh h)
            (fs.toList.map fun f : Field => (f.offset, f.type)) 0 sh xs hd (by simp [hxl]) (fun i p hp => by
              rw [List.getElem?_map] at hp
              cases hf : fs.toList[i]? with
              | none => rw [hf] at hp; cases hp
              | some f =>
                rw [hf] at hp; cases hp
                exact hall i f (by simpa using hf)) (by omega)
          rw [List.drop_zero, List.take_of_length_le (by omega)] at this
          exact this
        | array n e =>
          obtain ⟨xs, m, rfl, hx, hcl, hxl, hall⟩ := DataW.trod_array hu ht
          cases hx
          have := flat_parts (P := P) (g := flatK P d) (tr := DataW.trod enc P w base sp held m) (cs := cs) (fun t sh x ps c h1 h2 => flat_trod d t sh m x ps c h1 h2) (fun t sh h => flat_len d t sh h)
            (places (P.cellsOf e) e n 0) 0 sh xs hd (by rw [places_len, hxl]) (fun i p hp => by
              obtain ⟨rfl, hi⟩ := places_get _ _ _ _ _ _ hp
              rw [Nat.zero_add]
              exact hall i hi) (by omega)
          rw [List.drop_zero, List.take_of_length_le (by omega)] at this
          exact this
        | _ => cases hd

/-- A flat argument: its cells, and what it is to the evaluator. -/
theorem flat_arg {d t : Nat} {sh : List SK} {v : Value} {x : DataW H} {ps : List MemPlace} (hf : flatK P d t = some sh) (h : DataW.Trod enc P w base sp held t v x ps) :
    ∃ y : Tup sh, wfs (Tup.all sh y) ∧ ps = [] ∧ ∀ E, VRelL E (Tup.all sh y) v.cells.toList := by
  obtain ⟨fuel, hfu⟩ := h
  obtain ⟨vs, k, wf, e, r, _⟩ := flat_trod d t sh fuel x ps _ hf hfu
  obtain ⟨y, hy⟩ := un_of k
  exact ⟨y, by rw [hy]; exact wf, e, fun E => by rw [hy]; exact r E⟩

end
end Go.Ab
