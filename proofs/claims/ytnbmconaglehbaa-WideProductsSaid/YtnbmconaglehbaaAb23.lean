/- Parts of a function's code are told by what is told of the whole. Conditions: none. -/
import Derived.Test.YtnbmconaglehbaaAb22
namespace Go.Ab
set_option linter.unusedVariables false
set_option linter.unusedSimpArgs false
open Go

section
variable {P : Program} {R : Type} {C : Cx R}

/-- The long texts that stand in a code, in their order. -/
def longOf (l : List Oper) : List ByteArray :=
  l.flatMap fun o => o.op.operands.toList.filterMap fun | .const (.string s) => cond (Nat.blt 64 s.size) (some s) none | _ => none

def strsOf : Code → List ByteArray
  | .region _ ops _ => longOf ops.toList
  | .seq a b => strsOf a ++ strsOf b
  | .cond _ a b => strsOf a ++ strsOf b
  | .block _ c => strsOf c
  | .loop c => strsOf c
  | .scope c => strsOf c
  | _ => []

def strAtN : List ByteArray → Nat → ByteArray
  | [], _ => ⟨#[]⟩
  | s :: _, 0 => s
  | _ :: r, n + 1 => strAtN r n

theorem allSum_nil : AllSum P ([] : List (Nat × Bool × Sum R)) := trivial
theorem allSum_cons {f : Nat} {keep : Bool} {S : Sum R} {l : List (Nat × Bool × Sum R)} (h : SumOk P f keep S) (e : Enters P f) (t : AllSum P l) : AllSum P ((f, keep, S) :: l) := ⟨⟨h, e⟩, t⟩
theorem keeps_app (n m : Nat) (l r : List (Nat × Option HB)) : Keeps ⟨n, l⟩ ⟨m, l ++ r⟩ := by
  intro i hb h
  simp only [Heap.get] at h ⊢
  rw [look_append]
  by_cases hany : (l.any fun p => p.1 == i) = true
  · rw [if_pos hany]; exact h
  · have : (l.any fun p => p.1 == i) = false := by rw [Bool.not_eq_true] at hany; exact hany
    rw [look_none_of_any this] at h; cases h

open Classical in
/-- A summary whose every leaving keeps what was given. -/
theorem sumOk_keep {f : Nat} {S : Sum R} (h : SumOk P f false S) (hk : ∀ args H K r, S args H K = some r → S args H (fun v H' => if Keeps H H' then K v H' else none) = some r) : SumOk P f true S := by
  intro args H K r hS
  obtain ⟨v, H', hK, hG, _⟩ := h args H _ r (hk args H K r hS)
  by_cases hh : Keeps H H'
  · rw [if_pos hh] at hK; exact ⟨v, H', hK, hG, fun _ => hh⟩
  · rw [if_neg hh] at hK; cases hK

theorem allLoop_nil {nt : Nat} {c : Code} : AllLoop P nt c ([] : List (Nat × LSum R)) := trivial
theorem allLoop_loop {nt : Nat} {c : Code} {q : Nat} {S : LSum R} {l : List (Nat × LSum R)} (hq : Nat.blt q 1000000 = true) (h : LoopOk P nt (loopAt c q) S) (t : AllLoop P nt c l) : AllLoop P nt c ((q, S) :: l) :=
  ⟨by simp only; rw [hq]; exact h, t⟩
theorem allLoop_jump {nt : Nat} {c : Code} {q : Nat} {S : LSum R} {l : List (Nat × LSum R)} (hq : Nat.blt q 1000000 = false) (h : JumpOk P nt (scopeAt c (q - 1000000)) (restAt c (q - 1000000)) S)
    (hu : (labelled (q - 1000000) (scopesOf c)).length = 1) (t : AllLoop P nt c l) : AllLoop P nt c ((q, S) :: l) :=
  ⟨by simp only; rw [hq]; exact ⟨h, hu⟩, t⟩

/-- Part of a code. -/
inductive In : Code → Code → Prop
  | refl (c : Code) : In c c
  | seqL {a b c : Code} (h : In c a) : In c (.seq a b)
  | seqR {a b c : Code} (h : In c b) : In c (.seq a b)
  | condL {x : Operand} {a b c : Code} (h : In c a) : In c (.cond x a b)
  | condR {x : Operand} {a b c : Code} (h : In c b) : In c (.cond x a b)
  | block {i : Nat} {a c : Code} (h : In c a) : In c (.block i a)
  | loop {a c : Code} (h : In c a) : In c (.loop a)
  | scope {a c : Code} (h : In c a) : In c (.scope a)

theorem In.ok {fi : FnI} {c d : Code} (h : In c d) : CodeOk P C fi d → CodeOk P C fi c := by
  induction h with
  | refl c => exact id
  | seqL _ ih => exact fun k => ih k.1
  | seqR _ ih => exact fun k => ih k.2
  | condL _ ih => exact fun k => ih k.1
  | condR _ ih => exact fun k => ih k.2
  | block _ ih => exact fun k => ih k
  | loop _ ih => exact fun k => ih k.1
  | scope _ ih => exact fun k => ih k.1

theorem bodiesOf_in : ∀ {c : Code} {k : Nat} {lc : Code}, (k, lc) ∈ bodiesOf c → In lc c
  | .seq a b, k, lc, h => by
    rcases List.mem_append.1 h with h | h
    · exact .seqL (bodiesOf_in h)
    · exact .seqR (bodiesOf_in h)
  | .cond _ a b, k, lc, h => by
    rcases List.mem_append.1 h with h | h
    · exact .condL (bodiesOf_in h)
    · exact .condR (bodiesOf_in h)
  | .block _ c, k, lc, h => .block (bodiesOf_in (c := c) h)
  | .loop c, k, lc, h => by
    rcases List.mem_append.1 h with h | h
    · cases hf : firstRegion c with
      | none => rw [hf] at h; cases h
      | some q =>
        rw [hf] at h
        have := List.mem_singleton.1 h
        cases this
        exact .loop (.refl c)
    · exact .loop (bodiesOf_in h)
  | .scope c, k, lc, h => .scope (bodiesOf_in (c := c) h)
  | .skip, _, _, h => by cases h
  | .region .., _, _, h => by cases h
  | .rangeFunc .., _, _, h => by cases h
  | .exit .., _, _, h => by cases h
  | .label .., _, _, h => by cases h
  | .goto .., _, _, h => by cases h
  | .ret, _, _, h => by cases h
  | .refuse .., _, _, h => by cases h

theorem scopesOf_in : ∀ {c : Code} {lc : Code}, lc ∈ scopesOf c → In lc c
  | .seq a b, lc, h => by
    rcases List.mem_append.1 h with h | h
    · exact .seqL (scopesOf_in h)
    · exact .seqR (scopesOf_in h)
  | .cond _ a b, lc, h => by
    rcases List.mem_append.1 h with h | h
    · exact .condL (scopesOf_in h)
    · exact .condR (scopesOf_in h)
  | .block _ c, lc, h => .block (scopesOf_in (c := c) h)
  | .loop c, lc, h => .loop (scopesOf_in (c := c) h)
  | .scope c, lc, h => by
    rcases List.mem_cons.1 h with h | h
    · subst h; exact .scope (.refl _)
    · exact .scope (scopesOf_in h)
  | .skip, _, h => by cases h
  | .region .., _, h => by cases h
  | .rangeFunc .., _, h => by cases h
  | .exit .., _, h => by cases h
  | .label .., _, h => by cases h
  | .goto .., _, h => by cases h
  | .ret, _, h => by cases h
  | .refuse .., _, h => by cases h

theorem loopAt_ok {fi : FnI} {c : Code} {key : Nat} (h : CodeOk P C fi c) : CodeOk P C fi (loopAt c key) := by
  unfold loopAt
  cases hl : lookF (bodiesOf c) key with
  | none => trivial
  | some lc => exact (bodiesOf_in (lookF_mem hl)).ok h

theorem labelled_sub {l : Nat} : ∀ {cs : List Code} {c : Code}, c ∈ labelled l cs → c ∈ cs
  | d :: r, c, h => by
    rw [labelled] at h
    cases hf : findLabel d l with
    | none => rw [hf] at h; exact List.mem_cons_of_mem _ (labelled_sub h)
    | some x =>
      rw [hf] at h
      rcases List.mem_cons.1 h with h | h
      · subst h; exact List.mem_cons_self
      · exact List.mem_cons_of_mem _ (labelled_sub h)

theorem restAt_ok {fi : FnI} {c : Code} {l : Nat} (h : CodeOk P C fi c) : CodeOk P C fi (restAt c l) := by
  unfold restAt
  cases hf : findLabel (scopeAt c l) l with
  | none => trivial
  | some rest =>
    refine codeOk_label ?_ hf
    unfold scopeAt
    cases hl : labelled l (scopesOf c) with
    | nil => trivial
    | cons sc r =>
      have : sc ∈ labelled l (scopesOf c) := by rw [hl]; exact List.mem_cons_self
      exact (scopesOf_in (labelled_sub this)).ok h

end
end Go.Ab
