/- Heaps grow at their head. Conditions: none. -/
import Derived.Test.YtnbmconaglehbaaAb16
namespace Go.Ab
set_option linter.unusedVariables false
set_option linter.unusedSimpArgs false
open Go

/-- A heap's table only grows at its head. -/
def Grows (H H' : Heap) : Prop := ∃ d, H'.bs = d ++ H.bs

section
variable {P : Program} {Ty : Types} {R : Type} {C : Cx R} {prev : Prev R}

theorem opK_congr {T : Tmps} {H : Heap} {op : Op} {K K' : AV → Heap → Option R} (hG : ∀ v H', Grows H H' → K v H' = K' v H') : opK Ty T H op K = opK Ty T H op K' := by
  have h1 : ∀ v, K v H = K' v H := fun v => hG v H ⟨[], rfl⟩
  have h2 : ∀ v b, K v (H.add b) = K' v (H.add b) := fun v b => hG v _ ⟨[_], rfl⟩
  have h3 : ∀ v n x, K v ⟨n, x :: H.bs⟩ = K' v ⟨n, x :: H.bs⟩ := fun v n x => hG v _ ⟨[x], rfl⟩
  have h4 : ∀ v n x l, K v ⟨n, x :: (l ++ H.bs)⟩ = K' v ⟨n, x :: (l ++ H.bs)⟩ := fun v n x l => hG v _ ⟨x :: l, rfl⟩
  cases op <;> (try rfl) <;> simp only [opK, allocK, loadK, storeK, indexAddrK, sliceK, makeSliceK, buildSliceK, h1, h2, h3, h4]

theorem builtinK_congr {H : Heap} {b : Builtin} {ts : List Nat} {args : List AV} {K K' : AV → Heap → Option R} (hG : ∀ v H', Grows H H' → K v H' = K' v H') : builtinK Ty H b ts args K = builtinK Ty H b ts args K' := by
  have h1 : ∀ v, K v H = K' v H := fun v => hG v H ⟨[], rfl⟩
  have h2 : ∀ v b, K v (H.add b) = K' v (H.add b) := fun v b => hG v _ ⟨[_], rfl⟩
  have h4 : ∀ v n x l, K v ⟨n, x :: (l ++ H.bs)⟩ = K' v ⟨n, x :: (l ++ H.bs)⟩ := fun v n x l => hG v _ ⟨x :: l, rfl⟩
  simp only [builtinK, appendK, h1, h2, h4]

theorem operK_congr {T : Tmps} {H : Heap} {op : Op} {K K' : AV → Heap → Option R} (hG : ∀ v H', Grows H H' → K v H' = K' v H') : operK C prev T H op K = operK C prev T H op K' := by
  have h1 : ∀ v, K v H = K' v H := fun v => hG v H ⟨[], rfl⟩
  have h5 : ∀ v s H', K v (mergeH H s H') = K' v (mergeH H s H') := fun v s H' => hG v _ ⟨merged H s H' H'.next 0 ++ lost H s H.bs, by simp [mergeH]⟩
  have h6 : ∀ v s H' b, K v (cond b (mergeK H s H') (mergeH H s H')) = K' v (cond b (mergeK H s H') (mergeH H s H')) := fun v s H' b => by
    cases b
    · exact h5 v s H'
    · exact hG v _ ⟨merged H s H' (H'.next - s.length) s.length ++ lost H s H.bs, by simp [mergeK]⟩
  unfold operK
  split
  · exact builtinK_congr hG
  · simp only [callK, frameK, h1, h6]
  · rfl
  · exact opK_congr hG

open Classical in
theorem operK_grows (hC : CxOk P C) (hp : PrevOk P C prev) {T : Tmps} {H : Heap} {o : Oper} {K : AV → Heap → Option R} {r : R} (h : operK C prev T H o.op K = some r) :
    ∃ v H', K v H' = some r ∧ OpG P T H o v H' ∧ Grows H H' := by
  have hc : operK C prev T H o.op K = operK C prev T H o.op (fun v H' => if Grows H H' then K v H' else none) := operK_congr fun v H' hg => by rw [if_pos hg]
  rw [hc] at h
  obtain ⟨v, H', hK, hO⟩ := operK_sound hC hp h
  by_cases hg : Grows H H'
  · rw [if_pos hg] at hK; exact ⟨v, H', hK, hO, hg⟩
  · rw [if_neg hg] at hK; cases hK

end
end Go.Ab
