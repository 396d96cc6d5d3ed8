/- All operations but calls are sound. Conditions: none. -/
import Derived.Test.YtnbmconaglehbaaAb10
namespace Go.Ab
set_option linter.unusedVariables false
set_option linter.unusedSimpArgs false
open Go

section
variable {P : Program} {Ty : Types} {R : Type}

theorem opsTail {α : Type} (s : Sem α) (f : α → Value) (w : World) : True := trivial

/-! ### Texts -/

theorem freeze_alloc (w : World) (cs : Array Value) (t : TypeId) : (w.alloc (.cells cs t (0, 0))).freeze ⟨w.heap.size, cs.size, none⟩ 1 = w.alloc (.cells cs t (cs.size, cs.size + 1)) := by
  unfold World.freeze
  simp only [Nat.one_ne_zero, if_false]
  show ({ w.alloc _ with heap := _ } : World) = _
  have : ((w.heap.push (Obj.cells cs t (0, 0))).modify w.heap.size fun
      | .cells c elem (lo, hi) => .cells c elem (if lo == hi then (cs.size, cs.size + 1) else (min lo cs.size, max hi (cs.size + 1)))
      | o => o) = w.heap.push (.cells cs t (cs.size, cs.size + 1)) := by
    apply Array.ext_getElem?
    intro i
    rw [Array.getElem?_modify, Array.getElem?_push, Array.getElem?_push]
    by_cases h : i = w.heap.size
    · subst h; simp
    · rw [if_neg (Ne.symm h), if_neg h, if_neg h]
  exact congrArg (fun hp => ({ w with heap := hp } : World)) this

def strCells (s : ByteArray) (cap : Nat) : Array Value := (s.data.map fun b => Value.int .u8 b.toNat) ++ Array.replicate (cap - s.size) (Value.int .u8 0)

theorem str_bytes (hTy : TyOk P Ty) {src dst el : Nat} {sd : TypeDesc} {ed : TypeDesc} (hs : P.underlying src = some sd) (hsd : tdOf sd = some (.sc .s)) (hd : P.underlying dst = some (.slice el)) (he : P.underlying el = some ed) (hed : tdOf ed = some (.sc (.i .u8)))
    {E : Env} {H : Heap} {w : World} (hH : HRel E H w) (s : ByteArray) :
    ∃ x w' E', (convert src dst (.string s)).run P w = .ok x w' ∧ VRel E' (.sw H.next) x ∧ HRel E' ⟨H.next + 1, (H.next, some ⟨H.next, true, .row [.i .u8] (strInts s)⟩) :: H.bs⟩ w' ∧ Ext E E' ∧
      Fr E H w E' ⟨H.next + 1, (H.next, some ⟨H.next, true, .row [.i .u8] (strInts s)⟩) :: H.bs⟩ w' := by
  have := str_of hsd; subst this
  have := int_ty hed; subst this
  obtain ⟨hHd, hFd⟩ := Fr.drew hH
  have hlen : (strInts s).length = s.size := by unfold strInts; rw [List.length_map, Array.length_toList]; rfl
  -- how much memory is drawn
  generalize hcap : s.size + w.tape w.drawn (.appendCap s.size 0 el) % (2 ^ 63 - s.size) = cap
  have hle : s.size ≤ cap := by omega
  have hrun : (convert src dst (.string s)).run P w = .ok (.slice (some ⟨w.heap.size, 0, none⟩) s.size cap)
      (w.drew.alloc (.cells (strCells s cap) el
        ((strCells s cap).size, (strCells s cap).size + 1))) := by
    unfold convert
    simp only [Sem.run_bind, run_underlying hs, run_underlying hd, run_underlying he, Result.andThen_ok]
    unfold Conv.stringToBytes markStringish
    simp only [Sem.run_bind, run_choose, Question.forced, Bool.false_eq_true, if_false, Question.cut, World.drew_eq, Result.andThen_ok, run_newRow, run_shape, hcap, Sem.run_pure]
    change _ = _
    rw [show (Array.map (fun b : UInt8 => Value.int .u8 b.toNat) s.data ++ Array.replicate (cap - s.size) (Value.int .u8 0)) = strCells s cap from rfl]
    have hsh : (w.drew.alloc (.cells (strCells s cap) el (0, 0))).shape? w.drew.heap.size =
        some (el, (strCells s cap).size) := by
      unfold World.shape?
      rw [show (w.drew.alloc (.cells (strCells s cap) el (0, 0))).heap[w.drew.heap.size]? = some (.cells (strCells s cap) el (0, 0)) from by
        show (w.heap.push _)[w.heap.size]? = _
        rw [Array.getElem?_push, if_pos rfl]]
    rw [hsh]
    simp only [Sem.run_bind, run_freeze, Result.andThen_ok]
    rw [freeze_alloc]
    rfl
  obtain ⟨E', k1, k2, k3, k4⟩ := row_new (t := el) (fz := ((strCells s cap).size, (strCells s cap).size + 1))
    (ro := true) hHd (sh := [.i .u8]) (xs := strInts s) (cap := cap) (cs := strCells s cap) (by rw [hlen]; exact hle)
    (by unfold strCells; simp; show s.data.size + _ = _; have : s.data.size = s.size := rfl; omega) (fun h => by cases h) (fun j v hj => by
      obtain ⟨x, hx, hr⟩ := (strInts_rel E s).get j v hj
      have hlt : j < (s.data.map (fun b => Value.int .u8 b.toNat)).size := by
        have := (List.getElem?_eq_some_iff.1 hx).1; simpa using this
      exact ⟨x, by unfold strCells; rw [Array.getElem?_append_left hlt, ← Array.getElem?_toList]; exact hx, hr⟩)
  exact ⟨_, _, E', hrun, by rw [← hlen]; exact k1, k2, k3, hFd.trans k4⟩

theorem push_bytes (f : Value → ByteArray → Sem (ForInStep ByteArray)) (hf : ∀ n s w, (f (.int .u8 n) s).run P w = .ok (.yield (s.push (UInt8.ofNat n.toNat))) w) :
    ∀ (xs : List Int) (cs : List Value) (E : Env) (acc : ByteArray) (w : World), VRelL E (flatRow [.i .u8] xs) cs →
    (forIn cs acc f).run P w = .ok ⟨acc.data ++ (xs.map fun n : Int => UInt8.ofNat n.toNat).toArray⟩ w
  | [], [], _, acc, w, _ => by simp
  | x :: xs, c :: cs, E, acc, w, h => by
    have h' : VRelL E (.i .u8 x :: flatRow [.i .u8] xs) (c :: cs) := h
    cases h' with
    | cons h1 h2 =>
      have := int_of h1; subst this
      rw [List.forIn_cons]
      simp only [Sem.run_bind, hf, Result.andThen_ok]
      rw [push_bytes f hf xs cs E _ w h2]
      congr 1
      apply ByteArray.ext
      simp [ByteArray.push]
  | [], _ :: _, _, _, _, h => by cases h
  | _ :: _, [], _, _, _, h => by cases h

theorem bytes_str {E : Env} {xs : List Int} {xv : Value} {w : World} (h : Shows E P [.i .u8] xs xv w) (hns : ∀ s, xv ≠ .string s) : (Conv.bytesToString xv).run P w = .ok (.string (bytesOf xs)) w := by
  obtain ⟨arr, ha, hrel⟩ := h.cells
  have hl := h.len
  have key : ∀ (b : Option Addr) (n cap : Nat), xv = .slice b n cap → (Conv.bytesToString xv).run P w = .ok (.string (bytesOf xs)) w := by
    intro b n cap hx
    subst hx
    have hn : n = xs.length := by simpa [Builtin.lenOf] using hl
    subst hn
    cases b with
    | none =>
      have h0 : arr = #[] := by simpa [Builtin.firstCells] using ha.symm
      subst h0
      have : xs = [] := by
        have := hrel.length; rw [flatRow_length] at this; simp at this; exact this
      subst this; rfl
    | some a =>
      have hla : (loadCells a xs.length).run P w = .ok arr w := by simpa [Builtin.firstCells] using ha
      unfold Conv.bytesToString
      simp only [Sem.run_bind, hla, Result.andThen_ok]
      rw [← Array.forIn_toList]
      rw [push_bytes (P := P) _ (fun n s w => rfl) xs arr.toList E .empty w hrel]
      simp only [Result.andThen_ok, Sem.run_pure]
      congr 2
      apply ByteArray.ext
      simp [bytesOf]
  rcases h.kind with h | ⟨r, o, n, cap, h⟩ | ⟨s, h⟩ | ⟨b, cap, h⟩
  · exact key _ _ _ h
  · exact key _ _ _ h
  · exact absurd h (hns s)
  · exact key _ _ _ h

/-! ### Aggregates -/

theorem places_mapM {w : World} (hTy : TyOk P Ty) : ∀ (l : List Field) (fs : List (Nat × Nat)), l.map (fun f => (f.offset, f.type)) = fs → (∀ p ∈ fs, ∃ i, Ty p.2 = some i) →
    ∃ ps : List (Nat × Nat), (l.mapM fun f => (do pure (f.offset, ← sizeOf f.type) : Sem (Nat × Nat))).run P w = .ok ps w ∧ ∀ j off i, fieldOff Ty fs j = some (off, i) → ps[j]? = some (off, i.size)
  | [], fs, h, _ => ⟨[], by simp, fun j off i hj => by subst h; simp [fieldOff] at hj⟩
  | f :: l, fs, h, hk => by
    subst h
    simp only [List.map_cons] at hk
    obtain ⟨i, hi⟩ := hk _ List.mem_cons_self
    obtain ⟨info, d, hinfo, _, _, hsz, _⟩ := hTy.ok _ _ hi
    obtain ⟨ps, h1, h2⟩ := places_mapM hTy l _ rfl (fun p hp => hk p (List.mem_cons_of_mem _ hp))
    refine ⟨(f.offset, info.size) :: ps, ?_, fun j off i' hj => ?_⟩
    · rw [List.mapM_cons]
      simp only [Sem.run_bind, run_sizeOf hinfo, Result.andThen_ok, Sem.run_pure]
      rw [h1]; simp [hsz]
    · cases j with
      | zero =>
        simp only [fieldOff, List.map_cons, List.getElem?_cons_zero, Option.bind_some] at hj
        simp only at hi
        rw [hi, Option.bind_some] at hj
        cases hj
        simp [hsz]
      | succ j =>
        rw [List.getElem?_cons_succ]
        exact h2 j off i' (by simpa [fieldOff] using hj)

theorem parts_rel {E : Env} {T : Tmps} {a : Act} (h : TRel E T a) (ps : List (Nat × Operand)) :
    (ps.map fun p => (p.1, opd T p.2)).map (·.1) = (ps.map fun p => (p.1, a.eval p.2)).map (·.1) ∧ VRelL E ((ps.map fun p => (p.1, opd T p.2)).map (·.2)) ((ps.map fun p => (p.1, a.eval p.2)).map (·.2)) := by
  constructor
  · simp [List.map_map, Function.comp_def]
  · rw [List.map_map, List.map_map]
    have := opdsL_rel h (ps.map (·.2))
    simpa [opdsL, List.map_map, Function.comp_def] using this

end
end Go.Ab
