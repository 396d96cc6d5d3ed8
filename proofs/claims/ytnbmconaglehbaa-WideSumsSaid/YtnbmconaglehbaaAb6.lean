/- New blocks, loads and stores: the abstract ones and the machine's. Conditions: none. -/
import Derived.Test.YtnbmconaglehbaaAb5
import Derived.Laws.Cells
import Derived.Laws.World
import Derived.Laws.CopyRow
namespace Go.Ab
set_option linter.unusedVariables false
set_option linter.unusedSimpArgs false
open Go

def tdOf : TypeDesc → Option TD
  | .bool => some (.sc .b)
  | .int k => some (.sc (.i k))
  | .string => some (.sc .s)
  | .pointer e => some (.ptr e)
  | .slice e => some (.slice e)
  | .array n e => some (.arr n e)
  | .struct fs => some (.struct (fs.toList.map fun f => (f.offset, f.type)))
  | .func .. => some .func
  | .map k v => some (.map k v)
  | _ => none

structure TyOk (P : Program) (Ty : Types) : Prop where
  ok : ∀ t i, Ty t = some i → ∃ info d, P.info? t = some info ∧ P.underlying t = some d ∧ tdOf d = some i.d ∧ info.size = i.size ∧ info.bytes = i.bytes ∧
    ∃ z, info.zero = some z ∧ ∀ E, VRel E i.zero z

section
variable {P : Program} {Ty : Types}

theorem run_typeInfo {t : Nat} {info : TypeInfo} (h : P.info? t = some info) (w : World) : (typeInfo t).run P w = .ok info w := by simp [typeInfo, h]
theorem run_underlying {t : Nat} {d : TypeDesc} (h : P.underlying t = some d) (w : World) : (underlying t).run P w = .ok d w := by simp [underlying, h]
theorem run_sizeOf {t : Nat} {info : TypeInfo} (h : P.info? t = some info) (w : World) : (sizeOf t).run P w = .ok info.size w := by simp [sizeOf, run_typeInfo h]
theorem run_zeroValue {t : Nat} {info : TypeInfo} {z : Value} (h : P.info? t = some info) (hz : info.zero = some z) (w : World) : (zeroValue t).run P w = .ok z w := by
  simp [zeroValue, run_typeInfo h, hz]
theorem run_isAgg {t : Nat} {d : TypeDesc} {td : TD} (h : P.underlying t = some d) (hd : tdOf d = some td) (w : World) : (isAgg t).run P w = .ok td.isAgg w := by
  cases d <;> simp [tdOf] at hd <;> subst hd <;> simp [isAgg, run_underlying h, TD.isAgg]

theorem addr_add (r o j : Nat) : (⟨r, o, none⟩ : Addr).add j = ⟨r, o + j, none⟩ := by
  unfold Addr.add; split <;> simp_all

theorem Lies.at {E : Env} {ent : Ent} {ro : Bool} {b : Blk} {r : Nat} {w : World} (h : Lies E ent ro b r w) {f n : Nat} (hf : f + n ≤ b.flat.length) :
    ∃ lst : List Value, lst.length = n ∧ VRelL E (seg b.flat f n) lst ∧ ∀ j v, lst[j]? = some v → w.cell? ⟨r, ent.off + f + j, none⟩ = some v := by
  obtain ⟨cs, t, fz, h1, h2, h3, h4, h5⟩ := h.ex
  refine ⟨(cs.toList.drop (ent.off + f)).take n, ?_, ?_, ?_⟩
  · simp; omega
  · refine VRelL.of_get (by rw [seg_length hf]; simp; omega) fun j v x hv hx => ?_
    unfold seg at hv
    simp only [List.getElem?_take, List.getElem?_drop] at hv hx
    split at hv
    · rename_i hj
      rw [if_pos hj] at hx
      obtain ⟨y, hy, hr⟩ := h4 _ v hv
      rw [Array.getElem?_toList, show ent.off + f + j = ent.off + (f + j) by omega, hy] at hx
      cases hx; exact hr
    · cases hv
  · intro j v hj
    simp only [List.getElem?_take, List.getElem?_drop] at hj
    split at hj
    · simp only [World.cell?, h1]
      simpa using hj
    · cases hj

theorem VRelL.one {E : Env} {v : AV} {lst : List Value} (h : VRelL E [v] lst) : ∃ x, lst = [x] ∧ VRel E v x := by
  cases h with
  | cons h t => cases t; exact ⟨_, rfl, h⟩

theorem run_loadVar {t : Nat} {info : TypeInfo} {d : TypeDesc} {td : TD} (hi : P.info? t = some info) (hu : P.underlying t = some d) (hd : tdOf d = some td) {w : World} {r o : Nat} {lst : List Value}
    (hl : lst.length = if td.isAgg then info.size else 1) (h : ∀ j v, lst[j]? = some v → w.cell? ⟨r, o + j, none⟩ = some v) :
    (loadVar t ⟨r, o, none⟩).run P w = .ok (if td.isAgg then .agg lst.toArray else lst.getD 0 undef) w := by
  unfold loadVar
  simp only [Sem.run_bind, run_isAgg hu hd, Result.andThen_ok]
  cases hb : td.isAgg with
  | true =>
    simp only [if_true] at *
    simp only [hb] at hl
    have := run_loadCells_list (P := P) w ⟨r, o, none⟩ lst (fun j v hj => by rw [addr_add]; exact h j v hj)
    simp only [if_true] at hl
    rw [hl] at this
    simp [run_sizeOf hi, this]
  | false =>
    simp only [hb, Bool.false_eq_true, if_false] at *
    obtain ⟨x, rfl⟩ : ∃ x, lst = [x] := by
      cases lst with
      | nil => simp at hl
      | cons a l => cases l with
        | nil => exact ⟨a, rfl⟩
        | cons _ _ => simp at hl
    have := h 0 x rfl
    simp only [Nat.add_zero] at this
    simp [run_load, this]

theorem HRel.okMix {E : Env} {H : Heap} {w : World} (h : HRel E H w) {id : Nat} {hb : HB} (hg : H.get id = some hb) : hb.blk.okMix := by
  intro pre sh n xs post he
  obtain ⟨ent, _, hB⟩ := h.live id hb hg
  have := hB.fits
  rw [he] at this
  exact this

/-- A pointer's block. -/
theorem ptr_lies {E : Env} {H : Heap} {w : World} (hH : HRel E H w) {id base e sz o : Nat} {hb : HB} {x : Value} (hg : H.get id = some hb) (hx : VRel E (.ptr id base e sz o) x) :
    ∃ ent r, E id = some ent ∧ ent.r = some r ∧ BRel E ent hb w ∧ Lies E ent hb.ro hb.blk r w ∧ x = .pointer (some ⟨r, ent.off + (base + e * sz + o), none⟩) := by
  cases hx with
  | ptr h hr =>
    obtain ⟨ent', he, hB⟩ := hH.live id hb hg
    rw [h] at he; cases he
    exact ⟨_, _, h, hr, hB, hB.lies _ hr, rfl⟩

theorem loadK_sound {R : Type} (hTy : TyOk P Ty) {H : Heap} {t : Nat} {a : AV} {K : AV → Heap → Option R} {r : R} (h : loadK Ty H t a K = some r) :
    ∃ v, K v H = some r ∧ ∀ E w x, VRel E a x → HRel E H w → ∃ y, (Instr.loadAt t x).run P w = .ok y w ∧ VRel E v y := by
  unfold loadK at h
  split at h
  · rename_i i id base e sz o hTi
    obtain ⟨info, d, hi, hu, hd, hsz, hby, _⟩ := hTy.ok _ _ hTi
    cases hg : H.get id with
    | none => rw [hg] at h; cases h
    | some hb =>
      rw [hg] at h
      simp only at h
      -- what a read of cells gives
      have key : ∀ (n : Nat) (l : List AV), n = (if i.d.isAgg then i.size else 1) → (hb.blk.okMix → l = seg hb.blk.flat (base + e * sz + o) n ∧ base + e * sz + o + n ≤ hb.blk.flat.length) →
          ∀ E w x, VRel E (.ptr id base e sz o) x → HRel E H w → ∃ lst : List Value, VRelL E l lst ∧ (Instr.loadAt t x).run P w = .ok (if i.d.isAgg then .agg lst.toArray else lst.getD 0 undef) w := by
        intro n l hn hle E w x hx hH
        obtain ⟨hl, hle⟩ := hle (hH.okMix hg)
        obtain ⟨ent, rr, he, hr, hB, hL, rfl⟩ := ptr_lies hH hg hx
        obtain ⟨lst, hll, hrel, hc⟩ := hL.at hle
        refine ⟨lst, hl ▸ hrel, ?_⟩
        have := run_loadVar hi hu hd (w := w) (r := rr) (o := ent.off + (base + e * sz + o)) (lst := lst) (by rw [hll, hn, hsz]) (fun j v hj => by
          have := hc j v hj; rwa [show ent.off + (base + e * sz + o) + j = ent.off + (base + e * sz + o) + j from rfl])
        simp only [Instr.loadAt, Instr.sureAddr, Sem.run_bind, Sem.run_pure, Result.andThen_ok]
        exact this
      cases hagg : i.d.isAgg with
      | false =>
        rw [hagg] at h
        simp only at h
        obtain ⟨_, l, h1, h2⟩ := rd_sound h
        split at h1
        · rename_i v
          refine ⟨v, h1, fun E w x hx hH => ?_⟩
          obtain ⟨lst, hrel, hrun⟩ := key 1 [v] (by simp [hagg]) h2 E w x hx hH
          obtain ⟨y, rfl, hy⟩ := hrel.one
          simp only [hagg] at hrun
          exact ⟨y, by simpa using hrun, hy⟩
        · cases h1
      | true =>
        rw [hagg] at h
        simp only at h
        have fin : ∀ {K' : List AV → Option R}, (∀ l, K' l = K (.agg l) H) → rd hb.blk base e sz o i.size K' = some r →
            ∃ v, K v H = some r ∧ ∀ E w x, VRel E (.ptr id base e sz o) x → HRel E H w → ∃ y, (Instr.loadAt t x).run P w = .ok y w ∧ VRel E v y := by
          intro K' hK' h
          obtain ⟨_, l, h1, h2⟩ := rd_sound h
          rw [hK'] at h1
          refine ⟨_, h1, fun E w x hx hH => ?_⟩
          obtain ⟨lst, hrel, hrun⟩ := key i.size l (by simp [hagg]) h2 E w x hx hH
          simp only [hagg, if_true] at hrun
          exact ⟨_, hrun, .agg (by simpa using hrel)⟩
        split at h
        · rename_i pre sh n xs post hblk
          rcases bool_cases h with ⟨hc, hK⟩ | ⟨_, h⟩
          · simp only [Bool.and_eq_true] at hc
            have e1 := beq_eq hc.1.1; have e2 := beq_eq hc.1.2; have e3 := beq_eq hc.2
            subst e1
            refine ⟨_, hK, fun E w x hx hH => ?_⟩
            have hn := hH.okMix hg pre sh n xs post hblk
            have hfl : hb.blk.flat = pre ++ flatRow sh xs ++ post := by rw [hblk]; rfl
            have hflen : hb.blk.flat.length = i.size := by
              rw [hfl, e3]; simp only [List.length_append, flatRow_length, hn]; rw [Nat.mul_comm]
            obtain ⟨lst, hrel, hrun⟩ := key i.size (pre ++ flatRow sh xs ++ post) (by simp [hagg]) (fun _ => ⟨by
              rw [show base + e * 0 + o = 0 by omega]; unfold seg; rw [← hfl, List.drop_zero, ← hflen, List.take_length], by rw [hflen]; omega⟩) E w x hx hH
            simp only [hagg, if_true] at hrun
            exact ⟨_, hrun, .mix (by simpa using hrel) hn⟩
          · rcases bool_cases h with ⟨hc, hK⟩ | ⟨_, h⟩
            · simp only [Bool.and_eq_true] at hc
              have e1 := beq_eq hc.1.1; have e2 := beq_eq hc.1.2; have e3 := beq_eq hc.2
              subst e1
              refine ⟨_, hK, fun E w x hx hH => ?_⟩
              have hn := hH.okMix hg pre sh n xs post hblk
              have hfl : hb.blk.flat = pre ++ flatRow sh xs ++ post := by rw [hblk]; rfl
              have hrl : (flatRow sh xs).length = i.size := by rw [e3, flatRow_length, hn, Nat.mul_comm]
              obtain ⟨lst, hrel, hrun⟩ := key i.size (flatRow sh xs) (by simp [hagg]) (fun _ => ⟨by
                rw [show base + e * 0 + o = pre.length by omega, hfl, List.append_assoc, seg_append_right (Nat.le_refl _), Nat.sub_self]
                unfold seg
                rw [List.drop_zero, List.take_append_of_le_length (by omega), ← hrl, List.take_length], by rw [hfl]; simp only [List.length_append]; omega⟩) E w x hx hH
              simp only [hagg, if_true] at hrun
              refine ⟨_, hrun, .mix (by simpa using hrel) hn⟩
            · exact fin (fun _ => rfl) h
        · exact fin (fun _ => rfl) h
  · cases h

/-! ### A new block -/

def envAdd (E : Env) (id : Nat) (ent : Ent) : Env := fun j => if j = id then some ent else E j

theorem HRel.add {E : Env} {H : Heap} {w : World} (h : HRel E H w) {blk : Blk} {ent : Ent} {cs : Array Value} {t : TypeId} {fz : Nat × Nat} {ro : Bool} {fam : Nat} (hc : blk.isCells = true) (hfit : blk.fits ent)
    (hr : ent.r = some w.heap.size) (hoff : ent.off = 0) (hsz : ent.size = cs.size) (hl : blk.flat.length ≤ cs.size) (hro : ro = false → fz = (0, 0))
    (hv : ∀ (j : Nat) (v : AV), blk.flat[j]? = some v → ∃ x, cs[j]? = some x ∧ VRel E v x) :
    HRel (envAdd E H.next ent) ⟨H.next + 1, (H.next, some ⟨fam, ro, blk⟩) :: H.bs⟩ (w.alloc (.cells cs t fz)) ∧ Ext E (envAdd E H.next ent) ∧
      Fr E H w (envAdd E H.next ent) ⟨H.next + 1, (H.next, some ⟨fam, ro, blk⟩) :: H.bs⟩ (w.alloc (.cells cs t fz)) := by
  have hext : Ext E (envAdd E H.next ent) := by
    intro id e he
    have : id ≠ H.next := fun hh => by rw [hh, h.dom _ (Nat.le_refl _)] at he; cases he
    simp [envAdd, this, he]
  have hget : ∀ j, (⟨H.next + 1, (H.next, some ⟨fam, ro, blk⟩) :: H.bs⟩ : Heap).get j = if H.next = j then some ⟨fam, ro, blk⟩ else H.get j := fun j => look_cons _ _ _ _
  have hold : ∀ b, b < w.heap.size → (w.alloc (.cells cs t fz)).heap[b]? = w.heap[b]? := by
    intro b hb
    show (w.heap.push _)[b]? = _
    rw [Array.getElem?_push, if_neg (Nat.ne_of_lt hb)]
  have hlt : ∀ id hb e r, H.get id = some hb → E id = some e → e.r = some r → r < w.heap.size := fun id hb e r h1 h2 h3 => Tr.lt ⟨id, hb, e, h1, h2, h3⟩ h
  refine ⟨⟨fun id hid => ?_, fun id hb hg => ?_, ?_, fun i hi => (by
    by_cases hn : i = H.next
    · exact ⟨_, by simp [envAdd, hn]; rfl⟩
    · obtain ⟨e, he⟩ := h.full i (by simp at hi; omega)
      exact ⟨e, hext _ _ he⟩)⟩, hext, ⟨rfl, rfl, rfl, by simp, fun b hb _ => hold b hb, ?_⟩⟩
  · simp only [envAdd]
    rw [if_neg (by simp at hid; omega)]
    exact h.dom id (by simp at hid; omega)
  · rw [hget] at hg
    by_cases hj : H.next = id
    · subst hj
      rw [if_pos rfl] at hg; cases hg
      refine ⟨ent, by simp [envAdd], ⟨hc, hfit, fun hn => (by rw [hr] at hn; cases hn), fun r hr' => ?_⟩⟩
      rw [hr] at hr'; cases hr'
      refine ⟨cs, t, fz, (show (w.heap.push _)[w.heap.size]? = _ by rw [Array.getElem?_push, if_pos rfl]), hsz.symm, by rw [hoff]; simpa using hl, fun j v hj => ?_, hro⟩
      rw [hoff, Nat.zero_add]
      obtain ⟨x, hx, hrel⟩ := hv j v hj
      exact ⟨x, hx, hrel.mono hext⟩
    · rw [if_neg hj] at hg
      obtain ⟨e, he, hB⟩ := h.live id hb hg
      refine ⟨e, hext _ _ he, ⟨hB.cells, hB.fits, hB.void, fun r hr' => ?_⟩⟩
      exact (hB.lies r hr').same (hold r (hB.lies r hr').lt) rfl fun j v' x hj hv => (hv v' hj).mono hext
  · intro i j hi hj ei ej r hgi hgj hei hej hri hrj
    rw [hget] at hgi hgj
    simp only [envAdd] at hei hej
    by_cases h1 : H.next = i
    · subst h1
      rw [if_pos rfl] at hgi hei; cases hgi; cases hei
      rw [hr] at hri; cases hri
      by_cases h2 : H.next = j
      · subst h2; rw [if_pos rfl] at hgj; cases hgj; rfl
      · rw [if_neg h2] at hgj; rw [if_neg (Ne.symm h2)] at hej
        exact absurd (hlt j hj ej _ hgj hej hrj) (Nat.lt_irrefl _)
    · rw [if_neg h1] at hgi; rw [if_neg (Ne.symm h1)] at hei
      by_cases h2 : H.next = j
      · subst h2
        rw [if_pos rfl] at hgj hej; cases hgj; cases hej
        rw [hr] at hrj; cases hrj
        exact absurd (hlt i hi ei _ hgi hei hri) (Nat.lt_irrefl _)
      · rw [if_neg h2] at hgj; rw [if_neg (Ne.symm h2)] at hej
        exact h.fam i j hi hj ei ej r hgi hgj hei hej hri hrj
  · rintro b ⟨id, hb, e, hg, he, hr'⟩ hblt
    rw [hget] at hg
    by_cases hj : H.next = id
    · subst hj
      simp only [envAdd, if_true] at he; cases he
      rw [hr] at hr'; cases hr'
      exact absurd hblt (Nat.lt_irrefl _)
    · rw [if_neg hj] at hg
      simp only [envAdd] at he
      rw [if_neg (Ne.symm hj)] at he
      exact ⟨id, hb, e, hg, he, hr'⟩

theorem VRel.cellsOne {E : Env} {v : AV} {x : Value} (h : VRel E v x) (ho : v.isOne = true) : x.oneCell' = true ∧ x.cells = #[x] := by
  cases h <;> first | (cases ho; done) | exact ⟨rfl, rfl⟩

theorem VRel.cells {E : Env} {v : AV} {x : Value} {cs : List AV} (h : VRel E v x) (hc : v.cells = some cs) : VRelL E cs x.cells.toList := by
  cases v with
  | agg l =>
    cases h with
    | agg h => simp only [AV.cells, Option.some.injEq] at hc; subst hc; exact h
  | mix _ _ _ _ _ => cases hc
  | tup _ => cases hc
  | u => cases hc
  | junk => cases hc
  | _ =>
    simp only [AV.cells, AV.isOne, Option.some.injEq] at hc
    subst hc
    rw [(h.cellsOne rfl).2]
    exact .cons h .nil

theorem VRel.blk {E : Env} {v : AV} {x : Value} {b : Blk} (h : VRel E v x) (hb : blkOf v = some b) :
    b.isCells = true ∧ VRelL E b.flat x.cells.toList ∧ b.okMix ∧ ∀ sh xs, b ≠ .row sh xs := by
  cases v with
  | mix pre sh n xs post =>
    cases h with
    | mix h hn =>
      simp only [blkOf, Option.some.injEq] at hb; subst hb
      exact ⟨rfl, h, fun _ _ _ _ _ he => (by cases he; exact hn), fun _ _ he => (by cases he)⟩
  | _ =>
    simp only [blkOf] at hb
    split at hb
    · rename_i cs hcs
      cases hb
      exact ⟨rfl, h.cells hcs, fun _ _ _ _ _ he => (by cases he), fun _ _ he => (by cases he)⟩
    · cases hb

/-- A new block, with what its cells are. -/
theorem alloc_sound {E : Env} {H : Heap} {w : World} (h : HRel E H w) {v : AV} {x : Value} {b : Blk} {t : TypeId} (hv : VRel E v x) (hb : blkOf v = some b) :
    ∃ E', HRel E' (H.add b) (w.alloc (.cells x.cells t)) ∧ Ext E E' ∧ Fr E H w E' (H.add b) (w.alloc (.cells x.cells t)) ∧ VRel E' (.ptr H.next 0 0 0 0) (.pointer (some ⟨w.heap.size, 0, none⟩)) := by
  obtain ⟨h1, h2, h3, h4⟩ := hv.blk hb
  have hlen := h2.length
  obtain ⟨k1, k2, k3⟩ := HRel.add (t := t) (fz := (0, 0)) (ro := false) (fam := H.next) h (blk := b) (ent := ⟨some w.heap.size, 0, x.cells.size, 0, 0⟩) (cs := x.cells) h1 (by
    cases b with
    | row sh xs => exact absurd rfl (h4 sh xs)
    | mix pre sh n xs post => exact h3 _ _ _ _ _ rfl
    | _ => trivial) rfl rfl rfl (by rw [hlen]; simp) (fun _ => rfl) (fun j v hj => by
      obtain ⟨y, hy, hr⟩ := h2.get j v hj
      exact ⟨y, by simpa using hy, hr⟩)
  refine ⟨_, k1, k2, k3, ?_⟩
  have := VRel.ptr (E := envAdd E H.next ⟨some w.heap.size, 0, x.cells.size, 0, 0⟩) (id := H.next) (base := 0) (e := 0) (sz := 0) (o := 0) (ent := ⟨some w.heap.size, 0, x.cells.size, 0, 0⟩) (r := w.heap.size) (by simp [envAdd]) rfl
  simpa using this

/-! ### A store -/

theorem any_kill {fam but id : Nat} (hne : id ≠ but) {g : HB} (hf : g.fam = fam) : ∀ (l : List (Nat × Option HB)), (id, some g) ∈ l → ((killFam fam but l).any fun p => p.1 == id) = true
  | [], h => by cases h
  | (i, none) :: l, h => by
    rw [killFam]
    rcases List.mem_cons.1 h with h | h
    · cases h
    · exact any_kill hne hf l h
  | (i, some g') :: l, h => by
    rw [killFam]
    rcases List.mem_cons.1 h with h | h
    · cases h
      have h1 : (Nat.beq g.fam fam && !Nat.beq id but) = true := by rw [hf, beq_self, beq_ne hne]; rfl
      rw [h1, cond_true, List.any_cons]; simp
    · have ih := any_kill hne hf l h
      cases (Nat.beq g'.fam fam && !Nat.beq i but) with
      | true => rw [cond_true, List.any_cons, ih]; simp
      | false => exact ih

theorem look_kill {fam but : Nat} : ∀ (l : List (Nat × Option HB)) (id : Nat), look (killFam fam but l) id = none
  | [], _ => rfl
  | (i, none) :: l, id => by rw [killFam]; exact look_kill l id
  | (i, some g') :: l, id => by
    rw [killFam]
    cases (Nat.beq g'.fam fam && !Nat.beq i but) with
    | true => rw [cond_true, look_cons]; split; rfl; exact look_kill l id
    | false => exact look_kill l id

/-- Behind the others' end: what is told is of other families. -/
theorem get_killed {H : Heap} {next id : Nat} {hb : HB} {fam but : Nat} {j : Nat} {g : HB} (h : (⟨next, (id, some hb) :: (killFam fam but H.bs ++ H.bs)⟩ : Heap).get j = some g) :
    (j = id ∧ g = hb) ∨ (j ≠ id ∧ H.get j = some g ∧ (g.fam ≠ fam ∨ j = but)) := by
  simp only [Heap.get] at h
  rw [look_cons] at h
  by_cases hj : id = j
  · rw [if_pos hj] at h; cases h; exact .inl ⟨hj.symm, rfl⟩
  · rw [if_neg hj, look_append] at h
    split at h
    · rw [look_kill] at h; cases h
    · rename_i hany
      refine .inr ⟨Ne.symm hj, h, ?_⟩
      by_cases hb : j = but
      · exact .inr hb
      · exact .inl fun hf => hany (any_kill hb hf H.bs (mem_of_look h))

theorem alike_fits {b b' : Blk} {ent : Ent} (h : b.alike b') (hf : b.fits ent) : b'.fits ent := by
  cases b <;> cases b' <;> simp_all [Blk.alike, Blk.fits]

theorem alike_cells {b b' : Blk} (h : b.alike b') : b'.isCells = true := by
  cases b <;> cases b' <;> simp_all [Blk.alike, Blk.isCells]

theorem putSeg_get {a vs : List AV} {f j : Nat} (h : f + vs.length ≤ a.length) : (putSeg a f vs)[j]? = if f ≤ j ∧ j < f + vs.length then vs[j - f]? else a[j]? := by
  unfold putSeg
  by_cases h1 : j < f
  · rw [if_neg (by omega), List.append_assoc, List.getElem?_append_left (by simp; omega), List.getElem?_take, if_pos h1]
  · by_cases h2 : j < f + vs.length
    · rw [if_pos (by omega), List.append_assoc, List.getElem?_append_right (by simp; omega), List.getElem?_append_left (by simp; omega)]
      congr 1; simp; omega
    · rw [if_neg (by omega), List.getElem?_append_right (by simp; omega), List.getElem?_drop]
      congr 1; simp; omega

/-- A block's cells are turned. -/
theorem HRel.set {E : Env} {H : Heap} {w : World} (h : HRel E H w) {id : Nat} {hb : HB} {ent : Ent} {r : Nat} {cs cs' : Array Value} {t : TypeId} {blk : Blk}
    (hg : H.get id = some hb) (he : E id = some ent) (hr : ent.r = some r) (hw : w.heap[r]? = some (.cells cs t (0, 0))) (hsz : cs'.size = cs.size) (hcs : cs.size = ent.size)
    (hc : blk.isCells = true) (hfit : blk.fits ent) (hlen : ent.off + blk.flat.length ≤ cs.size)
    (hv : ∀ (j : Nat) (v : AV), blk.flat[j]? = some v → ∃ x, cs'[ent.off + j]? = some x ∧ VRel E v x) :
    HRel E ⟨H.next, (id, some ⟨hb.fam, false, blk⟩) :: (killFam hb.fam id H.bs ++ H.bs)⟩ (w.setRow r cs') ∧
      Fr E H w E ⟨H.next, (id, some ⟨hb.fam, false, blk⟩) :: (killFam hb.fam id H.bs ++ H.bs)⟩ (w.setRow r cs') := by
  have hother : ∀ j g e rr, j ≠ id → H.get j = some g → (g.fam ≠ hb.fam ∨ j = id) → E j = some e → e.r = some rr → rr ≠ r := by
    intro j g e rr hj hgj hf hej hrr heq
    rcases hf with hf | hf
    · exact hf (h.fam j id g hb e ent r hgj hg hej he (heq ▸ hrr) hr)
    · exact hj hf
  refine ⟨⟨h.dom, fun j g hj => ?_, ?_, h.full⟩, ⟨rfl, rfl, rfl, by simp, fun b hb' ht => ?_, ?_⟩⟩
  · rcases get_killed hj with ⟨rfl, rfl⟩ | ⟨hne, hgj, hf⟩
    · refine ⟨ent, he, ⟨hc, hfit, fun hn => (by rw [hr] at hn; cases hn), fun r' hr' => ?_⟩⟩
      rw [hr] at hr'; cases hr'
      exact ⟨cs', t, (0, 0), setRow_heap w r cs cs' t (0, 0) hw, hsz.trans hcs, by rw [hsz]; exact hlen, hv, fun _ => rfl⟩
    · obtain ⟨e, he', hB⟩ := h.live j g hgj
      refine ⟨e, he', ⟨hB.cells, hB.fits, hB.void, fun rr hrr => ?_⟩⟩
      exact (hB.lies rr hrr).same (setRow_other w r rr cs' (hother j g e rr hne hgj hf he' hrr)) rfl fun _ v' _ hj hv => hv v' hj
  · intro i j hi hj ei ej rr hgi hgj hei hej hri hrj
    rcases get_killed hgi with ⟨rfl, rfl⟩ | ⟨hnei, hgi', hfi⟩ <;> rcases get_killed hgj with ⟨rfl, rfl⟩ | ⟨hnej, hgj', hfj⟩
    · rfl
    · rw [he] at hei; cases hei; rw [hr] at hri; cases hri
      exact absurd rfl (hother j hj ej _ hnej hgj' hfj hej hrj)
    · rw [he] at hej; cases hej; rw [hr] at hrj; cases hrj
      exact absurd rfl (hother i hi ei _ hnei hgi' hfi hei hri)
    · exact h.fam i j hi hj ei ej rr hgi' hgj' hei hej hri hrj
  · exact setRow_other w r b cs' fun heq => ht ⟨id, hb, ent, hg, he, heq ▸ hr⟩
  · rintro b ⟨j, g, e, hgj, hej, hrj⟩ _
    rcases get_killed hgj with ⟨rfl, rfl⟩ | ⟨_, hgj', _⟩
    · exact ⟨_, hb, e, hg, hej, hrj⟩
    · exact ⟨j, g, e, hgj', hej, hrj⟩

theorem VRelL.oneCell {E : Env} : ∀ {vs : List AV} {xs : List Value}, VRelL E vs xs → vs.all AV.isOne = true → ∀ x ∈ xs, x.oneCell' = true
  | [], [], _, _ => by simp
  | v :: vs, x :: xs, .cons h t, ha => by
    simp only [List.all_cons, Bool.and_eq_true] at ha
    intro y hy
    rcases List.mem_cons.1 hy with rfl | hy
    · exact (h.cellsOne ha.1).1
    · exact VRelL.oneCell t ha.2 y hy

theorem flatRow_one (sh : List SK) (xs : List (Tup sh)) : (flatRow sh xs).all AV.isOne = true := by
  have h1 : ∀ (sh : List SK) (x : Tup sh), (Tup.all sh x).all AV.isOne = true := by
    intro sh
    induction sh with
    | nil => intro x; rfl
    | cons k ks ih =>
      cases ks with
      | nil => intro x; cases k <;> rfl
      | cons k' ks =>
        intro x
        have := ih x.2
        cases k <;> simpa [Tup.all, SK.av, AV.isOne] using this
  induction xs with
  | nil => rfl
  | cons y ys ih => unfold flatRow at *; rw [List.flatMap_cons, List.all_append, h1, ih]; rfl

/-- The machine's store of these cells at this place. -/
theorem store_run {E : Env} {H : Heap} {w : World} (hH : HRel E H w) {t : Nat} {info : TypeInfo} (hi : P.info? t = some info) {id base e sz o : Nat} {hb : HB} {x y : Value} {vs : List AV} {blk : Blk}
    (hg : H.get id = some hb) (hro : hb.ro = false) (hx : VRel E (.ptr id base e sz o) x) (hy : VRelL E vs y.cells.toList) (hone : vs.all AV.isOne = true) (hsz : vs.length = info.size)
    (hflat : blk.flat = putSeg hb.blk.flat (base + e * sz + o) vs) (hle : base + e * sz + o + vs.length ≤ hb.blk.flat.length) (hal : hb.blk.alike blk) :
    ∃ w', (Instr.storeAt t x y).run P w = .ok () w' ∧ HRel E ⟨H.next, (id, some ⟨hb.fam, false, blk⟩) :: (killFam hb.fam id H.bs ++ H.bs)⟩ w' ∧
      Fr E H w E ⟨H.next, (id, some ⟨hb.fam, false, blk⟩) :: (killFam hb.fam id H.bs ++ H.bs)⟩ w' := by
  obtain ⟨ent, r, he, hr, hB, hL, rfl⟩ := ptr_lies hH hg hx
  obtain ⟨cs, t', fz, h1, h2, h3, h4, h5⟩ := hL.ex
  have h6 := h5 hro; subst h6
  have hlen := hy.length
  have hst := run_storeCells_at (P := P) r (ent.off + (base + e * sz + o)) t' y.cells.toList 0 cs w h1 (by rw [← hlen]; omega) (hy.oneCell hone)
  have hset := hH.set (cs' := (cs.toList.take (ent.off + (base + e * sz + o)) ++ y.cells.toList ++ cs.toList.drop (ent.off + (base + e * sz + o) + y.cells.toList.length)).toArray) (blk := blk)
    hg he hr h1 (by simp at hlen ⊢; omega) h2 (alike_cells hal) (alike_fits hal hB.fits) (by rw [hflat, putSeg_length hle]; exact h3) (fun j v hj => by
      rw [hflat, putSeg_get hle] at hj
      by_cases hjr : base + e * sz + o ≤ j ∧ j < base + e * sz + o + vs.length
      · rw [if_pos hjr] at hj
        obtain ⟨z, hz, hrel⟩ := hy.get _ v hj
        refine ⟨z, ?_, hrel⟩
        rw [List.getElem?_toArray, List.append_assoc, List.getElem?_append_right (by simp; omega), List.getElem?_append_left (by simp at hlen ⊢; omega)]
        rw [← hz]; congr 1; simp; omega
      · rw [if_neg hjr] at hj
        obtain ⟨z, hz, hrel⟩ := h4 j v hj
        refine ⟨z, ?_, hrel⟩
        rw [List.getElem?_toArray]
        by_cases hlt : j < base + e * sz + o
        · rw [List.append_assoc, List.getElem?_append_left (by simp; omega), List.getElem?_take, if_pos (by omega), Array.getElem?_toList]; exact hz
        · rw [List.getElem?_append_right (by simp at hlen ⊢; omega), List.getElem?_drop]
          rw [← hz, ← Array.getElem?_toList]; congr 1; simp at hlen ⊢; omega)
  refine ⟨_, ?_, hset⟩
  have hne : ¬ (y.cells.size ≠ info.size) := by rw [← hsz, hlen]; simp
  simp only [Instr.storeAt, Instr.sureAddr, Sem.run_bind, Sem.run_pure, Result.andThen_ok, storeVar, run_sizeOf hi]
  rw [if_neg hne]
  simpa using hst

theorem storeK_sound {R : Type} (hTy : TyOk P Ty) {H : Heap} {t : Nat} {a v : AV} {K : Heap → Option R} {r : R} (h : storeK Ty H t a v K = some r) :
    ∃ H', K H' = some r ∧ ∀ E w x y, VRel E a x → VRel E v y → HRel E H w → ∃ w', (Instr.storeAt t x y).run P w = .ok () w' ∧ HRel E H' w' ∧ Fr E H w E H' w' := by
  unfold storeK at h
  split at h
  · rename_i i id base e sz o hTi
    obtain ⟨info, d, hi, hu, hd, hsz, hby, _⟩ := hTy.ok _ _ hTi
    cases hg : H.get id with
    | none => rw [hg] at h; cases h
    | some hb =>
      rw [hg] at h
      simp only at h
      obtain ⟨hro, h⟩ := cond_none_some h
      have plain : ∀ {K' : Blk → Option R}, (match v.cells with
          | some vs => cond (Nat.beq vs.length i.size && vs.all AV.isOne) (wr hb.blk base e sz o vs K') none
          | none => none) = some r → (∀ b, K' b = K ⟨H.next, (id, some ⟨hb.fam, false, b⟩) :: (killFam hb.fam id H.bs ++ H.bs)⟩) →
          ∃ H', K H' = some r ∧ ∀ E w x y, VRel E (.ptr id base e sz o) x → VRel E v y → HRel E H w → ∃ w', (Instr.storeAt t x y).run P w = .ok () w' ∧ HRel E H' w' ∧ Fr E H w E H' w' := by
        intro K' h hK'
        split at h
        · rename_i vs hvs
          obtain ⟨hc, h⟩ := cond_some h
          rw [Bool.and_eq_true] at hc
          obtain ⟨_, blk, hK, hw⟩ := wr_sound h
          rw [hK'] at hK
          refine ⟨_, hK, fun E w x y hx hy hH => ?_⟩
          obtain ⟨k1, k2, k3⟩ := hw (hH.okMix hg)
          exact store_run hH hi hg hro hx (hy.cells hvs) hc.2 ((beq_eq hc.1).trans hsz.symm) k1 k2 k3
        · cases h
      cases v with
      | mix pre sh n xs post =>
        simp only at h
        split at h
        · rename_i pre' sh' n' xs' post' hblk
          obtain ⟨hc, hK⟩ := cond_some h
          simp only [Bool.and_eq_true] at hc
          obtain ⟨⟨⟨⟨⟨⟨⟨⟨c1, c2⟩, c3⟩, c4⟩, c5⟩, c6⟩, c7⟩, c8⟩, c9⟩ := hc
          have e1 := beq_eq c1; have e2 := beq_eq c2; have e3 := beq_eq c3; have e4 := beq_eq c4; have e5 := beq_eq c5; have e6 := beq_eq c6; have e7 := beq_eq c7
          subst e1
          refine ⟨_, hK, fun E w x y hx hy hH => ?_⟩
          have hn' := hH.okMix hg _ _ _ _ _ hblk
          cases hy with
          | mix hy hn =>
            have hfl : hb.blk.flat.length = i.size := by
              rw [hblk, e7]; simp only [Blk.flat, List.length_append, flatRow_length, hn']; rw [e3, e4, e5, e6, Nat.mul_comm]
            have hvl : (pre ++ flatRow sh xs ++ post).length = i.size := by
              rw [e7]; simp only [List.length_append, flatRow_length, hn]; rw [Nat.mul_comm]
            refine store_run (y := .agg _) hH hi hg hro hx hy (by rw [List.all_append, List.all_append, c8, c9, flatRow_one]; rfl) (hvl.trans hsz.symm) ?_ ?_ ?_
            · show pre ++ flatRow sh xs ++ post = _
              rw [show base + e * 0 + o = 0 by omega]
              unfold putSeg
              rw [List.take_zero, List.nil_append, List.drop_eq_nil_of_le (by omega), List.append_nil]
            · rw [hvl, hfl]; omega
            · rw [hblk]; exact ⟨e3, e6, e4, hn.trans e4, e5⟩
        · cases h
      | _ => exact plain h fun _ => rfl
  · cases h

/-- One more name for a block that is told. -/
theorem HRel.alias {E : Env} {H : Heap} {w : World} (h : HRel E H w) {id : Nat} {hb : HB} {ent ent' : Ent} {r : Nat} {blk : Blk} {ro : Bool} (hg : H.get id = some hb) (he : E id = some ent) (hr : ent.r = some r)
    (hr' : ent'.r = some r) (hc : blk.isCells = true) (hfit : blk.fits ent') (hl : Lies E ent' ro blk r w) :
    HRel (envAdd E H.next ent') ⟨H.next + 1, (H.next, some ⟨hb.fam, ro, blk⟩) :: H.bs⟩ w ∧ Ext E (envAdd E H.next ent') ∧ Fr E H w (envAdd E H.next ent') ⟨H.next + 1, (H.next, some ⟨hb.fam, ro, blk⟩) :: H.bs⟩ w := by
  have hext : Ext E (envAdd E H.next ent') := by
    intro i e hi
    have : i ≠ H.next := fun hh => by rw [hh, h.dom _ (Nat.le_refl _)] at hi; cases hi
    simp [envAdd, this, hi]
  have hget : ∀ j, (⟨H.next + 1, (H.next, some ⟨hb.fam, ro, blk⟩) :: H.bs⟩ : Heap).get j = if H.next = j then some ⟨hb.fam, ro, blk⟩ else H.get j := fun j => look_cons _ _ _ _
  refine ⟨⟨fun i hi => ?_, fun i g hi => ?_, ?_, fun i hi => (by
    by_cases hn : i = H.next
    · exact ⟨_, by simp [envAdd, hn]; rfl⟩
    · obtain ⟨e, he⟩ := h.full i (by simp at hi; omega)
      exact ⟨e, hext _ _ he⟩)⟩, hext, ⟨rfl, rfl, rfl, Nat.le_refl _, fun _ _ _ => rfl, ?_⟩⟩
  · simp only [envAdd]
    rw [if_neg (by simp at hi; omega)]
    exact h.dom i (by simp at hi; omega)
  · rw [hget] at hi
    by_cases hj : H.next = i
    · subst hj
      rw [if_pos rfl] at hi; cases hi
      refine ⟨ent', by simp [envAdd], ⟨hc, hfit, fun hn => (by rw [hr'] at hn; cases hn), fun r' h' => ?_⟩⟩
      rw [hr'] at h'; cases h'
      exact hl.same rfl rfl fun _ v' _ _ hv => (hv v' (by assumption)).mono hext
    · rw [if_neg hj] at hi
      obtain ⟨e, he', hB⟩ := h.live i g hi
      exact ⟨e, hext _ _ he', ⟨hB.cells, hB.fits, hB.void, fun r' hr'' => (hB.lies r' hr'').same rfl rfl fun j v' x hj hv => (hv v' hj).mono hext⟩⟩
  · intro i j hi hj ei ej rr hgi hgj hei hej hri hrj
    rw [hget] at hgi hgj
    simp only [envAdd] at hei hej
    by_cases h1 : H.next = i
    · subst h1
      rw [if_pos rfl] at hgi hei; cases hgi; cases hei
      rw [hr'] at hri; cases hri
      by_cases h2 : H.next = j
      · subst h2; rw [if_pos rfl] at hgj; cases hgj; rfl
      · rw [if_neg h2] at hgj; rw [if_neg (Ne.symm h2)] at hej
        exact h.fam id j hb hj ent ej r hg hgj he hej hr hrj
    · rw [if_neg h1] at hgi; rw [if_neg (Ne.symm h1)] at hei
      by_cases h2 : H.next = j
      · subst h2
        rw [if_pos rfl] at hgj hej; cases hgj; cases hej
        rw [hr'] at hrj; cases hrj
        exact h.fam i id hi hb ei ent r hgi hg hei he hri hr
      · rw [if_neg h2] at hgj; rw [if_neg (Ne.symm h2)] at hej
        exact h.fam i j hi hj ei ej rr hgi hgj hei hej hri hrj
  · rintro b ⟨i, g, e, hgi, hei, hri⟩ _
    rw [hget] at hgi
    by_cases hj : H.next = i
    · subst hj
      simp only [envAdd, if_true] at hei; cases hei
      rw [hr'] at hri; cases hri
      exact ⟨id, hb, ent, hg, he, hr⟩
    · rw [if_neg hj] at hgi
      simp only [envAdd] at hei
      rw [if_neg (Ne.symm hj)] at hei
      exact ⟨i, g, e, hgi, hei, hri⟩

end
end Go.Ab
