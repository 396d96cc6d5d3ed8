/- A callee's heap put back into its caller's. Conditions: none. -/
import Derived.Test.YtnbmconaglehbaaAb3
namespace Go.Ab
set_option linter.unusedVariables false
set_option linter.unusedSimpArgs false
open Go

theorem blt_ge {i j : Nat} (h : j ≤ i) : Nat.blt i j = false := by
  cases h' : Nat.blt i j
  · rfl
  · have : i < j := by simpa using h'
    omega

def envBack (E : Env) (next m : Nat) (E2 : Env) : Env := fun id => if id < next then E id else E2 (m + (id - next))

theorem look_merged (H : Heap) (seen : List Nat) (H' : Heap) : ∀ (n i id : Nat) (hb : HB), look (merged H seen H' n i) id = some hb →
    ∃ j, i ≤ j ∧ j < i + n ∧ back seen H.next j = id ∧ ∃ h, H'.get j = some h ∧ hb = ⟨backFam H seen h.fam, h.ro, h.blk.ren (back seen H.next)⟩
  | 0, _, _, _, h => by cases h
  | n + 1, i, id, hb, h => by
    rw [merged, look_cons] at h
    by_cases hj : back seen H.next i = id
    · rw [if_pos hj] at h
      cases hg : H'.get i with
      | none => rw [hg] at h; cases h
      | some g => rw [hg] at h; cases h; exact ⟨i, Nat.le_refl _, by omega, hj, g, hg, rfl⟩
    · rw [if_neg hj] at h
      obtain ⟨j, h1, h2, h3⟩ := look_merged H seen H' n (i + 1) id hb h
      exact ⟨j, by omega, by omega, h3⟩

theorem any_merged (H : Heap) (seen : List Nat) (H' : Heap) : ∀ (n i j : Nat), i ≤ j → j < i + n → ((merged H seen H' n i).any fun p => p.1 == back seen H.next j) = true
  | 0, i, j, h1, h2 => by omega
  | n + 1, i, j, h1, h2 => by
    rw [merged, List.any_cons]
    by_cases h : i = j
    · subst h; simp
    · rw [any_merged H seen H' n (i + 1) j (by omega) (by omega)]; simp

theorem look_lost (H : Heap) (seen : List Nat) : ∀ (l : List (Nat × Option HB)) (id : Nat), look (lost H seen l) id = none
  | [], _ => rfl
  | (i, b) :: l, id => by
    rw [lost]
    cases H.get i with
    | none => exact look_lost H seen l id
    | some h =>
      simp only
      cases (!has seen i && seen.any (famIs H h.fam)) with
      | false => exact look_lost H seen l id
      | true => rw [cond_true, look_cons]; split; rfl; exact look_lost H seen l id

theorem any_lost {H : Heap} {seen : List Nat} {id x : Nat} {h g : HB} (hs : id ∉ seen) (hg : H.get id = some h) (hx : x ∈ seen) (hgx : H.get x = some g) (hf : g.fam = h.fam) :
    ∀ l : List (Nat × Option HB), (∃ b, (id, b) ∈ l) → ((lost H seen l).any fun p => p.1 == id) = true
  | [], ⟨b, hb⟩ => by cases hb
  | (i, b') :: l, ⟨b, hb⟩ => by
    rw [lost]
    by_cases hi : i = id
    · subst hi
      simp only [hg]
      have h1 : has seen i = false := by
        cases hh : has seen i
        · rfl
        · exact absurd (has_iff.1 hh) hs
      have h2 : (seen.any (famIs H h.fam)) = true := by
        rw [List.any_eq_true]
        exact ⟨x, hx, by simp [famIs, hgx, hf]⟩
      rw [h1, h2]; simp
    · have hl : ∃ b, (id, b) ∈ l := ⟨b, by
        rcases List.mem_cons.1 hb with h | h
        · cases h; exact absurd rfl hi
        · exact h⟩
      have ih := any_lost hs hg hx hgx hf l hl
      cases H.get i with
      | none => exact ih
      | some h' =>
        simp only
        cases (!has seen i && seen.any (famIs H h'.fam)) with
        | false => exact ih
        | true => rw [cond_true, List.any_cons, ih]; simp

structure Merges (E : Env) (H : Heap) (w : World) (seen : List Nat) (E2 : Env) (H2 : Heap) (w2 : World) (E' : Env) : Prop where
  h : HRel E' (mergeH H seen H2) w2
  ext : Ext E E'
  fr : Fr E H w E' (mergeH H seen H2) w2
  v : ∀ v x, VRel E2 v x → (∀ i ∈ v.ids, i < H2.next) → VRel E' (v.ren (back seen H.next)) x

theorem merges {E E2 : Env} {H H2 : Heap} {w w2 : World} {args : List AV} {seen : List Nat} (hH : HRel E H w) (hs : seenOk 0 args H seen = true) (hlt : ∀ i ∈ seen, i < H.next)
    (hH2 : HRel E2 H2 w2) (hfr : Fr (envOf E seen) (heapOf H seen) w E2 H2 w2) (hpin : ∀ i, i < seen.length → E2 i = envOf E seen i) (hm : seen.length ≤ H2.next)
    (hids : ∀ i hb, H2.get i = some hb → ∀ j ∈ hb.blk.ids, j < H2.next) : Merges E H w seen E2 H2 w2 (envBack E H.next seen.length E2) := by
  have hgetN : ∀ {i}, i < seen.length → getN seen i ∈ seen := by
    have key : ∀ (l : List Nat) (j : Nat), j < l.length → getN l j ∈ l := by
      intro l
      induction l with
      | nil => intro j hj; simp at hj
      | cons y l ih =>
        intro j hj
        cases j with
        | zero => simp [getN]
        | succ j => simp only [getN]; exact List.mem_cons_of_mem _ (ih j (by simpa using hj))
    exact fun {i} hi => key seen i hi
  have hback1 : ∀ {i}, i < seen.length → back seen H.next i = getN seen i := by
    intro i hi; unfold back; rw [show Nat.blt i seen.length = true by simpa using hi]; rfl
  have hback2 : ∀ {i}, ¬ i < seen.length → back seen H.next i = H.next + (i - seen.length) := by
    intro i hi; unfold back; rw [blt_ge (Nat.le_of_not_lt hi)]; rfl
  have hE : ∀ i, i < H2.next → envBack E H.next seen.length E2 (back seen H.next i) = E2 i := by
    intro i hi
    by_cases h : i < seen.length
    · rw [hback1 h, hpin i h]; simp [envBack, envOf, h, hlt _ (hgetN h)]
    · rw [hback2 h]; simp only [envBack]; rw [if_neg (by omega)]; congr 1; omega
  have hext : Ext E (envBack E H.next seen.length E2) := by
    intro id ent he
    have : id < H.next := by
      rcases Nat.lt_or_ge id H.next with h | h
      · exact h
      · rw [hH.dom id h] at he; cases he
    simp [envBack, this, he]
  have hv : ∀ v x, VRel E2 v x → (∀ i ∈ v.ids, i < H2.next) → VRel (envBack E H.next seen.length E2) (v.ren (back seen H.next)) x :=
    fun v x h hi => h.ren fun id hid => hE id (hi id hid)
  -- what an entry of the merged heap is
  have hent : ∀ id hb, (mergeH H seen H2).get id = some hb →
      (∃ j h, j < H2.next ∧ back seen H.next j = id ∧ H2.get j = some h ∧ hb = ⟨backFam H seen h.fam, h.ro, h.blk.ren (back seen H.next)⟩) ∨
      (H.get id = some hb ∧ id ∉ seen ∧ ∀ x ∈ seen, ∀ g, H.get x = some g → g.fam ≠ hb.fam) := by
    intro id hb hg
    simp only [mergeH, Heap.get] at hg
    rw [look_append] at hg
    by_cases hany : ((merged H seen H2 H2.next 0).any fun p => p.1 == id) = true
    · rw [if_pos hany] at hg
      obtain ⟨j, _, h2, h3, h, h4, h5⟩ := look_merged H seen H2 H2.next 0 id hb hg
      exact .inl ⟨j, h, by omega, h3, h4, h5⟩
    · rw [if_neg hany, look_append] at hg
      by_cases hany2 : ((lost H seen H.bs).any fun p => p.1 == id) = true
      · rw [if_pos hany2, look_lost] at hg; cases hg
      · rw [if_neg hany2] at hg
        have hns : id ∉ seen := by
          intro hmem
          obtain ⟨h1, h2⟩ := getN_idx hmem
          have := any_merged H seen H2 H2.next 0 (idx seen id) (Nat.zero_le _) (by omega)
          rw [hback1 h2, h1] at this
          exact hany this
        exact .inr ⟨hg, hns, fun x hx g hgx hf => hany2 (any_lost hns hg hx hgx hf H.bs ⟨some hb, mem_of_look hg⟩)⟩
  have hold : ∀ id hb ent b, H.get id = some hb → (∀ x ∈ seen, ∀ g, H.get x = some g → g.fam ≠ hb.fam) → E id = some ent → ent.r = some b →
      b < w.heap.size ∧ ¬ Tr (envOf E seen) (heapOf H seen) b := by
    intro id hb ent b hg hf he hr
    refine ⟨Tr.lt ⟨id, hb, ent, hg, he, hr⟩ hH, ?_⟩
    rintro ⟨j, hb', ent', hg', he', hr'⟩
    have hg'' : look (restrict H seen seen 0) j = some hb' := hg'
    rw [look_restrict] at hg''
    by_cases hj : 0 ≤ j ∧ j < 0 + seen.length
    · rw [if_pos hj] at hg''
      have hj' : j < seen.length := by omega
      simp only [Nat.sub_zero] at hg''
      cases hgx : H.get (getN seen j) with
      | none => rw [hgx] at hg''; cases hg''
      | some g =>
        simp only [envOf, hj', if_true] at he'
        exact hf _ (hgetN hj') g hgx (hH.fam _ _ _ _ _ _ b hgx hg he' he hr' hr)
    · rw [if_neg hj] at hg''; cases hg''
  have hbrel : ∀ id hb, (mergeH H seen H2).get id = some hb → ∃ ent, envBack E H.next seen.length E2 id = some ent ∧ BRel (envBack E H.next seen.length E2) ent hb w2 := by
    intro id hb hg
    rcases hent id hb hg with ⟨j, h, hj, hbk, hgj, rfl⟩ | ⟨hg', hns, hf⟩
    · obtain ⟨ent, he, hB⟩ := hH2.live j h hgj
      refine ⟨ent, by rw [← hbk, hE j hj]; exact he, hB.ren _ (fun i hi => hE i (hids j h hgj i hi)) fun _ _ => rfl⟩
    · obtain ⟨ent, he, hB⟩ := hH.live id hb hg'
      refine ⟨ent, hext _ _ he, ⟨hB.cells, hB.fits, hB.void, fun r hr => ?_⟩⟩
      obtain ⟨hlt', hnt⟩ := hold id hb ent r hg' hf he hr
      exact (hB.lies r hr).same (hfr.keep r hlt' hnt) rfl fun j v' x hj hv => (hv v' hj).mono hext
  refine ⟨⟨fun id hid => ?_, hbrel, ?_, fun id hid => ?_⟩, hext, ⟨hfr.os, hfr.tape, hfr.output, hfr.size, fun b hb ht => ?_, ?_⟩, hv⟩
  · simp only [mergeH] at hid
    simp only [envBack]
    rw [if_neg (by omega)]
    exact hH2.dom _ (by omega)
  · intro i j hi hj ei ej r hgi hgj hei hej hri hrj
    rcases hent i hi hgi with ⟨a, ha, hla, hba, hga, rfl⟩ | ⟨hgi', hnsi, hfi⟩
    · rw [← hba, hE a hla] at hei
      rcases hent j hj hgj with ⟨b, hb, hlb, hbb, hgb, rfl⟩ | ⟨hgj', hnsj, hfj⟩
      · rw [← hbb, hE b hlb] at hej
        simp only [hH2.fam a b ha hb ei ej r hga hgb hei hej hri hrj]
      · exfalso
        obtain ⟨ent, he, _⟩ := hH.live j hj hgj'
        rw [hext _ _ he] at hej; cases hej
        obtain ⟨hlt', hnt⟩ := hold j hj _ r hgj' hfj he hrj
        exact hnt (hfr.new r ⟨a, ha, ei, hga, hei, hri⟩ hlt')
    · obtain ⟨ent, he, _⟩ := hH.live i hi hgi'
      rw [hext _ _ he] at hei; cases hei
      obtain ⟨hlt', hnt⟩ := hold i hi _ r hgi' hfi he hri
      rcases hent j hj hgj with ⟨b, hb, hlb, hbb, hgb, rfl⟩ | ⟨hgj', hnsj, hfj⟩
      · exfalso
        rw [← hbb, hE b hlb] at hej
        exact hnt (hfr.new r ⟨b, hb, ej, hgb, hej, hrj⟩ hlt')
      · obtain ⟨ent', he', _⟩ := hH.live j hj hgj'
        rw [hext _ _ he'] at hej; cases hej
        exact hH.fam i j hi hj _ _ r hgi' hgj' he he' hri hrj
  · simp only [envBack]
    split
    · rename_i h; exact hH.full id h
    · refine hH2.full _ ?_
      simp only [mergeH] at hid
      omega
  · refine hfr.keep b hb fun ht' => ht ((hH.heapOf hs).2 b ht')
  · rintro b ⟨id, hb, ent, hg, he, hr⟩ hlt'
    rcases hent id hb hg with ⟨j, h, hj, hbk, hgj, rfl⟩ | ⟨hg', hns, hf⟩
    · rw [← hbk, hE j hj] at he
      exact (hH.heapOf hs).2 b (hfr.new b ⟨j, h, ent, hgj, he, hr⟩ hlt')
    · obtain ⟨ent', he', _⟩ := hH.live id hb hg'
      rw [hext _ _ he'] at he; cases he
      exact ⟨id, hb, _, hg', he', hr⟩

/-- What a call of a function does, on a heap of its own. -/
def CallG (P : Program) (f : Nat) (args : List AV) (H : Heap) (v : AV) (H' : Heap) : Prop :=
  ∀ (E : Env) (cargs : Array Value) (w : World), VRelL E args cargs.toList → HRel E H w →
    Calls P f cargs w fun e w' => ∃ x E', e = .returned x ∧ VRel E' v x ∧ HRel E' H' w' ∧ Fr E H w E' H' w' ∧ ∀ i, i < H.next → E' i = E i

/-- The same in a frame: the caller's names stay. -/
def CallF (P : Program) (f : Nat) (args : List AV) (H : Heap) (v : AV) (H' : Heap) : Prop :=
  ∀ (E : Env) (cargs : Array Value) (w : World), VRelL E args cargs.toList → HRel E H w →
    Calls P f cargs w fun e w' => ∃ x E', e = .returned x ∧ VRel E' v x ∧ HRel E' H' w' ∧ Ext E E' ∧ Fr E H w E' H' w'

def Keeps (H H' : Heap) : Prop := ∀ i hb, H.get i = some hb → H'.get i = some hb

def SumOk {R : Type} (P : Program) (f : Nat) (keep : Bool) (S : List AV → Heap → (AV → Heap → Option R) → Option R) : Prop :=
  ∀ args H K r, S args H K = some r → ∃ v H', K v H' = some r ∧ CallG P f args H v H' ∧ (keep = true → Keeps H H')

mutual
theorem AV.ren_back {f g : Nat → Nat} : ∀ (v : AV), (∀ id ∈ v.ids, g (f id) = id) → (v.ren f).ren g = v
  | .ptr id bs e sz o, h => by simp only [AV.ren]; rw [h id (by simp [AV.ids])]
  | .sw id, h => by simp only [AV.ren]; rw [h id (by simp [AV.ids])]
  | .sl id bs e sz n, h => by simp only [AV.ren]; rw [h id (by simp [AV.ids])]
  | .mp id, h => by simp only [AV.ren]; rw [h id (by simp [AV.ids])]
  | .it id, h => by simp only [AV.ren]; rw [h id (by simp [AV.ids])]
  | .agg cs, h => by simp only [AV.ren]; rw [AV.renL_back cs (by simpa [AV.ids] using h)]
  | .tup cs, h => by simp only [AV.ren]; rw [AV.renL_back cs (by simpa [AV.ids] using h)]
  | .fn k cs, h => by simp only [AV.ren]; rw [AV.renL_back cs (by simpa [AV.ids] using h)]
  | .mix pre sh n xs post, h => by
    simp only [AV.ren]
    rw [AV.renL_back pre (fun id hid => h id (by simp [AV.ids, hid])), AV.renL_back post (fun id hid => h id (by simp [AV.ids, hid]))]
  | .b x, _ => rfl
  | .i k x, _ => rfl
  | .s x, _ => rfl
  | .np, _ => rfl
  | .nsl, _ => rfl
  | .nf, _ => rfl
  | .ni, _ => rfl
  | .nm, _ => rfl
  | .u, _ => rfl
  | .junk, _ => rfl
theorem AV.renL_back {f g : Nat → Nat} : ∀ (v : List AV), (∀ id ∈ AV.idsL v, g (f id) = id) → AV.renL g (AV.renL f v) = v
  | [], _ => rfl
  | v :: vs, h => by
    simp only [AV.renL]
    rw [AV.ren_back v (fun id hid => h id (by simp [AV.idsL, hid])), AV.renL_back vs (fun id hid => h id (by simp [AV.idsL, hid]))]
end

theorem Blk.ren_back {f g : Nat → Nat} (b : Blk) (h : ∀ id ∈ b.ids, g (f id) = id) : (b.ren f).ren g = b := by
  cases b with
  | cells cs => simp only [Blk.ren]; rw [AV.renL_back cs h]
  | row sh xs => rfl
  | mix pre sh n xs post =>
    simp only [Blk.ren]
    rw [AV.renL_back pre (fun id hid => h id (by simp [Blk.ids, hid])), AV.renL_back post (fun id hid => h id (by simp [Blk.ids, hid]))]
  | map kvs =>
    simp only [Blk.ren, List.map_map]
    congr 1
    have : ∀ p ∈ kvs, ((fun p : AV × AV => (p.1.ren g, p.2.ren g)) ∘ fun p => (p.1.ren f, p.2.ren f)) p = p := by
      intro p hp
      obtain ⟨a, c⟩ := p
      simp only [Function.comp]
      rw [AV.ren_back a (fun id hid => h id (by simp only [Blk.ids, List.mem_flatMap]; exact ⟨_, hp, by simp [hid]⟩)), AV.ren_back c (fun id hid => h id (by simp only [Blk.ids, List.mem_flatMap]; exact ⟨_, hp, by simp [hid]⟩))]
    rw [List.map_congr_left this]; simp
  | siter s p => rfl

theorem merged_split (H : Heap) (seen : List Nat) (H' : Heap) : ∀ (a b i : Nat), merged H seen H' (a + b) i = merged H seen H' a i ++ merged H seen H' b (i + a)
  | 0, b, i => by simp [merged]
  | a + 1, b, i => by
    rw [show a + 1 + b = (a + b) + 1 by omega, merged, merged, merged_split H seen H' a b (i + 1)]
    rw [show i + 1 + a = i + (a + 1) by omega]; rfl

theorem firstOf_spec {H : Heap} {fam : Nat} : ∀ (l : List Nat) (n : Nat) (x : Nat) (g : HB), x ∈ l → H.get x = some g → g.fam = fam →
    ∃ j, firstOf H fam l n = n + j ∧ j < l.length ∧ ∃ g', H.get (getN l j) = some g' ∧ g'.fam = fam
  | y :: r, n, x, g, hx, hg, hf => by
    rw [firstOf]
    have next : x ∈ r → ∃ j, firstOf H fam r (n + 1) = n + j ∧ j < (y :: r).length ∧ ∃ g', H.get (getN (y :: r) j) = some g' ∧ g'.fam = fam := by
      intro hr
      obtain ⟨j, h1, h2, h3⟩ := firstOf_spec r (n + 1) x g hr hg hf
      exact ⟨j + 1, by omega, by simp; omega, h3⟩
    cases hy : H.get y with
    | none =>
      simp only
      rcases List.mem_cons.1 hx with h | h
      · subst h; rw [hg] at hy; cases hy
      · exact next h
    | some g' =>
      simp only
      by_cases hgf : g'.fam = fam
      · have : Nat.beq g'.fam fam = true := by rw [hgf]; exact beq_self _
        rw [this]
        exact ⟨0, by simp, by simp, g', hy, hgf⟩
      · have : Nat.beq g'.fam fam = false := beq_ne hgf
        rw [this]
        rcases List.mem_cons.1 hx with h | h
        · subst h; rw [hg] at hy; cases hy; exact absurd hf hgf
        · exact next h

theorem lost_any {H : Heap} {seen : List Nat} {id : Nat} (hs : id ∈ seen) : ∀ l : List (Nat × Option HB), ((lost H seen l).any fun p => p.1 == id) = false
  | [] => rfl
  | (i, b) :: l => by
    rw [lost]
    cases H.get i with
    | none => exact lost_any hs l
    | some h =>
      simp only
      cases hc : (!has seen i && seen.any (famIs H h.fam)) with
      | false => exact lost_any hs l
      | true =>
        rw [cond_true, List.any_cons, lost_any hs l, Bool.or_false]
        rw [Bool.and_eq_true, Bool.not_eq_true'] at hc
        have hne : i ≠ id := fun hh => by
          subst hh
          have := hc.1
          rw [has_iff.2 hs] at this; cases this
        simpa using hne

theorem keep_get {H H2 : Heap} {args : List AV} {seen : List Nat} (hs : seenOk 0 args H seen = true) (hm : seen.length ≤ H2.next) (hk : Keeps (heapOf H seen) H2) {id : Nat} {hb : HB} (h : (mergeK H seen H2).get id = some hb) :
    (mergeH H seen H2).get id = some hb := by
  obtain ⟨hs1, hs2, _, hs4⟩ := seenOk_spec hs
  have hspl : merged H seen H2 H2.next 0 = merged H seen H2 seen.length 0 ++ merged H seen H2 (H2.next - seen.length) seen.length := by
    have := merged_split H seen H2 seen.length (H2.next - seen.length) 0
    rw [Nat.zero_add] at this
    rw [← this]; congr 1; omega
  simp only [mergeH, mergeK, Heap.get] at h ⊢
  rw [hspl, List.append_assoc, look_append]
  by_cases hany : ((merged H seen H2 seen.length 0).any fun p => p.1 == id) = true
  · rw [if_pos hany]
    -- a block that was given
    have hid : id ∈ seen := by
      have key : ∀ (n i : Nat), i + n ≤ seen.length → ((merged H seen H2 n i).any fun p => p.1 == id) = true → id ∈ seen := by
        intro n
        induction n with
        | zero => intro i _ hh; cases hh
        | succ n ih =>
          intro i hle hh
          rw [merged, List.any_cons, Bool.or_eq_true] at hh
          rcases hh with hh | hh
          · have hlt : i < seen.length := by omega
            have : back seen H.next i = id := by simpa using hh
            unfold back at this
            rw [show Nat.blt i seen.length = true by simpa using hlt] at this
            rw [← this]
            have key2 : ∀ (l : List Nat) (j : Nat), j < l.length → getN l j ∈ l := by
              intro l
              induction l with
              | nil => intro j hj; simp at hj
              | cons y l ih =>
                intro j hj
                cases j with
                | zero => simp [getN]
                | succ j => simp only [getN]; exact List.mem_cons_of_mem _ (ih j (by simpa using hj))
            exact key2 seen i hlt
          · exact ih (i + 1) (by omega) hh
      exact key seen.length 0 (by omega) hany
    have hlt := hs4 id hid
    have hold : H.get id = some hb := by
      rw [look_append] at h
      have h1 : ((merged H seen H2 (H2.next - seen.length) seen.length).any fun p => p.1 == id) = false := by
        have key : ∀ (n i : Nat), seen.length ≤ i → ((merged H seen H2 n i).any fun p => p.1 == id) = false := by
          intro n
          induction n with
          | zero => intro i _; rfl
          | succ n ih =>
            intro i hi
            rw [merged, List.any_cons, ih (i + 1) (by omega), Bool.or_false]
            have : back seen H.next i = H.next + (i - seen.length) := by unfold back; rw [blt_ge hi]; rfl
            simp only [beq_eq_false_iff_ne]
            rw [this]; omega
        exact key _ _ (Nat.le_refl _)
      rw [h1] at h
      simp only [Bool.false_eq_true, if_false] at h
      rw [look_append, lost_any hid] at h
      simp only [Bool.false_eq_true, if_false] at h
      exact h
    have key : ∀ (n i : Nat), i + n ≤ seen.length → ((merged H seen H2 n i).any fun p => p.1 == id) = true → look (merged H seen H2 n i) id = some hb := by
      intro n
      induction n with
      | zero => intro i _ hh; cases hh
      | succ n ih =>
        intro i hle hh
        rw [merged, look_cons]
        by_cases hbk : back seen H.next i = id
        · rw [if_pos hbk]
          have hlt' : i < seen.length := by omega
          have hg : getN seen i = id := by
            unfold back at hbk
            rw [show Nat.blt i seen.length = true by simpa using hlt'] at hbk
            exact hbk
          have hh0 : (heapOf H seen).get i = some ⟨firstOf H hb.fam seen 0, hb.ro, hb.blk.ren (idx seen)⟩ := by
            show look (restrict H seen seen 0) i = _
            rw [look_restrict, if_pos (by omega), Nat.sub_zero, hg, hold]
          rw [hk i _ hh0]
          simp only
          have hblk : (hb.blk.ren (idx seen)).ren (back seen H.next) = hb.blk := Blk.ren_back _ fun x hx => by
            have hxs := hs2 id hid hb hold x hx
            obtain ⟨g1, g2⟩ := getN_idx hxs
            unfold back
            rw [show Nat.blt (idx seen x) seen.length = true by simpa using g2]
            exact g1
          have hfam : backFam H seen (firstOf H hb.fam seen 0) = hb.fam := by
            obtain ⟨j, j1, j2, g', j3, j4⟩ := firstOf_spec seen 0 id hb hid hold rfl
            unfold backFam
            rw [j1, Nat.zero_add, show Nat.blt j seen.length = true by simpa using j2]
            show famAt H (getN seen j) = _
            unfold famAt
            rw [j3]; exact j4
          rw [hblk, hfam]
        · rw [if_neg hbk]
          refine ih (i + 1) (by omega) ?_
          rw [merged, List.any_cons, Bool.or_eq_true] at hh
          rcases hh with hh | hh
          · exact absurd (by simpa using hh) hbk
          · exact hh
    exact key seen.length 0 (by omega) hany
  · rw [if_neg hany]
    exact h

theorem frameK_sound {R : Type} {P : Program} {f : Nat} {keep : Bool} {S : List AV → Heap → (AV → Heap → Option R) → Option R} (hS : SumOk P f keep S) {args : List AV} {H : Heap} {K : AV → Heap → Option R} {r : R}
    (h : frameK keep args H S K = some r) : ∃ v H', K v H' = some r ∧ CallF P f args H v H' := by
  unfold frameK at h
  generalize hse : seenOf 0 args H = seen at h
  cases hs : seenOk 0 args H seen with
  | false => simp only [hs] at h; cases h
  | true =>
    simp only [hs, cond_true] at h
    obtain ⟨v, H', hK, hG, hkp⟩ := hS _ _ _ _ h
    cases hc : (Nat.ble seen.length H'.next && (v.ids.all fun i => Nat.blt i H'.next) && ((List.range H'.next).all fun i => (idsAt H' i).all fun j => Nat.blt j H'.next)) with
    | false => rw [hc] at hK; cases hK
    | true =>
      rw [hc, cond_true] at hK
      simp only [Bool.and_eq_true, List.all_eq_true] at hc
      obtain ⟨⟨hc1, hc2⟩, hc3⟩ := hc
      refine ⟨_, _, hK, fun E cargs w hargs hH => ?_⟩
      obtain ⟨hs1, hs2, _, hs3⟩ := seenOk_spec hs
      have hargs' : VRelL (envOf E seen) (AV.renL (idx seen) args) cargs.toList := hargs.ren fun id hid => envOf_idx (hs1 id hid)
      refine (hG (envOf E seen) cargs w hargs' (hH.heapOf hs).1).mono ?_
      rintro e w' ⟨x, E2, rfl, hv, hH2, hfr, hpin⟩
      have hM := merges hH hs hs3 hH2 hfr (fun i hi => hpin i hi) (by simpa using hc1) (fun i hb hg j hj => by
        obtain ⟨ent, he, _⟩ := hH2.live i hb hg
        have hi : i < H'.next := by
          rcases Nat.lt_or_ge i H'.next with h | h
          · exact h
          · rw [hH2.dom i h] at he; cases he
        have := hc3 i (List.mem_range.2 hi) j (by unfold idsAt; rw [hg]; exact hj)
        simpa using this)
      cases keep with
      | false => exact ⟨x, _, rfl, hM.v v x hv (fun i hi => by simpa using hc2 i hi), hM.h, hM.ext, hM.fr⟩
      | true =>
        have hle : seen.length ≤ H'.next := by simpa using hc1
        have hget : ∀ id hb, (mergeK H seen H').get id = some hb → (mergeH H seen H').get id = some hb := fun id hb h => keep_get hs hle (hkp rfl) h
        refine ⟨x, _, rfl, hM.v v x hv (fun i hi => by simpa using hc2 i hi), ⟨hM.h.dom, fun id hb hg => hM.h.live id hb (hget id hb hg), fun i j hi hj ei ej r h1 h2 => hM.h.fam i j hi hj ei ej r (hget _ _ h1) (hget _ _ h2), hM.h.full⟩, hM.ext,
          ⟨hM.fr.os, hM.fr.tape, hM.fr.output, hM.fr.size, hM.fr.keep, fun b ⟨id, hb, ent, h1, h2, h3⟩ hlt => hM.fr.new b ⟨id, hb, ent, hget _ _ h1, h2, h3⟩ hlt⟩⟩
end Go.Ab
