/- Calls: of built-in functions, of functions with a body, of those without. Conditions: none. -/
import Derived.Test.YtnbmconaglehbaaAb13
import Derived.Laws.LoneSync
namespace Go.Ab
set_option linter.unusedVariables false
set_option linter.unusedSimpArgs false
open Go

section
variable {P : Program} {Ty : Types} {R : Type}

theorem lenK_sound (hTy : TyOk P Ty) {H : Heap} {t : Nat} {x : AV} {K : AV → Option R} {r : R} (h : lenK Ty H t x K = some r) :
    ∃ v, K v = some r ∧ ∀ (E : Env) (xv : Value) (w : World) (ts : Array TypeId) (ty : TypeId) (as : Array Value), ts[0]? = some t → as[0]? = some xv → VRel E x xv → HRel E H w →
      ∃ y, (Builtin.len_ ts ty as).run P w = .ok y w ∧ VRel E v y := by
  unfold lenK at h
  split at h
  · rename_i s hT
    obtain ⟨_, d, _, hu, hd, _⟩ := hTy.ok _ _ hT
    have := str_of hd; subst this
    refine ⟨_, h, fun E xv w ts ty as ht ha hx hH => ⟨_, ?_, .i _ _⟩⟩
    cases hx
    unfold Builtin.len_
    simp [ht, ha, run_underlying hu]
    rfl
  · rename_i n _ _ _ _ hT
    obtain ⟨_, d, _, hu, hd, _⟩ := hTy.ok _ _ hT
    have := arr_of hd; subst this
    refine ⟨_, h, fun E xv w ts ty as ht ha hx hH => ⟨_, ?_, .i _ _⟩⟩
    unfold Builtin.len_
    simp [ht, ha, run_underlying hu]
    rfl
  · rename_i _ _ _ _ hT
    obtain ⟨_, d, _, hu, hd, _⟩ := hTy.ok _ _ hT
    have := slice_of hd; subst this
    refine ⟨_, h, fun E xv w ts ty as ht ha hx hH => ⟨_, ?_, .i _ _⟩⟩
    cases hx
    unfold Builtin.len_
    simp [ht, ha, run_underlying hu]
    rfl
  · rename_i _ _ _ _ id bs e sz n hT
    obtain ⟨_, d, _, hu, hd, _⟩ := hTy.ok _ _ hT
    have := slice_of hd; subst this
    refine ⟨_, h, fun E xv w ts ty as ht ha hx hH => ⟨_, ?_, .i _ _⟩⟩
    cases hx with
    | sl h' hr hn =>
      unfold Builtin.len_
      simp [ht, ha, run_underlying hu]
      rfl
    | sl0 hn =>
      subst hn
      unfold Builtin.len_
      simp [ht, ha, run_underlying hu]
      rfl
  · rename_i _ _ _ _ id hT
    obtain ⟨_, d, _, hu, hd, _⟩ := hTy.ok _ _ hT
    have := slice_of hd; subst this
    split at h
    · rename_i fam ro sh xs hg
      refine ⟨_, h, fun E xv w ts ty as ht ha hx hH => ⟨_, ?_, .i _ _⟩⟩
      obtain ⟨ent, he, hB⟩ := hH.live _ _ hg
      obtain ⟨hn, hsz⟩ := hB.fits
      cases hx with
      | sw h' hr hcap hc =>
        rw [he] at h'; cases h'
        unfold Builtin.len_
        simp [ht, ha, run_underlying hu, hn]
        rfl
      | sw0 h' hn0 =>
        rw [he] at h'; cases h'
        have : xs.length = 0 := by omega
        unfold Builtin.len_
        simp [ht, ha, run_underlying hu, this]
        rfl
    · cases h
  · cases h

theorem foldK_sound {f : AV → AV → Option AV} {g : Value → Value → Sem Value} (hf : ∀ x y v, f x y = some v → ∀ E xv yv w, VRel E x xv → VRel E y yv → ∃ z, (g xv yv).run P w = .ok z w ∧ VRel E v z) :
    ∀ (ys : List AV) (x v : AV), foldK f x ys = some v → ∀ (E : Env) (xv : Value) (yvs : List Value) (w : World), VRel E x xv → VRelL E ys yvs → ∃ z, (yvs.foldlM g xv).run P w = .ok z w ∧ VRel E v z
  | [], x, v, h, E, xv, yvs, w, hx, hys => by
    cases h; cases hys
    exact ⟨xv, rfl, hx⟩
  | y :: ys, x, v, h, E, xv, yvs, w, hx, hys => by
    cases hys with
    | cons hy hys =>
      rw [foldK] at h
      split at h
      · rename_i z hz
        obtain ⟨zv, h1, h2⟩ := hf x y z hz E _ _ w hx hy
        obtain ⟨u, h3, h4⟩ := foldK_sound hf ys z v h E zv _ w h2 hys
        refine ⟨u, ?_, h4⟩
        rw [List.foldlM_cons, Sem.run_bind, h1, Result.andThen_ok, h3]
      · cases h

theorem minK_sound {x y v : AV} (h : minK x y = some v) (E : Env) (xv yv : Value) (w : World) (hx : VRel E x xv) (hy : VRel E y yv) : ∃ z, (Builtin.min2 xv yv).run P w = .ok z w ∧ VRel E v z := by
  unfold minK at h
  split at h
  · split at h
    · cases h; cases hx; cases hy; exact ⟨_, rfl, .i _ _⟩
    · cases h
  · cases h

theorem maxK_sound {x y v : AV} (h : maxK x y = some v) (E : Env) (xv yv : Value) (w : World) (hx : VRel E x xv) (hy : VRel E y yv) : ∃ z, (Builtin.max2 xv yv).run P w = .ok z w ∧ VRel E v z := by
  unfold maxK at h
  split at h
  · split at h
    · cases h; cases hx; cases hy; exact ⟨_, rfl, .i _ _⟩
    · cases h
  · cases h

/-- What a built-in function yields. -/
def BuV (P : Program) (b : Builtin) (ts : Array TypeId) (args : List AV) (H : Heap) (v : AV) (H' : Heap) : Prop :=
  ∀ (E : Env) (w : World) (ty : TypeId) (cs : Array Bool) (as : Array Value), VRelL E args as.toList → HRel E H w →
    ∃ x w' E', (builtin b ts ty cs as).run P w = .ok (.value x) w' ∧ VRel E' v x ∧ HRel E' H' w' ∧ Ext E E' ∧ Fr E H w E' H' w'

theorem toList_two {α : Type} {a : Array α} {x y : α} (h : a.toList = [x, y]) : a = #[x, y] := by
  cases a; simp at h; subst h; rfl

theorem builtinK_sound (hTy : TyOk P Ty) {H : Heap} {b : Builtin} {ts : Array TypeId} {args : List AV} {K : AV → Heap → Option R} {r : R} (h : builtinK Ty H b ts.toList args K = some r) :
    ∃ v H', K v H' = some r ∧ BuV P b ts args H v H' := by
  unfold builtinK at h
  split at h
  · rename_i t tl x xs hts
    obtain ⟨v, hK, hs⟩ := lenK_sound (P := P) hTy h
    refine ⟨v, H, hK, fun E w ty cs as ha hH => ?_⟩
    have h0 : ts[0]? = some t := by rw [← Array.getElem?_toList, hts]; rfl
    obtain ⟨xv, hx1, hx2⟩ := ha.arr (j := 0) (v := x) rfl
    obtain ⟨y, hy, hv⟩ := hs E xv w ts ty as h0 hx1 hx2 hH
    refine ⟨y, w, E, ?_, hv, hH, Ext.refl E, Fr.refl E H w⟩
    simp only [builtin, Sem.run_bind, hy, Result.andThen_ok, Sem.run_pure]
  · rename_i t xt s x hts
    obtain ⟨v, H', hK, hs⟩ := appendK_sound (P := P) hTy h
    refine ⟨v, H', hK, fun E w ty cs as ha hH => ?_⟩
    have h0 := toList_two hts
    subst h0
    generalize hal : as.toList = al at ha
    cases ha with
    | cons h1 h2 =>
      cases h2 with
      | cons h2 h3 =>
        cases h3
        have h4 := toList_two hal
        subst h4
        obtain ⟨y, w', E', k1, k2, k3, k4, k5⟩ := hs E _ _ w ty h1 h2 hH
        refine ⟨y, w', E', ?_, k2, k3, k4, k5⟩
        simp only [builtin, Sem.run_bind, k1, Result.andThen_ok, Sem.run_pure]
  · rename_i tl x xs
    split at h
    · rename_i v hv
      refine ⟨v, H, h, fun E w ty cs as ha hH => ?_⟩
      generalize hal : as.toList = al at ha
      cases ha with
      | cons h1 h2 =>
        obtain ⟨z, k1, k2⟩ := foldK_sound (P := P) (fun x y v hh E xv yv w => minK_sound hh E xv yv w) _ _ _ hv E _ _ w h1 h2
        refine ⟨z, w, E, ?_, k2, hH, Ext.refl E, Fr.refl E H w⟩
        simp only [builtin, Builtin.min_, hal, Sem.run_bind, k1, Result.andThen_ok, Sem.run_pure]
    · cases h
  · rename_i tl x xs
    split at h
    · rename_i v hv
      refine ⟨v, H, h, fun E w ty cs as ha hH => ?_⟩
      generalize hal : as.toList = al at ha
      cases ha with
      | cons h1 h2 =>
        obtain ⟨z, k1, k2⟩ := foldK_sound (P := P) (fun x y v hh E xv yv w => maxK_sound hh E xv yv w) _ _ _ hv E _ _ w h1 h2
        refine ⟨z, w, E, ?_, k2, hH, Ext.refl E, Fr.refl E H w⟩
        simp only [builtin, Builtin.max_, hal, Sem.run_bind, k1, Result.andThen_ok, Sem.run_pure]
    · cases h
  · cases h

/-! ### Functions -/

def exOf : Ex → Exit
  | .normal => .normal
  | .exit i => .exit i
  | .goto l => .goto l
  | .ret => .ret

def Past (E : Env) (H : Heap) (w : World) (pin nt : Nat) (ex : Ex) (T' : Tmps) (H' : Heap) : Exit → Act → World → Prop :=
  fun e a' w' => e = exOf ex ∧ ∃ E', St E' nt T' H' a' w' ∧ Fr E H w E' H' w' ∧ ∀ i, i < pin → E' i = E i

def Pins (E : Env) (pin : Nat) : Prop := ∀ i, i < pin → ∃ ent, E i = some ent

def CodeG (P : Program) (c : Code) (pin nt : Nat) (T : Tmps) (H : Heap) (ex : Ex) (T' : Tmps) (H' : Heap) : Prop :=
  ∀ (E : Env) (a : Act) (w : World), St E nt T H a w → Pins E pin → c.wp P (Past E H w pin nt ex T' H') a w

/-- Within a loop: behind its entry. -/
def InLoopG (P : Program) (c : Code) (pin nt : Nat) (T : Tmps) (H : Heap) (ex : Ex) (T' : Tmps) (H' : Heap) : Prop :=
  ∀ (E : Env) (a : Act) (w : World), St E nt T H a w → Pins E pin → ∀ (b : Frame) (k : List Item) (cs : List Frame),
    ∃ e a' w', Past E H w pin nt ex T' H' e a' w' ∧ Arrives P (lone (b.at a (.code c :: .inLoop c :: k)) cs w) b k cs e a' w'

/-- Within a scope: at a place of it. -/
def InScopeG (P : Program) (c rest : Code) (pin nt : Nat) (T : Tmps) (H : Heap) (ex : Ex) (T' : Tmps) (H' : Heap) : Prop :=
  ∀ (E : Env) (a : Act) (w : World), St E nt T H a w → Pins E pin → ∀ (b : Frame) (k : List Item) (cs : List Frame),
    ∃ e a' w', Past E H w pin nt ex T' H' e a' w' ∧ Arrives P (lone (b.at a (.code rest :: .inScope c :: k)) cs w) b k cs e a' w'

def LoopOk (P : Program) (nt : Nat) (c : Code) (S : LSum R) : Prop :=
  ∀ pin T H (K : Kont R) r, S pin T H K = some r → ∃ ex T' H', K ex T' H' = some r ∧ InLoopG P c pin nt T H ex T' H'

def JumpOk (P : Program) (nt : Nat) (c rest : Code) (S : LSum R) : Prop :=
  ∀ pin T H (K : Kont R) r, S pin T H K = some r → ∃ ex T' H', K ex T' H' = some r ∧ InScopeG P c rest pin nt T H ex T' H'

def CodeOk (P : Program) (C : Cx R) (fi : FnI) : Code → Prop
  | .seq a b => CodeOk P C fi a ∧ CodeOk P C fi b
  | .cond _ a b => CodeOk P C fi a ∧ CodeOk P C fi b
  | .block _ c => CodeOk P C fi c
  | .loop c => CodeOk P C fi c ∧ ∀ key S, firstRegion c = some key → C.loop fi.no key = some S → LoopOk P fi.fn.ntmps c S
  | .scope c => CodeOk P C fi c ∧ ∀ l rest S, findLabel c l = some rest → C.loop fi.no (1000000 + l) = some S → JumpOk P fi.fn.ntmps c rest S
  | _ => True

def PrevOk (P : Program) (C : Cx R) (prev : Prev R) : Prop :=
  ∀ pin fi c T H (K : Kont R) r, CodeOk P C fi c → prev pin fi c T H K = some r → ∃ ex T' H', K ex T' H' = some r ∧ CodeG P c pin fi.fn.ntmps T H ex T' H'

def ExtOk (P : Program) (f : Nat) (g : List AV → Option (Bool × AV)) : Prop :=
  ∀ args v, g args = some (true, v) → ∀ (E : Env) (cargs : Array Value) (w : World), VRelL E args cargs.toList → ∃ x, (callFunc f cargs).run P w = .ok (.value x) w ∧ VRel E v x

def Enters (P : Program) (f : Nat) : Prop := ∀ (args : Array Value) (w : World), (callFunc f args).run P w = .ok (.enter f args) w

structure CxOk (P : Program) (C : Cx R) : Prop where
  ty : TyOk P C.Ty
  eq : EqOk P C.Ty
  mixed : P.follows .mixedOrders = true
  ext : ∀ f g, C.ext f = some g → ExtOk P f g
  sum : ∀ f p, C.sum f = some p → SumOk P f p.1 p.2 ∧ Enters P f
  fns : ∀ f fi, C.fns f = some fi → fi.no = f ∧ P.funcs[f]? = some fi.fn ∧ Enters P f ∧ ∀ c, fi.fn.body = some c → CodeOk P C fi c

theorem argsT_get : ∀ (args : List AV) (n t : Nat) (rest : Tmps), tget (argsT args n ++ rest) t = if n ≤ t ∧ t < n + args.length then args[t - n]?.getD .junk else tget rest t
  | [], n, t, rest => by simp [argsT]; try omega
  | v :: args, n, t, rest => by
    rw [argsT, List.cons_append, tget_cons, argsT_get args (n + 1) t rest]
    by_cases h : n = t
    · subst h; simp
    · rw [if_neg h]
      by_cases h2 : n + 1 ≤ t ∧ t < n + 1 + args.length
      · rw [if_pos h2, if_pos (by simp; omega), show t - n = (t - (n + 1)) + 1 by omega, List.getElem?_cons_succ]
      · rw [if_neg h2, if_neg (by simp; omega)]

theorem undefs_get : ∀ (k n t : Nat), tget (undefs k n) t = if n ≤ t ∧ t < n + k then .u else .junk
  | 0, n, t => by simp [undefs, tget]; try omega
  | k + 1, n, t => by
    rw [undefs, tget_cons, undefs_get k (n + 1) t]
    by_cases h : n = t
    · subst h; simp
    · rw [if_neg h]
      by_cases h2 : n + 1 ≤ t ∧ t < n + 1 + k
      · rw [if_pos h2, if_pos (by omega)]
      · rw [if_neg h2, if_neg (by omega)]

theorem start_rel {E : Env} {args : List AV} {cargs : Array Value} (h : VRelL E args cargs.toList) (nt : Nat) :
    TRel E (argsT args 0 ++ undefs (nt - args.length) args.length) { tmps := cargs ++ Array.replicate (nt - cargs.size) undef, defers := [] } := by
  intro t
  have hl := h.length
  simp only [Array.length_toList] at hl
  rw [argsT_get, undefs_get]
  by_cases h1 : t < args.length
  · rw [if_pos (by omega)]
    simp only [Nat.sub_zero]
    obtain ⟨x, hx, hr⟩ := h.arr (List.getElem?_eq_getElem h1)
    rw [List.getElem?_eq_getElem h1, Option.getD_some]
    have : (cargs ++ Array.replicate (nt - cargs.size) undef)[t]? = some x := by rw [Array.getElem?_append_left (by omega)]; exact hx
    show VRel E _ ((cargs ++ Array.replicate (nt - cargs.size) undef).getD t undef)
    rw [Array.getD_eq_getD_getElem?, this]; exact hr
  · rw [if_neg (by omega)]
    split
    · show VRel E _ ((cargs ++ Array.replicate (nt - cargs.size) undef).getD t undef)
      rw [Array.getD_eq_getD_getElem?, Array.getElem?_append_right (by omega), Array.getElem?_replicate]
      split <;> exact .u
    · exact .junk _

theorem one_rel {E : Env} {vs : List AV} {xs : List Value} (h : VRelL E vs xs) : VRel E (one vs) (if h : xs.toArray.size = 1 then xs.toArray[0] else .tuple xs.toArray) := by
  cases h with
  | nil => exact .u
  | cons h t =>
    cases t with
    | nil => exact h
    | cons h2 t => exact .tup (.cons h (.cons h2 t))

def resAt (a : Act) : ResultVar → Sem Value
  | .tmp t => pure (a.tmps.getD t undef)
  | .cell x t => do loadVar t (← asAddr (a.tmps.getD x undef))

theorem resultsK_sound (hTy : TyOk P Ty) {T : Tmps} {H : Heap} : ∀ (l : List ResultVar) (K : List AV → Option R) (r : R), resultsK Ty T H l K = some r →
    ∃ vs, K vs = some r ∧ ∀ (E : Env) (a : Act) (w : World), TRel E T a → HRel E H w →
      ∃ xs, (l.mapM (resAt a)).run P w = .ok xs w ∧ VRelL E vs xs
  | [], K, r, h => ⟨[], h, fun E a w hT hH => ⟨[], rfl, .nil⟩⟩
  | .tmp t :: l, K, r, h => by
    obtain ⟨vs, hK, hs⟩ := resultsK_sound hTy l _ r h
    refine ⟨_, hK, fun E a w hT hH => ?_⟩
    obtain ⟨xs, h1, h2⟩ := hs E a w hT hH
    refine ⟨_, ?_, .cons (hT t) h2⟩
    rw [List.mapM_cons]
    simp only [resAt, Sem.run_bind, Sem.run_pure, Result.andThen_ok]
    rw [h1]; rfl
  | .cell x t :: l, K, r, h => by
    rw [resultsK] at h
    obtain ⟨v, h, hl⟩ := loadK_sound (P := P) hTy h
    obtain ⟨vs, hK, hs⟩ := resultsK_sound hTy l _ r h
    refine ⟨_, hK, fun E a w hT hH => ?_⟩
    obtain ⟨xs, h1, h2⟩ := hs E a w hT hH
    obtain ⟨y, hy, hv⟩ := hl E w _ (hT x) hH
    refine ⟨y :: xs, ?_, .cons hv h2⟩
    rw [List.mapM_cons]
    have hy' : (resAt a (.cell x t)).run P w = .ok y w := by
      show (do loadVar t (← asAddr (a.tmps.getD x undef)) : Sem Value).run P w = .ok y w
      have : Instr.loadAt t (a.tmps.getD x undef) = (do loadVar t (← Instr.sureAddr (a.tmps.getD x undef)) : Sem Value) := rfl
      rw [this] at hy
      generalize a.tmps.getD x undef = av at hy ⊢
      unfold Instr.sureAddr at hy
      split at hy
      · exact hy
      · simp [stuck] at hy
    rw [Sem.run_bind, hy']
    simp only [Result.andThen_ok, Sem.run_bind]
    rw [h1]; rfl

end
end Go.Ab
