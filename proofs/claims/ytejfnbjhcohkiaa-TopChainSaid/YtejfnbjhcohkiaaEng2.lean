/- Calls: of built-in functions, of functions with a body, of those without. Conditions: none. -/
import Derived.Test.YtejfnbjhcohkiaaEng1
import Derived.Laws.LoneSync
import Derived.Scope
import Derived.KernelRfl
import GoSem.ClaimChange
import Derived.WideShapes
import Derived.Below
import Derived.ChangeArms
import Derived.OpenShut
namespace Go.Ab
set_option linter.unusedVariables false
set_option linter.unusedSimpArgs false
open Go

section
variable {P : Program} {Ty : Types} {R : Type}

theorem lenK_sound (hTy : TyOk P Ty) {H : Heap} {t : Nat} {x : AV} {K : AV → Option R} {r : R} (h : lenK Ty H t x K = some r) :
    ∃ v, K v = some r ∧ ∀ (E : Env) (xv : Value) (w : World) (ts : Array TypeId) (ty : TypeId) (as : Array Value), ts[0]? = some t → as[0]? = some xv → VRel E x xv → HRel E H w →
      ∃ y, (Builtin.len_ ts ty as).run P w = .ok y w ∧ VRel E v y := by
  unfold lenK at h
  split at h
  · rename_i s hT
    obtain ⟨_, d, _, hu, hd, _⟩ := hTy.ok _ _ hT
    have := str_of hd; subst this
    refine ⟨_, h, fun E xv w ts ty as ht ha hx hH => ⟨_, ?_, .i _ _⟩⟩
    cases hx
    unfold Builtin.len_
    simp [ht, ha, run_underlying hu]
    rfl
  · rename_i n _ _ _ _ hT
    obtain ⟨_, d, _, hu, hd, _⟩ := hTy.ok _ _ hT
    have := arr_of hd; subst this
    refine ⟨_, h, fun E xv w ts ty as ht ha hx hH => ⟨_, ?_, .i _ _⟩⟩
    unfold Builtin.len_
    simp [ht, ha, run_underlying hu]
    rfl
  · rename_i _ _ _ _ hT
    obtain ⟨_, d, _, hu, hd, _⟩ := hTy.ok _ _ hT
    have := slice_of hd; subst this
    refine ⟨_, h, fun E xv w ts ty as ht ha hx hH => ⟨_, ?_, .i _ _⟩⟩
    cases hx
    unfold Builtin.len_
    simp [ht, ha, run_underlying hu]
    rfl
  · rename_i _ _ _ _ id bs e sz n hT
    obtain ⟨_, d, _, hu, hd, _⟩ := hTy.ok _ _ hT
    have := slice_of hd; subst this
    refine ⟨_, h, fun E xv w ts ty as ht ha hx hH => ⟨_, ?_, .i _ _⟩⟩
    cases hx with
    | sl h' hr hn =>
      unfold Builtin.len_
      simp [ht, ha, run_underlying hu]
      rfl
    | sl0 hn =>
      subst hn
      unfold Builtin.len_
      simp [ht, ha, run_underlying hu]
      rfl
  · rename_i _ _ _ _ id hT
    obtain ⟨_, d, _, hu, hd, _⟩ := hTy.ok _ _ hT
    have := slice_of hd; subst this
    split at h
    · rename_i fam ro sh xs hg
      refine ⟨_, h, fun E xv w ts ty as ht ha hx hH => ⟨_, ?_, .i _ _⟩⟩
      obtain ⟨ent, he, hB⟩ := hH.live _ _ hg
      obtain ⟨hn, hsz⟩ := hB.fits
      cases hx with
      | sw h' hr hcap hc =>
        rw [he] at h'; cases h'
        unfold Builtin.len_
        simp [ht, ha, run_underlying hu, hn]
        rfl
      | sw0 h' hn0 =>
        rw [he] at h'; cases h'
        have : xs.length = 0 := by omega
        unfold Builtin.len_
        simp [ht, ha, run_underlying hu, this]
        rfl
    · cases h
  · cases h

theorem foldK_sound {f : AV → AV → Option AV} {g : Value → Value → Sem Value} (hf : ∀ x y v, f x y = some v → ∀ E xv yv w, VRel E x xv → VRel E y yv → ∃ z, (g xv yv).run P w = .ok z w ∧ VRel E v z) :
    ∀ (ys : List AV) (x v : AV), foldK f x ys = some v → ∀ (E : Env) (xv : Value) (yvs : List Value) (w : World), VRel E x xv → VRelL E ys yvs → ∃ z, (yvs.foldlM g xv).run P w = .ok z w ∧ VRel E v z
  | [], x, v, h, E, xv, yvs, w, hx, hys => by
    cases h; cases hys
    exact ⟨xv, rfl, hx⟩
  | y :: ys, x, v, h, E, xv, yvs, w, hx, hys => by
    cases hys with
    | cons hy hys =>
      rw [foldK] at h
      split at h
      · rename_i z hz
        obtain ⟨zv, h1, h2⟩ := hf x y z hz E _ _ w hx hy
        obtain ⟨u, h3, h4⟩ := foldK_sound hf ys z v h E zv _ w h2 hys
        refine ⟨u, ?_, h4⟩
        rw [List.foldlM_cons, Sem.run_bind, h1, Result.andThen_ok, h3]
      · cases h

theorem minK_sound {x y v : AV} (h : minK x y = some v) (E : Env) (xv yv : Value) (w : World) (hx : VRel E x xv) (hy : VRel E y yv) : ∃ z, (Builtin.min2 xv yv).run P w = .ok z w ∧ VRel E v z := by
  unfold minK at h
  split at h
  · split at h
    · cases h; cases hx; cases hy; exact ⟨_, rfl, .i _ _⟩
    · cases h
  · cases h

theorem maxK_sound {x y v : AV} (h : maxK x y = some v) (E : Env) (xv yv : Value) (w : World) (hx : VRel E x xv) (hy : VRel E y yv) : ∃ z, (Builtin.max2 xv yv).run P w = .ok z w ∧ VRel E v z := by
  unfold maxK at h
  split at h
  · split at h
    · cases h; cases hx; cases hy; exact ⟨_, rfl, .i _ _⟩
    · cases h
  · cases h

/-- What a built-in function yields. -/
def BuV (P : Program) (b : Builtin) (ts : Array TypeId) (args : List AV) (H : Heap) (v : AV) (H' : Heap) : Prop :=
  ∀ (E : Env) (w : World) (ty : TypeId) (cs : Array Bool) (as : Array Value), VRelL E args as.toList → HRel E H w →
    ∃ x w' E', (builtin b ts ty cs as).run P w = .ok (.value x) w' ∧ VRel E' v x ∧ HRel E' H' w' ∧ Ext E E' ∧ Fr E H w E' H' w'

theorem toList_two {α : Type} {a : Array α} {x y : α} (h : a.toList = [x, y]) : a = #[x, y] := by
  cases a; simp at h; subst h; rfl

theorem builtinK_sound (hTy : TyOk P Ty) {H : Heap} {b : Builtin} {ts : Array TypeId} {args : List AV} {K : AV → Heap → Option R} {r : R} (h : builtinK Ty H b ts.toList args K = some r) :
    ∃ v H', K v H' = some r ∧ BuV P b ts args H v H' := by
  unfold builtinK at h
  split at h
  · rename_i t tl x xs hts
    obtain ⟨v, hK, hs⟩ := lenK_sound (P := P) hTy h
    refine ⟨v, H, hK, fun E w ty cs as ha hH => ?_⟩
    have h0 : ts[0]? = some t := by rw [← Array.getElem?_toList, hts]; rfl
    obtain ⟨xv, hx1, hx2⟩ := ha.arr (j := 0) (v := x) rfl
    obtain ⟨y, hy, hv⟩ := hs E xv w ts ty as h0 hx1 hx2 hH
    refine ⟨y, w, E, ?_, hv, hH, Ext.refl E, Fr.refl E H w⟩
    simp only [builtin, Sem.run_bind, hy, Result.andThen_ok, Sem.run_pure]
  · rename_i t xt s x hts
    obtain ⟨v, H', hK, hs⟩ := appendK_sound (P := P) hTy h
    refine ⟨v, H', hK, fun E w ty cs as ha hH => ?_⟩
    have h0 := toList_two hts
    subst h0
    generalize hal : as.toList = al at ha
    cases ha with
    | cons h1 h2 =>
      cases h2 with
      | cons h2 h3 =>
        cases h3
        have h4 := toList_two hal
        subst h4
        obtain ⟨y, w', E', k1, k2, k3, k4, k5⟩ := hs E _ _ w ty h1 h2 hH
        refine ⟨y, w', E', ?_, k2, k3, k4, k5⟩
        simp only [builtin, Sem.run_bind, k1, Result.andThen_ok, Sem.run_pure]
  · rename_i tl x xs
    split at h
    · rename_i v hv
      refine ⟨v, H, h, fun E w ty cs as ha hH => ?_⟩
      generalize hal : as.toList = al at ha
      cases ha with
      | cons h1 h2 =>
        obtain ⟨z, k1, k2⟩ := foldK_sound (P := P) (fun x y v hh E xv yv w => minK_sound hh E xv yv w) _ _ _ hv E _ _ w h1 h2
        refine ⟨z, w, E, ?_, k2, hH, Ext.refl E, Fr.refl E H w⟩
        simp only [builtin, Builtin.min_, hal, Sem.run_bind, k1, Result.andThen_ok, Sem.run_pure]
    · cases h
  · rename_i tl x xs
    split at h
    · rename_i v hv
      refine ⟨v, H, h, fun E w ty cs as ha hH => ?_⟩
      generalize hal : as.toList = al at ha
      cases ha with
      | cons h1 h2 =>
        obtain ⟨z, k1, k2⟩ := foldK_sound (P := P) (fun x y v hh E xv yv w => maxK_sound hh E xv yv w) _ _ _ hv E _ _ w h1 h2
        refine ⟨z, w, E, ?_, k2, hH, Ext.refl E, Fr.refl E H w⟩
        simp only [builtin, Builtin.max_, hal, Sem.run_bind, k1, Result.andThen_ok, Sem.run_pure]
    · cases h
  · cases h

/-! ### Functions -/

def exOf : Ex → Exit
  | .normal => .normal
  | .exit i => .exit i
  | .goto l => .goto l
  | .ret => .ret

def Past (E : Env) (H : Heap) (w : World) (pin nt : Nat) (ex : Ex) (T' : Tmps) (H' : Heap) : Exit → Act → World → Prop :=
  fun e a' w' => e = exOf ex ∧ ∃ E', St E' nt T' H' a' w' ∧ Fr E H w E' H' w' ∧ ∀ i, i < pin → E' i = E i

def Pins (E : Env) (pin : Nat) : Prop := ∀ i, i < pin → ∃ ent, E i = some ent

def CodeG (P : Program) (c : Code) (pin nt : Nat) (T : Tmps) (H : Heap) (ex : Ex) (T' : Tmps) (H' : Heap) : Prop :=
  ∀ (E : Env) (a : Act) (w : World), St E nt T H a w → Pins E pin → c.wp P (Past E H w pin nt ex T' H') a w

/-- Within a loop: behind its entry. -/
def InLoopG (P : Program) (c : Code) (pin nt : Nat) (T : Tmps) (H : Heap) (ex : Ex) (T' : Tmps) (H' : Heap) : Prop :=
  ∀ (E : Env) (a : Act) (w : World), St E nt T H a w → Pins E pin → ∀ (b : Frame) (k : List Item) (cs : List Frame),
    ∃ e a' w', Past E H w pin nt ex T' H' e a' w' ∧ Arrives P (lone (b.at a (.code c :: .inLoop c :: k)) cs w) b k cs e a' w'

/-- Within a scope: at a place of it. -/
def InScopeG (P : Program) (c rest : Code) (pin nt : Nat) (T : Tmps) (H : Heap) (ex : Ex) (T' : Tmps) (H' : Heap) : Prop :=
  ∀ (E : Env) (a : Act) (w : World), St E nt T H a w → Pins E pin → ∀ (b : Frame) (k : List Item) (cs : List Frame),
    ∃ e a' w', Past E H w pin nt ex T' H' e a' w' ∧ Arrives P (lone (b.at a (.code rest :: .inScope c :: k)) cs w) b k cs e a' w'

def LoopOk (P : Program) (nt : Nat) (c : Code) (S : LSum R) : Prop :=
  ∀ pin T H (K : Kont R) r, S pin T H K = some r → ∃ ex T' H', K ex T' H' = some r ∧ InLoopG P c pin nt T H ex T' H'

def JumpOk (P : Program) (nt : Nat) (c rest : Code) (S : LSum R) : Prop :=
  ∀ pin T H (K : Kont R) r, S pin T H K = some r → ∃ ex T' H', K ex T' H' = some r ∧ InScopeG P c rest pin nt T H ex T' H'

def CutOk (P : Program) (nt : Nat) (b : Code) (S : LSum R) : Prop :=
  ∀ pin T H (K : Kont R) r, S pin T H K = some r → ∃ ex T' H', K ex T' H' = some r ∧ CodeG P b pin nt T H ex T' H'

def CodeOk (P : Program) (C : Cx R) (fi : FnI) : Code → Prop
  | .seq a b => CodeOk P C fi a ∧ CodeOk P C fi b ∧ ∀ key S, firstRegion b = some key → C.cut fi.no key = some S → CutOk P fi.fn.ntmps b S
  | .cond _ a b => CodeOk P C fi a ∧ CodeOk P C fi b
  | .block _ c => CodeOk P C fi c
  | .loop c => CodeOk P C fi c ∧ ∀ key S, firstRegion c = some key → C.loop fi.no key = some S → LoopOk P fi.fn.ntmps c S
  | .scope c => CodeOk P C fi c ∧ ∀ l rest S, findLabel c l = some rest → C.loop fi.no (1000000 + l) = some S → JumpOk P fi.fn.ntmps c rest S
  | _ => True

def PrevOk (P : Program) (C : Cx R) (prev : Prev R) : Prop :=
  ∀ pin fi c T H (K : Kont R) r, CodeOk P C fi c → prev pin fi c T H K = some r → ∃ ex T' H', K ex T' H' = some r ∧ CodeG P c pin fi.fn.ntmps T H ex T' H'

def ExtOk (P : Program) (f : Nat) (g : List AV → Option (Bool × AV)) : Prop :=
  ∀ args v, g args = some (true, v) → ∀ (E : Env) (cargs : Array Value) (w : World), VRelL E args cargs.toList → ∃ x, (callFunc f cargs).run P w = .ok (.value x) w ∧ VRel E v x

def Enters (P : Program) (f : Nat) : Prop := ∀ (args : Array Value) (w : World), (callFunc f args).run P w = .ok (.enter f args) w

structure CxOk (P : Program) (C : Cx R) : Prop where
  ty : TyOk P C.Ty
  eq : EqOk P C.Ty
  mixed : P.follows .mixedOrders = true
  ext : ∀ f g, C.ext f = some g → ExtOk P f g
  sum : ∀ f p, C.sum f = some p → SumOk P f p.1 p.2 ∧ Enters P f
  fns : ∀ f fi, C.fns f = some fi → fi.no = f ∧ P.funcs[f]? = some fi.fn ∧ Enters P f ∧ ∀ c, fi.fn.body = some c → CodeOk P C fi c

theorem argsT_get : ∀ (args : List AV) (n t : Nat) (rest : Tmps), tget (argsT args n ++ rest) t = if n ≤ t ∧ t < n + args.length then args[t - n]?.getD .junk else tget rest t
  | [], n, t, rest => by simp [argsT]; try omega
  | v :: args, n, t, rest => by
    rw [argsT, List.cons_append, tget_cons, argsT_get args (n + 1) t rest]
    by_cases h : n = t
    · subst h; simp
    · rw [if_neg h]
      by_cases h2 : n + 1 ≤ t ∧ t < n + 1 + args.length
      · rw [if_pos h2, if_pos (by simp; omega), show t - n = (t - (n + 1)) + 1 by omega, List.getElem?_cons_succ]
      · rw [if_neg h2, if_neg (by simp; omega)]

theorem undefs_get : ∀ (k n t : Nat), tget (undefs k n) t = if n ≤ t ∧ t < n + k then .u else .junk
  | 0, n, t => by simp [undefs, tget]; try omega
  | k + 1, n, t => by
    rw [undefs, tget_cons, undefs_get k (n + 1) t]
    by_cases h : n = t
    · subst h; simp
    · rw [if_neg h]
      by_cases h2 : n + 1 ≤ t ∧ t < n + 1 + k
      · rw [if_pos h2, if_pos (by omega)]
      · rw [if_neg h2, if_neg (by omega)]

theorem start_rel {E : Env} {args : List AV} {cargs : Array Value} (h : VRelL E args cargs.toList) (nt : Nat) :
    TRel E (argsT args 0 ++ undefs (nt - args.length) args.length) { tmps := cargs ++ Array.replicate (nt - cargs.size) undef, defers := [] } := by
  intro t
  have hl := h.length
  simp only [Array.length_toList] at hl
  rw [argsT_get, undefs_get]
  by_cases h1 : t < args.length
  · rw [if_pos (by omega)]
    simp only [Nat.sub_zero]
    obtain ⟨x, hx, hr⟩ := h.arr (List.getElem?_eq_getElem h1)
    rw [List.getElem?_eq_getElem h1, Option.getD_some]
    have : (cargs ++ Array.replicate (nt - cargs.size) undef)[t]? = some x := by rw [Array.getElem?_append_left (by omega)]; exact hx
    show VRel E _ ((cargs ++ Array.replicate (nt - cargs.size) undef).getD t undef)
    rw [Array.getD_eq_getD_getElem?, this]; exact hr
  · rw [if_neg (by omega)]
    split
    · show VRel E _ ((cargs ++ Array.replicate (nt - cargs.size) undef).getD t undef)
      rw [Array.getD_eq_getD_getElem?, Array.getElem?_append_right (by omega), Array.getElem?_replicate]
      split <;> exact .u
    · exact .junk _

theorem one_rel {E : Env} {vs : List AV} {xs : List Value} (h : VRelL E vs xs) : VRel E (one vs) (if h : xs.toArray.size = 1 then xs.toArray[0] else .tuple xs.toArray) := by
  cases h with
  | nil => exact .u
  | cons h t =>
    cases t with
    | nil => exact h
    | cons h2 t => exact .tup (.cons h (.cons h2 t))

def resAt (a : Act) : ResultVar → Sem Value
  | .tmp t => pure (a.tmps.getD t undef)
  | .cell x t => do loadVar t (← asAddr (a.tmps.getD x undef))

theorem resultsK_sound (hTy : TyOk P Ty) {T : Tmps} {H : Heap} : ∀ (l : List ResultVar) (K : List AV → Option R) (r : R), resultsK Ty T H l K = some r →
    ∃ vs, K vs = some r ∧ ∀ (E : Env) (a : Act) (w : World), TRel E T a → HRel E H w →
      ∃ xs, (l.mapM (resAt a)).run P w = .ok xs w ∧ VRelL E vs xs
  | [], K, r, h => ⟨[], h, fun E a w hT hH => ⟨[], rfl, .nil⟩⟩
  | .tmp t :: l, K, r, h => by
    obtain ⟨vs, hK, hs⟩ := resultsK_sound hTy l _ r h
    refine ⟨_, hK, fun E a w hT hH => ?_⟩
    obtain ⟨xs, h1, h2⟩ := hs E a w hT hH
    refine ⟨_, ?_, .cons (hT t) h2⟩
    rw [List.mapM_cons]
    simp only [resAt, Sem.run_bind, Sem.run_pure, Result.andThen_ok]
    rw [h1]; rfl
  | .cell x t :: l, K, r, h => by
    rw [resultsK] at h
    obtain ⟨v, h, hl⟩ := loadK_sound (P := P) hTy h
    obtain ⟨vs, hK, hs⟩ := resultsK_sound hTy l _ r h
    refine ⟨_, hK, fun E a w hT hH => ?_⟩
    obtain ⟨xs, h1, h2⟩ := hs E a w hT hH
    obtain ⟨y, hy, hv⟩ := hl E w _ (hT x) hH
    refine ⟨y :: xs, ?_, .cons hv h2⟩
    rw [List.mapM_cons]
    have hy' : (resAt a (.cell x t)).run P w = .ok y w := by
      show (do loadVar t (← asAddr (a.tmps.getD x undef)) : Sem Value).run P w = .ok y w
      have : Instr.loadAt t (a.tmps.getD x undef) = (do loadVar t (← Instr.sureAddr (a.tmps.getD x undef)) : Sem Value) := rfl
      rw [this] at hy
      generalize a.tmps.getD x undef = av at hy ⊢
      unfold Instr.sureAddr at hy
      split at hy
      · exact hy
      · simp [stuck] at hy
    rw [Sem.run_bind, hy']
    simp only [Result.andThen_ok, Sem.run_bind]
    rw [h1]; rfl

end
end Go.Ab

/- Bodies, calls, operations. Conditions: none. -/
namespace Go.Ab
set_option linter.unusedVariables false
set_option linter.unusedSimpArgs false
open Go

section
variable {P : Program} {R : Type} {C : Cx R} {prev : Prev R}

theorem bodyK_sound (hC : CxOk P C) (hp : PrevOk P C prev) {f : Nat} {fi : FnI} (hf : C.fns f = some fi) : SumOk P f false (fun args H (K : AV → Heap → Option R) => bodyK C prev fi args H K) := by
  intro args H K r h
  obtain ⟨hno, hfn, hen, hok⟩ := hC.fns f fi hf
  simp only [bodyK] at h
  split at h
  · rename_i c hc
    obtain ⟨hle, h⟩ := cond_some h
    have hle : args.length ≤ fi.fn.ntmps := by simpa using hle
    obtain ⟨ex, T', H', hK, hG⟩ := hp _ _ _ _ _ _ _ (hok c hc) h
    have hK' : (ex = .ret ∨ ex = .normal) ∧ resultsK C.Ty T' H' fi.fn.results.toList (fun vs =>
        (fun seen => cond (seenOk H.next [one vs] H' seen) (K ((one vs).ren (idx seen)) (heapOf H' seen)) none) (seenOf H.next [one vs] H')) = some r := by
      cases ex with
      | ret => exact ⟨.inl rfl, hK⟩
      | normal => exact ⟨.inr rfl, hK⟩
      | exit i => cases hK
      | goto l => cases hK
    obtain ⟨hex, hK⟩ := hK'
    obtain ⟨vs, hK, hres⟩ := resultsK_sound hC.ty _ _ _ hK
    generalize hse : seenOf H.next [one vs] H' = seen at hK
    obtain ⟨hs, hK⟩ := cond_some hK
    refine ⟨_, _, hK, fun E cargs w hargs hH => ?_, fun hh => by cases hh⟩
    have hl := hargs.length
    simp only [Array.length_toList] at hl
    refine calls_of_wp hfn hc ?_
    refine wp_mono (hG E _ w ⟨start_rel hargs _, hH, rfl, ?_⟩ hH.full) ?_
    · simp; omega
    · rintro e a' w' ⟨he, E', hst, hfr, hpin⟩
      obtain ⟨xs, hx1, hx2⟩ := hres E' a' w' hst.t hst.h
      obtain ⟨h1, h2, h3, _⟩ := seenOk_spec hs
      have hrun : (results fi.fn a'.tmps).run P w' = .ok (if h : xs.toArray.size = 1 then xs.toArray[0] else .tuple xs.toArray) w' := by
        have : results fi.fn a'.tmps = (do
            let vs ← fi.fn.results.mapM (resAt a')
            pure (if h : vs.size = 1 then vs[0] else .tuple vs) : Sem Value) := by
          unfold results
          congr 2
        rw [this, Sem.run_bind, Array.mapM_eq_mapM_toList, Sem.run_map, hx1]
        rfl
      have hpost : a'.defers = [] ∧ ∃ v, (results fi.fn a'.tmps).run P w' = .ok v w' ∧ ∃ x E'', Ending.returned v = .returned x ∧ VRel E'' ((one vs).ren (idx seen)) x ∧ HRel E'' (heapOf H' seen) w' ∧ Fr E H w E'' (heapOf H' seen) w' ∧ ∀ i, i < H.next → E'' i = E i := by
        refine ⟨hst.d, _, hrun, _, envOf E' seen, rfl, (one_rel hx2).ren fun id hid => envOf_idx (h1 id (by simpa [AV.idsL] using hid)), (hst.h.heapOf hs).1, ?_, fun i hi => ?_⟩
        · exact hfr.trans ⟨rfl, rfl, rfl, Nat.le_refl _, fun _ _ _ => rfl, fun b hb _ => (hst.h.heapOf hs).2 b hb⟩
        · obtain ⟨h4, h5⟩ := h3 i hi
          rw [← hpin i hi]
          simp [envOf, h4, h5]
      rcases hex with rfl | rfl
      · subst he; exact hpost
      · subst he; exact hpost
  · cases h

/-- What a call comes to, in a frame. -/
def CallX (P : Program) (f : Nat) (args : List AV) (H : Heap) (v : AV) (H' : Heap) : Prop :=
  ∀ (E : Env) (cargs : Array Value) (w : World), VRelL E args cargs.toList → HRel E H w →
    (∃ x, (callFunc f cargs).run P w = .ok (.value x) w ∧ VRel E v x ∧ H' = H) ∨
    ((callFunc f cargs).run P w = .ok (.enter f cargs) w ∧ Calls P f cargs w fun e w' => ∃ x E', e = .returned x ∧ VRel E' v x ∧ HRel E' H' w' ∧ Ext E E' ∧ Fr E H w E' H' w')

theorem callK_sound (hC : CxOk P C) (hp : PrevOk P C prev) {f : Nat} {args : List AV} {H : Heap} {K : AV → Heap → Option R} {r : R} (h : callK C prev f args H K = some r) :
    ∃ v H', K v H' = some r ∧ CallX P f args H v H' := by
  unfold callK at h
  split at h
  · rename_i g hg
    split at h
    · rename_i p hv
      obtain ⟨hb, h⟩ := cond_some h
      obtain ⟨b, v⟩ := p
      simp only at hb h
      subst hb
      exact ⟨v, H, h, fun E cargs w ha hH => .inl (let ⟨x, h1, h2⟩ := hC.ext f g hg args v hv E cargs w ha; ⟨x, h1, h2, rfl⟩)⟩
    · cases h
  · have key : ∀ (keep : Bool) (S : Sum R), SumOk P f keep S → Enters P f → frameK keep args H S K = some r → ∃ v H', K v H' = some r ∧ CallX P f args H v H' := by
      intro keep S hS hE hf
      obtain ⟨v, H', hK, hG⟩ := frameK_sound hS hf
      exact ⟨v, H', hK, fun E cargs w ha hH => .inr ⟨hE cargs w, hG E cargs w ha hH⟩⟩
    cases hs : C.sum f with
    | some p =>
      rw [hs] at h
      exact key p.1 p.2 (hC.sum f p hs).1 (hC.sum f p hs).2 h
    | none =>
      rw [hs] at h
      cases hfn : C.fns f with
      | none =>
        rw [hfn] at h
        refine (frameK_sound (P := P) (f := f) (keep := false) (S := fun _ _ _ => none) (fun _ _ _ _ hh => by cases hh) h).elim fun v hv => ?_
        obtain ⟨H', hK, hG⟩ := hv
        unfold frameK at h
        cases hb : seenOk 0 args H (seenOf 0 args H) with
        | true => simp only [hb, cond_true] at h; cases h
        | false => simp only [hb, cond_false] at h; cases h
      | some fi =>
        rw [hfn] at h
        exact key false _ (bodyK_sound hC hp hfn) (hC.fns f fi hfn).2.2.1 h

/-- What an operation comes to. -/
def OpG (P : Program) (T : Tmps) (H : Heap) (o : Oper) (v : AV) (H' : Heap) : Prop :=
  ∀ (E : Env) (a : Act) (w : World), TRel E T a → HRel E H w → ∀ (next : Act → World → Prop) (Q : Exit → Act → World → Prop),
    (∀ x E' w', VRel E' v x → HRel E' H' w' → Ext E E' → Fr E H w E' H' w' → next (a.put o.dst x) w') → o.wp P a w next Q

theorem OpV.toG {T : Tmps} {H H' : Heap} {o : Oper} {v : AV} (h : OpV P T H o v H') : OpG P T H o v H' := by
  intro E a w hT hH next Q hn
  obtain ⟨x, w', E', nx, hr, hx, hv, h1, h2, h3⟩ := h E a w hT hH
  unfold Oper.wp
  rw [hr]
  have := hn x E' w' hv h1 h2 h3
  rcases hx with rfl | ⟨rfl, rfl⟩
  · exact this
  · exact this

theorem operK_sound (hC : CxOk P C) (hp : PrevOk P C prev) {T : Tmps} {H : Heap} {o : Oper} {K : AV → Heap → Option R} {r : R} (h : operK C prev T H o.op K = some r) :
    ∃ v H', K v H' = some r ∧ OpG P T H o v H' := by
  unfold operK at h
  split at h
  · rename_i b args argTypes ho
    obtain ⟨v, H', hK, hB⟩ := builtinK_sound (P := P) hC.ty h
    refine ⟨v, H', hK, fun E a w hT hH next Q hn => ?_⟩
    have hargs : VRelL E (opdsL T args.toList) (args.map a.eval).toList := by rw [Array.toList_map]; exact opdsL_rel hT _
    obtain ⟨x, w', E', k1, k2, k3, k4, k5⟩ := hB E w o.type (args.map fun | .const _ => true | _ => false) _ hargs hH
    have hr : (execOp a.eval o).run P w = .ok (.value x) w' := by
      unfold execOp
      rw [ho]
      simp only [resolve, Sem.run_bind, Sem.run_pure, Result.andThen_ok, invoke]
      exact k1
    unfold Oper.wp
    rw [hr]
    exact hn x E' w' k2 k3 k4 k5
  · rename_i f args argTypes ho
    split at h
    · rename_i f' cap hfv
      obtain ⟨v, H', hK, hX⟩ := callK_sound hC hp h
      refine ⟨v, H', hK, fun E a w hT hH next Q hn => ?_⟩
      have hv := opd_rel hT f
      rw [hfv] at hv
      have hargs : VRelL E (opdsL T args.toList) (args.map a.eval).toList := by rw [Array.toList_map]; exact opdsL_rel hT _
      have hcall : ∀ caps, a.eval f = .func (.func f') #[] caps → (execOp a.eval o) = callFunc f' (args.map a.eval ++ caps) := by
        intro caps hc
        unfold execOp
        rw [ho]
        show (do let d ← Deferred.ofValue (a.eval f) (args.map a.eval); invoke d.target d.args) = _
        rw [hc]
        show invoke (.fn (.func f') caps) (#[] ++ args.map a.eval) = _
        rw [Array.empty_append]
        rfl
      generalize a.eval f = fv at hv hcall
      cases hv with
      | fn hcap =>
        rename_i caps
        have hc := hcall caps rfl
        rcases hX E (args.map a.eval ++ caps) w (by rw [Array.toList_append]; exact hargs.append hcap) hH with ⟨x, h1, h2, rfl⟩ | ⟨h1, h2⟩
        · unfold Oper.wp
          rw [hc, h1]
          exact hn x E w h2 hH (Ext.refl E) (Fr.refl E _ w)
        · unfold Oper.wp
          rw [hc, h1, Oper.upon_enter]
          refine h2.mono ?_
          rintro e w' ⟨x, E', rfl, k1, k2, k3, k4⟩
          exact hn x E' w' k1 k2 k3 k4
    · cases h
  · cases h
  · obtain ⟨v, H', hK, hV⟩ := opK_sound (P := P) hC.ty hC.eq h
    exact ⟨v, H', hK, hV.toG⟩

end
end Go.Ab

/- Regions in order, cutting down, and what stands between them. Conditions: none. -/
namespace Go.Ab
set_option linter.unusedVariables false
set_option linter.unusedSimpArgs false
open Go

section
variable {P : Program} {R : Type} {C : Cx R} {prev : Prev R}

theorem put_size (a : Act) (dst : Option Tmp) (v : Value) : (a.put dst v).tmps.size = a.tmps.size := by
  cases dst <;> simp [Act.put]

theorem put_defers (a : Act) (dst : Option Tmp) (v : Value) : (a.put dst v).defers = a.defers := by
  cases dst <;> rfl

theorem TRel.put {E : Env} {T : Tmps} {a : Act} (h : TRel E T a) {d : Nat} (hd : d < a.tmps.size) {v : AV} {x : Value} (hv : VRel E v x) : TRel E ((d, v) :: T) (a.put (some d) x) := by
  intro t
  rw [tget_cons]
  show VRel E _ ((a.tmps.setIfInBounds d x).getD t undef)
  rw [Array.getD_eq_getD_getElem?, Array.getElem?_setIfInBounds]
  by_cases ht : d = t
  · subst ht
    simp [hd, hv]
  · rw [if_neg ht, if_neg ht, ← Array.getD_eq_getD_getElem?]
    exact h t

theorem TRel.mono {E E' : Env} {T : Tmps} {a : Act} (h : TRel E T a) (hE : Ext E E') : TRel E' T a := fun t => (h t).mono hE

theorem putT_sound {nt : Nat} {dst : Option Nat} {v : AV} {T : Tmps} {K : Tmps → Option R} {r : R} (h : putT nt dst v T K = some r) :
    ∃ T', K T' = some r ∧ ∀ (E : Env) (a : Act) (x : Value), a.tmps.size = nt → TRel E T a → VRel E v x → TRel E T' (a.put dst x) := by
  unfold putT at h
  split at h
  · exact ⟨T, h, fun E a x hn hT hv => hT⟩
  · rename_i d
    obtain ⟨h1, h⟩ := cond_some h
    have h1 : d < nt := by simpa using h1
    exact ⟨_, h, fun E a x hn hT hv => hT.put (by omega) hv⟩

theorem guardK_sound {ops : Array Oper} {o : Oper} {T : Tmps} {yes no : Tmps → Option R} {r : R} (h : guardK ops.toList o T yes no = some r) :
    ∃ T', ((yes T' = some r ∧ ∀ E a, TRel E T a → TRel E T' a ∧ Region.wanted o (yielded ops a.tmps) = true) ∨ (no T' = some r ∧ ∀ E a, TRel E T a → TRel E T' a ∧ Region.wanted o (yielded ops a.tmps) = false)) := by
  have hy : ∀ (a : Act) j d, dstOf ops.toList j = some d → yielded ops a.tmps j = match a.tmps[d]? with | some (.bool b) => some b | _ => none := by
    intro a j d hd
    unfold dstOf at hd
    unfold yielded
    rw [Array.getElem?_toList] at hd
    cases ho : ops[j]? with
    | none => rw [ho] at hd; cases hd
    | some o => rw [ho] at hd; simp only [Option.bind_some]; simp only at hd; rw [hd]; simp only [Option.bind_some]; rfl
  have hnone : ∀ (a : Act) j, dstOf ops.toList j = none → yielded ops a.tmps j = none := by
    intro a j hd
    unfold dstOf at hd
    unfold yielded
    rw [Array.getElem?_toList] at hd
    cases ho : ops[j]? with
    | none => rfl
    | some o => rw [ho] at hd; simp only [Option.bind_some]; simp only at hd; rw [hd]; simp only [Option.bind_none]
  unfold guardK at h
  split at h
  · rename_i hg
    exact ⟨T, .inl ⟨h, fun E a hT => ⟨hT, by unfold Region.wanted; rw [hg]⟩⟩⟩
  · rename_i j want hg
    split at h
    · rename_i hd
      exact ⟨T, .inr ⟨h, fun E a hT => ⟨hT, by unfold Region.wanted; rw [hg]; simp only; rw [hnone a j hd]; rfl⟩⟩⟩
    · rename_i d hd
      have keep : ∀ (E : Env) (a : Act) (b : Bool), TRel E T a → tget T d = .b b → TRel E ((d, .b b) :: T) a := by
        intro E a b hT hb t
        rw [tget_cons]
        split
        · rename_i ht; subst ht; rw [← hb]; exact hT _
        · exact hT t
      have hval : ∀ (E : Env) (a : Act) (b : Bool), TRel E T a → tget T d = .b b → yielded ops a.tmps j = some b := by
        intro E a b hT hb
        rw [hy a j d hd]
        have := hT d
        rw [hb, Array.getD_eq_getD_getElem?] at this
        cases hx : a.tmps[d]? with
        | none => rw [hx] at this; simp only [Option.getD_none] at this; cases this
        | some x => rw [hx] at this; simp only [Option.getD_some] at this; cases this; rfl
      have hw : ∀ (E : Env) (a : Act) (b : Bool), TRel E T a → tget T d = .b b → Region.wanted o (yielded ops a.tmps) = (b == want) := by
        intro E a b hT hb
        unfold Region.wanted; rw [hg]; simp only; rw [hval E a b hT hb]; cases b <;> cases want <;> rfl
      split at h
      · rename_i x hx
        cases x <;> cases want <;> simp only [cond_true, cond_false] at h
        · exact ⟨_, .inl ⟨h, fun E a hT => ⟨keep E a _ hT hx, hw E a _ hT hx⟩⟩⟩
        · exact ⟨_, .inr ⟨h, fun E a hT => ⟨keep E a _ hT hx, hw E a _ hT hx⟩⟩⟩
        · exact ⟨_, .inr ⟨h, fun E a hT => ⟨keep E a _ hT hx, hw E a _ hT hx⟩⟩⟩
        · exact ⟨_, .inl ⟨h, fun E a hT => ⟨keep E a _ hT hx, hw E a _ hT hx⟩⟩⟩
      · rename_i hx
        refine ⟨T, .inr ⟨h, fun E a hT => ⟨hT, ?_⟩⟩⟩
        unfold Region.wanted; rw [hg]; simp only
        rw [hy a j d hd]
        have := hT d
        rw [hx, Array.getD_eq_getD_getElem?] at this
        cases hxa : a.tmps[d]? with
        | none => rfl
        | some x => rw [hxa] at this; simp only [Option.getD_some] at this; cases this; rfl
      · cases h

/-- What a row of operations comes to. -/
def OpsG (P : Program) (ops : Array Oper) (idx : List Nat) (nt : Nat) (T : Tmps) (H : Heap) (T' : Tmps) (H' : Heap) : Prop :=
  ∀ (E : Env) (a : Act) (w : World), St E nt T H a w → ∀ (Q : Exit → Act → World → Prop),
    (∀ E' a' w', St E' nt T' H' a' w' → Ext E E' → Fr E H w E' H' w' → Q .normal a' w') → wpOps P ops Q idx a w

theorem Ext.trans {E E1 E2 : Env} (h : Ext E E1) (k : Ext E1 E2) : Ext E E2 := fun id ent he => k _ _ (h _ _ he)

theorem opsK_sound (hC : CxOk P C) (hp : PrevOk P C prev) {nt : Nat} {ops : Array Oper} : ∀ (l : List Oper) (i : Nat) (T : Tmps) (H : Heap) (K : Tmps → Heap → Option R) (r : R), ops.toList.drop i = l →
    opsK C prev nt ops.toList l T H K = some r → ∃ T' H', K T' H' = some r ∧ OpsG P ops (List.range' i l.length) nt T H T' H'
  | [], i, T, H, K, r, hl, h => ⟨T, H, h, fun E a w hst Q hn => by
      simp only [List.length_nil, List.range'_zero, wpOps]
      exact hn E a w hst (Ext.refl E) (Fr.refl E H w)⟩
  | o :: l, i, T, H, K, r, hl, h => by
    have hio : ops[i]? = some o := by
      have := congrArg (fun l : List Oper => l[0]?) hl
      simpa [List.getElem?_drop] using this
    have hl' : ops.toList.drop (i + 1) = l := by
      have := congrArg List.tail hl
      simpa [List.tail_drop] using this
    rw [opsK] at h
    obtain ⟨T1, h⟩ := guardK_sound h
    rcases h with ⟨h, hg⟩ | ⟨h, hg⟩
    · obtain ⟨v, H1, h, hO⟩ := operK_sound hC hp h
      obtain ⟨T2, h, hT2⟩ := putT_sound h
      obtain ⟨T', H', hK, hG⟩ := opsK_sound hC hp l (i + 1) _ _ _ _ hl' h
      refine ⟨T', H', hK, fun E a w hst Q hn => ?_⟩
      rw [List.length_cons, List.range'_succ]
      unfold wpOps
      simp only [hio]
      obtain ⟨hT1, hw⟩ := hg E a hst.t
      rw [if_pos hw]
      refine .inl (hO E a w hT1 hst.h _ Q fun x E1 w1 k1 k2 k3 k4 => ?_)
      refine hG E1 _ w1 ⟨hT2 E1 a x hst.n (hT1.mono k3) k1, k2, by rw [put_defers]; exact hst.d, by rw [put_size]; exact hst.n⟩ Q fun E2 a2 w2 j1 j2 j3 => ?_
      exact hn E2 a2 w2 j1 (k3.trans j2) (k4.trans j3)
    · obtain ⟨T2, h, hT2⟩ := putT_sound h
      obtain ⟨T', H', hK, hG⟩ := opsK_sound hC hp l (i + 1) _ _ _ _ hl' h
      refine ⟨T', H', hK, fun E a w hst Q hn => ?_⟩
      rw [List.length_cons, List.range'_succ]
      unfold wpOps
      simp only [hio]
      obtain ⟨hT1, hw⟩ := hg E a hst.t
      rw [if_neg (by rw [hw]; simp)]
      exact hG E _ w ⟨hT2 E a undef hst.n hT1 .u, hst.h, by rw [put_defers]; exact hst.d, by rw [put_size]; exact hst.n⟩ Q hn

theorem normAt_sound {live : Option (List Nat)} {pin : Nat} {T : Tmps} {H : Heap} {K : Tmps → Heap → Option R} {r : R} (h : normAt live pin T H K = some r) :
    ∃ T' H', K T' H' = some r ∧ ∀ E nt a w, St E nt T H a w → ∃ E', St E' nt T' H' a w ∧ Fr E H w E' H' w ∧ ∀ i, i < pin → E' i = E i := by
  unfold normAt at h
  split at h
  · exact normK_sound h
  · exact ⟨T, H, h, fun E nt a w hst => ⟨E, hst, Fr.refl E H w, fun _ _ => rfl⟩⟩

end
end Go.Ab

/- Heaps grow at their head. Conditions: none. -/
namespace Go.Ab
set_option linter.unusedVariables false
set_option linter.unusedSimpArgs false
open Go

/-- A heap's table only grows at its head. -/
def Grows (H H' : Heap) : Prop := ∃ d, H'.bs = d ++ H.bs

section
variable {P : Program} {Ty : Types} {R : Type} {C : Cx R} {prev : Prev R}

theorem opK_congr {T : Tmps} {H : Heap} {op : Op} {K K' : AV → Heap → Option R} (hG : ∀ v H', Grows H H' → K v H' = K' v H') : opK Ty T H op K = opK Ty T H op K' := by
  have h1 : ∀ v, K v H = K' v H := fun v => hG v H ⟨[], rfl⟩
  have h2 : ∀ v b, K v (H.add b) = K' v (H.add b) := fun v b => hG v _ ⟨[_], rfl⟩
  have h3 : ∀ v n x, K v ⟨n, x :: H.bs⟩ = K' v ⟨n, x :: H.bs⟩ := fun v n x => hG v _ ⟨[x], rfl⟩
  have h4 : ∀ v n x l, K v ⟨n, x :: (l ++ H.bs)⟩ = K' v ⟨n, x :: (l ++ H.bs)⟩ := fun v n x l => hG v _ ⟨x :: l, rfl⟩
  cases op <;> (try rfl) <;> simp only [opK, allocK, loadK, storeK, indexAddrK, sliceK, makeSliceK, buildSliceK, rangeK, nextK, h1, h2, h3, h4]

theorem builtinK_congr {H : Heap} {b : Builtin} {ts : List Nat} {args : List AV} {K K' : AV → Heap → Option R} (hG : ∀ v H', Grows H H' → K v H' = K' v H') : builtinK Ty H b ts args K = builtinK Ty H b ts args K' := by
  have h1 : ∀ v, K v H = K' v H := fun v => hG v H ⟨[], rfl⟩
  have h2 : ∀ v b, K v (H.add b) = K' v (H.add b) := fun v b => hG v _ ⟨[_], rfl⟩
  have h4 : ∀ v n x l, K v ⟨n, x :: (l ++ H.bs)⟩ = K' v ⟨n, x :: (l ++ H.bs)⟩ := fun v n x l => hG v _ ⟨x :: l, rfl⟩
  simp only [builtinK, appendK, h1, h2, h4]

theorem operK_congr {T : Tmps} {H : Heap} {op : Op} {K K' : AV → Heap → Option R} (hG : ∀ v H', Grows H H' → K v H' = K' v H') : operK C prev T H op K = operK C prev T H op K' := by
  have h1 : ∀ v, K v H = K' v H := fun v => hG v H ⟨[], rfl⟩
  have h5 : ∀ v s H', K v (mergeH H s H') = K' v (mergeH H s H') := fun v s H' => hG v _ ⟨merged H s H' H'.next 0 ++ lost H s H.bs, by simp [mergeH]⟩
  have h6 : ∀ v s H' b, K v (cond b (mergeK H s H') (mergeH H s H')) = K' v (cond b (mergeK H s H') (mergeH H s H')) := fun v s H' b => by
    cases b
    · exact h5 v s H'
    · exact hG v _ ⟨merged H s H' (H'.next - s.length) s.length ++ lost H s H.bs, by simp [mergeK]⟩
  unfold operK
  split
  · exact builtinK_congr hG
  · simp only [callK, frameK, h1, h6]
  · rfl
  · exact opK_congr hG

open Classical in
theorem operK_grows (hC : CxOk P C) (hp : PrevOk P C prev) {T : Tmps} {H : Heap} {o : Oper} {K : AV → Heap → Option R} {r : R} (h : operK C prev T H o.op K = some r) :
    ∃ v H', K v H' = some r ∧ OpG P T H o v H' ∧ Grows H H' := by
  have hc : operK C prev T H o.op K = operK C prev T H o.op (fun v H' => if Grows H H' then K v H' else none) := operK_congr fun v H' hg => by rw [if_pos hg]
  rw [hc] at h
  obtain ⟨v, H', hK, hO⟩ := operK_sound hC hp h
  by_cases hg : Grows H H'
  · rw [if_pos hg] at hK; exact ⟨v, H', hK, hO, hg⟩
  · rw [if_neg hg] at hK; cases hK

end
end Go.Ab

/- Regions whose order is open. Conditions: none. -/
namespace Go.Ab
set_option linter.unusedVariables false
set_option linter.unusedSimpArgs false
open Go

section
variable {P : Program} {R : Type} {C : Cx R} {prev : Prev R}

/-! ### Effects of those that are listed -/

def effTP : List Eff → Nat → (Nat → Bool) → Tmps → Tmps
  | [], _, _, T => T
  | e :: r, i, p, T => effTP r (i + 1) p (match p i, e.dst with | true, some d => (d, e.v) :: T | _, _ => T)

def effHP : List Eff → Nat → (Nat → Bool) → List (Nat × Option HB) → List (Nat × Option HB)
  | [], _, _, H => H
  | e :: r, i, p, H => effHP r (i + 1) p (match p i with | true => e.dl ++ H | false => H)

theorem effT_eq : ∀ (effs : List Eff) (i : Nat) (ps : List Nat) (T : Tmps), effT effs i ps T = effTP effs i (has ps) T
  | [], _, _, _ => rfl
  | e :: r, i, ps, T => by rw [effT, effTP, effT_eq]; rfl

theorem effH_eq : ∀ (effs : List Eff) (i : Nat) (ps : List Nat) (H : List (Nat × Option HB)), effH effs i ps H = effHP effs i (has ps) H
  | [], _, _, _ => rfl
  | e :: r, i, ps, T => by rw [effH, effHP, effH_eq]; rfl

theorem effTP_same {t : Nat} {p q : Nat → Bool} : ∀ (effs : List Eff) (k : Nat) (T T' : Tmps), (∀ i e, effs[i]? = some e → e.dst = some t → p (k + i) = q (k + i)) → tget T t = tget T' t →
    tget (effTP effs k p T) t = tget (effTP effs k q T') t
  | [], k, T, T', _, h => h
  | e :: r, k, T, T', hp, h => by
    rw [effTP, effTP]
    refine effTP_same r (k + 1) _ _ (fun i e' he hd => ?_) ?_
    · have := hp (i + 1) e' (by simpa using he) hd
      rw [show k + 1 + i = k + (i + 1) by omega]; exact this
    · have h0 := hp 0 e rfl
      rw [Nat.add_zero] at h0
      cases hd : e.dst with
      | none => cases p k <;> cases q k <;> exact h
      | some d =>
        by_cases hdt : d = t
        · subst hdt
          rw [h0 hd]
          cases q k
          · exact h
          · simp [tget_cons]
        · cases p k <;> cases q k <;> simp [tget_cons, hdt, h]

theorem effTP_none {t : Nat} {p : Nat → Bool} : ∀ (effs : List Eff) (k : Nat) (T : Tmps), (∀ (i : Nat) (e : Eff), effs[i]? = some e → e.dst ≠ some t) → tget (effTP effs k p T) t = tget T t
  | [], k, T, _ => rfl
  | e :: r, k, T, hp => by
    rw [effTP, effTP_none r (k + 1) _ (fun i e' he => hp (i + 1) e' (by simpa using he))]
    have h0 := hp 0 e rfl
    cases hd : e.dst with
    | none => cases p k <;> rfl
    | some d =>
      have : d ≠ t := fun hh => h0 (by rw [hd, hh])
      cases p k <;> simp [tget_cons, this]

theorem effTP_at {t : Nat} {p : Nat → Bool} : ∀ (effs : List Eff) (k : Nat) (T : Tmps) (i : Nat) (e : Eff), effs[i]? = some e → p (k + i) = true → e.dst = some t →
    (∀ (j : Nat) (e' : Eff), j ≠ i → effs[j]? = some e' → e'.dst ≠ some t) → tget (effTP effs k p T) t = e.v
  | [], k, T, i, e, he, _, _, _ => by simp at he
  | e0 :: r, k, T, 0, e, he, hp, hd, hu => by
    simp at he; subst he
    rw [effTP, effTP_none r (k + 1) _ (fun i e' he => hu (i + 1) e' (by omega) (by simpa using he))]
    rw [Nat.add_zero] at hp
    rw [hp, hd]; simp [tget_cons]
  | e0 :: r, k, T, i + 1, e, he, hp, hd, hu => by
    rw [effTP]
    exact effTP_at r (k + 1) _ i e (by simpa using he) (by rw [show k + 1 + i = k + (i + 1) by omega]; exact hp) hd fun j e' hj he' => hu (j + 1) e' (by omega) (by simpa using he')

theorem effTP_false {p : Nat → Bool} : ∀ (effs : List Eff) (k : Nat) (T : Tmps), (∀ i, i < effs.length → p (k + i) = false) → effTP effs k p T = T
  | [], _, _, _ => rfl
  | e :: r, k, T, h => by
    have h0 := h 0 (by simp)
    rw [Nat.add_zero] at h0
    rw [effTP, h0]
    exact effTP_false r (k + 1) T fun i hi => by have := h (i + 1) (by simpa using hi); rw [show k + 1 + i = k + (i + 1) by omega]; exact this

theorem effHP_false {p : Nat → Bool} : ∀ (effs : List Eff) (k : Nat) (T : List (Nat × Option HB)), (∀ i, i < effs.length → p (k + i) = false) → effHP effs k p T = T
  | [], _, _, _ => rfl
  | e :: r, k, T, h => by
    have h0 := h 0 (by simp)
    rw [Nat.add_zero] at h0
    rw [effHP, h0]
    exact effHP_false r (k + 1) T fun i hi => by have := h (i + 1) (by simpa using hi); rw [show k + 1 + i = k + (i + 1) by omega]; exact this

theorem effTP_append {p : Nat → Bool} : ∀ (a b : List Eff) (k : Nat) (T : Tmps), effTP (a ++ b) k p T = effTP b (k + a.length) p (effTP a k p T)
  | [], b, k, T => by simp [effTP]
  | e :: a, b, k, T => by
    rw [List.cons_append, effTP, effTP, effTP_append a b (k + 1)]
    rw [show k + 1 + a.length = k + (e :: a).length by simp; omega]

theorem effHP_append {p : Nat → Bool} : ∀ (a b : List Eff) (k : Nat) (T : List (Nat × Option HB)), effHP (a ++ b) k p T = effHP b (k + a.length) p (effHP a k p T)
  | [], b, k, T => by simp [effHP]
  | e :: a, b, k, T => by
    rw [List.cons_append, effHP, effHP, effHP_append a b (k + 1)]
    rw [show k + 1 + a.length = k + (e :: a).length by simp; omega]

theorem effTP_congr {p q : Nat → Bool} : ∀ (effs : List Eff) (k : Nat) (T : Tmps), (∀ i, i < effs.length → p (k + i) = q (k + i)) → effTP effs k p T = effTP effs k q T
  | [], _, _, _ => rfl
  | e :: r, k, T, h => by
    have h0 := h 0 (by simp)
    rw [Nat.add_zero] at h0
    rw [effTP, effTP, h0]
    exact effTP_congr r (k + 1) _ fun i hi => by have := h (i + 1) (by simpa using hi); rw [show k + 1 + i = k + (i + 1) by omega]; exact this

theorem effHP_congr {p q : Nat → Bool} : ∀ (effs : List Eff) (k : Nat) (T : List (Nat × Option HB)), (∀ i, i < effs.length → p (k + i) = q (k + i)) → effHP effs k p T = effHP effs k q T
  | [], _, _, _ => rfl
  | e :: r, k, T, h => by
    have h0 := h 0 (by simp)
    rw [Nat.add_zero] at h0
    rw [effHP, effHP, h0]
    exact effHP_congr r (k + 1) _ fun i hi => by have := h (i + 1) (by simpa using hi); rw [show k + 1 + i = k + (i + 1) by omega]; exact this

theorem effHP_same {id : Nat} {p q : Nat → Bool} : ∀ (effs : List Eff) (k : Nat) (T T' : List (Nat × Option HB)), (∀ i e, effs[i]? = some e → (e.dl.any fun x => x.1 == id) = true → p (k + i) = q (k + i)) → look T id = look T' id →
    look (effHP effs k p T) id = look (effHP effs k q T') id
  | [], k, T, T', _, h => h
  | e :: r, k, T, T', hp, h => by
    rw [effHP, effHP]
    refine effHP_same r (k + 1) _ _ (fun i e' he hd => ?_) ?_
    · have := hp (i + 1) e' (by simpa using he) hd
      rw [show k + 1 + i = k + (i + 1) by omega]; exact this
    · have h0 := hp 0 e rfl
      rw [Nat.add_zero] at h0
      by_cases hd : (e.dl.any fun x => x.1 == id) = true
      · rw [h0 hd]
        cases q k
        · exact h
        · simp only [look_append, hd, if_true]
      · cases p k <;> cases q k <;> simp only [look_append, if_neg hd] <;> exact h

theorem effHP_at {id : Nat} {p : Nat → Bool} : ∀ (effs : List Eff) (k : Nat) (T : List (Nat × Option HB)) (j : Nat) (e : Eff), effs[j]? = some e → p (k + j) = true → (e.dl.any fun x => x.1 == id) = true →
    (∀ i e', j < i → effs[i]? = some e' → p (k + i) = true → (e'.dl.any fun x => x.1 == id) = false) → look (effHP effs k p T) id = look e.dl id
  | [], k, T, j, e, he, _, _, _ => by simp at he
  | e0 :: r, k, T, 0, e, he, hp, hd, hu => by
    simp at he; subst he
    rw [Nat.add_zero] at hp
    rw [effHP, hp]
    have := effHP_same (id := id) (p := p) (q := fun _ => false) r (k + 1) (e0.dl ++ T) (e0.dl ++ T) (fun i e' he hd' => by
      cases hpi : p (k + 1 + i) with
      | false => rfl
      | true =>
        have := hu (i + 1) e' (by omega) (by simpa using he) (by rw [show k + (i + 1) = k + 1 + i by omega]; exact hpi)
        rw [this] at hd'; cases hd') rfl
    simp only
    rw [this, effHP_false _ _ _ (fun _ _ => rfl), look_append, if_pos hd]
  | e0 :: r, k, T, j + 1, e, he, hp, hd, hu => by
    rw [effHP]
    exact effHP_at r (k + 1) _ j e (by simpa using he) (by rw [show k + 1 + j = k + (j + 1) by omega]; exact hp) hd fun i e' hj he' hp' => hu (i + 1) e' (by omega) (by simpa using he') (by rw [show k + (i + 1) = k + 1 + i by omega]; exact hp')

theorem effHP_from {id : Nat} {g : HB} {p q : Nat → Bool} {Z : Prop} (hle : ∀ i, q i = true → p i = true) : ∀ (effs : List Eff) (k : Nat) (T T' : List (Nat × Option HB)),
    (∀ i e, effs[i]? = some e → p (k + i) = true → q (k + i) = false → (id, some g) ∈ e.dl → Z) → (look T id = some g → Z ∨ look T' id = some g) →
    look (effHP effs k p T) id = some g → Z ∨ look (effHP effs k q T') id = some g
  | [], k, T, T', _, h, hl => h hl
  | e :: r, k, T, T', hz, h, hl => by
    rw [effHP] at hl ⊢
    refine effHP_from hle r (k + 1) _ _ (fun i e' he hp hq hm => hz (i + 1) e' (by simpa using he) (by rw [show k + (i + 1) = k + 1 + i by omega]; exact hp) (by rw [show k + (i + 1) = k + 1 + i by omega]; exact hq) hm) ?_ hl
    intro hl
    cases hp : p k with
    | false =>
      have hq : q k = false := by
        cases hq : q k
        · rfl
        · rw [hle k hq] at hp; cases hp
      rw [hp] at hl; rw [hq]
      exact h hl
    | true =>
      rw [hp] at hl
      simp only at hl
      rw [look_append] at hl
      cases hq : q k with
      | true =>
        simp only
        rw [look_append]
        by_cases hd : (e.dl.any fun x => x.1 == id) = true
        · rw [if_pos hd] at hl ⊢; exact .inr hl
        · rw [if_neg hd] at hl ⊢; exact h hl
      | false =>
        by_cases hd : (e.dl.any fun x => x.1 == id) = true
        · rw [if_pos hd] at hl
          exact .inl (hz 0 e rfl (by simpa using hp) (by simpa using hq) (mem_of_look hl))
        · rw [if_neg hd] at hl; exact h hl

theorem look_pickH {bs : List (Nat × Option HB)} {id : Nat} : ∀ l : List Nat, look (pickH bs l) id = if id ∈ l then look bs id else none
  | [] => by simp [pickH, look]
  | x :: l => by
    rw [pickH, look_cons, look_pickH l]
    by_cases h : x = id
    · subst h; simp
    · simp [h, Ne.symm h]

theorem tget_pickT {T : Tmps} {t : Nat} : ∀ l : List Nat, tget (pickT T l) t = if t ∈ l then tget T t else .junk
  | [] => by simp [pickT, tget]
  | x :: l => by
    rw [pickT, tget_cons, tget_pickT l]
    by_cases h : x = t
    · subst h; simp
    · simp [h, Ne.symm h]

theorem any_has {dl : List (Nat × Option HB)} {id : Nat} : (dl.any fun x => x.1 == id) = has (dl.map (·.1)) id := by
  induction dl with
  | nil => rfl
  | cons x l ih =>
    simp only [List.any_cons, List.map_cons, has, ih]
    by_cases h : x.1 = id
    · simp [h]
    · have : Nat.beq x.1 id = false := beq_ne h
      rw [this]
      simp [h]

/-! ### What is known of each -/

def Wants (effs : List Eff) (o : Oper) (b : Bool) : Prop :=
  match o.guard with
  | none => b = true
  | some (g, want) => ∃ e, effs[g]? = some e ∧ ((e.dst = none ∧ b = false) ∨ (∃ d, e.dst = some d ∧ ((∃ x, e.v = .b x ∧ b = (x == want)) ∨ (e.v = .u ∧ b = false))))

def GoOk (P : Program) (ops : List Oper) (tab : List (List Nat)) (nt : Nat) (T0 : Tmps) (H0 : Heap) (effs : List Eff) (i : Nat) (o : Oper) (e : Eff) : Prop :=
  Wants effs o true ∧ (∀ d, o.dst = some d → d < nt) ∧
    famClosed (effHP effs 0 (has (getL tab i)) H0.bs) e.needs e.fams = true ∧ e.fams = famsOf (effHP effs 0 (has (getL tab i)) H0.bs) e.needs ∧
    below e.own (pickT (effTP effs 0 (has (getL tab i)) T0) (looksAt ops o)) (pickH (effHP effs 0 (has (getL tab i)) H0.bs) e.needs) = true ∧
    ∃ H', OpG P (pickT (effTP effs 0 (has (getL tab i)) T0) (looksAt ops o)) ⟨e.own, pickH (effHP effs 0 (has (getL tab i)) H0.bs) e.needs⟩ o e.v H' ∧
      H'.bs = e.dl ++ pickH (effHP effs 0 (has (getL tab i)) H0.bs) e.needs ∧ H'.next = e.nxt

def EffOk (P : Program) (ops : List Oper) (tab : List (List Nat)) (nt : Nat) (T0 : Tmps) (H0 : Heap) (effs : List Eff) (i : Nat) : Prop :=
  ∃ o e, ops[i]? = some o ∧ effs[i]? = some e ∧ e.dst = o.dst ∧ ((Wants effs o false ∧ e.v = .u ∧ e.dl = []) ∨ GoOk P ops tab nt T0 H0 effs i o e)

theorem Wants.more {effs more : List Eff} {o : Oper} {b : Bool} (h : Wants effs o b) : Wants (effs ++ more) o b := by
  unfold Wants at *
  split
  · rename_i hg; rw [hg] at h; exact h
  · rename_i g want hg
    rw [hg] at h
    obtain ⟨e, he, hr⟩ := h
    exact ⟨e, by rw [List.getElem?_append_left (List.getElem?_eq_some_iff.1 he).1]; exact he, hr⟩

theorem EffOk.more {ops : List Oper} {tab : List (List Nat)} {nt : Nat} {T0 : Tmps} {H0 : Heap} {effs more : List Eff} {i : Nat} (htab : ∀ x, has (getL tab i) x = true → x < i) (hi : i < effs.length)
    (h : EffOk P ops tab nt T0 H0 effs i) : EffOk P ops tab nt T0 H0 (effs ++ more) i := by
  obtain ⟨o, e, ho, he, hd, h⟩ := h
  have hz : ∀ j, j < more.length → has (getL tab i) (0 + effs.length + j) = false := by
    intro j _
    cases hh : has (getL tab i) (0 + effs.length + j) with
    | false => rfl
    | true => have := htab _ hh; omega
  refine ⟨o, e, ho, by rw [List.getElem?_append_left hi]; exact he, hd, ?_⟩
  rcases h with ⟨h1, h2⟩ | ⟨h1, h2⟩
  · exact .inl ⟨h1.more, h2⟩
  · refine .inr ⟨h1.more, ?_⟩
    rw [effTP_append, effHP_append, effTP_false more _ _ hz, effHP_false more _ _ hz]
    exact h2

theorem set_same {effs : List Eff} {g : Nat} {e : Eff} (h : effs[g]? = some e) : effs.set g e = effs := by
  apply List.ext_getElem?
  intro i
  rw [List.getElem?_set]
  by_cases hi : g = i
  · subst hi; rw [if_pos rfl, h]
    have := (List.getElem?_eq_some_iff.1 h).1
    simp [this]
  · rw [if_neg hi]

theorem drawL (hC : CxOk P C) (hp : PrevOk P C prev) {nt : Nat} {ops : List Oper} {tab : List (List Nat)} {T0 : Tmps} {H0 : Heap} {K : Tmps → Heap → Option R} {r : R} (htab : ∀ i x, i < ops.length → has (getL tab i) x = true → x < i) :
    ∀ (l : List Oper) (j N : Nat) (effs : List Eff), effs.length = j → ops.drop j = l → (∀ i, i < j → EffOk P ops tab nt T0 H0 effs i) → drawK C prev nt ops tab T0 H0 l j N effs K = some r →
      ∃ effs' N', effs'.length = ops.length ∧ (∀ i, i < ops.length → EffOk P ops tab nt T0 H0 effs' i) ∧ clashFree effs' tab = true ∧ asc H0.next effs' N' = true ∧
        K (effTP effs' 0 (has (List.range effs'.length)) T0) ⟨N', effHP effs' 0 (has (List.range effs'.length)) H0.bs⟩ = some r
  | [], j, N, effs, hl, hd, hok, h => by
    rw [drawK] at h
    obtain ⟨hc, h⟩ := cond_some h
    rw [Bool.and_eq_true] at hc
    rw [effT_eq, effH_eq] at h
    have hle : ops.length ≤ j := List.drop_eq_nil_iff.1 hd
    by_cases hlt : j = ops.length
    · exact ⟨effs, N, by omega, fun i hi => hok i (by omega), hc.1, hc.2, h⟩
    · obtain ⟨o, e, ho, _⟩ := hok ops.length (by omega)
      simp at ho
  | o :: l, j, N, effs, hl, hd, hok, h => by
    have hoj : ops[j]? = some o := by
      have := congrArg (fun l : List Oper => l[0]?) hd
      simpa [List.getElem?_drop] using this
    have hjl : j < ops.length := (List.getElem?_eq_some_iff.1 hoj).1
    have hd' : ops.drop (j + 1) = l := by
      have := congrArg List.tail hd
      simpa [List.tail_drop] using this
    have hold : ∀ e0 : Eff, EffOk P ops tab nt T0 H0 (effs ++ [e0]) j → ∀ i, i < j + 1 → EffOk P ops tab nt T0 H0 (effs ++ [e0]) i := by
      intro e0 hj i hi
      by_cases hij : i = j
      · subst hij; exact hj
      · exact (hok i (by omega)).more (fun x hx => htab i x (by omega) hx) (by omega)
    have hlast : ∀ e0 : Eff, (effs ++ [e0])[j]? = some e0 := fun e0 => by rw [← hl]; simp
    have skip : Wants effs o false → drawK C prev nt ops tab T0 H0 l (j + 1) N (effs ++ [⟨o.dst, .u, [], N, N, [], []⟩]) K = some r →
        ∃ effs' N', effs'.length = ops.length ∧ (∀ i, i < ops.length → EffOk P ops tab nt T0 H0 effs' i) ∧ clashFree effs' tab = true ∧ asc H0.next effs' N' = true ∧
          K (effTP effs' 0 (has (List.range effs'.length)) T0) ⟨N', effHP effs' 0 (has (List.range effs'.length)) H0.bs⟩ = some r := by
      intro hw h
      refine drawL hC hp htab l (j + 1) N _ (by simp [hl]) hd' (hold _ ?_) h
      exact ⟨o, _, hoj, hlast _, rfl, .inl ⟨hw.more, rfl, rfl⟩⟩
    have go : Wants effs o true → ((fun (T : Tmps) (bs : List (Nat × Option HB)) => (fun (needs : List Nat) => (fun (fams : List Nat) (Hr : Heap) =>
          cond (famClosed bs needs fams && below N T Hr.bs)
          (operK C prev T Hr o.op fun v H' => cond (match o.dst with | some d => Nat.blt d nt | none => true)
            (drawK C prev nt ops tab T0 H0 l (j + 1) H'.next (effs ++ [⟨o.dst, v, H'.bs.take (H'.bs.length - Hr.bs.length), N, H'.next, needs, fams⟩]) K) none) none)
          (famsOf bs needs) ⟨N, pickH bs needs⟩)
          ((fun base => base ++ withFam bs (famsOf bs base) bs) (needsOf T ⟨N, bs⟩ o.op)))
      (pickT (effT effs 0 (getL tab j) T0) (looksAt ops o)) (effH effs 0 (getL tab j) H0.bs)) = some r →
        ∃ effs' N', effs'.length = ops.length ∧ (∀ i, i < ops.length → EffOk P ops tab nt T0 H0 effs' i) ∧ clashFree effs' tab = true ∧ asc H0.next effs' N' = true ∧
          K (effTP effs' 0 (has (List.range effs'.length)) T0) ⟨N', effHP effs' 0 (has (List.range effs'.length)) H0.bs⟩ = some r := by
      intro hw h
      simp only at h
      rw [effT_eq, effH_eq] at h
      generalize hbs : effHP effs 0 (has (getL tab j)) H0.bs = bs at h
      generalize hT : pickT (effTP effs 0 (has (getL tab j)) T0) (looksAt ops o) = T at h
      generalize (needsOf T ⟨N, bs⟩ o.op ++ withFam bs (famsOf bs (needsOf T ⟨N, bs⟩ o.op)) bs) = needs at h
      obtain ⟨hc, h⟩ := cond_some h
      rw [Bool.and_eq_true] at hc
      obtain ⟨v, H', h, hO, d, hgr⟩ := operK_grows hC hp h
      obtain ⟨hdst, h⟩ := cond_some h
      have hdl : H'.bs.take (H'.bs.length - (pickH bs needs).length) = d := by
        rw [hgr]; simp
      rw [hdl] at h
      refine drawL hC hp htab l (j + 1) _ _ (by simp [hl]) hd' (hold _ ?_) h
      have hz : ∀ (e0 : Eff) k, k < [e0].length → has (getL tab j) (0 + effs.length + k) = false := by
        intro e0 k _
        cases hh : has (getL tab j) (0 + effs.length + k) with
        | false => rfl
        | true => have := htab _ _ hjl hh; omega
      refine ⟨o, _, hoj, hlast _, rfl, .inr ⟨hw.more, fun d' hd' => ?_, ?_⟩⟩
      · rw [hd'] at hdst; simpa using hdst
      · rw [effTP_append, effHP_append, effTP_false _ _ _ (hz _), effHP_false _ _ _ (hz _), hbs, hT]
        exact ⟨hc.1, rfl, hc.2, H', hO, hgr, rfl⟩
    rw [drawK] at h
    cases hg : o.guard with
    | none => rw [hg] at h; exact go (by unfold Wants; rw [hg]) h
    | some gw =>
      obtain ⟨g, want⟩ := gw
      rw [hg] at h
      dsimp only at h
      cases he : effs[g]? with
      | none => rw [he] at h; exact nomatch (show (none : Option R) = some r from h)
      | some e =>
        rw [he] at h
        dsimp only at h
        cases hde : e.dst with
        | none =>
          rw [hde] at h
          exact skip (by unfold Wants; rw [hg]; exact ⟨e, he, .inl ⟨hde, rfl⟩⟩) h
        | some d =>
          rw [hde] at h
          dsimp only at h
          have hw : ∀ x, e.v = .b x → Wants effs o (x == want) := fun x hx => by unfold Wants; rw [hg]; exact ⟨e, he, .inr ⟨d, hde, .inl ⟨x, hx, rfl⟩⟩⟩
          cases hx : e.v with
          | b x =>
            rw [hx] at h
            have hset : effs.set g ⟨some d, .b x, e.dl, e.own, e.nxt, e.needs, e.fams⟩ = effs := by
              apply set_same
              rw [he, ← hde, ← hx]
            cases x <;> cases want <;> (simp only [cond_true, cond_false] at h; rw [hset] at h)
            · exact go (hw _ hx) h
            · exact skip (hw _ hx) h
            · exact skip (hw _ hx) h
            · exact go (hw _ hx) h
          | u =>
            rw [hx] at h
            exact skip (by unfold Wants; rw [hg]; exact ⟨e, he, .inr ⟨d, hde, .inr ⟨hx, rfl⟩⟩⟩) h
          | _ => rw [hx] at h; exact nomatch (show (none : Option R) = some r from h)

end
end Go.Ab

/- Regions whose order is open: any order comes to the same. Conditions: none. -/
namespace Go.Ab
set_option linter.unusedVariables false
set_option linter.unusedSimpArgs false
open Go

/-! ### Names that play a part -/

def Useful (ent : Ent) : Prop := ent.r ≠ none ∨ ent.n = 0

mutual
theorem VRel.on {E E' : Env} : ∀ {v : AV} {x : Value}, VRel E v x → (∀ id ∈ v.ids, ∀ ent, E id = some ent → Useful ent → E' id = some ent) → VRel E' v x
  | _, _, .b x, _ => .b x
  | _, _, .i k x, _ => .i k x
  | _, _, .s x, _ => .s x
  | _, _, .np, _ => .np
  | _, _, .nsl, _ => .nsl
  | _, _, .nf, _ => .nf
  | _, _, .ni, _ => .ni
  | _, _, .nm, _ => .nm
  | _, _, .u, _ => .u
  | _, _, .junk v, _ => .junk v
  | _, _, .ptr h hr, hf => .ptr (hf _ (by simp [AV.ids]) _ h (.inl (by rw [hr]; simp))) hr
  | _, _, .sw h hr hn hc, hf => .sw (hf _ (by simp [AV.ids]) _ h (.inl (by rw [hr]; simp))) hr hn hc
  | _, _, .sw0 h hn, hf => .sw0 (hf _ (by simp [AV.ids]) _ h (.inr hn)) hn
  | _, _, .sl h hr hn, hf => .sl (hf _ (by simp [AV.ids]) _ h (.inl (by rw [hr]; simp))) hr hn
  | _, _, .sl0 hn, hf => .sl0 hn
  | _, _, .agg h, hf => .agg (VRelL.on h (by simpa [AV.ids] using hf))
  | _, _, .mix (pre := pre) (sh := sh) (xs := xs) (post := post) h hn, hf => by
    refine .mix ?_ hn
    refine VRelL.on h ?_
    intro id hid
    rw [idsL_append, idsL_append] at hid
    refine hf id ?_
    simp only [AV.ids]
    simp only [List.mem_append] at hid ⊢
    rcases hid with (hid | hid) | hid
    · exact .inl hid
    · exfalso
      have : ∀ ys : List (Tup sh), AV.idsL (flatRow sh ys) = [] := by
        intro ys
        induction ys with
        | nil => rfl
        | cons y ys ih => unfold flatRow at *; rw [List.flatMap_cons, idsL_append, Tup.all_ids, ih]; rfl
      rw [this] at hid; cases hid
    · exact .inr hid
  | _, _, .tup h, hf => .tup (VRelL.on h (by simpa [AV.ids] using hf))
  | _, _, .fn h, hf => .fn (VRelL.on h (by simpa [AV.ids] using hf))
theorem VRelL.on {E E' : Env} : ∀ {v : List AV} {x : List Value}, VRelL E v x → (∀ id ∈ AV.idsL v, ∀ ent, E id = some ent → Useful ent → E' id = some ent) → VRelL E' v x
  | _, _, .nil, _ => .nil
  | _, _, .cons h t, hf => .cons (VRel.on h (fun id hid => hf id (by simp [AV.idsL, hid]))) (VRelL.on t (fun id hid => hf id (by simp [AV.idsL, hid])))
end

theorem BRel.useful {E : Env} {ent : Ent} {hb : HB} {w : World} (h : BRel E ent hb w) : Useful ent := by
  cases hr : ent.r with
  | some r => exact .inl (by simp [hr])
  | none =>
    refine .inr ?_
    have hv := h.void hr
    have hf := h.fits
    generalize hb.blk = b at hv hf
    cases b with
    | row sh xs =>
      cases xs with
      | nil => exact hf.1
      | cons x xs => exact hv.elim
    | cells cs => exact hv.elim
    | mix pre sh n xs post => exact hv.elim
    | map kvs => exact hv.elim
    | siter s p => exact hv.elim

theorem BRel.on {E E' : Env} {ent : Ent} {hb : HB} {w w' : World} (h : BRel E ent hb w) (hw : ∀ r, ent.r = some r → w'.heap[r]? = w.heap[r]?)
    (hf : ∀ id ∈ hb.blk.ids, ∀ ent, E id = some ent → Useful ent → E' id = some ent) : BRel E' ent hb w' :=
  ⟨h.cells, h.fits, h.void, fun r hr => (h.lies r hr).same (hw r hr) rfl ⟨rfl, fun _ _ h => h⟩ fun j v x hj hv => (hv v hj).on fun id hid => hf id (by rw [← flat_ids h.cells]; exact ids_mem hj hid)⟩

theorem asc_spec : ∀ (effs : List Eff) (n N : Nat), asc n effs N = true → (∀ (i : Nat) (e : Eff), effs[i]? = some e → n ≤ e.own ∧ e.own ≤ e.nxt ∧ e.nxt ≤ N) ∧ (∀ (i j : Nat) (e e' : Eff), i < j → effs[i]? = some e → effs[j]? = some e' → e.nxt ≤ e'.own) ∧ n ≤ N
  | [], n, N, h => ⟨by simp, by simp, by simpa [asc] using h⟩
  | e :: r, n, N, h => by
    simp only [asc, Bool.and_eq_true] at h
    obtain ⟨⟨h1, h2⟩, h3⟩ := h
    have h1 : n ≤ e.own := by simpa using h1
    have h2 : e.own ≤ e.nxt := by simpa using h2
    obtain ⟨k1, k2, k3⟩ := asc_spec r e.nxt N h3
    refine ⟨fun i e' he => ?_, fun i j e1 e2 hij h1' h2' => ?_, by omega⟩
    · cases i with
      | zero => simp at he; subst he; exact ⟨h1, h2, k3⟩
      | succ i => obtain ⟨a, b, c⟩ := k1 i e' (by simpa using he); exact ⟨by omega, b, c⟩
    · cases j with
      | zero => omega
      | succ j =>
        cases i with
        | zero => simp at h1'; subst h1'; exact (k1 j e2 (by simpa using h2')).1
        | succ i => exact k2 i j e1 e2 (by omega) (by simpa using h1') (by simpa using h2')

theorem noneOf_spec {l m : List Nat} (h : noneOf l m = true) {x : Nat} (hx : x ∈ l) : has m x = false := by
  have := List.all_eq_true.1 h x hx
  simpa using this

theorem dlFams_mem {id : Nat} {g : HB} : ∀ {dl : List (Nat × Option HB)}, (id, some g) ∈ dl → g.fam ∈ dlFams dl
  | (i, some g') :: r, h => by
    rw [dlFams]
    rcases List.mem_cons.1 h with h | h
    · cases h; exact List.mem_cons_self
    · exact List.mem_cons_of_mem _ (dlFams_mem h)
  | (i, none) :: r, h => by
    rw [dlFams]
    rcases List.mem_cons.1 h with h | h
    · cases h
    · exact dlFams_mem h

theorem famsOf_mem {bs : List (Nat × Option HB)} {id : Nat} {g : HB} (hg : look bs id = some g) : ∀ {l : List Nat}, id ∈ l → g.fam ∈ famsOf bs l
  | x :: r, h => by
    rw [famsOf]
    by_cases hx : x = id
    · subst hx; rw [hg]; exact List.mem_cons_self
    · have hr : id ∈ r := by
        rcases List.mem_cons.1 h with h | h
        · exact absurd h.symm hx
        · exact h
      cases look bs x with
      | none => exact famsOf_mem hg hr
      | some g' => exact List.mem_cons_of_mem _ (famsOf_mem hg hr)

theorem famClosed_spec {bs : List (Nat × Option HB)} {needs fams : List Nat} (h : famClosed bs needs fams = true) {id : Nat} {g : HB} (hg : look bs id = some g) (hf : g.fam ∈ fams) : id ∈ needs := by
  have := List.all_eq_true.1 h _ (mem_of_look hg)
  simp only [hg] at this
  rw [has_iff.2 hf] at this
  exact has_iff.1 (by simpa using this)

theorem pickT_mem {T : Tmps} : ∀ {l : List Nat} {t : Nat}, t ∈ l → (t, tget T t) ∈ pickT T l
  | x :: l, t, h => by
    rw [pickT]
    rcases List.mem_cons.1 h with h | h
    · subst h; exact List.mem_cons_self
    · exact List.mem_cons_of_mem _ (pickT_mem h)

theorem pickH_mem {bs : List (Nat × Option HB)} : ∀ {l : List Nat} {t : Nat}, t ∈ l → (t, look bs t) ∈ pickH bs l
  | x :: l, t, h => by
    rw [pickH]
    rcases List.mem_cons.1 h with h | h
    · subst h; exact List.mem_cons_self
    · exact List.mem_cons_of_mem _ (pickH_mem h)

theorem below_t {N : Nat} {T : Tmps} {bs : List (Nat × Option HB)} (h : below N T bs = true) {t : Nat} {v : AV} (hv : (t, v) ∈ T) : ∀ i ∈ v.ids, i < N := by
  unfold below at h
  rw [Bool.and_eq_true] at h
  intro i hi
  have := List.all_eq_true.1 (List.all_eq_true.1 h.1 _ hv) i hi
  simpa using this

theorem below_h {N : Nat} {T : Tmps} {bs : List (Nat × Option HB)} (h : below N T bs = true) {t : Nat} {v : Option HB} (hv : (t, v) ∈ bs) : t < N ∧ ∀ g, v = some g → ∀ i ∈ g.blk.ids, i < N := by
  unfold below at h
  rw [Bool.and_eq_true] at h
  have := List.all_eq_true.1 h.2 _ hv
  rw [Bool.and_eq_true] at this
  refine ⟨by simpa using this.1, fun g hg i hi => ?_⟩
  subst hg
  have := List.all_eq_true.1 this.2 i hi
  simpa using this

/-! ### What stands while some are listed -/

def dummy : Ent := ⟨none, 0, 0, 1, 0⟩

theorem dummy_not : ¬ Useful dummy := by
  rintro (h | h)
  · exact h rfl
  · cases h

def pad (E : Env) (N : Nat) : Env := fun id => if id < N then some ((E id).getD dummy) else none

theorem pad_some {E : Env} {N id : Nat} {ent : Ent} (h : E id = some ent) (hi : id < N) : pad E N id = some ent := by simp [pad, h, hi]

theorem pad_useful {E : Env} {N id : Nat} {ent : Ent} (h : pad E N id = some ent) (hu : Useful ent) : E id = some ent := by
  unfold pad at h
  split at h
  · cases he : E id with
    | none => rw [he] at h; simp at h; subst h; exact absurd hu dummy_not
    | some e => rw [he] at h; simp at h; subst h; rfl
  · cases h

structure Inv (H0 : Heap) (E0 : Env) (w0 : World) (T0 : Tmps) (nt : Nat) (effs : List Eff) (p : Nat → Bool) (E : Env) (a : Act) (w : World) : Prop where
  t : TRel E (effTP effs 0 p T0) a
  live : ∀ id hb, look (effHP effs 0 p H0.bs) id = some hb → ∃ ent, E id = some ent ∧ BRel E ent hb w
  fam : ∀ i j hi hj ei ej r, look (effHP effs 0 p H0.bs) i = some hi → look (effHP effs 0 p H0.bs) j = some hj → E i = some ei → E j = some ej → ei.r = some r → ej.r = some r → hi.fam = hj.fam
  dom : ∀ id ent, E id = some ent → id < H0.next ∨ ∃ i e, effs[i]? = some e ∧ p i = true ∧ e.own ≤ id ∧ id < e.nxt
  ext : Ext E0 E
  fr : Fr E0 H0 w0 E ⟨0, effHP effs 0 p H0.bs⟩ w
  d : a.defers = []
  n : a.tmps.size = nt

section
variable {P : Program} {R : Type} {C : Cx R} {prev : Prev R}

/-- What is checked of the row. -/
structure Row (P : Program) (ops : Array Oper) (tab : List (List Nat)) (nt : Nat) (T0 : Tmps) (H0 : Heap) (effs : List Eff) (N : Nat) : Prop where
  len : effs.length = ops.size
  ok : ∀ i, i < ops.size → EffOk P ops.toList tab nt T0 H0 effs i
  slots : slotsOk ops.toList tab = true
  clash : clashFree effs tab = true
  asc : asc H0.next effs N = true

section
variable {ops : Array Oper} {tab : List (List Nat)} {nt : Nat} {T0 : Tmps} {H0 : Heap} {effs : List Eff} {N : Nat}

theorem Row.chk (h : Row P ops tab nt T0 H0 effs N) {i : Nat} {o : Oper} (ho : ops[i]? = some o) : opChk ops.toList tab i o = true := by
  have hi : i < ops.size := (Array.getElem?_eq_some_iff.1 ho).1
  have := List.all_eq_true.1 h.slots i (List.mem_range.2 (by simpa using hi))
  rw [Array.getElem?_toList, ho] at this
  exact this

theorem Row.at (h : Row P ops tab nt T0 H0 effs N) {i : Nat} (hi : i < ops.size) : ∃ o e, ops[i]? = some o ∧ effs[i]? = some e ∧ e.dst = o.dst ∧ ((Wants effs o false ∧ e.v = .u ∧ e.dl = []) ∨ GoOk P ops.toList tab nt T0 H0 effs i o e) := by
  obtain ⟨o, e, ho, hr⟩ := h.ok i hi
  exact ⟨o, e, by rw [← Array.getElem?_toList]; exact ho, hr⟩

theorem Row.lt (h : Row P ops tab nt T0 H0 effs N) {i : Nat} {o : Oper} (ho : ops[i]? = some o) {x : Nat} (hx : has (getL tab i) x = true) : x < i ∧ ∃ e ∈ bindsOf o, e.on = x ∨ has (getL tab e.on) x = true := by
  have := h.chk ho
  unfold opChk at this
  simp only [Bool.and_eq_true] at this
  have := List.all_eq_true.1 this.1.1.1 x (has_iff.1 hx)
  rw [Bool.and_eq_true, List.any_eq_true] at this
  obtain ⟨h1, e, h2, h3⟩ := this
  refine ⟨by simpa using h1, e, h2, ?_⟩
  rw [Bool.or_eq_true] at h3
  rcases h3 with h3 | h3
  · exact .inl (beq_eq h3)
  · exact .inr h3

theorem Row.edge (h : Row P ops tab nt T0 H0 effs N) {i : Nat} {o : Oper} (ho : ops[i]? = some o) {e : Edge} (he : e ∈ bindsOf o) : has (getL tab i) e.on = true := by
  have := h.chk ho
  unfold opChk at this
  simp only [Bool.and_eq_true] at this
  exact List.all_eq_true.1 this.1.1.2 e he

theorem Row.guard (h : Row P ops tab nt T0 H0 effs N) {i : Nat} {o : Oper} (ho : ops[i]? = some o) {g : Nat} {want : Bool} (hg : o.guard = some (g, want)) : has (getL tab i) g = true := by
  have := h.chk ho
  unfold opChk at this
  simp only [Bool.and_eq_true] at this
  have := this.1.2
  rw [hg] at this
  exact this

theorem Row.dst (h : Row P ops tab nt T0 H0 effs N) {i j : Nat} {oi oj : Oper} (hij : i ≠ j) (hi : ops[i]? = some oi) (hj : ops[j]? = some oj) {d : Nat} (hd : oi.dst = some d) :
    oj.dst ≠ some d ∧ (free tab i j = true → d ∉ looksAt ops.toList oj) := by
  have := h.chk hi
  unfold opChk at this
  simp only [Bool.and_eq_true] at this
  have := this.2
  rw [hd] at this
  have hjs : j < ops.size := (Array.getElem?_eq_some_iff.1 hj).1
  have := List.all_eq_true.1 this j (List.mem_range.2 (by simpa using hjs))
  rw [beq_ne hij, Bool.false_or, Array.getElem?_toList, hj, Bool.and_eq_true] at this
  refine ⟨fun hh => ?_, fun hf hm => ?_⟩
  · have h1 := this.1
    rw [hh] at h1
    simp at h1
  · have h2 := this.2
    rw [hf, has_iff.2 hm] at h2
    cases h2

theorem Row.apart (h : Row P ops tab nt T0 H0 effs N) {i j : Nat} {a b : Eff} (hi : effs[i]? = some a) (hj : effs[j]? = some b) (hf : free tab i j = true) :
    (∀ x, (a.dl.any fun y => y.1 == x) = true → x ∉ b.needs ∧ (b.dl.any fun y => y.1 == x) = false) ∧ ∀ id g, (id, some g) ∈ a.dl → g.fam ∉ b.fams := by
  have := List.all_eq_true.1 (List.all_eq_true.1 h.clash i (List.mem_range.2 (List.getElem?_eq_some_iff.1 hi).1)) j (List.mem_range.2 (List.getElem?_eq_some_iff.1 hj).1)
  rw [hf, hi, hj] at this
  simp only [Bool.not_true, Bool.false_or, Bool.and_eq_true] at this
  obtain ⟨⟨h1, h2⟩, h3⟩ := this
  refine ⟨fun x hx => ?_, fun id g hm hh => ?_⟩
  · rw [any_has] at hx
    have hx := has_iff.1 hx
    refine ⟨fun hm => ?_, ?_⟩
    · have := noneOf_spec h1 hx
      rw [has_iff.2 hm] at this; cases this
    · rw [any_has]; exact noneOf_spec h2 hx
  · have := noneOf_spec h3 (dlFams_mem hm)
    rw [has_iff.2 hh] at this; cases this

theorem free_of {i j : Nat} (h1 : i ≠ j) (h2 : has (getL tab i) j = false) (h3 : has (getL tab j) i = false) : free tab i j = true := by
  unfold free
  rw [beq_ne h1, h2, h3]; rfl

/-- What is listed holds all that it waited for. -/
def Closed (tab : List (List Nat)) (p : Nat → Bool) : Prop := ∀ i, p i = true → ∀ x, has (getL tab i) x = true → p x = true

theorem wanted_of (h : Row P ops tab nt T0 H0 effs N) {E0 : Env} {w0 : World} {p : Nat → Bool} {E : Env} {a : Act} {w : World} (hI : Inv H0 E0 w0 T0 nt effs p E a w) {j : Nat} {o : Oper} (ho : ops[j]? = some o)
    (hsub : ∀ x, has (getL tab j) x = true → p x = true) {b : Bool} (hw : Wants effs o b) : Region.wanted o (yielded ops a.tmps) = b := by
  unfold Wants at hw
  unfold Region.wanted
  cases hg : o.guard with
  | none => rw [hg] at hw; exact hw.symm
  | some gw =>
    obtain ⟨g, want⟩ := gw
    rw [hg] at hw
    obtain ⟨e, he, hw⟩ := hw
    have hpg := hsub g (h.guard ho hg)
    have hgl : g < ops.size := by rw [← h.len]; exact (List.getElem?_eq_some_iff.1 he).1
    obtain ⟨og, e', hog, he', hdst, _⟩ := h.at hgl
    rw [he] at he'; cases he'
    have hy : ∀ d, e.dst = some d → yielded ops a.tmps g = match a.tmps[d]? with | some (.bool b) => some b | _ => none := by
      intro d hd
      unfold yielded
      rw [hog, Option.bind_some, ← hdst, hd, Option.bind_some]; rfl
    have hval : ∀ d, e.dst = some d → VRel E e.v (a.tmps.getD d undef) := by
      intro d hd
      have := hI.t d
      rw [effTP_at effs 0 T0 g e he (by simpa using hpg) hd (fun k e' hk he' => by
        have hkl : k < ops.size := by rw [← h.len]; exact (List.getElem?_eq_some_iff.1 he').1
        obtain ⟨ok, e2, hok, he2, hdk, _⟩ := h.at hkl
        rw [he'] at he2; cases he2
        rw [hdk]
        exact (h.dst (Ne.symm hk) hog hok (by rw [← hdst]; exact hd)).1)] at this
      exact this
    rcases hw with ⟨hd, rfl⟩ | ⟨d, hd, hw⟩
    · have : yielded ops a.tmps g = none := by
        unfold yielded
        rw [hog, Option.bind_some, ← hdst, hd]; rfl
      simp only [this]; rfl
    · have hv := hval d hd
      rw [Array.getD_eq_getD_getElem?] at hv
      simp only [hy d hd]
      rcases hw with ⟨x, hx, rfl⟩ | ⟨hx, rfl⟩
      · rw [hx] at hv
        cases hxa : a.tmps[d]? with
        | none => rw [hxa] at hv; simp only [Option.getD_none] at hv; cases hv
        | some xv => rw [hxa] at hv; simp only [Option.getD_some] at hv; cases hv; cases x <;> cases want <;> rfl
      · rw [hx] at hv
        cases hxa : a.tmps[d]? with
        | none => rfl
        | some xv => rw [hxa] at hv; simp only [Option.getD_some] at hv; cases hv; rfl

theorem look_with {T : Tmps} {p : Nat → Bool} {j : Nat} (hp : p j = false) {i : Nat} : (p i || Nat.beq i j) = true ↔ p i = true ∨ i = j := by
  rw [Bool.or_eq_true]
  exact ⟨fun h => h.imp (fun h => h) (fun h => beq_eq h), fun h => h.imp (fun h => h) (fun h => by subst h; exact beq_self _)⟩

/-- One that is passed by. -/
theorem step_skip (h : Row P ops tab nt T0 H0 effs N) {E0 : Env} {w0 : World} {p : Nat → Bool} {E : Env} {a : Act} {w : World} (hI : Inv H0 E0 w0 T0 nt effs p E a w) {j : Nat} {o : Oper} {e : Eff} (ho : ops[j]? = some o)
    (he : effs[j]? = some e) (hd : e.dst = o.dst) (hv : e.v = .u) (hdl : e.dl = []) : Inv H0 E0 w0 T0 nt effs (fun i => p i || Nat.beq i j) E (a.put o.dst undef) w := by
  have hlook : ∀ id, look (effHP effs 0 (fun i => p i || Nat.beq i j) H0.bs) id = look (effHP effs 0 p H0.bs) id := by
    intro id
    refine effHP_same effs 0 _ _ (fun i e' he' hany => ?_) rfl
    by_cases hij : i = j
    · subst hij; rw [he] at he'; cases he'; rw [hdl] at hany; cases hany
    · simp only [Nat.zero_add]; rw [beq_ne hij, Bool.or_false]
  refine ⟨fun t => ?_, fun id hb hg => hI.live id hb (by rw [← hlook]; exact hg), fun i k hi hk ei ek r h1 h2 => hI.fam i k hi hk ei ek r (by rw [← hlook]; exact h1) (by rw [← hlook]; exact h2), fun id ent hid => ?_, hI.ext,
    ⟨hI.fr.os, hI.fr.tape, hI.fr.output, hI.fr.size, hI.fr.keep, ?_⟩, by rw [put_defers]; exact hI.d, by rw [put_size]; exact hI.n⟩
  · by_cases ht : e.dst = some t
    · rw [effTP_at effs 0 T0 j e he (by simp) ht (fun k e' hk he' => by
        have hkl : k < ops.size := by rw [← h.len]; exact (List.getElem?_eq_some_iff.1 he').1
        obtain ⟨ok, e2, hok, he2, hdk, _⟩ := h.at hkl
        rw [he'] at he2; cases he2
        rw [hdk]
        exact (h.dst (Ne.symm hk) ho hok (by rw [← hd]; exact ht)).1), hv]
      rw [hd] at ht
      rw [ht]
      show VRel E .u ((a.tmps.setIfInBounds t undef).getD t undef)
      rw [Array.getD_eq_getD_getElem?, Array.getElem?_setIfInBounds, if_pos rfl]
      split <;> exact .u
    · rw [effTP_same (q := p) effs 0 T0 T0 (fun i e' he' hdt => by
        by_cases hij : i = j
        · subst hij; rw [he] at he'; cases he'; exact absurd hdt ht
        · simp only [Nat.zero_add]; rw [beq_ne hij, Bool.or_false]) rfl]
      have : (a.put o.dst undef).tmps.getD t undef = a.tmps.getD t undef := by
        cases hod : o.dst with
        | none => rfl
        | some d =>
          have hne : d ≠ t := fun hh => ht (by rw [hd, hod, hh])
          show (a.tmps.setIfInBounds d undef).getD t undef = _
          rw [Array.getD_eq_getD_getElem?, Array.getElem?_setIfInBounds, if_neg hne, ← Array.getD_eq_getD_getElem?]
      rw [this]; exact hI.t t
  · rcases hI.dom id ent hid with h1 | ⟨i, e', h1, h2, h3⟩
    · exact .inl h1
    · exact .inr ⟨i, e', h1, by simp [h2], h3⟩
  · rintro b ⟨id, hb, ent, hg, hent, hr⟩ hlt
    exact hI.fr.new b ⟨id, hb, ent, (hlook id).symm.trans hg, hent, hr⟩ hlt

/-- One that is carried out. -/
theorem step_go (h : Row P ops tab nt T0 H0 effs N) {E0 : Env} {w0 : World} {p : Nat → Bool} (hcl : Closed tab p) {E : Env} {a : Act} {w : World} (hI : Inv H0 E0 w0 T0 nt effs p E a w) {j : Nat} {o : Oper} {e : Eff} (ho : ops[j]? = some o)
    (hpj : p j = false) (hsub : ∀ x, has (getL tab j) x = true → p x = true) (he : effs[j]? = some e) (hd : e.dst = o.dst) (hgo : GoOk P ops.toList tab nt T0 H0 effs j o e) {next : Act → World → Prop} {Q : Exit → Act → World → Prop}
    (hn : ∀ E' a' w', Inv H0 E0 w0 T0 nt effs (fun i => p i || Nat.beq i j) E' a' w' → next a' w') : o.wp P a w next Q := by
  obtain ⟨_, hdst, hfc, hfams, hbel, H', hO, hbs', hnx⟩ := hgo
  obtain ⟨as1, as2, as3⟩ := asc_spec _ _ _ h.asc
  -- those listed that did not have to be
  have hfree : ∀ i, p i = true → has (getL tab j) i = false → free tab i j = true := fun i hi hti =>
    free_of (fun hh => by subst hh; rw [hi] at hpj; cases hpj) (by
      cases hh : has (getL tab i) j with
      | false => rfl
      | true => rw [hcl i hi j hh] at hpj; cases hpj) hti
  generalize hbsj : effHP effs 0 (has (getL tab j)) H0.bs = bsj at hfc hfams hbel hO hbs'
  have hlookN : ∀ id, id ∈ e.needs → look bsj id = look (effHP effs 0 p H0.bs) id := by
    intro id hid
    rw [← hbsj]
    refine effHP_same effs 0 _ _ (fun i e' he' hany => ?_) rfl
    rw [Nat.zero_add]
    cases hti : has (getL tab j) i with
    | true => rw [hsub i hti]
    | false =>
      cases hpi : p i with
      | false => rfl
      | true => exact absurd hid ((h.apart he' he (hfree i hpi hti)).1 id hany).1
  -- (1)
  have hE1 : TRel (pad E e.own) (pickT (effTP effs 0 (has (getL tab j)) T0) (looksAt ops.toList o)) a := by
    intro t
    rw [tget_pickT]
    by_cases ht : t ∈ looksAt ops.toList o
    · rw [if_pos ht]
      have hsame : tget (effTP effs 0 (has (getL tab j)) T0) t = tget (effTP effs 0 p T0) t := by
        refine effTP_same effs 0 _ _ (fun i e' he' hdt => ?_) rfl
        rw [Nat.zero_add]
        cases hti : has (getL tab j) i with
        | true => rw [hsub i hti]
        | false =>
          cases hpi : p i with
          | false => rfl
          | true =>
            have hil : i < ops.size := by rw [← h.len]; exact (List.getElem?_eq_some_iff.1 he').1
            obtain ⟨oi, e2, hoi, he2, hdi, _⟩ := h.at hil
            rw [he'] at he2; cases he2
            have hf := hfree i hpi hti
            exact absurd ht ((h.dst (fun hh => by subst hh; rw [hpi] at hpj; cases hpj) hoi ho (by rw [← hdi]; exact hdt)).2 hf)
      have hlow := below_t hbel (pickT_mem ht)
      rw [hsame] at hlow ⊢
      exact (hI.t t).on fun id hid ent hent _ => pad_some hent (hlow id hid)
    · rw [if_neg ht]; exact .junk _
  -- (2)
  have hpick : ∀ id hb, look (pickH bsj e.needs) id = some hb → id ∈ e.needs ∧ look (effHP effs 0 p H0.bs) id = some hb ∧ id < e.own ∧ ∀ i ∈ hb.blk.ids, i < e.own := by
    intro id hb hg
    rw [look_pickH] at hg
    by_cases hid : id ∈ e.needs
    · rw [if_pos hid] at hg
      obtain ⟨b1, b2⟩ := below_h hbel (pickH_mem hid)
      exact ⟨hid, by rw [← hlookN id hid]; exact hg, b1, b2 hb hg⟩
    · rw [if_neg hid] at hg; cases hg
  have hE2 : HRel (pad E e.own) ⟨e.own, pickH bsj e.needs⟩ w := by
    refine ⟨fun id hid => ?_, fun id hb hg => ?_, ?_, fun id hid => ?_⟩
    · have : ¬ id < e.own := Nat.not_lt.2 hid
      simp [pad, this]
    · obtain ⟨h1, h2, h3, h4⟩ := hpick id hb hg
      obtain ⟨ent, hent, hB⟩ := hI.live id hb h2
      exact ⟨ent, pad_some hent h3, hB.on (fun _ _ => rfl) fun i hi ent hent _ => pad_some hent (h4 i hi)⟩
    · intro i k hi hk ei ek r hgi hgk hei hek hri hrk
      obtain ⟨_, h2, _⟩ := hpick i hi hgi
      obtain ⟨_, k2, _⟩ := hpick k hk hgk
      exact hI.fam i k hi hk ei ek r h2 k2 (pad_useful hei (.inl (by rw [hri]; simp))) (pad_useful hek (.inl (by rw [hrk]; simp))) hri hrk
    · have hid : id < e.own := hid
      simp [pad, hid]
  refine hO (pad E e.own) a w hE1 hE2 next Q fun x E1 w1 hx hH1 hext1 hfr1 => ?_
  -- names
  have hEj : ∀ id, e.own ≤ id → id < e.nxt → E id = none := by
    intro id h1 h2
    cases hid : E id with
    | none => rfl
    | some ent =>
      exfalso
      rcases hI.dom id ent hid with h3 | ⟨i, e', h3, h4, h5, h6⟩
      · have := (as1 j e he).1; omega
      · by_cases hij : i = j
        · subst hij; rw [h4] at hpj; cases hpj
        · rcases Nat.lt_or_ge i j with hlt | hge
          · have := as2 i j e' e hlt h3 he; omega
          · have := as2 j i e e' (by omega) he h3; omega
  let E' : Env := fun id => match E id with
    | some ent => some ent
    | none => if e.own ≤ id ∧ id < e.nxt then E1 id else none
  have k1 : Ext E E' := fun id ent hid => by simp only [E']; rw [hid]
  have k2 : ∀ id ent, E1 id = some ent → Useful ent → E' id = some ent := by
    intro id ent hid hu
    by_cases hlt : id < e.own
    · have h1 := hext1 id ((E id).getD dummy) (by simp [pad, hlt])
      rw [hid] at h1
      cases hE : E id with
      | some ent' => rw [hE] at h1; simp only [E']; rw [hE]; exact h1.symm
      | none => rw [hE] at h1; cases h1; exact absurd hu dummy_not
    · have hlt2 : id < e.nxt := by
        rcases Nat.lt_or_ge id e.nxt with hh | hh
        · exact hh
        · have := hH1.dom id (by rw [hnx]; exact hh)
          rw [hid] at this; cases this
      simp only [E']
      rw [hEj id (by omega) hlt2]
      simp only
      rw [if_pos ⟨by omega, hlt2⟩]; exact hid
  have k3 : ∀ id ent, E' id = some ent → E id = some ent ∨ (e.own ≤ id ∧ id < e.nxt ∧ E1 id = some ent) := by
    intro id ent hid
    simp only [E'] at hid
    cases hE : E id with
    | some ent' => rw [hE] at hid; exact .inl hid
    | none =>
      rw [hE] at hid
      simp only at hid
      split at hid
      · rename_i hh; exact .inr ⟨hh.1, hh.2, hid⟩
      · cases hid
  -- the table
  have tIn : ∀ id, (e.dl.any fun y => y.1 == id) = true → look (effHP effs 0 (fun i => p i || Nat.beq i j) H0.bs) id = look H'.bs id := by
    intro id hany
    rw [effHP_at effs 0 H0.bs j e he (by simp) hany (fun i e' hji he' hp' => by
      rw [Nat.zero_add] at hp'
      have hij : i ≠ j := by omega
      rw [beq_ne hij, Bool.or_false] at hp'
      have hti : has (getL tab j) i = false := by
        cases hh : has (getL tab j) i with
        | false => rfl
        | true => have := (h.lt ho hh).1; omega
      have hf := hfree i hp' hti
      have hf' : free tab j i = true := free_of (Ne.symm hij) hti (by
        cases hh : has (getL tab i) j with
        | false => rfl
        | true => rw [hcl i hp' j hh] at hpj; cases hpj)
      exact ((h.apart he he' hf').1 id hany).2), hbs', look_append, if_pos hany]
  have tOut : ∀ id, (e.dl.any fun y => y.1 == id) = false → look (effHP effs 0 (fun i => p i || Nat.beq i j) H0.bs) id = look (effHP effs 0 p H0.bs) id := by
    intro id hany
    refine effHP_same effs 0 _ _ (fun i e' he' hany' => ?_) rfl
    by_cases hij : i = j
    · subst hij; rw [he] at he'; cases he'; rw [hany] at hany'; cases hany'
    · simp only [Nat.zero_add]; rw [beq_ne hij, Bool.or_false]
  have tA : ∀ id, ((e.dl.any fun y => y.1 == id) = true ∨ id ∈ e.needs) → look (effHP effs 0 (fun i => p i || Nat.beq i j) H0.bs) id = look H'.bs id := by
    intro id hA
    cases hany : (e.dl.any fun y => y.1 == id) with
    | true => exact tIn id hany
    | false =>
      have hid : id ∈ e.needs := hA.resolve_left (by rw [hany]; simp)
      rw [tOut id hany, hbs', look_append, hany]
      simp only [Bool.false_eq_true, if_false]
      rw [look_pickH, if_pos hid, hlookN id hid]
  -- blocks that it has nothing to do with
  have tB : ∀ id hb ent r, (e.dl.any fun y => y.1 == id) = false → id ∉ e.needs → look (effHP effs 0 p H0.bs) id = some hb → E id = some ent → ent.r = some r →
      r < w.heap.size ∧ ¬ Tr (pad E e.own) ⟨e.own, pickH bsj e.needs⟩ r := by
    intro id hb ent r hany hid hg hent hr
    obtain ⟨ent', hent', hB⟩ := hI.live id hb hg
    rw [hent] at hent'; cases hent'
    refine ⟨(hB.lies r hr).lt, ?_⟩
    rintro ⟨id', hb', ent', hg', hent', hr'⟩
    obtain ⟨h1, h2, h3, h4⟩ := hpick id' hb' hg'
    have hE' := pad_useful hent' (.inl (by rw [hr']; simp))
    have hfam := hI.fam id id' hb hb' ent ent' r hg h2 hent hE' hr hr'
    have hfm : hb.fam ∈ e.fams := by
      rw [hfam, hfams]
      exact famsOf_mem (by rw [hlookN id' h1]; exact h2) h1
    have := effHP_from (Z := False) (p := p) (q := has (getL tab j)) (id := id) (g := hb) (fun i hi => hsub i hi) effs 0 H0.bs H0.bs (fun i e' he' hpi hti hm => by
      rw [Nat.zero_add] at hpi hti
      exact (h.apart he' he (hfree i hpi hti)).2 id hb hm hfm) (fun hh => .inr hh) hg
    rcases this with hh | hh
    · exact hh
    · rw [hbsj] at hh
      exact hid (famClosed_spec hfc hh hfm)
  have liveA : ∀ id hb, ((e.dl.any fun y => y.1 == id) = true ∨ id ∈ e.needs) → look (effHP effs 0 (fun i => p i || Nat.beq i j) H0.bs) id = some hb → H'.get id = some hb ∧ ∃ ent, E1 id = some ent ∧ E' id = some ent ∧ BRel E1 ent hb w1 := by
    intro id hb hA hg
    rw [tA id hA] at hg
    obtain ⟨ent, hent, hB⟩ := hH1.live id hb hg
    exact ⟨hg, ent, hent, k2 id ent hent hB.useful, hB⟩
  have split2 : ∀ id, ((e.dl.any fun y => y.1 == id) = true ∨ id ∈ e.needs) ∨ ((e.dl.any fun y => y.1 == id) = false ∧ id ∉ e.needs) := by
    intro id
    cases hany : (e.dl.any fun y => y.1 == id) with
    | true => exact .inl (.inl rfl)
    | false =>
      by_cases hid : id ∈ e.needs
      · exact .inl (.inr hid)
      · exact .inr ⟨rfl, hid⟩
  have trUp : ∀ b, Tr (pad E e.own) ⟨e.own, pickH bsj e.needs⟩ b → Tr E ⟨0, effHP effs 0 p H0.bs⟩ b := by
    rintro b ⟨id', hb', ent', hg', hent', hr'⟩
    obtain ⟨h1, h2, h3, h4⟩ := hpick id' hb' hg'
    exact ⟨id', hb', ent', h2, pad_useful hent' (.inl (by rw [hr']; simp)), hr'⟩
  refine hn E' _ w1 ⟨fun t => ?_, fun id hb hg => ?_, ?_, fun id ent hid => ?_, fun id ent hid => k1 id ent (hI.ext id ent hid), ⟨hfr1.os.trans hI.fr.os, hfr1.tape.trans hI.fr.tape, hfr1.output.trans hI.fr.output,
    Nat.le_trans hI.fr.size hfr1.size, fun b hb ht => ?_, ?_⟩, by rw [put_defers]; exact hI.d, by rw [put_size]; exact hI.n⟩
  · by_cases ht : e.dst = some t
    · rw [effTP_at effs 0 T0 j e he (by simp) ht (fun k e' hk he' => by
        have hkl : k < ops.size := by rw [← h.len]; exact (List.getElem?_eq_some_iff.1 he').1
        obtain ⟨ok, e2, hok, he2, hdk, _⟩ := h.at hkl
        rw [he'] at he2; cases he2
        rw [hdk]
        exact (h.dst (Ne.symm hk) ho hok (by rw [← hd]; exact ht)).1)]
      rw [hd] at ht
      rw [ht]
      show VRel E' e.v ((a.tmps.setIfInBounds t x).getD t undef)
      have hlt : t < a.tmps.size := by rw [hI.n]; exact hdst t ht
      rw [Array.getD_eq_getD_getElem?, Array.getElem?_setIfInBounds, if_pos rfl, if_pos hlt]
      exact hx.on fun id _ ent hid hu => k2 id ent hid hu
    · rw [effTP_same (q := p) effs 0 T0 T0 (fun i e' he' hdt => by
        by_cases hij : i = j
        · subst hij; rw [he] at he'; cases he'; exact absurd hdt ht
        · simp only [Nat.zero_add]; rw [beq_ne hij, Bool.or_false]) rfl]
      have : (a.put o.dst x).tmps.getD t undef = a.tmps.getD t undef := by
        cases hod : o.dst with
        | none => rfl
        | some d =>
          have hne : d ≠ t := fun hh => ht (by rw [hd, hod, hh])
          show (a.tmps.setIfInBounds d x).getD t undef = _
          rw [Array.getD_eq_getD_getElem?, Array.getElem?_setIfInBounds, if_neg hne, ← Array.getD_eq_getD_getElem?]
      rw [this]; exact (hI.t t).mono k1
  · rcases split2 id with hA | ⟨hB1, hB2⟩
    · obtain ⟨_, ent, _, h2, h3⟩ := liveA id hb hA hg
      exact ⟨ent, h2, h3.on (fun _ _ => rfl) fun i _ ent hi hu => k2 i ent hi hu⟩
    · rw [tOut id hB1] at hg
      obtain ⟨ent, hent, hB⟩ := hI.live id hb hg
      refine ⟨ent, k1 id ent hent, hB.on (fun r hr => ?_) fun i _ ent hi _ => k1 i ent hi⟩
      obtain ⟨h1, h2⟩ := tB id hb ent r hB1 hB2 hg hent hr
      exact hfr1.keep r h1 h2
  · intro i k hi hk ei ek r hgi hgk hei hek hri hrk
    have mixed : ∀ i k hi hk ei ek r, ((e.dl.any fun y => y.1 == i) = true ∨ i ∈ e.needs) → (e.dl.any fun y => y.1 == k) = false → k ∉ e.needs → look (effHP effs 0 (fun i => p i || Nat.beq i j) H0.bs) i = some hi →
        look (effHP effs 0 (fun i => p i || Nat.beq i j) H0.bs) k = some hk → E' i = some ei → E' k = some ek → ei.r = some r → ek.r = some r → False := by
      intro i k hi hk ei ek r hA hB1 hB2 hgi hgk hei hek hri hrk
      obtain ⟨h0, ent, h1, h2, h3⟩ := liveA i hi hA hgi
      rw [hei] at h2; cases h2
      rw [tOut k hB1] at hgk
      obtain ⟨ent', hent', hB⟩ := hI.live k hk hgk
      rw [k1 k ent' hent'] at hek; cases hek
      obtain ⟨h4, h5⟩ := tB k hk ek r hB1 hB2 hgk hent' hrk
      exact h5 (hfr1.new r ⟨i, hi, ei, h0, h1, hri⟩ h4)
    rcases split2 i with hA | ⟨hB1, hB2⟩ <;> rcases split2 k with hA' | ⟨hB1', hB2'⟩
    · obtain ⟨h0, ent, h1, h2, h3⟩ := liveA i hi hA hgi
      rw [hei] at h2; cases h2
      obtain ⟨h0', ent', h1', h2', h3'⟩ := liveA k hk hA' hgk
      rw [hek] at h2'; cases h2'
      exact hH1.fam i k hi hk ei ek r h0 h0' h1 h1' hri hrk
    · exact (mixed i k hi hk ei ek r hA hB1' hB2' hgi hgk hei hek hri hrk).elim
    · exact (mixed k i hk hi ek ei r hA' hB1 hB2 hgk hgi hek hei hrk hri).elim
    · rw [tOut i hB1] at hgi
      rw [tOut k hB1'] at hgk
      obtain ⟨ent, hent, _⟩ := hI.live i hi hgi
      rw [k1 i ent hent] at hei; cases hei
      obtain ⟨ent', hent', _⟩ := hI.live k hk hgk
      rw [k1 k ent' hent'] at hek; cases hek
      exact hI.fam i k hi hk ei ek r hgi hgk hent hent' hri hrk
  · rcases k3 id ent hid with h1 | ⟨h1, h2, _⟩
    · rcases hI.dom id ent h1 with h1 | ⟨i, e', h1, h2, h3⟩
      · exact .inl h1
      · exact .inr ⟨i, e', h1, by simp [h2], h3⟩
    · exact .inr ⟨j, e, he, by simp, h1, h2⟩
  · have h1 := hI.fr.keep b hb ht
    rw [← h1]
    exact hfr1.keep b (Nat.lt_of_lt_of_le hb hI.fr.size) fun ht' => ht (hI.fr.new b (trUp b ht') hb)
  · rintro b ⟨id, hb, ent, hg, hent, hr⟩ hlt
    have hg : look (effHP effs 0 (fun i => p i || Nat.beq i j) H0.bs) id = some hb := hg
    have hltw := Nat.lt_of_lt_of_le hlt hI.fr.size
    refine hI.fr.new b ?_ hlt
    rcases split2 id with hA | ⟨hB1, hB2⟩
    · obtain ⟨h0, ent', h1, h2, h3⟩ := liveA id hb hA hg
      rw [hent] at h2; cases h2
      exact trUp b (hfr1.new b ⟨id, hb, ent, h0, h1, hr⟩ hltw)
    · rw [tOut id hB1] at hg
      obtain ⟨ent', hent', _⟩ := hI.live id hb hg
      rw [k1 id ent' hent'] at hent; cases hent
      exact ⟨id, hb, ent, hg, hent', hr⟩

end
end
end Go.Ab

/- Regions whose order is open: the whole. Conditions: none. -/
namespace Go.Ab
set_option linter.unusedVariables false
set_option linter.unusedSimpArgs false
open Go

section
variable {P : Program} {R : Type} {C : Cx R} {prev : Prev R}

def left (p : Nat → Bool) : List Nat → Nat
  | [] => 0
  | x :: r => (if p x = true then 0 else 1) + left p r

theorem left_zero {p : Nat → Bool} : ∀ {l : List Nat}, left p l = 0 → ∀ x ∈ l, p x = true
  | x :: r, h, y, hy => by
    rw [left] at h
    rcases List.mem_cons.1 hy with hy | hy
    · subst hy
      by_cases hp : p y = true
      · exact hp
      · rw [if_neg hp] at h; omega
    · exact left_zero (by omega) y hy

theorem left_le {p q : Nat → Bool} (h : ∀ x, p x = true → q x = true) : ∀ l : List Nat, left q l ≤ left p l
  | [] => Nat.le_refl _
  | x :: r => by
    rw [left, left]
    have := left_le h r
    by_cases hp : p x = true
    · rw [if_pos hp, if_pos (h x hp)]; omega
    · rw [if_neg hp]; split <;> omega

theorem left_lt {p q : Nat → Bool} (h : ∀ x, p x = true → q x = true) {j : Nat} (hj : p j = false) (hq : q j = true) : ∀ l : List Nat, j ∈ l → left q l < left p l
  | x :: r, hm => by
    rw [left, left]
    have hle := left_le h r
    by_cases hx : x = j
    · subst hx
      rw [if_pos hq, if_neg (by rw [hj]; simp)]; omega
    · have := left_lt h hj hq r (by
        rcases List.mem_cons.1 hm with hm | hm
        · exact absurd hm.symm hx
        · exact hm)
      by_cases hp : p x = true
      · rw [if_pos hp, if_pos (h x hp)]; omega
      · rw [if_neg hp]; split <;> omega

theorem bindsAny_eq (e : Edge) : Region.binds .any e = bindsAny e := by
  unfold Region.binds bindsAny
  cases e.ground <;> rfl

section
variable {ops : Array Oper} {tab : List (List Nat)} {nt : Nat} {T0 : Tmps} {H0 : Heap} {effs : List Eff} {N : Nat}

theorem Inv.congr {E0 : Env} {w0 : World} {p q : Nat → Bool} {E : Env} {a : Act} {w : World} (h : Inv H0 E0 w0 T0 nt effs p E a w) (hpq : ∀ i, p i = q i) : Inv H0 E0 w0 T0 nt effs q E a w := by
  have : p = q := funext hpq
  subst this; exact h

theorem any_order (h : Row P ops tab nt T0 H0 effs N) {E0 : Env} {w0 : World} {Q : Exit → Act → World → Prop}
    (hQ : ∀ E a w p, (∀ i, i < ops.size → p i = true) → Inv H0 E0 w0 T0 nt effs p E a w → Q .normal a w) :
    ∀ (fuel : Nat) (listed : Array Bool) (a : Act) (w : World), listed.size = ops.size → Closed tab (fun i => listed.getD i false) → left (fun i => listed.getD i false) (List.range ops.size) ≤ fuel →
      (∃ E, Inv H0 E0 w0 T0 nt effs (fun i => listed.getD i false) E a w) → wpAny P .any ops Q fuel listed a w := by
  have hlist : ∀ (listed : Array Bool) i, listed.size = ops.size → i < ops.size → (listed.getD i true) = listed.getD i false := by
    intro listed i hs hi
    rw [Array.getD_eq_getD_getElem?, Array.getD_eq_getD_getElem?, Array.getElem?_eq_getElem (by omega)]; rfl
  have hmem : ∀ (listed : Array Bool) i, listed.size = ops.size → (i ∈ Region.ready .any ops listed ↔ i < ops.size ∧ listed.getD i false = false ∧ ∃ o, ops[i]? = some o ∧ ∀ e ∈ bindsOf o, listed.getD e.on false = true) := by
    intro listed i hs
    unfold Region.ready
    rw [List.mem_filter, List.mem_range]
    constructor
    · rintro ⟨hi, hh⟩
      rw [hlist listed i hs hi, Bool.and_eq_true] at hh
      have ho : ops[i]? = some ops[i] := Array.getElem?_eq_getElem hi
      rw [ho] at hh
      refine ⟨hi, by simpa using hh.1, _, ho, fun e he => ?_⟩
      have h2 := hh.2
      simp only [Option.map_some, Option.getD_some] at h2
      rw [Array.all_eq_true_iff_forall_mem] at h2
      unfold bindsOf at he
      rw [List.mem_filter] at he
      have := h2 e (Array.mem_toList_iff.1 he.1)
      rw [bindsAny_eq, he.2] at this
      simpa using this
    · rintro ⟨hi, h1, o, ho, h2⟩
      refine ⟨hi, ?_⟩
      rw [hlist listed i hs hi, h1, ho]
      simp only [Option.map_some, Option.getD_some, Bool.not_false, Bool.true_and]
      rw [Array.all_eq_true_iff_forall_mem]
      intro e he
      rw [bindsAny_eq]
      cases hb : bindsAny e with
      | false => rfl
      | true =>
        have := h2 e (by unfold bindsOf; rw [List.mem_filter]; exact ⟨Array.mem_toList_iff.2 he, hb⟩)
        rw [this]; rfl
  -- if none is ready, all are listed
  have hall : ∀ (listed : Array Bool), listed.size = ops.size → Region.ready .any ops listed = [] → ∀ i, i < ops.size → listed.getD i false = true := by
    intro listed hs hnil i
    induction i using Nat.strongRecOn with
    | _ i ih =>
      intro hi
      cases hp : listed.getD i false with
      | true => rfl
      | false =>
        exfalso
        have ho : ops[i]? = some ops[i] := Array.getElem?_eq_getElem hi
        have : i ∈ Region.ready .any ops listed := (hmem listed i hs).2 ⟨hi, hp, _, ho, fun e he => by
          have h1 := h.edge ho he
          have h2 := (h.lt ho h1).1
          exact ih e.on h2 (by omega)⟩
        rw [hnil] at this; cases this
  intro fuel
  induction fuel with
  | zero =>
    intro listed a w hs hcl hle hI
    obtain ⟨E, hI⟩ := hI
    have hz := left_zero (p := fun i => listed.getD i false) (l := List.range ops.size) (by omega)
    have hz' : ∀ i, i < ops.size → listed.getD i false = true := fun i hi => hz i (List.mem_range.2 hi)
    refine ⟨?_, hQ E a w _ hz' hI⟩
    cases hr : Region.ready .any ops listed with
    | nil => rfl
    | cons i r =>
      have : i ∈ Region.ready .any ops listed := by rw [hr]; exact List.mem_cons_self
      obtain ⟨h1, h2, _⟩ := (hmem listed i hs).1 this
      rw [hz' i h1] at h2; cases h2
  | succ fuel ih =>
    intro listed a w hs hcl hle hI
    obtain ⟨E, hI⟩ := hI
    refine ⟨fun hnil => hQ E a w _ (hall listed hs hnil) hI, fun j hj => ?_⟩
    obtain ⟨hjl, hpj, o, ho, hedges⟩ := (hmem listed j hs).1 hj
    have hsub : ∀ x, has (getL tab j) x = true → listed.getD x false = true := by
      intro x hx
      obtain ⟨_, e, he, hor⟩ := h.lt ho hx
      have hon := hedges e he
      rcases hor with rfl | hx'
      · exact hon
      · exact hcl e.on hon x hx'
    have hset : ∀ i, (listed.setIfInBounds j true).getD i false = (listed.getD i false || Nat.beq i j) := by
      intro i
      rw [Array.getD_eq_getD_getElem?, Array.getElem?_setIfInBounds]
      by_cases hij : j = i
      · subst hij
        rw [if_pos rfl, if_pos (by omega), beq_self, Bool.or_true]; rfl
      · rw [if_neg hij, ← Array.getD_eq_getD_getElem?, beq_ne (Ne.symm hij), Bool.or_false]
    have hcl' : Closed tab (fun i => (listed.setIfInBounds j true).getD i false) := by
      intro i hi x hx
      simp only at hi ⊢
      rw [hset] at hi ⊢
      rw [Bool.or_eq_true] at hi ⊢
      rcases hi with hi | hi
      · exact .inl (hcl i hi x hx)
      · have := beq_eq hi; subst this; exact .inl (hsub x hx)
    have hle' : left (fun i => (listed.setIfInBounds j true).getD i false) (List.range ops.size) ≤ fuel := by
      have := left_lt (p := fun i => listed.getD i false) (q := fun i => (listed.setIfInBounds j true).getD i false) (fun x hx => (hset x).trans (by rw [show listed.getD x false = true from hx]; rfl)) (j := j) hpj ((hset j).trans (by rw [beq_self, Bool.or_true])) (List.range ops.size) (List.mem_range.2 hjl)
      omega
    have go : ∀ E' a' w', Inv H0 E0 w0 T0 nt effs (fun i => listed.getD i false || Nat.beq i j) E' a' w' → wpAny P .any ops Q fuel (listed.setIfInBounds j true) a' w' :=
      fun E' a' w' hI' => ih _ a' w' (by simp [hs]) hcl' hle' ⟨E', hI'.congr fun i => (hset i).symm⟩
    obtain ⟨o', e, ho', he, hd, hk⟩ := h.at hjl
    rw [ho] at ho'; cases ho'
    unfold wpOp
    rw [ho]
    simp only
    rcases hk with ⟨hw, hv, hdl⟩ | hgo
    · rw [if_neg (by rw [wanted_of h hI ho hsub hw]; simp)]
      exact go E _ w (step_skip h hI ho he hd hv hdl)
    · rw [if_pos (wanted_of h hI ho hsub hgo.1)]
      exact .inl (step_go h hcl hI ho hpj hsub he hd hgo go)

end

theorem drawK_sound (hC : CxOk P C) (hp : PrevOk P C prev) {nt : Nat} {ops : Array Oper} {T : Tmps} {H : Heap} {K : Tmps → Heap → Option R} {r : R} (hs : slotsOk ops.toList (predTab ops.toList []) = true)
    (h : drawK C prev nt ops.toList (predTab ops.toList []) T H ops.toList 0 H.next [] K = some r) :
    ∃ T' H', K T' H' = some r ∧ ∀ (E : Env) (a : Act) (w : World), St E nt T H a w → ∀ (Q : Exit → Act → World → Prop),
      (∀ E' a' w', St E' nt T' H' a' w' → Ext E E' → Fr E H w E' H' w' → Q .normal a' w') → wpAny P .any ops Q ops.size (Array.replicate ops.size false) a w := by
  generalize htb : predTab ops.toList [] = tab at hs h
  have htab : ∀ i x, i < ops.toList.length → has (getL tab i) x = true → x < i := by
    intro i x hi hx
    have h1 := List.all_eq_true.1 hs i (List.mem_range.2 hi)
    rw [List.getElem?_eq_getElem hi] at h1
    simp only at h1
    unfold opChk at h1
    simp only [Bool.and_eq_true] at h1
    have h2 := List.all_eq_true.1 h1.1.1.1 x (has_iff.1 hx)
    rw [Bool.and_eq_true] at h2
    simpa using h2.1
  obtain ⟨effs, N, hlen, hok, hcf, hasc, hK⟩ := drawL hC hp htab ops.toList 0 H.next [] rfl rfl (fun i hi => absurd hi (by omega)) h
  have hR : Row P ops tab nt T H effs N := ⟨by simpa using hlen, fun i hi => hok i (by simpa using hi), hs, hcf, hasc⟩
  obtain ⟨as1, as2, as3⟩ := asc_spec _ _ _ hasc
  refine ⟨_, _, hK, fun E a w hst Q hn => ?_⟩
  have hrep : ∀ i, (Array.replicate ops.size false).getD i false = false := by
    intro i
    rw [Array.getD_eq_getD_getElem?, Array.getElem?_replicate]
    split <;> rfl
  refine any_order hR (E0 := E) (w0 := w) (Q := Q) (fun E' a' w' p hall hI => ?_) ops.size _ a w (by simp) (fun i hi => by simp only at hi; rw [hrep] at hi; cases hi) ?_ ⟨E, ?_⟩
  · -- at the end
    have e1 : effTP effs 0 (has (List.range effs.length)) T = effTP effs 0 p T := effTP_congr effs 0 T fun i hi => by
      rw [Nat.zero_add, has_iff.2 (List.mem_range.2 hi), hall i (by rw [← hR.len]; exact hi)]
    have e2 : effHP effs 0 (has (List.range effs.length)) H.bs = effHP effs 0 p H.bs := effHP_congr effs 0 H.bs fun i hi => by
      rw [Nat.zero_add, has_iff.2 (List.mem_range.2 hi), hall i (by rw [← hR.len]; exact hi)]
    rw [e1, e2] at hn
    have hlt : ∀ id ent, E' id = some ent → id < N := by
      intro id ent hid
      rcases hI.dom id ent hid with h1 | ⟨i, e, h1, _, _, h2⟩
      · omega
      · have := (as1 i e h1).2.2; omega
    have hext : Ext E' (pad E' N) := fun id ent hid => pad_some hid (hlt id ent hid)
    refine hn (pad E' N) a' w' ⟨hI.t.mono hext, ⟨fun id hid => ?_, fun id hb hg => ?_, ?_, fun id hid => ?_⟩, hI.d, hI.n⟩ (hI.ext.trans hext) ⟨hI.fr.os, hI.fr.tape, hI.fr.output, hI.fr.size, hI.fr.keep, ?_⟩
    · have : ¬ id < N := Nat.not_lt.2 hid
      simp [pad, this]
    · obtain ⟨ent, hent, hB⟩ := hI.live id hb hg
      exact ⟨ent, hext id ent hent, hB.on (fun _ _ => rfl) fun i _ ent hi _ => hext i ent hi⟩
    · intro i k hi hk ei ek r hgi hgk hei hek hri hrk
      exact hI.fam i k hi hk ei ek r hgi hgk (pad_useful hei (.inl (by rw [hri]; simp))) (pad_useful hek (.inl (by rw [hrk]; simp))) hri hrk
    · have hid : id < N := hid
      simp [pad, hid]
    · rintro b ⟨id, hb, ent, hg, hent, hr⟩ hltb
      exact hI.fr.new b ⟨id, hb, ent, hg, pad_useful hent (.inl (by rw [hr]; simp)), hr⟩ hltb
  · have key : ∀ l : List Nat, left (fun i => (Array.replicate ops.size false).getD i false) l ≤ l.length := by
      intro l
      induction l with
      | nil => exact Nat.le_refl _
      | cons x l ih => rw [left, List.length_cons]; split <;> omega
    have := key (List.range ops.size)
    simpa using this
  · have e1 : effTP effs 0 (fun i => (Array.replicate ops.size false).getD i false) T = T := effTP_false effs 0 T fun i _ => hrep _
    have e2 : effHP effs 0 (fun i => (Array.replicate ops.size false).getD i false) H.bs = H.bs := effHP_false effs 0 H.bs fun i _ => hrep _
    refine ⟨by rw [e1]; exact hst.t, by rw [e2]; exact hst.h.live, by rw [e2]; exact hst.h.fam, fun id ent hid => .inl ?_, Ext.refl E, by rw [e2]; exact ⟨rfl, rfl, rfl, Nat.le_refl _, fun _ _ _ => rfl, fun b hb _ => hb⟩, hst.d, hst.n⟩
    rcases Nat.lt_or_ge id H.next with h1 | h1
    · exact h1
    · rw [hst.h.dom id h1] at hid; cases hid

end
end Go.Ab

/- Code: the evaluator is sound. Conditions: none. -/
namespace Go.Ab
set_option linter.unusedVariables false
set_option linter.unusedSimpArgs false
open Go

section
variable {P : Program} {R : Type} {C : Cx R} {prev : Prev R}

theorem Past.of {E E1 : Env} {H H1 : Heap} {w w1 : World} {pin nt : Nat} {ex : Ex} {T' : Tmps} {H' : Heap} (hfr : Fr E H w E1 H1 w1) (hpin : ∀ i, i < pin → E1 i = E i) {e : Exit} {a' : Act} {w' : World}
    (h : Past E1 H1 w1 pin nt ex T' H' e a' w') : Past E H w pin nt ex T' H' e a' w' := by
  obtain ⟨he, E', hst, hf, hp⟩ := h
  exact ⟨he, E', hst, hfr.trans hf, fun i hi => (hp i hi).trans (hpin i hi)⟩

theorem Past.ex {E : Env} {H : Heap} {w : World} {pin nt : Nat} {ex ex' : Ex} {T' : Tmps} {H' : Heap} {e : Exit} {a' : Act} {w' : World}
    (h : Past E H w pin nt ex T' H' e a' w') : Past E H w pin nt ex' T' H' (exOf ex') a' w' := by
  obtain ⟨he, h⟩ := h
  exact ⟨rfl, h⟩

theorem Past.here {E : Env} {H : Heap} {w : World} {pin nt : Nat} {ex : Ex} {T : Tmps} {a : Act} (h : St E nt T H a w) : Past E H w pin nt ex T H (exOf ex) a w :=
  ⟨rfl, E, h, Fr.refl E H w, fun _ _ => rfl⟩

theorem Pins.to {E E' : Env} {pin : Nat} (h : Pins E pin) (hp : ∀ i, i < pin → E' i = E i) : Pins E' pin := fun i hi => by rw [hp i hi]; exact h i hi

theorem Pins.ext {E E' : Env} {pin : Nat} (h : Pins E pin) (he : Ext E E') : ∀ i, i < pin → E' i = E i := fun i hi => by
  obtain ⟨ent, hh⟩ := h i hi
  rw [hh, he i ent hh]

/-- Behind another state. -/
theorem CodeG.after {c : Code} {pin nt : Nat} {T1 T' : Tmps} {H1 H' : Heap} {ex : Ex} (h : CodeG P c pin nt T1 H1 ex T' H') {E E1 : Env} {H : Heap} {w w1 : World} {a : Act} (hst : St E1 nt T1 H1 a w1)
    (hfr : Fr E H w E1 H1 w1) (hpins : Pins E pin) (hpin : ∀ i, i < pin → E1 i = E i) : c.wp P (Past E H w pin nt ex T' H') a w1 :=
  wp_mono (h E1 a w1 hst (hpins.to hpin)) fun e a' w' hp => hp.of hfr hpin

theorem regionK_sound (hC : CxOk P C) (hp : PrevOk P C prev) {pin id : Nat} {fi : FnI} {ops : Array Oper} {draw : Bool} {T : Tmps} {H : Heap} {K : Tmps → Heap → Option R} {r : R}
    (h : regionK C prev pin fi.fn.ntmps fi.ann id ops.toList draw T H K = some r) : ∃ T' H', K T' H' = some r ∧ CodeG P (.region id ops draw) pin fi.fn.ntmps T H .normal T' H' := by
  unfold regionK at h
  obtain ⟨T1, H1, h, hn⟩ := normAt_sound h
  cases draw with
  | false =>
    obtain ⟨T', H', hK, hG⟩ := opsK_sound hC hp ops.toList 0 T1 H1 K r rfl h
    refine ⟨T', H', hK, fun E a w hst hpins => ?_⟩
    obtain ⟨E1, hst1, hfr, hpin⟩ := hn E _ a w hst
    refine wp_region ?_
    have : List.range ops.size = List.range' 0 ops.toList.length := by rw [Array.length_toList, List.range_eq_range']
    rw [this]
    exact hG E1 a w hst1 _ fun E' a' w' k1 k2 k3 => ⟨rfl, E', k1, hfr.trans k3, fun i hi => ((hpins.to hpin).ext k2 i hi).trans (hpin i hi)⟩
  | true =>
    obtain ⟨hs, h⟩ := cond_some h
    obtain ⟨T', H', hK, hG⟩ := drawK_sound hC hp hs h
    refine ⟨T', H', hK, fun E a w hst hpins => ?_⟩
    obtain ⟨E1, hst1, hfr, hpin⟩ := hn E _ a w hst
    refine wp_region_any hC.mixed ?_
    obtain ⟨d1, d2⟩ := Fr.drew hst1.h
    exact hG E1 a w.drew ⟨hst1.t, d1, hst1.d, hst1.n⟩ _ fun E' a' w' k1 k2 k3 => ⟨rfl, E', k1, hfr.trans (d2.trans k3), fun i hi => ((hpins.to hpin).ext k2 i hi).trans (hpin i hi)⟩

theorem InLoopG.code {c : Code} {pin nt : Nat} {T T' : Tmps} {H H' : Heap} {ex : Ex} (h : InLoopG P c pin nt T H ex T' H') : CodeG P (.loop c) pin nt T H ex T' H' := by
  intro E a w hst hpins b k cs
  obtain ⟨e, a', w', hq, har⟩ := h E a w hst hpins b k cs
  exact ⟨e, a', w', hq, .of_steps (.one step_loop) har⟩

/-- Another state ahead. -/
theorem InLoopG.after {c : Code} {pin nt : Nat} {T1 T' : Tmps} {H1 H' : Heap} {ex : Ex} (h : InLoopG P c pin nt T1 H1 ex T' H') {E E1 : Env} {H : Heap} {w w1 : World} {a : Act} (hst : St E1 nt T1 H1 a w1)
    (hfr : Fr E H w E1 H1 w1) (hpins : Pins E pin) (hpin : ∀ i, i < pin → E1 i = E i) (b : Frame) (k : List Item) (cs : List Frame) :
    ∃ e a' w', Past E H w pin nt ex T' H' e a' w' ∧ Arrives P (lone (b.at a (.code c :: .inLoop c :: k)) cs w1) b k cs e a' w' :=
  let ⟨e, a', w', hq, har⟩ := h E1 a w1 hst (hpins.to hpin) b k cs
  ⟨e, a', w', hq.of hfr hpin, har⟩

theorem InScopeG.after {c rest : Code} {pin nt : Nat} {T1 T' : Tmps} {H1 H' : Heap} {ex : Ex} (h : InScopeG P c rest pin nt T1 H1 ex T' H') {E E1 : Env} {H : Heap} {w w1 : World} {a : Act} (hst : St E1 nt T1 H1 a w1)
    (hfr : Fr E H w E1 H1 w1) (hpins : Pins E pin) (hpin : ∀ i, i < pin → E1 i = E i) (b : Frame) (k : List Item) (cs : List Frame) :
    ∃ e a' w', Past E H w pin nt ex T' H' e a' w' ∧ Arrives P (lone (b.at a (.code rest :: .inScope c :: k)) cs w1) b k cs e a' w' :=
  let ⟨e, a', w', hq, har⟩ := h E1 a w1 hst (hpins.to hpin) b k cs
  ⟨e, a', w', hq.of hfr hpin, har⟩

/-- What is told at a leaving is the same state, cut down. -/
theorem Past.norm {E : Env} {H : Heap} {w : World} {pin nt : Nat} {ex : Ex} {T1 T2 : Tmps} {H1 H2 : Heap} (hn : ∀ E nt a w, St E nt T1 H1 a w → ∃ E', St E' nt T2 H2 a w ∧ Fr E H1 w E' H2 w ∧ ∀ i, i < pin → E' i = E i)
    {e : Exit} {a' : Act} {w' : World} (h : Past E H w pin nt ex T1 H1 e a' w') : Past E H w pin nt ex T2 H2 e a' w' := by
  obtain ⟨he, E', hst, hfr, hp⟩ := h
  obtain ⟨E2, h1, h2, h3⟩ := hn E' nt a' w' hst
  exact ⟨he, E2, h1, hfr.trans h2, fun i hi => (h3 i hi).trans (hp i hi)⟩

/-- One round that goes on. -/
theorem InLoopG.round {c : Code} {pin nt : Nat} {T T1 T2 T' : Tmps} {H H1 H2 H' : Heap} {ex : Ex} (hb : CodeG P c pin nt T H .normal T1 H1)
    (hn : ∀ E nt a w, St E nt T1 H1 a w → ∃ E', St E' nt T2 H2 a w ∧ Fr E H1 w E' H2 w ∧ ∀ i, i < pin → E' i = E i) (h : InLoopG P c pin nt T2 H2 ex T' H') : InLoopG P c pin nt T H ex T' H' := by
  intro E a w hst hpins b k cs
  obtain ⟨e, a1, w1, hq, har⟩ := hb E a w hst hpins b (.inLoop c :: k) cs
  obtain ⟨he, E1, hst1, hfr1, hp1⟩ := hq.norm hn
  subst he
  obtain ⟨e2, a2, w2, hq2, har2⟩ := h.after hst1 hfr1 hpins hp1 b k cs
  exact ⟨e2, a2, w2, hq2, .of_steps (Steps.trans har (.one step_inLoop)) har2⟩

/-- A round that leaves. -/
theorem InLoopG.leave {c : Code} {pin nt : Nat} {T T1 T2 : Tmps} {H H1 H2 : Heap} {ex : Ex} (hb : CodeG P c pin nt T H ex T1 H1) (hx : ex ≠ .normal)
    (hn : ∀ E nt a w, St E nt T1 H1 a w → ∃ E', St E' nt T2 H2 a w ∧ Fr E H1 w E' H2 w ∧ ∀ i, i < pin → E' i = E i) : InLoopG P c pin nt T H ex T2 H2 := by
  intro E a w hst hpins b k cs
  obtain ⟨e, a1, w1, hq, har⟩ := hb E a w hst hpins b (.inLoop c :: k) cs
  have hq' := hq.norm hn
  obtain ⟨he, _⟩ := hq
  refine ⟨e, a1, w1, hq', ?_⟩
  subst he
  cases ex with
  | normal => exact absurd rfl hx
  | exit id => exact .pass (x := .inLoop c) rfl (fun _ _ => .inl (by simp [exOf])) har
  | goto l => exact .pass (x := .inLoop c) rfl (fun _ _ => .inl (by simp [exOf])) har
  | ret => exact .pass (x := .inLoop c) rfl (fun _ _ => .inl (by simp [exOf])) har

/-- One round of a loop, told by a summary or by the evaluator: what it comes to. -/
theorem loop_step {c : Code} {fi : FnI} {pin key : Nat} {live : Option (List Nat)} {K : Kont R} {S : Tmps → Heap → Option R} {r : R}
    (hS : ∀ T H, S T H = some r → ∃ ex T' H', K ex T' H' = some r ∧ InLoopG P c pin fi.fn.ntmps T H ex T' H') {T T1 : Tmps} {H H1 : Heap} {ex : Ex} (hb : CodeG P c pin fi.fn.ntmps T H ex T1 H1)
    (h : (match (generalizing := false) ex with
      | .normal => normAt live pin T1 H1 S
      | ex => exitNorm fi.ann key pin K ex T1 H1) = some r) : ∃ ex T' H', K ex T' H' = some r ∧ InLoopG P c pin fi.fn.ntmps T H ex T' H' := by
  have hleave : ex ≠ .normal → exitNorm fi.ann key pin K ex T1 H1 = some r → ∃ ex T' H', K ex T' H' = some r ∧ InLoopG P c pin fi.fn.ntmps T H ex T' H' := by
    intro hx h
    obtain ⟨T2, H2, hK, hn⟩ := normAt_sound h
    exact ⟨ex, T2, H2, hK, InLoopG.leave hb hx hn⟩
  cases ex with
  | normal =>
    obtain ⟨T2, H2, h, hn⟩ := normAt_sound h
    obtain ⟨ex, T', H', hK, hG⟩ := hS T2 H2 h
    exact ⟨ex, T', H', hK, InLoopG.round hb hn hG⟩
  | exit i => exact hleave (by simp) h
  | goto l => exact hleave (by simp) h
  | ret => exact hleave (by simp) h

theorem loopK_sound {c : Code} {fi : FnI} {pin key : Nat} {live : Option (List Nat)} {body : Tmps → Heap → Kont R → Option R} {K : Kont R} {r : R}
    (hbody : ∀ T H (K : Kont R) r, body T H K = some r → ∃ ex T' H', K ex T' H' = some r ∧ CodeG P c pin fi.fn.ntmps T H ex T' H') :
    ∀ (n : Nat) (T : Tmps) (H : Heap), loopK pin live body (exitNorm fi.ann key pin K) n T H = some r → ∃ ex T' H', K ex T' H' = some r ∧ InLoopG P c pin fi.fn.ntmps T H ex T' H'
  | 0, _, _, h => by cases h
  | n + 1, T, H, h => by
    rw [loopK] at h
    obtain ⟨ex, T1, H1, h, hb⟩ := hbody _ _ _ _ h
    exact loop_step (fun T H hh => loopK_sound hbody n T H hh) hb h

/-! ### Scopes -/

theorem InScopeG.round {c rest rest' : Code} {l : Nat} {pin nt : Nat} {T T1 T2 T' : Tmps} {H H1 H2 H' : Heap} {ex : Ex} (hb : CodeG P rest pin nt T H (.goto l) T1 H1) (hf : findLabel c l = some rest')
    (hn : ∀ E nt a w, St E nt T1 H1 a w → ∃ E', St E' nt T2 H2 a w ∧ Fr E H1 w E' H2 w ∧ ∀ i, i < pin → E' i = E i) (h : InScopeG P c rest' pin nt T2 H2 ex T' H') : InScopeG P c rest pin nt T H ex T' H' := by
  intro E a w hst hpins b k cs
  obtain ⟨e, a1, w1, hq, har⟩ := hb E a w hst hpins b (.inScope c :: k) cs
  obtain ⟨he, E1, hst1, hfr1, hp1⟩ := hq.norm hn
  subst he
  obtain ⟨e2, a2, w2, hq2, har2⟩ := h.after hst1 hfr1 hpins hp1 b k cs
  have hg : gotoIn l (.inScope c :: k) = some (.code rest' :: .inScope c :: k) := by simp [gotoIn, hf]
  exact ⟨e2, a2, w2, hq2, .of_steps (har _ hg) har2⟩

theorem InScopeG.leave {c rest : Code} {pin nt : Nat} {T T1 T2 : Tmps} {H H1 H2 : Heap} {ex : Ex} (hb : CodeG P rest pin nt T H ex T1 H1) (hx : ∀ l, ex = .goto l → findLabel c l = none)
    (hn : ∀ E nt a w, St E nt T1 H1 a w → ∃ E', St E' nt T2 H2 a w ∧ Fr E H1 w E' H2 w ∧ ∀ i, i < pin → E' i = E i) : InScopeG P c rest pin nt T H ex T2 H2 := by
  intro E a w hst hpins b k cs
  obtain ⟨e, a1, w1, hq, har⟩ := hb E a w hst hpins b (.inScope c :: k) cs
  have hq' := hq.norm hn
  obtain ⟨he, _⟩ := hq
  refine ⟨e, a1, w1, hq', ?_⟩
  subst he
  cases ex with
  | normal => exact Steps.trans har (.one step_inScope)
  | exit id => exact fun k' hk => har k' (by simp [exitTo, hk])
  | goto l => exact fun k' hk => har k' (by simp [gotoIn, hx l rfl, hk])
  | ret => exact har

theorem jump_step {c rest rest' : Code} {l : Nat} {fi : FnI} {pin key : Nat} {live : Option (List Nat)} {K : Kont R} {S : Tmps → Heap → Option R} {r : R} (hf : findLabel c l = some rest')
    (hS : ∀ T H, S T H = some r → ∃ ex T' H', K ex T' H' = some r ∧ InScopeG P c rest' pin fi.fn.ntmps T H ex T' H') {T T1 : Tmps} {H H1 : Heap} {ex : Ex} (hb : CodeG P rest pin fi.fn.ntmps T H ex T1 H1)
    (h : (match (generalizing := false) ex with
      | .goto l' => cond (Nat.beq l' l) (normAt live pin T1 H1 S) (match findLabel c l' with | some _ => none | none => exitNorm fi.ann key pin K (.goto l') T1 H1)
      | ex => exitNorm fi.ann key pin K ex T1 H1) = some r) : ∃ ex T' H', K ex T' H' = some r ∧ InScopeG P c rest pin fi.fn.ntmps T H ex T' H' := by
  have hleave : (∀ l, ex = .goto l → findLabel c l = none) → exitNorm fi.ann key pin K ex T1 H1 = some r → ∃ ex T' H', K ex T' H' = some r ∧ InScopeG P c rest pin fi.fn.ntmps T H ex T' H' := by
    intro hx h
    obtain ⟨T2, H2, hK, hn⟩ := normAt_sound h
    exact ⟨ex, T2, H2, hK, InScopeG.leave hb hx hn⟩
  cases ex with
  | normal => exact hleave (fun _ hh => by cases hh) h
  | exit i => exact hleave (fun _ hh => by cases hh) h
  | goto l' =>
    change cond (Nat.beq l' l) (normAt live pin T1 H1 S) (match findLabel c l' with | some _ => none | none => exitNorm fi.ann key pin K (.goto l') T1 H1) = some r at h
    rcases bool_cases h with ⟨hb', h2⟩ | ⟨hb', h2⟩
    · have := beq_eq hb'; clear h; subst this
      obtain ⟨T2, H2, h, hn⟩ := normAt_sound h2
      obtain ⟨ex, T', H', hK, hG⟩ := hS T2 H2 h
      exact ⟨ex, T', H', hK, InScopeG.round hb hf hn hG⟩
    · clear h
      split at h2
      · cases h2
      · rename_i hnone
        exact hleave (fun _ hh => by cases hh; exact hnone) h2
  | ret => exact hleave (fun _ hh => by cases hh) h

theorem jumpK_sound {c rest : Code} {l : Nat} {fi : FnI} {pin key : Nat} {live : Option (List Nat)} {body : Tmps → Heap → Kont R → Option R} {K : Kont R} {r : R} (hf : findLabel c l = some rest)
    (hbody : ∀ T H (K : Kont R) r, body T H K = some r → ∃ ex T' H', K ex T' H' = some r ∧ CodeG P rest pin fi.fn.ntmps T H ex T' H') :
    ∀ (n : Nat) (T : Tmps) (H : Heap), jumpK pin live c l body (exitNorm fi.ann key pin K) n T H = some r → ∃ ex T' H', K ex T' H' = some r ∧ InScopeG P c rest pin fi.fn.ntmps T H ex T' H'
  | 0, _, _, h => by cases h
  | n + 1, T, H, h => by
    rw [jumpK] at h
    obtain ⟨ex, T1, H1, h, hb⟩ := hbody _ _ _ _ h
    exact jump_step hf (fun T H hh => jumpK_sound hf hbody n T H hh) hb h

theorem InScopeG.code {c : Code} {pin nt : Nat} {T T' : Tmps} {H H' : Heap} {ex : Ex} (h : InScopeG P c c pin nt T H ex T' H') : CodeG P (.scope c) pin nt T H ex T' H' := by
  intro E a w hst hpins b k cs
  obtain ⟨e, a', w', hq, har⟩ := h E a w hst hpins b k cs
  exact ⟨e, a', w', hq, .of_steps (.one step_scope) har⟩

/-- What is told at the leavings of a cut. -/
theorem cut_step {b : Code} {fi : FnI} {pin key : Nat} {K : Kont R} {r : R} {T T1 : Tmps} {H H1 : Heap} {ex : Ex} (hb : CodeG P b pin fi.fn.ntmps T H ex T1 H1)
    (h : exitNorm fi.ann key pin K ex T1 H1 = some r) : ∃ ex T' H', K ex T' H' = some r ∧ CodeG P b pin fi.fn.ntmps T H ex T' H' := by
  obtain ⟨T2, H2, hK, hn⟩ := normAt_sound h
  exact ⟨ex, T2, H2, hK, fun E a w hst hpins => wp_mono (hb E a w hst hpins) fun e a' w' hq => hq.norm hn⟩

theorem cutOf_first {ann : Ann} {b : Code} {key : Nat} (h : cutOf ann b = some key) : firstRegion b = some key := by
  unfold cutOf at h
  split at h
  · cases h
  · rename_i q hq
    split at h
    · cases h
    · cases h; exact hq

theorem codeOk_label {fi : FnI} : ∀ {c rest : Code} {l : Nat}, CodeOk P C fi c → findLabel c l = some rest → CodeOk P C fi rest
  | .seq a b, rest, l, h, hf => by
    rw [findLabel] at hf
    split at hf
    · rename_i rest' hr
      cases hf
      exact ⟨codeOk_label h.1 hr, h.2⟩
    · exact codeOk_label h.2.1 hf
  | .label l', rest, l, h, hf => by
    rw [findLabel] at hf
    split at hf
    · cases hf; trivial
    · cases hf
  | .skip, _, _, _, hf => by simp [findLabel] at hf
  | .region .., _, _, _, hf => by simp [findLabel] at hf
  | .cond .., _, _, _, hf => by simp [findLabel] at hf
  | .block .., _, _, _, hf => by simp [findLabel] at hf
  | .loop .., _, _, _, hf => by simp [findLabel] at hf
  | .rangeFunc .., _, _, _, hf => by simp [findLabel] at hf
  | .exit .., _, _, _, hf => by simp [findLabel] at hf
  | .scope .., _, _, _, hf => by simp [findLabel] at hf
  | .goto .., _, _, _, hf => by simp [findLabel] at hf
  | .ret, _, _, _, hf => by simp [findLabel] at hf
  | .refuse .., _, _, _, hf => by simp [findLabel] at hf

theorem codeK_sound (hC : CxOk P C) (hp : PrevOk P C prev) (pin : Nat) (fi : FnI) : ∀ (c : Code) (T : Tmps) (H : Heap) (K : Kont R) (r : R), CodeOk P C fi c → codeK C prev pin fi c T H K = some r →
    ∃ ex T' H', K ex T' H' = some r ∧ CodeG P c pin fi.fn.ntmps T H ex T' H' := by
  intro c
  induction c with
  | skip => exact fun T H K r _ h => ⟨.normal, T, H, h, fun E a w hst _ => wp_skip (Past.here hst)⟩
  | label l => exact fun T H K r _ h => ⟨.normal, T, H, h, fun E a w hst _ => wp_label (Past.here hst)⟩
  | exit id => exact fun T H K r _ h => ⟨.exit id, T, H, h, fun E a w hst _ => wp_exit (Past.here hst)⟩
  | goto l => exact fun T H K r _ h => ⟨.goto l, T, H, h, fun E a w hst _ => wp_goto (Past.here hst)⟩
  | ret => exact fun T H K r _ h => ⟨.ret, T, H, h, fun E a w hst _ => wp_ret (Past.here hst)⟩
  | rangeFunc f ps x y => exact fun T H K r _ h => by cases h
  | refuse s => exact fun T H K r _ h => by cases h
  | region id ops draw =>
    intro T H K r _ h
    obtain ⟨T', H', hK, hG⟩ := regionK_sound hC hp h
    exact ⟨.normal, T', H', hK, hG⟩
  | seq x y ihx ihy =>
    intro T H K r hok h
    obtain ⟨ex, T1, H1, h, hx⟩ := ihx _ _ _ _ hok.1 h
    have hleave : ex ≠ .normal → K ex T1 H1 = some r → ∃ ex T' H', K ex T' H' = some r ∧ CodeG P (.seq x y) pin fi.fn.ntmps T H ex T' H' := by
      intro hne h
      refine ⟨ex, T1, H1, h, fun E a w hst hpins => wp_seq (wp_mono (hx E a w hst hpins) fun e a' w' hq => ?_)⟩
      obtain ⟨he, _⟩ := id hq
      subst he
      cases ex <;> first | exact absurd rfl hne | exact hq
    cases ex with
    | normal =>
      have key' : ∃ ex T' H', K ex T' H' = some r ∧ CodeG P y pin fi.fn.ntmps T1 H1 ex T' H' := by
        simp only at h
        split at h
        · exact ihy _ _ _ _ hok.2.1 h
        · rename_i key hkey
          obtain ⟨T2, H2, h, hn⟩ := normAt_sound h
          have hc : ∃ ex T' H', K ex T' H' = some r ∧ CodeG P y pin fi.fn.ntmps T2 H2 ex T' H' := by
            split at h
            · rename_i S hS
              exact hok.2.2 key S (cutOf_first hkey) hS pin T2 H2 K r h
            · obtain ⟨ex, T', H', hK, hy⟩ := ihy _ _ _ _ hok.2.1 h
              exact cut_step hy hK
          obtain ⟨ex, T', H', hK, hy⟩ := hc
          refine ⟨ex, T', H', hK, fun E a w hst hpins => ?_⟩
          obtain ⟨E1, hst1, hfr, hpin⟩ := hn E _ a w hst
          exact hy.after hst1 hfr hpins hpin
      obtain ⟨ex, T', H', hK, hy⟩ := key'
      refine ⟨ex, T', H', hK, fun E a w hst hpins => wp_seq (wp_mono (hx E a w hst hpins) fun e a' w' hq => ?_)⟩
      obtain ⟨he, E1, hst1, hfr1, hp1⟩ := hq
      subst he
      exact hy.after hst1 hfr1 hpins hp1
    | exit i => exact hleave (by simp) h
    | goto l => exact hleave (by simp) h
    | ret => exact hleave (by simp) h
  | cond c x y ihx ihy =>
    intro T H K r hok h
    rw [codeK] at h
    split at h
    · rename_i b hb
      have hset : ∀ (E : Env) (nt : Nat) (a : Act) (w : World), St E nt T H a w → a.eval c = .bool b ∧ St E nt (match (generalizing := false) c with | .tmp t => (t, .b b) :: T | _ => T) H a w := by
        intro E nt a w hst
        have hv := opd_rel hst.t c
        rw [hb] at hv
        have hcv : a.eval c = .bool b := by
          generalize a.eval c = cv at hv
          cases hv; rfl
        refine ⟨hcv, ?_⟩
        cases c with
        | tmp t =>
          refine ⟨fun t' => ?_, hst.h, hst.d, hst.n⟩
          simp only
          rw [tget_cons]
          split
          · rename_i ht; subst ht
            have : a.tmps.getD t undef = .bool b := hcv
            rw [this]; exact .b _
          · exact hst.t t'
        | const v => exact hst
        | global g => exact hst
        | func f => exact hst
      cases b with
      | true =>
        simp only [cond_true] at h
        obtain ⟨ex, T', H', hK, hx⟩ := ihx _ _ _ _ hok.1 h
        refine ⟨ex, T', H', hK, fun E a w hst hpins => ?_⟩
        obtain ⟨hc, hst'⟩ := hset E _ a w hst
        exact wp_cond_true hc (hx E a w hst' hpins)
      | false =>
        simp only [cond_false] at h
        obtain ⟨ex, T', H', hK, hx⟩ := ihy _ _ _ _ hok.2 h
        refine ⟨ex, T', H', hK, fun E a w hst hpins => ?_⟩
        obtain ⟨hc, hst'⟩ := hset E _ a w hst
        exact wp_cond_false hc (hx E a w hst' hpins)
    · cases h
  | block id c ih =>
    intro T H K r hok h
    obtain ⟨ex, T1, H1, h, hx⟩ := ih _ _ _ _ hok h
    have hkeep : (∀ i, ex ≠ .exit i) → K ex T1 H1 = some r → ∃ ex T' H', K ex T' H' = some r ∧ CodeG P (.block id c) pin fi.fn.ntmps T H ex T' H' := by
      intro hne h
      refine ⟨ex, T1, H1, h, fun E a w hst hpins => wp_block (wp_mono (hx E a w hst hpins) fun e a' w' hq => ?_)⟩
      obtain ⟨he, _⟩ := _root_.id hq
      subst he
      cases ex <;> first | exact absurd rfl (hne _) | exact hq
    cases ex with
    | normal => exact hkeep (fun _ => by simp) h
    | exit i =>
      change cond (Nat.beq i id) (K .normal T1 H1) (K (.exit i) T1 H1) = some r at h
      rcases bool_cases h with ⟨hb, h2⟩ | ⟨hb, h2⟩
      · have := beq_eq hb; clear h; subst this
        refine ⟨.normal, T1, H1, h2, fun E a w hst hpins => wp_block (wp_mono (hx E a w hst hpins) fun e a' w' hq => ?_)⟩
        obtain ⟨he, hr⟩ := hq
        subst he
        show (if i = i then _ else _)
        rw [if_pos rfl]
        exact ⟨rfl, hr⟩
      · refine ⟨.exit i, T1, H1, h2, fun E a w hst hpins => wp_block (wp_mono (hx E a w hst hpins) fun e a' w' hq => ?_)⟩
        obtain ⟨he, hr⟩ := hq
        subst he
        show (if i = id then _ else _)
        rw [if_neg (fun hh => by subst hh; simp at hb)]
        exact ⟨rfl, hr⟩
    | goto l => exact hkeep (fun _ => by simp) h
    | ret => exact hkeep (fun _ => by simp) h
  | loop c ih =>
    intro T H K r hok h
    rw [codeK] at h
    split at h
    · cases h
    · rename_i key hkey
      obtain ⟨T1, H1, h, hn⟩ := normAt_sound h
      have key' : ∃ ex T' H', K ex T' H' = some r ∧ InLoopG P c pin fi.fn.ntmps T1 H1 ex T' H' := by
        split at h
        · rename_i S hS
          exact hok.2 key S hkey hS pin T1 H1 K r h
        · exact loopK_sound (fun T H K r hh => ih T H K r hok.1 hh) _ _ _ h
      obtain ⟨ex, T', H', hK, hG⟩ := key'
      refine ⟨ex, T', H', hK, fun E a w hst hpins => ?_⟩
      obtain ⟨E1, hst1, hfr, hpin⟩ := hn E _ a w hst
      exact hG.code.after hst1 hfr hpins hpin
  | scope c ih =>
    intro T H K r hok h
    rw [codeK] at h
    obtain ⟨ex, T1, H1, h, hx⟩ := ih _ _ _ _ hok.1 h
    have hid : ∀ (T : Tmps) (H : Heap) E nt a w, St E nt T H a w → ∃ E', St E' nt T H a w ∧ Fr E H w E' H w ∧ ∀ i, i < pin → E' i = E i := fun T H E nt a w hst => ⟨E, hst, Fr.refl E H w, fun _ _ => rfl⟩
    have hkeep : (∀ l, ex = .goto l → findLabel c l = none) → K ex T1 H1 = some r → ∃ ex T' H', K ex T' H' = some r ∧ CodeG P (.scope c) pin fi.fn.ntmps T H ex T' H' :=
      fun hne h => ⟨ex, T1, H1, h, (InScopeG.leave hx hne (hid T1 H1)).code⟩
    cases ex with
    | normal => exact hkeep (fun _ hh => by cases hh) h
    | exit i => exact hkeep (fun _ hh => by cases hh) h
    | ret => exact hkeep (fun _ hh => by cases hh) h
    | goto l =>
      simp only at h
      split at h
      · rename_i hl
        exact hkeep (fun _ hh => by cases hh; exact hl) h
      · rename_i rest hl
        obtain ⟨T2, H2, h, hn⟩ := normAt_sound h
        have key' : ∃ ex T' H', K ex T' H' = some r ∧ InScopeG P c rest pin fi.fn.ntmps T2 H2 ex T' H' := by
          split at h
          · rename_i S hS
            exact hok.2 l rest S hl hS pin T2 H2 K r h
          · exact jumpK_sound hl (fun T H K r hh => hp pin fi rest T H K r (codeOk_label hok.1 hl) hh) _ _ _ h
        obtain ⟨ex, T', H', hK, hG⟩ := key'
        exact ⟨ex, T', H', hK, (InScopeG.round hx hl hn hG).code⟩

theorem run_sound (hC : CxOk P C) : ∀ d, PrevOk P C (run C d)
  | 0 => fun pin fi c T H K r _ h => by cases h
  | d + 1 => fun pin fi c T H K r hok h => codeK_sound hC (run_sound hC d) pin fi c T H K r hok h

/-- A function's evaluator is a summary of it. -/
theorem fnK_sound (hC : CxOk P C) (d f : Nat) : SumOk P f false (fun args H (K : AV → Heap → Option R) => fnK C d f args H K) := by
  intro args H K r h
  unfold fnK at h
  split at h
  · rename_i fi hf
    exact bodyK_sound hC (run_sound hC d) hf args H K r h
  · cases h

end
end Go.Ab

/- What the evaluator needs to know of a program: checked by the kernel. Conditions: none. -/
namespace Go.Ab
set_option linter.unusedVariables false
set_option linter.unusedSimpArgs false
open Go

def lookF {α : Type _} : List (Nat × α) → Nat → Option α
  | [], _ => none
  | (j, x) :: r, i => cond (Nat.beq j i) (some x) (lookF r i)

theorem lookF_mem {α : Type _} : ∀ {l : List (Nat × α)} {i : Nat} {x : α}, lookF l i = some x → (i, x) ∈ l
  | (j, y) :: r, i, x, h => by
    rw [lookF] at h
    cases hb : Nat.beq j i with
    | true => rw [hb] at h; cases h; have := beq_eq hb; subst this; exact List.mem_cons_self
    | false => rw [hb] at h; exact List.mem_cons_of_mem _ (lookF_mem h)

/-! ### Types -/

def zrel1 : AV → Value → Bool
  | .b x, .bool y => x == y
  | .i k x, .int k' y => decide (k = k') && x == y
  | .s x, .string y => x.data == y.data
  | .np, .pointer none => true
  | .nsl, .slice none n c => Nat.beq n 0 && Nat.beq c 0
  | .nf, .nilFunc => true
  | .ni, .nilIface => true
  | .nm, .map none => true
  | .junk, _ => true
  | _, _ => false

def zrelL : List AV → List Value → Bool
  | [], [] => true
  | v :: vs, x :: xs => zrel1 v x && zrelL vs xs
  | _, _ => false

def zrel : AV → Value → Bool
  | .agg cs, .agg vs => zrelL cs vs.toList
  | .mix pre sh n xs post, .agg vs => zrelL (pre ++ flatRow sh xs ++ post) vs.toList && Nat.beq xs.length n
  | v, x => zrel1 v x

theorem zrel1_sound (E : Env) (v : AV) (x : Value) (h : zrel1 v x = true) : VRel E v x := by
  unfold zrel1 at h
  split at h
  · rename_i x y
    have : x = y := by simpa using h
    subst this; exact .b _
  · rename_i k x k' y
    rw [Bool.and_eq_true] at h
    have h1 := of_decide_eq_true h.1
    have h2 : x = y := by simpa using h.2
    subst h1; subst h2; exact .i _ _
  · rename_i x y
    have : x = y := by cases x; cases y; simp at h; subst h; rfl
    subst this; exact .s _
  · exact .np
  · rw [Bool.and_eq_true] at h
    have h1 := beq_eq h.1; have h2 := beq_eq h.2; subst h1; subst h2; exact .nsl
  · exact .nf
  · exact .ni
  · exact .nm
  · exact .junk _
  · cases h

theorem zrelL_sound (E : Env) : ∀ (v : List AV) (x : List Value), zrelL v x = true → VRelL E v x
  | [], [], _ => .nil
  | v :: vs, x :: xs, h => by
    simp only [zrelL, Bool.and_eq_true] at h
    exact .cons (zrel1_sound E v x h.1) (zrelL_sound E vs xs h.2)
  | [], _ :: _, h => by simp [zrelL] at h
  | _ :: _, [], h => by simp [zrelL] at h

theorem zrel_sound (E : Env) (v : AV) (x : Value) (h : zrel v x = true) : VRel E v x := by
  unfold zrel at h
  split at h
  · exact .agg (zrelL_sound E _ _ h)
  · rw [Bool.and_eq_true] at h
    exact .mix (zrelL_sound E _ _ h.1) (beq_eq h.2)
  · exact zrel1_sound E _ _ h

def tyChk (P : Program) (t : Nat) (i : TI) : Bool :=
  match P.info? t, P.underlying t with
  | some info, some d => decide (tdOf d = some i.d) && Nat.beq info.size i.size && Nat.beq info.bytes i.bytes && (match info.zero with | some z => zrel i.zero z | none => false) &&
      (match d with | .struct fields => !P.stoodInHeld t && !P.eqGuardType P.depth t && fields.toList.all fun f => !(f.name == "_") | _ => true)
  | _, _ => false

theorem tyOk_of {P : Program} {l : List (Nat × TI)} (h : (l.all fun p => tyChk P p.1 p.2) = true) : TyOk P (lookF l) ∧ EqOk P (lookF l) := by
  have key : ∀ t i, lookF l t = some i → tyChk P t i = true := fun t i hl => List.all_eq_true.1 h _ (lookF_mem hl)
  refine ⟨⟨fun t i hl => ?_⟩, ⟨fun t i fs hl hd => ?_⟩⟩
  · have hk := key t i hl
    unfold tyChk at hk
    split at hk
    · rename_i info d h1 h2
      simp only [Bool.and_eq_true] at hk
      obtain ⟨⟨⟨⟨k1, k2⟩, k3⟩, k4⟩, k5⟩ := hk
      split at k4
      · rename_i z hz
        exact ⟨info, d, h1, h2, of_decide_eq_true k1, beq_eq k2, beq_eq k3, z, hz, fun E => zrel_sound E _ _ k4⟩
      · cases k4
    · cases hk
  · have hk := key t i hl
    unfold tyChk at hk
    split at hk
    · rename_i info d h1 h2
      simp only [Bool.and_eq_true] at hk
      obtain ⟨⟨⟨⟨k1, k2⟩, k3⟩, k4⟩, k5⟩ := hk
      have k1 := of_decide_eq_true k1
      rw [hd] at k1
      obtain ⟨fields, rfl, hf⟩ := struct_of k1
      simp only [Bool.and_eq_true, Bool.not_eq_true'] at k5
      refine ⟨k5.1.1, k5.1.2, fun fields' hu f hm => ?_⟩
      rw [h2] at hu; cases hu
      have := List.all_eq_true.1 k5.2 f hm
      simpa using this
    · cases hk

/-! ### Code -/

def bodiesOf : Code → List (Nat × Code)
  | .seq a b => bodiesOf a ++ bodiesOf b
  | .cond _ a b => bodiesOf a ++ bodiesOf b
  | .block _ c => bodiesOf c
  | .loop c => (match firstRegion c with | some k => [(k, c)] | none => []) ++ bodiesOf c
  | .scope c => bodiesOf c
  | _ => []

def scopesOf : Code → List Code
  | .seq a b => scopesOf a ++ scopesOf b
  | .cond _ a b => scopesOf a ++ scopesOf b
  | .block _ c => scopesOf c
  | .loop c => scopesOf c
  | .scope c => c :: scopesOf c
  | _ => []

/-- What is behind each place at which ways may meet. -/
def cutsOf : Code → List (Nat × Code)
  | .seq a b => (match firstRegion b with | some k => [(k, b)] | none => []) ++ (cutsOf a ++ cutsOf b)
  | .cond _ a b => cutsOf a ++ cutsOf b
  | .block _ c => cutsOf c
  | .loop c => cutsOf c
  | .scope c => cutsOf c
  | _ => []

section
variable {P : Program} {R : Type} {C : Cx R}

theorem codeOk_of {fi : FnI} : ∀ (c : Code), (∀ key lc, (key, lc) ∈ bodiesOf c → ∀ S, C.loop fi.no key = some S → LoopOk P fi.fn.ntmps lc S) →
    (∀ sc ∈ scopesOf c, ∀ l rest S, findLabel sc l = some rest → C.loop fi.no (1000000 + l) = some S → JumpOk P fi.fn.ntmps sc rest S) →
    (∀ key lc, (key, lc) ∈ cutsOf c → ∀ S, C.cut fi.no key = some S → CutOk P fi.fn.ntmps lc S) → CodeOk P C fi c
  | .seq a b, h, k, q => ⟨codeOk_of a (fun key lc hm => h key lc (List.mem_append_left _ hm)) (fun sc hm => k sc (List.mem_append_left _ hm)) (fun key lc hm => q key lc (List.mem_append_right _ (List.mem_append_left _ hm))),
      codeOk_of b (fun key lc hm => h key lc (List.mem_append_right _ hm)) (fun sc hm => k sc (List.mem_append_right _ hm)) (fun key lc hm => q key lc (List.mem_append_right _ (List.mem_append_right _ hm))),
      fun key S hk hS => q key b (List.mem_append_left _ (by rw [hk]; exact List.mem_cons_self)) S hS⟩
  | .cond _ a b, h, k, q => ⟨codeOk_of a (fun key lc hm => h key lc (List.mem_append_left _ hm)) (fun sc hm => k sc (List.mem_append_left _ hm)) (fun key lc hm => q key lc (List.mem_append_left _ hm)),
      codeOk_of b (fun key lc hm => h key lc (List.mem_append_right _ hm)) (fun sc hm => k sc (List.mem_append_right _ hm)) (fun key lc hm => q key lc (List.mem_append_right _ hm))⟩
  | .block _ c, h, k, q => codeOk_of c h k q
  | .loop c, h, k, q => ⟨codeOk_of c (fun key lc hm => h key lc (List.mem_append_right _ hm)) k q, fun key S hk hS => h key c (List.mem_append_left _ (by rw [hk]; exact List.mem_cons_self)) S hS⟩
  | .scope c, h, k, q => ⟨codeOk_of c h (fun sc hm => k sc (List.mem_cons_of_mem _ hm)) q, fun l rest S hl hS => k c List.mem_cons_self l rest S hl hS⟩
  | .skip, _, _, _ => trivial
  | .region .., _, _, _ => trivial
  | .rangeFunc .., _, _, _ => trivial
  | .exit .., _, _, _ => trivial
  | .label .., _, _, _ => trivial
  | .goto .., _, _, _ => trivial
  | .ret, _, _, _ => trivial
  | .refuse .., _, _, _ => trivial

def loopAt (c : Code) (key : Nat) : Code := (lookF (bodiesOf c) key).getD .skip

def labelled (l : Nat) : List Code → List Code
  | [] => []
  | c :: r => match findLabel c l with | some _ => c :: labelled l r | none => labelled l r

/-- The scope in which a label stands, and what is behind it. -/
def scopeAt (c : Code) (l : Nat) : Code := match labelled l (scopesOf c) with | sc :: _ => sc | [] => .skip
def restAt (c : Code) (l : Nat) : Code := (findLabel (scopeAt c l) l).getD .skip

def keysOf : List (Nat × Code) → List Nat
  | [] => []
  | p :: r => p.1 :: keysOf r

def nodup : List Nat → Bool
  | [] => true
  | x :: r => !has r x && nodup r

theorem keysOf_mem : ∀ {l : List (Nat × Code)} {k : Nat} {c : Code}, (k, c) ∈ l → k ∈ keysOf l
  | p :: r, k, c, h => by
    rcases List.mem_cons.1 h with h | h
    · subst h; exact List.mem_cons_self
    · exact List.mem_cons_of_mem _ (keysOf_mem h)

theorem nodup_look : ∀ {l : List (Nat × Code)}, nodup (keysOf l) = true → ∀ {k : Nat} {c : Code}, (k, c) ∈ l → lookF l k = some c
  | (j, d) :: r, h, k, c, hm => by
    simp only [keysOf, nodup, Bool.and_eq_true, Bool.not_eq_true'] at h
    rw [lookF]
    rcases List.mem_cons.1 hm with hm | hm
    · cases hm; rw [beq_self]; rfl
    · have : j ≠ k := fun hh => by
        subst hh
        have := has_iff.2 (keysOf_mem hm)
        rw [h.1] at this; cases this
      rw [beq_ne this]
      exact nodup_look h.2 hm

/-- Those of a key. -/
def keyed (k : Nat) : List (Nat × Code) → List Code
  | [] => []
  | p :: r => cond (Nat.beq p.1 k) (p.2 :: keyed k r) (keyed k r)

def cutAt (c : Code) (k : Nat) : Code := match keyed k (cutsOf c) with | b :: _ => b | [] => .skip

theorem keyed_mem {k : Nat} {b : Code} : ∀ {l : List (Nat × Code)}, (k, b) ∈ l → b ∈ keyed k l
  | p :: r, h => by
    rw [keyed]
    rcases List.mem_cons.1 h with h | h
    · subst h; rw [beq_self]; exact List.mem_cons_self
    · cases Nat.beq p.1 k with
      | true => exact List.mem_cons_of_mem _ (keyed_mem h)
      | false => exact keyed_mem h

/-- What is told of cuts. -/
def AllCut (P : Program) (nt : Nat) (c : Code) : List (Nat × LSum R) → Prop
  | [] => True
  | p :: r => (CutOk P nt (cutAt c p.1) p.2 ∧ (keyed p.1 (cutsOf c)).length = 1) ∧ AllCut P nt c r

theorem AllCut.get {nt : Nat} {c : Code} : ∀ {l : List (Nat × LSum R)} {k : Nat} {S : LSum R}, AllCut P nt c l → lookF l k = some S → CutOk P nt (cutAt c k) S ∧ (keyed k (cutsOf c)).length = 1
  | (j, S') :: r, f, S, h, hl => by
    rw [lookF] at hl
    cases hb : Nat.beq j f with
    | true => rw [hb] at hl; cases hl; have := beq_eq hb; subst this; exact h.1
    | false => rw [hb] at hl; exact AllCut.get h.2 hl

/-- A row of summaries, each sound. -/
def AllSum (P : Program) : List (Nat × Bool × Sum R) → Prop
  | [] => True
  | p :: r => (SumOk P p.1 p.2.1 p.2.2 ∧ Enters P p.1) ∧ AllSum P r

def AllExt (P : Program) : List (Nat × (List AV → Option (Bool × AV))) → Prop
  | [] => True
  | p :: r => ExtOk P p.1 p.2 ∧ AllExt P r

/-- A function's loops (keys below 1000000) and its gotos' (1000000 and the label). -/
def AllLoop (P : Program) (nt : Nat) (c : Code) : List (Nat × LSum R) → Prop
  | [] => True
  | p :: r => (cond (Nat.blt p.1 1000000) (LoopOk P nt (loopAt c p.1) p.2) (JumpOk P nt (scopeAt c (p.1 - 1000000)) (restAt c (p.1 - 1000000)) p.2 ∧ (labelled (p.1 - 1000000) (scopesOf c)).length = 1)) ∧ AllLoop P nt c r

theorem AllSum.get : ∀ {l : List (Nat × Bool × Sum R)} {f : Nat} {S : Bool × Sum R}, AllSum P l → lookF l f = some S → SumOk P f S.1 S.2 ∧ Enters P f
  | (j, S') :: r, f, S, h, hl => by
    rw [lookF] at hl
    cases hb : Nat.beq j f with
    | true => rw [hb] at hl; cases hl; have := beq_eq hb; subst this; exact h.1
    | false => rw [hb] at hl; exact AllSum.get h.2 hl

theorem AllExt.get : ∀ {l : List (Nat × (List AV → Option (Bool × AV)))} {f : Nat} {g : List AV → Option (Bool × AV)}, AllExt P l → lookF l f = some g → ExtOk P f g
  | (j, S') :: r, f, S, h, hl => by
    rw [lookF] at hl
    cases hb : Nat.beq j f with
    | true => rw [hb] at hl; cases hl; have := beq_eq hb; subst this; exact h.1
    | false => rw [hb] at hl; exact AllExt.get h.2 hl

theorem AllLoop.get {nt : Nat} {c : Code} : ∀ {l : List (Nat × LSum R)} {k : Nat} {S : LSum R}, AllLoop P nt c l → lookF l k = some S →
    (cond (Nat.blt k 1000000) (LoopOk P nt (loopAt c k) S) (JumpOk P nt (scopeAt c (k - 1000000)) (restAt c (k - 1000000)) S ∧ (labelled (k - 1000000) (scopesOf c)).length = 1))
  | (j, S') :: r, f, S, h, hl => by
    rw [lookF] at hl
    cases hb : Nat.beq j f with
    | true => rw [hb] at hl; cases hl; have := beq_eq hb; subst this; exact h.1
    | false => rw [hb] at hl; exact AllLoop.get h.2 hl

theorem labelled_mem {l : Nat} : ∀ {cs : List Code} {c rest : Code}, c ∈ cs → findLabel c l = some rest → c ∈ labelled l cs
  | d :: r, c, rest, hm, hl => by
    rw [labelled]
    rcases List.mem_cons.1 hm with hm | hm
    · subst hm; rw [hl]; exact List.mem_cons_self
    · have := labelled_mem hm hl
      cases findLabel d l with
      | none => exact this
      | some _ => exact List.mem_cons_of_mem _ this

/-- A context: what is told of the callees, the function itself, its loops. -/
def mkCx (Ty : Types) (ext : List (Nat × (List AV → Option (Bool × AV)))) (sums : List (Nat × Bool × Sum R)) (fi : FnI) (loops : List (Nat × LSum R)) (cuts : List (Nat × LSum R)) : Cx R :=
  { cut := fun f key => cond (Nat.beq f fi.no) (lookF cuts key) none, Ty := Ty, fns := fun f => cond (Nat.beq f fi.no) (some fi) none, sum := lookF sums, loop := fun f key => cond (Nat.beq f fi.no) (lookF loops key) none, ext := lookF ext, fuel := 1000 }

def lowKeys : List (Nat × Code) → Bool
  | [] => true
  | p :: r => Nat.blt p.1 1000000 && lowKeys r

theorem lowKeys_mem : ∀ {l : List (Nat × Code)}, lowKeys l = true → ∀ {k : Nat} {c : Code}, (k, c) ∈ l → k < 1000000
  | p :: r, h, k, c, hm => by
    simp only [lowKeys, Bool.and_eq_true] at h
    rcases List.mem_cons.1 hm with hm | hm
    · subst hm; simpa using h.1
    · exact lowKeys_mem h.2 hm

theorem mkCx_ok {Ty : Types} {ext : List (Nat × (List AV → Option (Bool × AV)))} {sums : List (Nat × Bool × Sum R)} {fi : FnI} {loops cuts : List (Nat × LSum R)} {c : Code} (hTy : TyOk P Ty ∧ EqOk P Ty) (hm : P.follows .mixedOrders = true)
    (hext : AllExt P ext) (hsum : AllSum P sums) (hf : P.funcs[fi.no]? = some fi.fn) (hen : Enters P fi.no) (hb : fi.fn.body = some c) (hnd : (nodup (keysOf (bodiesOf c)) && lowKeys (bodiesOf c)) = true) (hl : AllLoop P fi.fn.ntmps c loops) (hcut : AllCut P fi.fn.ntmps c cuts) :
    CxOk P (mkCx Ty ext sums fi loops cuts) := by
  rw [Bool.and_eq_true] at hnd
  refine ⟨hTy.1, hTy.2, hm, fun f g h => hext.get h, fun f S h => hsum.get h, fun f fi' h => ?_⟩
  have h : cond (Nat.beq f fi.no) (some fi) none = some fi' := h
  cases hbq : Nat.beq f fi.no with
  | false => rw [hbq] at h; cases h
  | true =>
    rw [hbq] at h; cases h
    have := beq_eq hbq; subst this
    refine ⟨rfl, hf, hen, fun c' hc' => ?_⟩
    rw [hb] at hc'; cases hc'
    refine codeOk_of c (fun key lc hmem S hS => ?_) (fun sc hmem l rest S hfl hS => ?_) (fun key lc hmem S hS => ?_)
    · have hS : cond (Nat.beq fi.no fi.no) (lookF loops key) none = some S := hS
      rw [beq_self] at hS
      have h1 := hl.get hS
      have hlt := lowKeys_mem hnd.2 hmem
      rw [show Nat.blt key 1000000 = true by simpa using hlt] at h1
      have : loopAt c key = lc := by unfold loopAt; rw [nodup_look hnd.1 hmem]; rfl
      rw [this] at h1
      exact h1
    · have hS : cond (Nat.beq fi.no fi.no) (lookF loops (1000000 + l)) none = some S := hS
      rw [beq_self] at hS
      have h1 := hl.get hS
      rw [blt_ge (by omega)] at h1
      simp only [cond_false, show 1000000 + l - 1000000 = l by omega] at h1
      obtain ⟨h1, h2⟩ := h1
      have hmm := labelled_mem hmem hfl
      have hsc : scopeAt c l = sc := by
        unfold scopeAt
        cases hlab : labelled l (scopesOf c) with
        | nil => rw [hlab] at hmm; cases hmm
        | cons x r =>
          rw [hlab] at hmm h2
          have : r = [] := by simpa using h2
          subst this
          simpa using (List.mem_singleton.1 hmm).symm
      have hre : restAt c l = rest := by unfold restAt; rw [hsc, hfl]; rfl
      rw [hsc, hre] at h1
      exact h1
    · have hS : cond (Nat.beq fi.no fi.no) (lookF cuts key) none = some S := hS
      rw [beq_self] at hS
      obtain ⟨h1, h2⟩ := hcut.get hS
      have hmm := keyed_mem hmem
      have hsc : cutAt c key = lc := by
        unfold cutAt
        cases hlab : keyed key (cutsOf c) with
        | nil => rw [hlab] at hmm; cases hmm
        | cons x r =>
          rw [hlab] at hmm h2
          have : r = [] := by simpa using h2
          subst this
          simpa using (List.mem_singleton.1 hmm).symm
      rw [hsc] at h1
      exact h1

theorem enters_of {f : Nat} {fn : Func} {c : Code} (hf : P.funcs[f]? = some fn) (hb : fn.body = some c) (hn : (fn.name == "runtime.NumGoroutine") = false) : Enters P f := by
  intro args w
  have h1 : fn.name ≠ "runtime.NumGoroutine" := by simpa using hn
  simp [callFunc, hf, h1, hb]

/-! ### Functions without a body -/

def add64 (x y c : Int) : Int := Int.ofNat ((x.toNat + y.toNat + c.toNat) % 2 ^ 64)
def carry64 (x y c : Int) : Int := Int.ofNat ((x.toNat + y.toNat + c.toNat) / 2 ^ 64)
def sub64 (x y c : Int) : Int := Int.ofNat ((x.toNat + 2 ^ 64 - y.toNat - c.toNat) % 2 ^ 64)
def borrow64 (x y c : Int) : Int := Int.ofNat (if x.toNat < y.toNat + c.toNat then 1 else 0)

def extAdd : List AV → Option (Bool × AV)
  | [.i .u64 x, .i .u64 y, .i .u64 c] => some (decide (c ≤ 1), .tup [.i .u64 (add64 x y c), .i .u64 (carry64 x y c)])
  | _ => none
def extSub : List AV → Option (Bool × AV)
  | [.i .u64 x, .i .u64 y, .i .u64 c] => some (decide (c ≤ 1), .tup [.i .u64 (sub64 x y c), .i .u64 (borrow64 x y c)])
  | _ => none

theorem toList_three {α : Type} {a : Array α} {x y z : α} (h : a.toList = [x, y, z]) : a = #[x, y, z] := by
  cases a; simp at h; subst h; rfl

theorem run_asInt {k : IntKind} (n : Int) (w : World) : (asInt (.int k n)).run P w = .ok n w := rfl

theorem three_run {nm : String} {x y c : Int} {k1 k2 k3 : IntKind} (w : World) (hc : c.toNat ≤ 1) : (Extern.MathBitsCarry.three nm #[.int k1 x, .int k2 y, .int k3 c]).run P w = .ok (x.toNat, y.toNat, c.toNat) w := by
  show (do
    let c' := (← asInt (.int k3 c)).toNat
    if c' > 1 then unsupported (.noEntry ("extern/math/bits." ++ nm ++ ": a carry that is neither 0 nor 1"))
    pure ((← asInt (.int k1 x)).toNat, (← asInt (.int k2 y)).toNat, c') : Sem (Nat × Nat × Nat)).run P w = _
  rw [Sem.run_bind, run_asInt, Result.andThen_ok]
  have : ¬ (c.toNat > 1) := by omega
  simp only [this, if_false, Sem.run_bind, run_asInt, Result.andThen_ok, Sem.run_pure]

def addRow (args : Array Value) : Sem Value := do
  let (x, y, c) ← Extern.MathBitsCarry.three "Add64" args
  pure (Extern.MathBitsCarry.pair ((x + y + c) % Extern.MathBitsCarry.m64) ((x + y + c) / Extern.MathBitsCarry.m64))

theorem extAdd_ok {f : Nat} {fn : Func} (hf : P.funcs[f]? = some fn) (hname : (fn.name == "runtime.NumGoroutine") = false) (hb : fn.body.isNone = true) (hn : Extern.findNext fn = none)
    (he : Extern.find fn = some addRow) : ExtOk P f extAdd := by
  intro args v h E cargs w hr
  unfold extAdd at h
  split at h
  · rename_i x y c
    simp only [Option.some.injEq, Prod.mk.injEq] at h
    obtain ⟨h1, rfl⟩ := h
    have h1 := of_decide_eq_true h1
    generalize hcl : cargs.toList = cl at hr
    cases hr with
    | cons r1 hr => cases hr with
      | cons r2 hr => cases hr with
        | cons r3 hr =>
          cases hr
          have := toList_three hcl; subst this
          rw [int_of r1, int_of r2, int_of r3]
          rw [run_callFunc_extern hf hname hb hn he]
          refine ⟨.tuple #[.int .u64 (add64 x y c), .int .u64 (carry64 x y c)], ?_, .tup (.cons (.i _ _) (.cons (.i _ _) .nil))⟩
          unfold addRow
          rw [Sem.run_bind, three_run _ (by omega)]
          simp only [Result.andThen_ok, Sem.run_pure]
          rfl
  · cases h

def subRow (args : Array Value) : Sem Value := do
  let (x, y, c) ← Extern.MathBitsCarry.three "Sub64" args
  pure (Extern.MathBitsCarry.pair ((x + Extern.MathBitsCarry.m64 - y - c) % Extern.MathBitsCarry.m64) (if x < y + c then 1 else 0))

theorem extSub_ok {f : Nat} {fn : Func} (hf : P.funcs[f]? = some fn) (hname : (fn.name == "runtime.NumGoroutine") = false) (hb : fn.body.isNone = true) (hn : Extern.findNext fn = none)
    (he : Extern.find fn = some subRow) : ExtOk P f extSub := by
  intro args v h E cargs w hr
  unfold extSub at h
  split at h
  · rename_i x y c
    simp only [Option.some.injEq, Prod.mk.injEq] at h
    obtain ⟨h1, rfl⟩ := h
    have h1 := of_decide_eq_true h1
    generalize hcl : cargs.toList = cl at hr
    cases hr with
    | cons r1 hr => cases hr with
      | cons r2 hr => cases hr with
        | cons r3 hr =>
          cases hr
          have := toList_three hcl; subst this
          rw [int_of r1, int_of r2, int_of r3]
          rw [run_callFunc_extern hf hname hb hn he]
          refine ⟨.tuple #[.int .u64 (sub64 x y c), .int .u64 (borrow64 x y c)], ?_, .tup (.cons (.i _ _) (.cons (.i _ _) .nil))⟩
          unfold subRow
          rw [Sem.run_bind, three_run _ (by omega)]
          simp only [Result.andThen_ok, Sem.run_pure]
          rfl
  · cases h

end
end Go.Ab

/- Parts of a function's code are told by what is told of the whole. Conditions: none. -/
namespace Go.Ab
set_option linter.unusedVariables false
set_option linter.unusedSimpArgs false
open Go

section
variable {P : Program} {R : Type} {C : Cx R}

/-- The long texts that stand in a code, in their order. -/
def longOf (l : List Oper) : List ByteArray :=
  l.flatMap fun o => o.op.operands.toList.filterMap fun | .const (.string s) => cond (Nat.blt 64 s.size) (some s) none | _ => none

def strsOf : Code → List ByteArray
  | .region _ ops _ => longOf ops.toList
  | .seq a b => strsOf a ++ strsOf b
  | .cond _ a b => strsOf a ++ strsOf b
  | .block _ c => strsOf c
  | .loop c => strsOf c
  | .scope c => strsOf c
  | _ => []

def strAtN : List ByteArray → Nat → ByteArray
  | [], _ => ⟨#[]⟩
  | s :: _, 0 => s
  | _ :: r, n + 1 => strAtN r n

theorem allSum_nil : AllSum P ([] : List (Nat × Bool × Sum R)) := trivial
theorem allSum_cons {f : Nat} {keep : Bool} {S : Sum R} {l : List (Nat × Bool × Sum R)} (h : SumOk P f keep S) (e : Enters P f) (t : AllSum P l) : AllSum P ((f, keep, S) :: l) := ⟨⟨h, e⟩, t⟩
theorem keeps_app (n m : Nat) (l r : List (Nat × Option HB)) : Keeps ⟨n, l⟩ ⟨m, l ++ r⟩ := by
  intro i hb h
  simp only [Heap.get] at h ⊢
  rw [look_append]
  by_cases hany : (l.any fun p => p.1 == i) = true
  · rw [if_pos hany]; exact h
  · have : (l.any fun p => p.1 == i) = false := by rw [Bool.not_eq_true] at hany; exact hany
    rw [look_none_of_any this] at h; cases h

open Classical in
/-- A summary whose every leaving keeps what was given. -/
theorem sumOk_keep {f : Nat} {S : Sum R} (h : SumOk P f false S) (hk : ∀ args H K r, S args H K = some r → S args H (fun v H' => if Keeps H H' then K v H' else none) = some r) : SumOk P f true S := by
  intro args H K r hS
  obtain ⟨v, H', hK, hG, _⟩ := h args H _ r (hk args H K r hS)
  by_cases hh : Keeps H H'
  · rw [if_pos hh] at hK; exact ⟨v, H', hK, hG, fun _ => hh⟩
  · rw [if_neg hh] at hK; cases hK

theorem allLoop_nil {nt : Nat} {c : Code} : AllLoop P nt c ([] : List (Nat × LSum R)) := trivial
theorem allLoop_loop {nt : Nat} {c : Code} {q : Nat} {S : LSum R} {l : List (Nat × LSum R)} (hq : Nat.blt q 1000000 = true) (h : LoopOk P nt (loopAt c q) S) (t : AllLoop P nt c l) : AllLoop P nt c ((q, S) :: l) :=
  ⟨by simp only; rw [hq]; exact h, t⟩
theorem allLoop_jump {nt : Nat} {c : Code} {q : Nat} {S : LSum R} {l : List (Nat × LSum R)} (hq : Nat.blt q 1000000 = false) (h : JumpOk P nt (scopeAt c (q - 1000000)) (restAt c (q - 1000000)) S)
    (hu : (labelled (q - 1000000) (scopesOf c)).length = 1) (t : AllLoop P nt c l) : AllLoop P nt c ((q, S) :: l) :=
  ⟨by simp only; rw [hq]; exact ⟨h, hu⟩, t⟩

theorem allCut_nil {nt : Nat} {c : Code} : AllCut P nt c ([] : List (Nat × LSum R)) := trivial
theorem allCut_cons {nt : Nat} {c : Code} {q : Nat} {S : LSum R} {l : List (Nat × LSum R)} (h : CutOk P nt (cutAt c q) S) (hu : (keyed q (cutsOf c)).length = 1) (t : AllCut P nt c l) : AllCut P nt c ((q, S) :: l) := ⟨⟨h, hu⟩, t⟩

/-- Part of a code. -/
inductive In : Code → Code → Prop
  | refl (c : Code) : In c c
  | seqL {a b c : Code} (h : In c a) : In c (.seq a b)
  | seqR {a b c : Code} (h : In c b) : In c (.seq a b)
  | condL {x : Operand} {a b c : Code} (h : In c a) : In c (.cond x a b)
  | condR {x : Operand} {a b c : Code} (h : In c b) : In c (.cond x a b)
  | block {i : Nat} {a c : Code} (h : In c a) : In c (.block i a)
  | loop {a c : Code} (h : In c a) : In c (.loop a)
  | scope {a c : Code} (h : In c a) : In c (.scope a)

theorem In.ok {fi : FnI} {c d : Code} (h : In c d) : CodeOk P C fi d → CodeOk P C fi c := by
  induction h with
  | refl c => exact id
  | seqL _ ih => exact fun k => ih k.1
  | seqR _ ih => exact fun k => ih k.2.1
  | condL _ ih => exact fun k => ih k.1
  | condR _ ih => exact fun k => ih k.2
  | block _ ih => exact fun k => ih k
  | loop _ ih => exact fun k => ih k.1
  | scope _ ih => exact fun k => ih k.1

theorem bodiesOf_in : ∀ {c : Code} {k : Nat} {lc : Code}, (k, lc) ∈ bodiesOf c → In lc c
  | .seq a b, k, lc, h => by
    rcases List.mem_append.1 h with h | h
    · exact .seqL (bodiesOf_in h)
    · exact .seqR (bodiesOf_in h)
  | .cond _ a b, k, lc, h => by
    rcases List.mem_append.1 h with h | h
    · exact .condL (bodiesOf_in h)
    · exact .condR (bodiesOf_in h)
  | .block _ c, k, lc, h => .block (bodiesOf_in (c := c) h)
  | .loop c, k, lc, h => by
    rcases List.mem_append.1 h with h | h
    · cases hf : firstRegion c with
      | none => rw [hf] at h; cases h
      | some q =>
        rw [hf] at h
        have := List.mem_singleton.1 h
        cases this
        exact .loop (.refl c)
    · exact .loop (bodiesOf_in h)
  | .scope c, k, lc, h => .scope (bodiesOf_in (c := c) h)
  | .skip, _, _, h => by cases h
  | .region .., _, _, h => by cases h
  | .rangeFunc .., _, _, h => by cases h
  | .exit .., _, _, h => by cases h
  | .label .., _, _, h => by cases h
  | .goto .., _, _, h => by cases h
  | .ret, _, _, h => by cases h
  | .refuse .., _, _, h => by cases h

theorem scopesOf_in : ∀ {c : Code} {lc : Code}, lc ∈ scopesOf c → In lc c
  | .seq a b, lc, h => by
    rcases List.mem_append.1 h with h | h
    · exact .seqL (scopesOf_in h)
    · exact .seqR (scopesOf_in h)
  | .cond _ a b, lc, h => by
    rcases List.mem_append.1 h with h | h
    · exact .condL (scopesOf_in h)
    · exact .condR (scopesOf_in h)
  | .block _ c, lc, h => .block (scopesOf_in (c := c) h)
  | .loop c, lc, h => .loop (scopesOf_in (c := c) h)
  | .scope c, lc, h => by
    rcases List.mem_cons.1 h with h | h
    · subst h; exact .scope (.refl _)
    · exact .scope (scopesOf_in h)
  | .skip, _, h => by cases h
  | .region .., _, h => by cases h
  | .rangeFunc .., _, h => by cases h
  | .exit .., _, h => by cases h
  | .label .., _, h => by cases h
  | .goto .., _, h => by cases h
  | .ret, _, h => by cases h
  | .refuse .., _, h => by cases h

theorem loopAt_ok {fi : FnI} {c : Code} {key : Nat} (h : CodeOk P C fi c) : CodeOk P C fi (loopAt c key) := by
  unfold loopAt
  cases hl : lookF (bodiesOf c) key with
  | none => trivial
  | some lc => exact (bodiesOf_in (lookF_mem hl)).ok h

theorem cutsOf_in : ∀ {c : Code} {k : Nat} {lc : Code}, (k, lc) ∈ cutsOf c → In lc c
  | .seq a b, k, lc, h => by
    rcases List.mem_append.1 h with h | h
    · cases hf : firstRegion b with
      | none => rw [hf] at h; cases h
      | some q =>
        rw [hf] at h
        have := List.mem_singleton.1 h
        cases this
        exact .seqR (.refl _)
    · rcases List.mem_append.1 h with h | h
      · exact .seqL (cutsOf_in h)
      · exact .seqR (cutsOf_in h)
  | .cond _ a b, k, lc, h => by
    rcases List.mem_append.1 h with h | h
    · exact .condL (cutsOf_in h)
    · exact .condR (cutsOf_in h)
  | .block _ c, k, lc, h => .block (cutsOf_in (c := c) h)
  | .loop c, k, lc, h => .loop (cutsOf_in (c := c) h)
  | .scope c, k, lc, h => .scope (cutsOf_in (c := c) h)
  | .skip, _, _, h => by cases h
  | .region .., _, _, h => by cases h
  | .rangeFunc .., _, _, h => by cases h
  | .exit .., _, _, h => by cases h
  | .label .., _, _, h => by cases h
  | .goto .., _, _, h => by cases h
  | .ret, _, _, h => by cases h
  | .refuse .., _, _, h => by cases h

theorem keyed_sub {k : Nat} : ∀ {l : List (Nat × Code)} {b : Code}, b ∈ keyed k l → (k, b) ∈ l
  | p :: r, b, h => by
    rw [keyed] at h
    cases hb : Nat.beq p.1 k with
    | false => rw [hb] at h; exact List.mem_cons_of_mem _ (keyed_sub h)
    | true =>
      rw [hb] at h
      have := beq_eq hb
      rcases List.mem_cons.1 h with h | h
      · subst h; subst this; exact List.mem_cons_self
      · exact List.mem_cons_of_mem _ (keyed_sub h)

theorem cutAt_ok {fi : FnI} {c : Code} {key : Nat} (h : CodeOk P C fi c) : CodeOk P C fi (cutAt c key) := by
  unfold cutAt
  cases hl : keyed key (cutsOf c) with
  | nil => trivial
  | cons b r => exact (cutsOf_in (keyed_sub (by rw [hl]; exact List.mem_cons_self))).ok h

theorem labelled_sub {l : Nat} : ∀ {cs : List Code} {c : Code}, c ∈ labelled l cs → c ∈ cs
  | d :: r, c, h => by
    rw [labelled] at h
    cases hf : findLabel d l with
    | none => rw [hf] at h; exact List.mem_cons_of_mem _ (labelled_sub h)
    | some x =>
      rw [hf] at h
      rcases List.mem_cons.1 h with h | h
      · subst h; exact List.mem_cons_self
      · exact List.mem_cons_of_mem _ (labelled_sub h)

theorem restAt_ok {fi : FnI} {c : Code} {l : Nat} (h : CodeOk P C fi c) : CodeOk P C fi (restAt c l) := by
  unfold restAt
  cases hf : findLabel (scopeAt c l) l with
  | none => trivial
  | some rest =>
    refine codeOk_label ?_ hf
    unfold scopeAt
    cases hl : labelled l (scopesOf c) with
    | nil => trivial
    | cons sc r =>
      have : sc ∈ labelled l (scopesOf c) := by rw [hl]; exact List.mem_cons_self
      exact (scopesOf_in (labelled_sub this)).ok h

end
end Go.Ab

/- A law's arguments, read: flat ones. What is told of a law's function is its row. Conditions: none. -/
namespace Go.Ab
set_option linter.unusedVariables false
set_option linter.unusedSimpArgs false
open Go

/-- The cells of a type that holds no address: their kinds. -/
def flatFs (P : Program) (g : Nat → Option (List SK)) : List (Nat × Nat) → Nat → Option (List SK)
  | [], _ => some []
  | (off, t) :: r, n => cond (Nat.beq off n) ((g t).bind fun x => (flatFs P g r (n + x.length)).bind fun y => some (x ++ y)) none

def places (c e : Nat) : Nat → Nat → List (Nat × Nat)
  | 0, _ => []
  | m + 1, i => (i * c, e) :: places c e m (i + 1)

def flatD (P : Program) (g : Nat → Option (List SK)) : TypeDesc → Option (List SK)
  | .bool => some [.b]
  | .int k => some [.i k]
  | .string => some [.s]
  | .struct fs => flatFs P g (fs.toList.map fun f => (f.offset, f.type)) 0
  | .array n e => flatFs P g (places (P.cellsOf e) e n 0) 0
  | _ => none

def flatK (P : Program) : Nat → Nat → Option (List SK)
  | 0, _ => none
  | d + 1, t => ((P.underlying t).bind (flatD P (flatK P d))).bind fun sh => cond (Nat.beq sh.length (P.cellsOf t)) (some sh) none

def wfs : List AV → Prop
  | [] => True
  | .i k n :: r => (Lit.int k n).wf = true ∧ wfs r
  | .s s :: r => s.size ≤ maxLen ∧ wfs r
  | _ :: r => wfs r

theorem wfs_append : ∀ {a b : List AV}, wfs a → wfs b → wfs (a ++ b)
  | [], b, _, h => h
  | v :: a, b, h, k => by
    cases v <;> simp only [List.cons_append, wfs] at h ⊢ <;> first | exact ⟨h.1, wfs_append h.2 k⟩ | exact wfs_append h k

theorem ofKinds_append : ∀ {a b : List SK} {x y : List AV}, ofKinds a x → ofKinds b y → ofKinds (a ++ b) (x ++ y)
  | [], b, [], y, _, h => h
  | k :: a, b, v :: x, y, h, h' => ⟨h.1, ofKinds_append h.2 h'⟩
  | [], _, _ :: _, _, h, _ => h.elim
  | _ :: _, _, [], _, h, _ => h.elim

theorem un_of : ∀ {sh : List SK} {vs : List AV}, ofKinds sh vs → ∃ x : Tup sh, Tup.all sh x = vs
  | [], [], _ => ⟨(), rfl⟩
  | [k], [v], h => by
    obtain ⟨⟨x, hx⟩, _⟩ := h
    exact ⟨x, by simp only [Tup.all]; rw [SK.un_av hx]⟩
  | k :: k' :: ks, v :: vs, h => by
    obtain ⟨⟨x, hx⟩, h2⟩ := h
    obtain ⟨y, hy⟩ := un_of h2
    exact ⟨(x, y), by simp only [Tup.all]; rw [SK.un_av hx, hy]⟩
  | [], _ :: _, h => h.elim
  | _ :: _, [], h => h.elim
  | [_], _ :: _ :: _, h => h.2.elim

section
variable {P : Program} {H : Type} {enc : TypeId × Value → H} {w : World} {base : Nat} {sp : Nat → Bool} {held : Bool}

def FlatOk (sh : List SK) (cs : List Value) (ps : List MemPlace) : Prop :=
  ∃ vs, ofKinds sh vs ∧ wfs vs ∧ ps = [] ∧ (∀ E, VRelL E vs cs) ∧ cs.length = sh.length

theorem flat_parts {g : Nat → Option (List SK)} {tr : Nat → List Value → Option (DataW H × List MemPlace)} {cs : List Value} (hg : ∀ t sh x ps c, g t = some sh → tr t c = some (x, ps) → FlatOk sh c ps) (hgl : ∀ t sh, g t = some sh → sh.length = P.cellsOf t) :
    ∀ (l : List (Nat × Nat)) (n : Nat) (sh : List SK) (xs : List (DataW H × List MemPlace)), flatFs P g l n = some sh → xs.length = l.length → (∀ (i : Nat) (p : Nat × Nat), l[i]? = some p → tr p.2 ((cs.drop p.1).take (P.cellsOf p.2)) = xs[i]?) →
      n + sh.length ≤ cs.length → FlatOk sh ((cs.drop n).take sh.length) (xs.flatMap (·.2))
  | [], n, sh, [], h, _, hx, hl => by
    cases h
    exact ⟨[], trivial, trivial, rfl, fun E => by simpa using VRelL.nil, by simp⟩
  | (off, t) :: l, n, sh, (x1, p1) :: ys, h, hxl, hx, hl => by
    rw [flatFs] at h
    obtain ⟨hoff, h⟩ := cond_some h
    have := beq_eq hoff; subst this
    cases hgt : g t with
    | none => rw [hgt] at h; cases h
    | some s1 =>
      rw [hgt, Option.bind_some] at h
      cases hr : flatFs P g l (off + s1.length) with
      | none => rw [hr] at h; cases h
      | some s2 =>
        rw [hr, Option.bind_some] at h
        cases h
        have h1 : tr t ((cs.drop off).take (P.cellsOf t)) = some (x1, p1) := hx 0 (off, t) rfl
        rw [List.length_append] at hl
        obtain ⟨v1, k1, w1, e1, r1, l1⟩ := hg t s1 x1 p1 _ hgt h1
        obtain ⟨v2, k2, w2, e2, r2, l2⟩ := flat_parts hg hgl l (off + s1.length) s2 ys hr (by simpa using hxl) (fun i p hp => by have := hx (i + 1) p (by simpa using hp); simpa using this) (by omega)
        have hsp : (cs.drop off).take (s1 ++ s2).length = (cs.drop off).take (P.cellsOf t) ++ (cs.drop (off + s1.length)).take s2.length := by
          rw [List.length_append, List.take_add, ← hgl t s1 hgt, List.drop_drop]
        refine ⟨v1 ++ v2, ofKinds_append k1 k2, wfs_append w1 w2, ?_, fun E => ?_, ?_⟩
        · simp only [List.flatMap_cons, e1, e2]; rfl
        · rw [hsp]; exact (r1 E).append (r2 E)
        · simp only [List.length_take, List.length_drop, List.length_append]; omega
  | [], _, _, _ :: _, _, hl, _, _ => by simp at hl
  | _ :: _, _, _, [], _, hl, _, _ => by simp at hl

theorem places_get (c e : Nat) : ∀ (m i j : Nat) (p : Nat × Nat), (places c e m i)[j]? = some p → p = ((i + j) * c, e) ∧ j < m
  | 0, i, j, p, h => by simp [places] at h
  | m + 1, i, 0, p, h => by simp [places] at h; exact ⟨by rw [← h]; rfl, by omega⟩
  | m + 1, i, j + 1, p, h => by
    simp only [places, List.getElem?_cons_succ] at h
    obtain ⟨h1, h2⟩ := places_get c e m (i + 1) j p h
    exact ⟨by rw [h1, show i + 1 + j = i + (j + 1) by omega], by omega⟩

theorem places_len (c e : Nat) : ∀ (m i : Nat), (places c e m i).length = m
  | 0, i => rfl
  | m + 1, i => by simp [places, places_len c e m (i + 1)]

theorem flat_len (d t : Nat) (sh : List SK) (h : flatK P d t = some sh) : sh.length = P.cellsOf t := by
  cases d with
  | zero => cases h
  | succ d =>
    rw [flatK] at h
    cases ho : (P.underlying t).bind (flatD P (flatK P d)) with
    | none => rw [ho] at h; cases h
    | some s =>
      rw [ho, Option.bind_some] at h
      obtain ⟨h1, h2⟩ := cond_some h
      cases h2; exact beq_eq h1

theorem flat_trod : ∀ (d t : Nat) (sh : List SK) (fuel : Nat) (x : DataW H) (ps : List MemPlace) (cs : List Value), flatK P d t = some sh → DataW.trod enc P w base sp held fuel t cs = some (x, ps) → FlatOk sh cs ps
  | 0, t, sh, fuel, x, ps, cs, h, _ => by cases h
  | d + 1, t, sh, fuel, x, ps, cs, h, ht => by
    have hlen := flat_len _ _ _ h
    rw [flatK] at h
    cases hu : P.underlying t with
    | none => rw [hu] at h; cases h
    | some u =>
      rw [hu, Option.bind_some] at h
      cases hd : flatD P (flatK P d) u with
      | none => rw [hd] at h; cases h
      | some s =>
        rw [hd, Option.bind_some] at h
        obtain ⟨_, h⟩ := cond_some h
        cases h
        cases u with
        | bool =>
          cases hd
          obtain ⟨b, rfl, hx⟩ := DataW.trod_bool hu ht
          cases hx
          exact ⟨[.b b], ⟨⟨b, rfl⟩, trivial⟩, trivial, rfl, fun E => .cons (.b _) .nil, rfl⟩
        | int k =>
          cases hd
          obtain ⟨n, rfl, hx, hw⟩ := DataW.trod_int hu ht
          cases hx
          exact ⟨[.i k n], ⟨⟨n, by simp [SK.un]⟩, trivial⟩, ⟨hw, trivial⟩, rfl, fun E => .cons (.i _ _) .nil, rfl⟩
        | string =>
          cases hd
          obtain ⟨s, rfl, hx, hw⟩ := DataW.trod_string hu ht
          cases hx
          exact ⟨[.s s], ⟨⟨s, rfl⟩, trivial⟩, ⟨hw, trivial⟩, rfl, fun E => .cons (.s _) .nil, rfl⟩
        | struct fs =>
          obtain ⟨xs, m, rfl, hx, hcl, hxl, hall⟩ := DataW.trod_struct hu ht
          cases hx
          have := flat_parts (P := P) (g := flatK P d) (tr := DataW.trod enc P w base sp held m) (cs := cs) (fun t sh x ps c h1 h2 => flat_trod d t sh m x ps c h1 h2) (fun t sh h => flat_len d t sh h)
            (fs.toList.map fun f : Field => (f.offset, f.type)) 0 sh xs hd (by simp [hxl]) (fun i p hp => by
              rw [List.getElem?_map] at hp
              cases hf : fs.toList[i]? with
              | none => rw [hf] at hp; cases hp
              | some f =>
                rw [hf] at hp; cases hp
                exact hall i f (by simpa using hf)) (by omega)
          rw [List.drop_zero, List.take_of_length_le (by omega)] at this
          exact this
        | array n e =>
          obtain ⟨xs, m, rfl, hx, hcl, hxl, hall⟩ := DataW.trod_array hu ht
          cases hx
          have := flat_parts (P := P) (g := flatK P d) (tr := DataW.trod enc P w base sp held m) (cs := cs) (fun t sh x ps c h1 h2 => flat_trod d t sh m x ps c h1 h2) (fun t sh h => flat_len d t sh h)
            (places (P.cellsOf e) e n 0) 0 sh xs hd (by rw [places_len, hxl]) (fun i p hp => by
              obtain ⟨rfl, hi⟩ := places_get _ _ _ _ _ _ hp
              rw [Nat.zero_add]
              exact hall i hi) (by omega)
          rw [List.drop_zero, List.take_of_length_le (by omega)] at this
          exact this
        | _ => cases hd

/-- A flat argument: its cells, and what it is to the evaluator. -/
theorem flat_arg {d t : Nat} {sh : List SK} {v : Value} {x : DataW H} {ps : List MemPlace} (hf : flatK P d t = some sh) (h : DataW.Trod enc P w base sp held t v x ps) :
    ∃ y : Tup sh, wfs (Tup.all sh y) ∧ ps = [] ∧ ∀ E, VRelL E (Tup.all sh y) v.cells.toList := by
  obtain ⟨fuel, hfu⟩ := h
  obtain ⟨vs, k, wf, e, r, _⟩ := flat_trod d t sh fuel x ps _ hf hfu
  obtain ⟨y, hy⟩ := un_of k
  exact ⟨y, by rw [hy]; exact wf, e, fun E => by rw [hy]; exact r E⟩

end
end Go.Ab

/- From what is told of a law's function to its call. Conditions: none. -/
namespace Go.Ab
set_option linter.unusedVariables false
set_option linter.unusedSimpArgs false
open Go Go.RowKit

theorem HRel.empty (w : World) : HRel (fun _ => none) ⟨0, []⟩ w :=
  ⟨fun _ _ => rfl, fun id hb h => (by cases h), fun i j hi hj ei ej r h => (by cases h), fun id h => absurd h (Nat.not_lt_zero _)⟩

theorem one_of {E : Env} {v : AV} {x : Value} (h : VRelL E [v] [x]) : VRel E v x := by cases h with | cons h _ => exact h

def verdict : AV → Heap → Option Bool
  | .b q, _ => some q
  | _, _ => none

/-- A law whose arguments hold no address: it returns true, and nothing that was there has turned. -/
theorem law_flat {P : Program} {f : Nat} {keep : Bool} {S : Sum Bool} (hS : SumOk P f keep S) {args : List AV} {cargs : Array Value} (ha : ∀ E, VRelL E args cargs.toList) (h : S args ⟨0, []⟩ verdict = some true) (w : World) :
    Calls P f cargs w fun e w' => e = .returned (.bool true) ∧ Below w.heap.size w w' := by
  obtain ⟨v, H', hK, hG, _⟩ := hS _ _ _ _ h
  refine (hG (fun _ => none) cargs w (ha _) (HRel.empty w)).mono ?_
  rintro e w' ⟨x, E', rfl, hv, hH, hfr, _⟩
  unfold verdict at hK
  split at hK
  · cases hK
    cases hv
    refine ⟨rfl, hfr.os, hfr.tape, hfr.output, hfr.size, fun k hk => hfr.keep k hk ?_⟩
    rintro ⟨id, hb, ent, hg, _⟩
    cases hg
  · cases hK

theorem okWide_array {P : Program} {w : World} {r : Reach} {base : Nat} {t : TypeId} {v : Value} {n : Nat} {e : TypeId} (ht : P.underlying t = some (.array n e)) (h : Value.okWide P w r base t v) : ∃ cs, v = .agg cs ∧ cs.size = P.cellsOf t := by
  simp only [Value.okWide, ht] at h
  obtain ⟨cs, h1, h2, _⟩ := h
  exact ⟨cs, h1, h2⟩

end Go.Ab
