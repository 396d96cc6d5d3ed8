/- What the evaluator needs to know of a program: checked by the kernel. Conditions: none. -/
import Derived.Test.YtnbmconaglehbaaAb18
import Derived.Laws.LoneSync
import Derived.KernelRfl
namespace Go.Ab
set_option linter.unusedVariables false
set_option linter.unusedSimpArgs false
open Go

def lookF {α : Type _} : List (Nat × α) → Nat → Option α
  | [], _ => none
  | (j, x) :: r, i => cond (Nat.beq j i) (some x) (lookF r i)

theorem lookF_mem {α : Type _} : ∀ {l : List (Nat × α)} {i : Nat} {x : α}, lookF l i = some x → (i, x) ∈ l
  | (j, y) :: r, i, x, h => by
    rw [lookF] at h
    cases hb : Nat.beq j i with
    | true => rw [hb] at h; cases h; have := beq_eq hb; subst this; exact List.mem_cons_self
    | false => rw [hb] at h; exact List.mem_cons_of_mem _ (lookF_mem h)

/-! ### Types -/

def zrel1 : AV → Value → Bool
  | .b x, .bool y => x == y
  | .i k x, .int k' y => decide (k = k') && x == y
  | .s x, .string y => x.data == y.data
  | .np, .pointer none => true
  | .nsl, .slice none n c => Nat.beq n 0 && Nat.beq c 0
  | .nf, .nilFunc => true
  | .ni, .nilIface => true
  | .nm, .map none => true
  | .junk, _ => true
  | _, _ => false

def zrelL : List AV → List Value → Bool
  | [], [] => true
  | v :: vs, x :: xs => zrel1 v x && zrelL vs xs
  | _, _ => false

def zrel : AV → Value → Bool
  | .agg cs, .agg vs => zrelL cs vs.toList
  | .mix pre sh n xs post, .agg vs => zrelL (pre ++ flatRow sh xs ++ post) vs.toList && Nat.beq xs.length n
  | v, x => zrel1 v x

theorem zrel1_sound (E : Env) (v : AV) (x : Value) (h : zrel1 v x = true) : VRel E v x := by
  unfold zrel1 at h
  split at h
  · rename_i x y
    have : x = y := by simpa using h
    subst this; exact .b _
  · rename_i k x k' y
    rw [Bool.and_eq_true] at h
    have h1 := of_decide_eq_true h.1
    have h2 : x = y := by simpa using h.2
    subst h1; subst h2; exact .i _ _
  · rename_i x y
    have : x = y := by cases x; cases y; simp at h; subst h; rfl
    subst this; exact .s _
  · exact .np
  · rw [Bool.and_eq_true] at h
    have h1 := beq_eq h.1; have h2 := beq_eq h.2; subst h1; subst h2; exact .nsl
  · exact .nf
  · exact .ni
  · exact .nm
  · exact .junk _
  · cases h

theorem zrelL_sound (E : Env) : ∀ (v : List AV) (x : List Value), zrelL v x = true → VRelL E v x
  | [], [], _ => .nil
  | v :: vs, x :: xs, h => by
    simp only [zrelL, Bool.and_eq_true] at h
    exact .cons (zrel1_sound E v x h.1) (zrelL_sound E vs xs h.2)
  | [], _ :: _, h => by simp [zrelL] at h
  | _ :: _, [], h => by simp [zrelL] at h

theorem zrel_sound (E : Env) (v : AV) (x : Value) (h : zrel v x = true) : VRel E v x := by
  unfold zrel at h
  split at h
  · exact .agg (zrelL_sound E _ _ h)
  · rw [Bool.and_eq_true] at h
    exact .mix (zrelL_sound E _ _ h.1) (beq_eq h.2)
  · exact zrel1_sound E _ _ h

def tyChk (P : Program) (t : Nat) (i : TI) : Bool :=
  match P.info? t, P.underlying t with
  | some info, some d => decide (tdOf d = some i.d) && Nat.beq info.size i.size && Nat.beq info.bytes i.bytes && (match info.zero with | some z => zrel i.zero z | none => false) &&
      (match d with | .struct fields => !P.stoodInHeld t && !P.eqGuardType P.depth t && fields.toList.all fun f => !(f.name == "_") | _ => true)
  | _, _ => false

theorem tyOk_of {P : Program} {l : List (Nat × TI)} (h : (l.all fun p => tyChk P p.1 p.2) = true) : TyOk P (lookF l) ∧ EqOk P (lookF l) := by
  have key : ∀ t i, lookF l t = some i → tyChk P t i = true := fun t i hl => List.all_eq_true.1 h _ (lookF_mem hl)
  refine ⟨⟨fun t i hl => ?_⟩, ⟨fun t i fs hl hd => ?_⟩⟩
  · have hk := key t i hl
    unfold tyChk at hk
    split at hk
    · rename_i info d h1 h2
      simp only [Bool.and_eq_true] at hk
      obtain ⟨⟨⟨⟨k1, k2⟩, k3⟩, k4⟩, k5⟩ := hk
      split at k4
      · rename_i z hz
        exact ⟨info, d, h1, h2, of_decide_eq_true k1, beq_eq k2, beq_eq k3, z, hz, fun E => zrel_sound E _ _ k4⟩
      · cases k4
    · cases hk
  · have hk := key t i hl
    unfold tyChk at hk
    split at hk
    · rename_i info d h1 h2
      simp only [Bool.and_eq_true] at hk
      obtain ⟨⟨⟨⟨k1, k2⟩, k3⟩, k4⟩, k5⟩ := hk
      have k1 := of_decide_eq_true k1
      rw [hd] at k1
      obtain ⟨fields, rfl, hf⟩ := struct_of k1
      simp only [Bool.and_eq_true, Bool.not_eq_true'] at k5
      refine ⟨k5.1.1, k5.1.2, fun fields' hu f hm => ?_⟩
      rw [h2] at hu; cases hu
      have := List.all_eq_true.1 k5.2 f hm
      simpa using this
    · cases hk

/-! ### Code -/

def bodiesOf : Code → List (Nat × Code)
  | .seq a b => bodiesOf a ++ bodiesOf b
  | .cond _ a b => bodiesOf a ++ bodiesOf b
  | .block _ c => bodiesOf c
  | .loop c => (match firstRegion c with | some k => [(k, c)] | none => []) ++ bodiesOf c
  | .scope c => bodiesOf c
  | _ => []

def scopesOf : Code → List Code
  | .seq a b => scopesOf a ++ scopesOf b
  | .cond _ a b => scopesOf a ++ scopesOf b
  | .block _ c => scopesOf c
  | .loop c => scopesOf c
  | .scope c => c :: scopesOf c
  | _ => []

section
variable {P : Program} {R : Type} {C : Cx R}

theorem codeOk_of {fi : FnI} : ∀ (c : Code), (∀ key lc, (key, lc) ∈ bodiesOf c → ∀ S, C.loop fi.no key = some S → LoopOk P fi.fn.ntmps lc S) →
    (∀ sc ∈ scopesOf c, ∀ l rest S, findLabel sc l = some rest → C.loop fi.no (1000000 + l) = some S → JumpOk P fi.fn.ntmps sc rest S) → CodeOk P C fi c
  | .seq a b, h, k => ⟨codeOk_of a (fun key lc hm => h key lc (List.mem_append_left _ hm)) (fun sc hm => k sc (List.mem_append_left _ hm)),
      codeOk_of b (fun key lc hm => h key lc (List.mem_append_right _ hm)) (fun sc hm => k sc (List.mem_append_right _ hm))⟩
  | .cond _ a b, h, k => ⟨codeOk_of a (fun key lc hm => h key lc (List.mem_append_left _ hm)) (fun sc hm => k sc (List.mem_append_left _ hm)),
      codeOk_of b (fun key lc hm => h key lc (List.mem_append_right _ hm)) (fun sc hm => k sc (List.mem_append_right _ hm))⟩
  | .block _ c, h, k => codeOk_of c h k
  | .loop c, h, k => ⟨codeOk_of c (fun key lc hm => h key lc (List.mem_append_right _ hm)) k, fun key S hk hS => h key c (List.mem_append_left _ (by rw [hk]; exact List.mem_cons_self)) S hS⟩
  | .scope c, h, k => ⟨codeOk_of c h (fun sc hm => k sc (List.mem_cons_of_mem _ hm)), fun l rest S hl hS => k c List.mem_cons_self l rest S hl hS⟩
  | .skip, _, _ => trivial
  | .region .., _, _ => trivial
  | .rangeFunc .., _, _ => trivial
  | .exit .., _, _ => trivial
  | .label .., _, _ => trivial
  | .goto .., _, _ => trivial
  | .ret, _, _ => trivial
  | .refuse .., _, _ => trivial

def loopAt (c : Code) (key : Nat) : Code := (lookF (bodiesOf c) key).getD .skip

def labelled (l : Nat) : List Code → List Code
  | [] => []
  | c :: r => match findLabel c l with | some _ => c :: labelled l r | none => labelled l r

/-- The scope in which a label stands, and what is behind it. -/
def scopeAt (c : Code) (l : Nat) : Code := match labelled l (scopesOf c) with | sc :: _ => sc | [] => .skip
def restAt (c : Code) (l : Nat) : Code := (findLabel (scopeAt c l) l).getD .skip

def keysOf : List (Nat × Code) → List Nat
  | [] => []
  | p :: r => p.1 :: keysOf r

def nodup : List Nat → Bool
  | [] => true
  | x :: r => !has r x && nodup r

theorem keysOf_mem : ∀ {l : List (Nat × Code)} {k : Nat} {c : Code}, (k, c) ∈ l → k ∈ keysOf l
  | p :: r, k, c, h => by
    rcases List.mem_cons.1 h with h | h
    · subst h; exact List.mem_cons_self
    · exact List.mem_cons_of_mem _ (keysOf_mem h)

theorem nodup_look : ∀ {l : List (Nat × Code)}, nodup (keysOf l) = true → ∀ {k : Nat} {c : Code}, (k, c) ∈ l → lookF l k = some c
  | (j, d) :: r, h, k, c, hm => by
    simp only [keysOf, nodup, Bool.and_eq_true, Bool.not_eq_true'] at h
    rw [lookF]
    rcases List.mem_cons.1 hm with hm | hm
    · cases hm; rw [beq_self]; rfl
    · have : j ≠ k := fun hh => by
        subst hh
        have := has_iff.2 (keysOf_mem hm)
        rw [h.1] at this; cases this
      rw [beq_ne this]
      exact nodup_look h.2 hm

/-- A row of summaries, each sound. -/
def AllSum (P : Program) : List (Nat × Bool × Sum R) → Prop
  | [] => True
  | p :: r => (SumOk P p.1 p.2.1 p.2.2 ∧ Enters P p.1) ∧ AllSum P r

def AllExt (P : Program) : List (Nat × (List AV → Option (Bool × AV))) → Prop
  | [] => True
  | p :: r => ExtOk P p.1 p.2 ∧ AllExt P r

/-- A function's loops (keys below 1000000) and its gotos' (1000000 and the label). -/
def AllLoop (P : Program) (nt : Nat) (c : Code) : List (Nat × LSum R) → Prop
  | [] => True
  | p :: r => (cond (Nat.blt p.1 1000000) (LoopOk P nt (loopAt c p.1) p.2) (JumpOk P nt (scopeAt c (p.1 - 1000000)) (restAt c (p.1 - 1000000)) p.2 ∧ (labelled (p.1 - 1000000) (scopesOf c)).length = 1)) ∧ AllLoop P nt c r

theorem AllSum.get : ∀ {l : List (Nat × Bool × Sum R)} {f : Nat} {S : Bool × Sum R}, AllSum P l → lookF l f = some S → SumOk P f S.1 S.2 ∧ Enters P f
  | (j, S') :: r, f, S, h, hl => by
    rw [lookF] at hl
    cases hb : Nat.beq j f with
    | true => rw [hb] at hl; cases hl; have := beq_eq hb; subst this; exact h.1
    | false => rw [hb] at hl; exact AllSum.get h.2 hl

theorem AllExt.get : ∀ {l : List (Nat × (List AV → Option (Bool × AV)))} {f : Nat} {g : List AV → Option (Bool × AV)}, AllExt P l → lookF l f = some g → ExtOk P f g
  | (j, S') :: r, f, S, h, hl => by
    rw [lookF] at hl
    cases hb : Nat.beq j f with
    | true => rw [hb] at hl; cases hl; have := beq_eq hb; subst this; exact h.1
    | false => rw [hb] at hl; exact AllExt.get h.2 hl

theorem AllLoop.get {nt : Nat} {c : Code} : ∀ {l : List (Nat × LSum R)} {k : Nat} {S : LSum R}, AllLoop P nt c l → lookF l k = some S →
    (cond (Nat.blt k 1000000) (LoopOk P nt (loopAt c k) S) (JumpOk P nt (scopeAt c (k - 1000000)) (restAt c (k - 1000000)) S ∧ (labelled (k - 1000000) (scopesOf c)).length = 1))
  | (j, S') :: r, f, S, h, hl => by
    rw [lookF] at hl
    cases hb : Nat.beq j f with
    | true => rw [hb] at hl; cases hl; have := beq_eq hb; subst this; exact h.1
    | false => rw [hb] at hl; exact AllLoop.get h.2 hl

theorem labelled_mem {l : Nat} : ∀ {cs : List Code} {c rest : Code}, c ∈ cs → findLabel c l = some rest → c ∈ labelled l cs
  | d :: r, c, rest, hm, hl => by
    rw [labelled]
    rcases List.mem_cons.1 hm with hm | hm
    · subst hm; rw [hl]; exact List.mem_cons_self
    · have := labelled_mem hm hl
      cases findLabel d l with
      | none => exact this
      | some _ => exact List.mem_cons_of_mem _ this

/-- A context: what is told of the callees, the function itself, its loops. -/
def mkCx (Ty : Types) (ext : List (Nat × (List AV → Option (Bool × AV)))) (sums : List (Nat × Bool × Sum R)) (fi : FnI) (loops : List (Nat × LSum R)) : Cx R :=
  { Ty := Ty, fns := fun f => cond (Nat.beq f fi.no) (some fi) none, sum := lookF sums, loop := fun f key => cond (Nat.beq f fi.no) (lookF loops key) none, ext := lookF ext, fuel := 1000 }

def lowKeys : List (Nat × Code) → Bool
  | [] => true
  | p :: r => Nat.blt p.1 1000000 && lowKeys r

theorem lowKeys_mem : ∀ {l : List (Nat × Code)}, lowKeys l = true → ∀ {k : Nat} {c : Code}, (k, c) ∈ l → k < 1000000
  | p :: r, h, k, c, hm => by
    simp only [lowKeys, Bool.and_eq_true] at h
    rcases List.mem_cons.1 hm with hm | hm
    · subst hm; simpa using h.1
    · exact lowKeys_mem h.2 hm

theorem mkCx_ok {Ty : Types} {ext : List (Nat × (List AV → Option (Bool × AV)))} {sums : List (Nat × Bool × Sum R)} {fi : FnI} {loops : List (Nat × LSum R)} {c : Code} (hTy : TyOk P Ty ∧ EqOk P Ty) (hm : P.follows .mixedOrders = true)
    (hext : AllExt P ext) (hsum : AllSum P sums) (hf : P.funcs[fi.no]? = some fi.fn) (hen : Enters P fi.no) (hb : fi.fn.body = some c) (hnd : (nodup (keysOf (bodiesOf c)) && lowKeys (bodiesOf c)) = true) (hl : AllLoop P fi.fn.ntmps c loops) :
    CxOk P (mkCx Ty ext sums fi loops) := by
  rw [Bool.and_eq_true] at hnd
  refine ⟨hTy.1, hTy.2, hm, fun f g h => hext.get h, fun f S h => hsum.get h, fun f fi' h => ?_⟩
  have h : cond (Nat.beq f fi.no) (some fi) none = some fi' := h
  cases hbq : Nat.beq f fi.no with
  | false => rw [hbq] at h; cases h
  | true =>
    rw [hbq] at h; cases h
    have := beq_eq hbq; subst this
    refine ⟨rfl, hf, hen, fun c' hc' => ?_⟩
    rw [hb] at hc'; cases hc'
    refine codeOk_of c (fun key lc hmem S hS => ?_) (fun sc hmem l rest S hfl hS => ?_)
    · have hS : cond (Nat.beq fi.no fi.no) (lookF loops key) none = some S := hS
      rw [beq_self] at hS
      have h1 := hl.get hS
      have hlt := lowKeys_mem hnd.2 hmem
      rw [show Nat.blt key 1000000 = true by simpa using hlt] at h1
      have : loopAt c key = lc := by unfold loopAt; rw [nodup_look hnd.1 hmem]; rfl
      rw [this] at h1
      exact h1
    · have hS : cond (Nat.beq fi.no fi.no) (lookF loops (1000000 + l)) none = some S := hS
      rw [beq_self] at hS
      have h1 := hl.get hS
      rw [blt_ge (by omega)] at h1
      simp only [cond_false, show 1000000 + l - 1000000 = l by omega] at h1
      obtain ⟨h1, h2⟩ := h1
      have hmm := labelled_mem hmem hfl
      have hsc : scopeAt c l = sc := by
        unfold scopeAt
        cases hlab : labelled l (scopesOf c) with
        | nil => rw [hlab] at hmm; cases hmm
        | cons x r =>
          rw [hlab] at hmm h2
          have : r = [] := by simpa using h2
          subst this
          simpa using (List.mem_singleton.1 hmm).symm
      have hre : restAt c l = rest := by unfold restAt; rw [hsc, hfl]; rfl
      rw [hsc, hre] at h1
      exact h1

theorem enters_of {f : Nat} {fn : Func} {c : Code} (hf : P.funcs[f]? = some fn) (hb : fn.body = some c) (hn : (fn.name == "runtime.NumGoroutine") = false) : Enters P f := by
  intro args w
  have h1 : fn.name ≠ "runtime.NumGoroutine" := by simpa using hn
  simp [callFunc, hf, h1, hb]

/-! ### Functions without a body -/

def add64 (x y c : Int) : Int := Int.ofNat ((x.toNat + y.toNat + c.toNat) % 2 ^ 64)
def carry64 (x y c : Int) : Int := Int.ofNat ((x.toNat + y.toNat + c.toNat) / 2 ^ 64)
def sub64 (x y c : Int) : Int := Int.ofNat ((x.toNat + 2 ^ 64 - y.toNat - c.toNat) % 2 ^ 64)
def borrow64 (x y c : Int) : Int := Int.ofNat (if x.toNat < y.toNat + c.toNat then 1 else 0)

def extAdd : List AV → Option (Bool × AV)
  | [.i .u64 x, .i .u64 y, .i .u64 c] => some (decide (c ≤ 1), .tup [.i .u64 (add64 x y c), .i .u64 (carry64 x y c)])
  | _ => none
def extSub : List AV → Option (Bool × AV)
  | [.i .u64 x, .i .u64 y, .i .u64 c] => some (decide (c ≤ 1), .tup [.i .u64 (sub64 x y c), .i .u64 (borrow64 x y c)])
  | _ => none

theorem toList_three {α : Type} {a : Array α} {x y z : α} (h : a.toList = [x, y, z]) : a = #[x, y, z] := by
  cases a; simp at h; subst h; rfl

theorem run_asInt {k : IntKind} (n : Int) (w : World) : (asInt (.int k n)).run P w = .ok n w := rfl

theorem three_run {nm : String} {x y c : Int} {k1 k2 k3 : IntKind} (w : World) (hc : c.toNat ≤ 1) : (Extern.MathBitsCarry.three nm #[.int k1 x, .int k2 y, .int k3 c]).run P w = .ok (x.toNat, y.toNat, c.toNat) w := by
  show (do
    let c' := (← asInt (.int k3 c)).toNat
    if c' > 1 then unsupported (.noEntry ("extern/math/bits." ++ nm ++ ": a carry that is neither 0 nor 1"))
    pure ((← asInt (.int k1 x)).toNat, (← asInt (.int k2 y)).toNat, c') : Sem (Nat × Nat × Nat)).run P w = _
  rw [Sem.run_bind, run_asInt, Result.andThen_ok]
  have : ¬ (c.toNat > 1) := by omega
  simp only [this, if_false, Sem.run_bind, run_asInt, Result.andThen_ok, Sem.run_pure]

def addRow (args : Array Value) : Sem Value := do
  let (x, y, c) ← Extern.MathBitsCarry.three "Add64" args
  pure (Extern.MathBitsCarry.pair ((x + y + c) % Extern.MathBitsCarry.m64) ((x + y + c) / Extern.MathBitsCarry.m64))

theorem extAdd_ok {f : Nat} {fn : Func} (hf : P.funcs[f]? = some fn) (hname : (fn.name == "runtime.NumGoroutine") = false) (hb : fn.body.isNone = true) (hn : Extern.findNext fn = none)
    (he : Extern.find fn = some addRow) : ExtOk P f extAdd := by
  intro args v h E cargs w hr
  unfold extAdd at h
  split at h
  · rename_i x y c
    simp only [Option.some.injEq, Prod.mk.injEq] at h
    obtain ⟨h1, rfl⟩ := h
    have h1 := of_decide_eq_true h1
    generalize hcl : cargs.toList = cl at hr
    cases hr with
    | cons r1 hr => cases hr with
      | cons r2 hr => cases hr with
        | cons r3 hr =>
          cases hr
          have := toList_three hcl; subst this
          rw [int_of r1, int_of r2, int_of r3]
          rw [run_callFunc_extern hf hname hb hn he]
          refine ⟨.tuple #[.int .u64 (add64 x y c), .int .u64 (carry64 x y c)], ?_, .tup (.cons (.i _ _) (.cons (.i _ _) .nil))⟩
          unfold addRow
          rw [Sem.run_bind, three_run _ (by omega)]
          simp only [Result.andThen_ok, Sem.run_pure]
          rfl
  · cases h

def subRow (args : Array Value) : Sem Value := do
  let (x, y, c) ← Extern.MathBitsCarry.three "Sub64" args
  pure (Extern.MathBitsCarry.pair ((x + Extern.MathBitsCarry.m64 - y - c) % Extern.MathBitsCarry.m64) (if x < y + c then 1 else 0))

theorem extSub_ok {f : Nat} {fn : Func} (hf : P.funcs[f]? = some fn) (hname : (fn.name == "runtime.NumGoroutine") = false) (hb : fn.body.isNone = true) (hn : Extern.findNext fn = none)
    (he : Extern.find fn = some subRow) : ExtOk P f extSub := by
  intro args v h E cargs w hr
  unfold extSub at h
  split at h
  · rename_i x y c
    simp only [Option.some.injEq, Prod.mk.injEq] at h
    obtain ⟨h1, rfl⟩ := h
    have h1 := of_decide_eq_true h1
    generalize hcl : cargs.toList = cl at hr
    cases hr with
    | cons r1 hr => cases hr with
      | cons r2 hr => cases hr with
        | cons r3 hr =>
          cases hr
          have := toList_three hcl; subst this
          rw [int_of r1, int_of r2, int_of r3]
          rw [run_callFunc_extern hf hname hb hn he]
          refine ⟨.tuple #[.int .u64 (sub64 x y c), .int .u64 (borrow64 x y c)], ?_, .tup (.cons (.i _ _) (.cons (.i _ _) .nil))⟩
          unfold subRow
          rw [Sem.run_bind, three_run _ (by omega)]
          simp only [Result.andThen_ok, Sem.run_pure]
          rfl
  · cases h

end
end Go.Ab
