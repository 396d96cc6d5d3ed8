/- Operators and comparisons. Conditions: none. -/
import Derived.Test.YtnbmconaglehbaaAb6
import Derived.Laws.StructEq
namespace Go.Ab
set_option linter.unusedVariables false
set_option linter.unusedSimpArgs false
open Go

/-- What '==' of structs wants besides. -/
structure EqOk (P : Program) (Ty : Types) : Prop where
  ok : ∀ t i fs, Ty t = some i → i.d = .struct fs → P.stoodInHeld t = false ∧ P.eqGuardType P.depth t = false ∧ ∀ fields, P.underlying t = some (.struct fields) → ∀ f ∈ fields.toList, (f.name == "_") = false

section
variable {P : Program} {Ty : Types}

theorem ofScalar_rel (E : Env) : ∀ v : Value, VRel E (ofScalar v) v := by
  intro v
  unfold ofScalar
  split <;> first | constructor

theorem ofValue_rel (E : Env) (v : Value) : VRel E (ofValue v) v := by
  unfold ofValue
  split
  · rename_i cs
    refine .agg (VRelL.of_get (by simp) fun j v x hv hx => ?_)
    rw [List.getElem?_map, hx] at hv
    cases hv
    exact ofScalar_rel E x
  · rename_i vs
    split
    · rename_i h
      obtain rfl : vs = #[] := by cases vs; simp_all
      exact .u
    · exact .junk _
  · exact ofScalar_rel E v

theorem opd_rel {E : Env} {T : Tmps} {a : Act} (h : TRel E T a) (x : Operand) : VRel E (opd T x) (a.eval x) := by
  cases x with
  | tmp t => exact h t
  | const v => exact ofValue_rel E v
  | global g => exact .junk _
  | func f => exact .fn .nil

theorem opdsL_rel {E : Env} {T : Tmps} {a : Act} (h : TRel E T a) : ∀ (l : List Operand), VRelL E (opdsL T l) (l.map a.eval)
  | [] => .nil
  | x :: l => .cons (opd_rel h x) (opdsL_rel h l)

/-! ### '==' -/

theorem part_one {w : World} {t : Nat} {d : TypeDesc} {k : SK} (hu : P.underlying t = some d) (hd : tdOf d = some (.sc k)) {cs : Array Value} {off : Nat} {x : Value} (h : cs[off]? = some x) :
    (part t cs off).run P w = .ok x w := by
  unfold part
  simp [run_isAgg hu hd, TD.isAgg, h]

theorem part_agg {w : World} {t : Nat} {info : TypeInfo} {d : TypeDesc} {td : TD} (hi : P.info? t = some info) (hu : P.underlying t = some d) (hd : tdOf d = some td) (ha : td.isAgg = true) (cs : Array Value) (off : Nat) :
    (part t cs off).run P w = .ok (.agg (cs.extract off (off + info.size))) w := by
  unfold part
  simp [run_isAgg hu hd, ha, run_sizeOf hi]

theorem eqS_run {d : TypeDesc} {k : SK} {t : Nat} (hu : P.underlying t = some d) (hd : tdOf d = some (.sc k)) {E : Env} {x y : AV} {xv yv : Value} (hx : VRel E x xv) (hy : VRel E y yv) {b : Bool} (h : eqS x y = some b)
    (hk : ∃ v, k.un x = some v) (n : Nat) (w : World) : (Op.equalIn (n + 1) t xv yv).run P w = .ok b w := by
  obtain ⟨v, hk⟩ := hk
  unfold eqS at h
  split at h
  · cases hx; cases hy
    cases k <;> simp [SK.un] at hk
    cases d <;> simp [tdOf] at hd
    simp [Op.equalIn, run_underlying hu]; simpa using h
  · rename_i k1 a k2 b'
    cases hx; cases hy
    split at h
    · rename_i hkk; subst hkk
      cases k <;> simp [SK.un] at hk
      cases d <;> simp [tdOf] at hd
      simp [Op.equalIn, run_underlying hu]; simpa using h
    · cases h
  · cases hx; cases hy
    cases k <;> simp [SK.un] at hk
    cases d <;> simp [tdOf] at hd
    simp [Op.equalIn, run_underlying hu]; simpa using h
  · cases h

theorem eqL_append : ∀ (xs ys : List AV) {xs' ys' : List AV} {b : Bool}, xs.length = ys.length → eqL (xs ++ xs') (ys ++ ys') = some b → ∃ b1 b2, eqL xs ys = some b1 ∧ eqL xs' ys' = some b2 ∧ b = (b1 && b2)
  | [], [], xs', ys', b, _, h => ⟨true, b, rfl, h, by simp⟩
  | [x], [y], xs', ys', b, _, h => by
    cases xs' with
    | nil => cases ys' with
      | nil => simp only [List.append_nil] at h; exact ⟨b, true, h, rfl, by simp⟩
      | cons y' ys' => simp [eqL] at h
    | cons x' xs' => cases ys' with
      | nil => simp [eqL] at h
      | cons y' ys' =>
        simp only [List.cons_append, List.nil_append, eqL] at h
        cases h1 : eqS x y with
        | none => simp [h1] at h
        | some a =>
          cases h2 : eqL (x' :: xs') (y' :: ys') with
          | none => simp [h1, h2] at h
          | some c => simp [h1, h2] at h; exact ⟨a, c, by simp [eqL, h1], rfl, h.symm⟩
  | x :: x2 :: xs, y :: y2 :: ys, xs', ys', b, hl, h => by
    simp only [List.cons_append, eqL] at h
    cases h1 : eqS x y with
    | none => simp [h1] at h
    | some a =>
      rw [h1, Option.bind_some] at h
      cases h2 : eqL (x2 :: (xs ++ xs')) (y2 :: (ys ++ ys')) with
      | none => rw [h2] at h; simp at h
      | some c =>
        rw [h2] at h; simp at h
        obtain ⟨b1, b2, h3, h4, h5⟩ := eqL_append (x2 :: xs) (y2 :: ys) (by simpa using hl) h2
        exact ⟨a && b1, b2, by simp [eqL, h1, h3], h4, by rw [← h, h5, Bool.and_assoc]⟩
  | [], _ :: _, _, _, _, hl, _ => by simp at hl
  | _ :: _, [], _, _, _, hl, _ => by simp at hl
  | [_], _ :: _ :: _, _, _, _, hl, _ => by simp at hl
  | _ :: _ :: _, [_], _, _, _, hl, _ => by simp at hl

/-- Cells of these kinds. -/
def ofKinds : List SK → List AV → Prop
  | [], [] => True
  | k :: ks, v :: vs => (∃ x, k.un v = some x) ∧ ofKinds ks vs
  | _, _ => False

theorem un_kinds : ∀ {sh : List SK} {vs : List AV}, (Tup.un sh vs).isSome = true → ofKinds sh vs
  | [], [], _ => trivial
  | [k], [v], h => by
    simp only [Tup.un] at h
    exact ⟨Option.isSome_iff_exists.1 h, trivial⟩
  | k :: k' :: ks, v :: vs, h => by
    simp only [Tup.un] at h
    cases h1 : k.un v with
    | none => simp [h1] at h
    | some a =>
      simp only [h1, Option.bind_some] at h
      refine ⟨⟨a, h1⟩, un_kinds (sh := k' :: ks) ?_⟩
      cases h2 : Tup.un (k' :: ks) vs with
      | none => simp [h2] at h
      | some b => rfl
  | [], _ :: _, h => by simp [Tup.un] at h
  | [k], [], h => by simp [Tup.un] at h
  | [k], _ :: _ :: _, h => by simp [Tup.un] at h
  | k :: k' :: ks, [], h => by simp [Tup.un] at h

theorem ofKinds.length : ∀ {sh : List SK} {vs : List AV}, ofKinds sh vs → vs.length = sh.length
  | [], [], _ => rfl
  | _ :: _, _ :: _, h => by simp [ofKinds.length h.2]
  | [], _ :: _, h => h.elim
  | _ :: _, [], h => h.elim

theorem ofKinds.split : ∀ {a b : List SK} {vs : List AV}, ofKinds (a ++ b) vs → ofKinds a (vs.take a.length) ∧ ofKinds b (vs.drop a.length)
  | [], _, _, h => ⟨trivial, h⟩
  | _ :: _, _, [], h => h.elim
  | k :: a, b, v :: vs, h => by
    obtain ⟨h1, h2⟩ := h
    obtain ⟨h3, h4⟩ := ofKinds.split (a := a) h2
    exact ⟨⟨h1, h3⟩, h4⟩

/-- A value of a type, out of its cells. -/
def asVal (d : TD) (vs : List Value) : Value := match d.isAgg with | true => .agg vs.toArray | false => vs.getD 0 undef

theorem shape_size (hTy : TyOk P Ty) {d t : Nat} {sh : List SK} (h : shapeOf Ty d t = some sh) : ∃ i, Ty t = some i ∧ (match i.d with | .sc k => sh = [k] | .struct _ => sh.length = i.size | _ => False) := by
  cases d with
  | zero => cases h
  | succ d =>
    simp only [shapeOf] at h
    split at h
    · rename_i k _ _ _ hT; cases h; exact ⟨_, hT, rfl⟩
    · rename_i fs size _ _ hT
      cases hs : shapeFs (shapeOf Ty d) fs 0 with
      | none => rw [hs] at h; cases h
      | some sh' =>
        rw [hs, Option.bind_some] at h
        obtain ⟨h1, h2⟩ := cond_some h
        cases h2
        exact ⟨_, hT, beq_eq h1⟩
    · cases h

theorem eq_run (hTy : TyOk P Ty) (hEq : EqOk P Ty) {E : Env} (w : World) : ∀ (d t : Nat) (sh : List SK) (i : TI), shapeOf Ty d t = some sh → Ty t = some i → ∀ (n : Nat) (xs ys : List AV) (vs ws : List Value) (b : Bool), d ≤ n →
    ofKinds sh xs → ofKinds sh ys → VRelL E xs vs → VRelL E ys ws → eqL xs ys = some b → (Op.equalIn n t (asVal i.d vs) (asVal i.d ws)).run P w = .ok b w := by
  intro d
  induction d with
  | zero => intro t sh i h; cases h
  | succ d ih =>
    intro t sh i h hT n xs ys vs ws b hn hkx hky hx hy he
    obtain ⟨n, rfl⟩ : ∃ m, n = m + 1 := ⟨n - 1, by omega⟩
    obtain ⟨info, ds, hi, hu, hd, hsz, _, _⟩ := hTy.ok _ _ hT
    simp only [shapeOf, hT] at h
    obtain ⟨id_, isz, iby, iz⟩ := i
    cases id_ with
    | sc k =>
      simp only [Option.some.injEq] at h; subst h
      simp only at hd hT
      match xs, ys, vs, ws, hkx, hky, hx, hy with
      | [x], [y], [v], [u], hkx, hky, .cons hx .nil, .cons hy .nil =>
        exact eqS_run hu hd hx hy he hkx.1 n w
      | [], _, _, _, hkx, _, _, _ => exact hkx.elim
      | _ :: _ :: _, _, _, _, hkx, _, _, _ => exact hkx.2.elim
      | [_], [], _, _, _, hky, _, _ => exact hky.elim
      | [_], _ :: _ :: _, _, _, _, hky, _, _ => exact hky.2.elim
    | struct fs =>
      simp only at h hd hT hsz
      obtain ⟨hp, hg, hnm⟩ := hEq.ok _ _ _ hT rfl
      cases hs : shapeFs (shapeOf Ty d) fs 0 with
      | none => rw [hs] at h; cases h
      | some sh' =>
        rw [hs, Option.bind_some] at h
        obtain ⟨_, h2⟩ := cond_some h
        cases h2
        obtain ⟨fields, rfl⟩ : ∃ fields, ds = .struct fields := by cases ds <;> simp [tdOf] at hd; exact ⟨_, rfl⟩
        simp only [tdOf, Option.some.injEq, TD.struct.injEq] at hd
        have hf : P.fieldsOf t = fields := by simp [Program.fieldsOf, hu]
        show (Op.equalIn (n + 1) t (.agg vs.toArray) (.agg ws.toArray)).run P w = _
        rw [run_equalIn_struct (P := P) w n t _ _ (by rw [hf]; exact hu) hp, hf]
        have hnm' := hnm fields hu
        have key : ∀ (l : List Field) (off : Nat) (sh' : List SK) (b : Bool), shapeFs (shapeOf Ty d) (l.map fun f => (f.offset, f.type)) off = some sh' → (∀ f ∈ l, (f.name == "_") = false) →
            ofKinds sh' (xs.drop off) → ofKinds sh' (ys.drop off) → eqL (xs.drop off) (ys.drop off) = some b → (Op.eqFields n vs.toArray ws.toArray l).run P w = .ok b w := by
          intro l
          induction l with
          | nil =>
            intro off sh' b hs _ hkx hky he
            cases hs
            have h1 := hkx.length; have h2 := hky.length
            simp only [List.length_nil, List.length_eq_zero_iff] at h1 h2
            rw [h1, h2] at he; cases he
            rfl
          | cons f l ihl =>
            intro off sh' b hs hnames hkx hky he
            simp only [List.map_cons, shapeFs] at hs
            obtain ⟨ho, hs⟩ := cond_some hs
            have ho := beq_eq ho
            cases h1 : shapeOf Ty d f.type with
            | none => rw [h1] at hs; cases hs
            | some s1 =>
              rw [h1, Option.bind_some] at hs
              cases h2 : shapeFs (shapeOf Ty d) (l.map fun f => (f.offset, f.type)) (off + s1.length) with
              | none => rw [h2] at hs; cases hs
              | some s2 =>
                rw [h2, Option.bind_some] at hs; cases hs
                obtain ⟨fi, hfT, hfs⟩ := shape_size hTy h1
                obtain ⟨finfo, fd, hfi, hfu, hfd, hfsz, _, _⟩ := hTy.ok _ _ hfT
                obtain ⟨kx1, kx2⟩ := hkx.split
                obtain ⟨ky1, ky2⟩ := hky.split
                rw [List.drop_drop] at kx2 ky2
                have hlx := hkx.length; have hly := hky.length
                simp only [List.length_append, List.length_drop] at hlx hly
                rw [← List.take_append_drop s1.length (xs.drop off), ← List.take_append_drop s1.length (ys.drop off), List.drop_drop, List.drop_drop] at he
                obtain ⟨b1, b2, e1, e2, e3⟩ := eqL_append _ _ (by simp; omega) he
                have hpart : ∀ (zs : List AV) (us : List Value), VRelL E zs us → ofKinds s1 ((zs.drop off).take s1.length) → (part f.type us.toArray f.offset).run P w = .ok (asVal fi.d ((us.drop off).take s1.length)) w := by
                  intro zs us hz hk
                  have hlen := hk.length
                  have hzl := hz.length
                  simp only [List.length_take, List.length_drop] at hlen
                  cases hfd' : fi.d with
                  | sc k =>
                    rw [hfd'] at hfs hfd
                    subst hfs
                    have hlt : off < us.length := by simp only [List.length_cons, List.length_nil] at hlen; omega
                    rw [part_one hfu hfd (x := us[off]) (by rw [ho]; simp [hlt])]
                    have : asVal (.sc k) ((us.drop off).take [k].length) = us[off] := by
                      simp only [asVal, TD.isAgg, List.length_cons, List.length_nil]
                      simp [List.getD, List.getElem?_take, List.getElem?_drop, hlt]
                    rw [this]
                  | struct fs' =>
                    rw [hfd'] at hfs hfd
                    rw [part_agg hfi hfu hfd rfl, ho, hfsz, ← hfs]
                    simp only [asVal, TD.isAgg]
                    congr 2
                    simp [List.extract_eq_take_drop, List.extract_toArray]
                  | _ => rw [hfd'] at hfs; exact hfs.elim
                have heq := ih f.type s1 fi h1 hfT n _ _ _ _ b1 (by omega) kx1 ky1 (hx.sub off s1.length) (hy.sub off s1.length) e1
                have hrest := ihl (off + s1.length) s2 b2 h2 (fun g hg => hnames g (List.mem_cons_of_mem _ hg)) kx2 ky2 e2
                have hn' : f.name ≠ "_" := by simpa using hnames f List.mem_cons_self
                rw [Op.eqFields]
                simp only [if_pos hn', Sem.run_bind, hpart xs vs hx kx1, hpart ys ws hy ky1, heq, Result.andThen_ok]
                cases b1
                · simp [e3]
                · simpa [e3] using hrest
        exact key fields.toList 0 _ b (by rw [hd]; exact hs) hnm' (by simpa using hkx) (by simpa using hky) (by simpa using he)
    | _ => simp at h

theorem eqIn_np {t e : Nat} (hu : P.underlying t = some (.pointer e)) (b : Option Addr) (n : Nat) (w : World) : (Op.equalIn (n + 1) t (.pointer none) (.pointer b)).run P w = .ok b.isNone w := by
  simp [Op.equalIn, run_underlying hu]
theorem eqIn_pn {t e : Nat} (hu : P.underlying t = some (.pointer e)) (b : Addr) (n : Nat) (w : World) : (Op.equalIn (n + 1) t (.pointer (some b)) (.pointer none)).run P w = .ok false w := by
  simp [Op.equalIn, run_underlying hu]
theorem eqIn_nn {t : Nat} {p r : Array TypeId} {v : Bool} (hu : P.underlying t = some (.func p r v)) (n : Nat) (w : World) : (Op.equalIn (n + 1) t .nilFunc .nilFunc).run P w = .ok true w := by
  simp [Op.equalIn, run_underlying hu]
theorem eqIn_nf {t : Nat} {p r : Array TypeId} {v : Bool} (hu : P.underlying t = some (.func p r v)) (f : Fn) (a b : Array Value) (n : Nat) (w : World) : (Op.equalIn (n + 1) t .nilFunc (.func f a b)).run P w = .ok false w := by
  simp [Op.equalIn, run_underlying hu]
theorem eqIn_fn {t : Nat} {p r : Array TypeId} {v : Bool} (hu : P.underlying t = some (.func p r v)) (f : Fn) (a b : Array Value) (n : Nat) (w : World) : (Op.equalIn (n + 1) t (.func f a b) .nilFunc).run P w = .ok false w := by
  simp [Op.equalIn, run_underlying hu]
theorem eqIn_ss {t e : Nat} (hu : P.underlying t = some (.slice e)) (n : Nat) (w : World) : (Op.equalIn (n + 1) t (.slice none 0 0) (.slice none 0 0)).run P w = .ok true w := by
  simp [Op.equalIn, run_underlying hu]
theorem eqIn_bb {t : Nat} (hu : P.underlying t = some .bool) (x y : Bool) (n : Nat) (w : World) : (Op.equalIn (n + 1) t (.bool x) (.bool y)).run P w = .ok (x == y) w := by
  simp [Op.equalIn, run_underlying hu]

theorem eqV_run (hTy : TyOk P Ty) (hEq : EqOk P Ty) {t : Nat} {x y : AV} {b : Bool} (h : eqV Ty t x y = some b) {E : Env} {xv yv : Value} (hx : VRel E x xv) (hy : VRel E y yv) (xo yo : Operand) (w : World) :
    (Op.equal t xv yv).run P w = .ok b w ∧ (eqGuard .eql t xo yo xv yv).run P w = .ok () w ∧ (eqGuard .neq t xo yo xv yv).run P w = .ok () w := by
  unfold eqV at h
  split at h
  · rename_i xs ys
    split at h
    · rename_i fs _ _ _ hT0
      cases hsh : shapeOf Ty 10 t with
      | none => rw [hsh] at h; cases h
      | some sh =>
        rw [hsh, Option.bind_some] at h
        obtain ⟨h1, h2⟩ := cond_some h
        rw [Bool.and_eq_true] at h1
        cases hx with
        | agg hx =>
          cases hy with
          | agg hy =>
            have := eq_run hTy hEq w 10 t sh _ hsh hT0 Op.maxDepth xs ys _ _ b (by decide) (un_kinds h1.1) (un_kinds h1.2) hx hy h2
            simp only [asVal, TD.isAgg] at this
            obtain ⟨_, hg, _⟩ := hEq.ok _ _ _ hT0 rfl
            refine ⟨by simpa [Op.equal] using this, ?_, ?_⟩ <;> simp [eqGuard, hg]
    · cases h
  · split at h
    · rename_i hT0
      obtain ⟨info, ds, hi, hu, hd, hsz, _, _⟩ := hTy.ok _ _ hT0
      cases hx; cases hy; cases h
      cases ds <;> simp [tdOf] at hd
      exact ⟨eqIn_np hu none 9999 w, rfl, rfl⟩
    · cases h
  · split at h
    · rename_i hT0
      obtain ⟨info, ds, hi, hu, hd, hsz, _, _⟩ := hTy.ok _ _ hT0
      cases hx; cases hy; cases h
      cases ds <;> simp [tdOf] at hd
      exact ⟨eqIn_np hu _ 9999 w, rfl, rfl⟩
    · cases h
  · split at h
    · rename_i hT0
      obtain ⟨info, ds, hi, hu, hd, hsz, _, _⟩ := hTy.ok _ _ hT0
      cases hx; cases hy; cases h
      cases ds <;> simp [tdOf] at hd
      exact ⟨eqIn_pn hu _ 9999 w, rfl, rfl⟩
    · cases h
  · split at h
    · rename_i hT0
      obtain ⟨info, ds, hi, hu, hd, hsz, _, _⟩ := hTy.ok _ _ hT0
      cases hx; cases hy; cases h
      cases ds <;> simp [tdOf] at hd
      exact ⟨eqIn_nn hu 9999 w, rfl, rfl⟩
    · cases h
  · split at h
    · rename_i hT0
      obtain ⟨info, ds, hi, hu, hd, hsz, _, _⟩ := hTy.ok _ _ hT0
      cases hx; cases hy; cases h
      cases ds <;> simp [tdOf] at hd
      exact ⟨eqIn_nf hu _ _ _ 9999 w, rfl, rfl⟩
    · cases h
  · split at h
    · rename_i hT0
      obtain ⟨info, ds, hi, hu, hd, hsz, _, _⟩ := hTy.ok _ _ hT0
      cases hx; cases hy; cases h
      cases ds <;> simp [tdOf] at hd
      exact ⟨eqIn_fn hu _ _ _ 9999 w, rfl, rfl⟩
    · cases h
  · split at h
    · rename_i hT0
      obtain ⟨info, ds, hi, hu, hd, hsz, _, _⟩ := hTy.ok _ _ hT0
      cases hx; cases hy; cases h
      cases ds <;> simp [tdOf] at hd
      exact ⟨eqIn_ss hu 9999 w, rfl, rfl⟩
    · cases h
  · split at h
    · rename_i hT0
      obtain ⟨info, ds, hi, hu, hd, hsz, _, _⟩ := hTy.ok _ _ hT0
      cases hx; cases hy; cases h
      cases ds <;> simp [tdOf] at hd
      exact ⟨eqIn_bb hu _ _ 9999 w, rfl, rfl⟩
    · cases h
  · cases h

theorem binK_sound {R : Type} (hTy : TyOk P Ty) (hEq : EqOk P Ty) {op : BinOp} {t : Nat} {x y : AV} {K : AV → Option R} {r : R} (h : binK Ty op t x y K = some r) :
    ∃ v, K v = some r ∧ ∀ (E : Env) (xv yv : Value) (xo yo : Operand) (w : World), VRel E x xv → VRel E y yv →
      ∃ z, (do eqGuard op t xo yo xv yv; binOp op t xv yv : Sem Value).run P w = .ok z w ∧ VRel E v z := by
  unfold binK at h
  split at h
  · obtain ⟨h1, h2⟩ := cond_none_some h
    refine ⟨_, h2, fun E xv yv xo yo w hx hy => ?_⟩
    cases hx; cases hy
    have h3 := of_decide_eq_false h1
    exact ⟨_, by simp [eqGuard, binOp, Op.shift, h3]; rfl, .i _ _⟩
  · obtain ⟨h1, h2⟩ := cond_none_some h
    refine ⟨_, h2, fun E xv yv xo yo w hx hy => ?_⟩
    cases hx; cases hy
    have h3 := of_decide_eq_false h1
    exact ⟨_, by simp [eqGuard, binOp, Op.shift, h3]; rfl, .i _ _⟩
  · rename_i k a k' b hn1 hn2
    split at h
    · rename_i hk; subst hk
      cases op <;> (try dsimp only at h) <;> first
        | (cases h; done)
        | (exact absurd rfl (hn1 _ _ _ _ rfl rfl)) | (exact absurd rfl (hn2 _ _ _ _ rfl rfl))
        | (refine ⟨_, h, fun E xv yv xo yo w hx hy => ?_⟩; cases hx; cases hy
           exact ⟨_, by simp [eqGuard, binOp, Op.intArith, Op.intBits, Op.intCmp]; rfl, by constructor⟩)
        | (refine ⟨_, h, fun E xv yv xo yo w hx hy => ?_⟩; cases hx; cases hy
           first | exact ⟨.int k _, rfl, .i _ _⟩ | exact ⟨.int k (bAndNot k a b), rfl, .i _ _⟩ | exact ⟨.int k (bAndNot k a b), (by simp only [eqGuard, binOp, Op.intBits, bAndNot, orInt]; simp), .i _ _⟩)
        | (obtain ⟨h1, h2⟩ := cond_none_some h
           refine ⟨_, h2, fun E xv yv xo yo w hx hy => ?_⟩; cases hx; cases hy
           have h3 := of_decide_eq_false h1
           exact ⟨_, by simp [eqGuard, binOp, Op.intDiv, h3]; rfl, by constructor⟩)
    · cases h
  · rename_i a b
    obtain ⟨h1, h2⟩ := cond_some h
    refine ⟨_, h2, fun E xv yv xo yo w hx hy => ?_⟩
    cases hx; cases hy
    have h3 := of_decide_eq_true h1
    have h4 : ¬ (((a.size + b.size : Nat) : Int) > IntKind.i64.max) := by
      have : IntKind.i64.max = 9223372036854775807 := by decide
      rw [this]; omega
    refine ⟨.string (a ++ b), ?_, .s _⟩
    simp only [eqGuard, binOp, Op.stringOp]
    simp only [h4, if_false]
    rfl
  · refine ⟨_, h, fun E xv yv xo yo w hx hy => ?_⟩
    cases hx; cases hy
    exact ⟨_, rfl, .b _⟩
  · refine ⟨_, h, fun E xv yv xo yo w hx hy => ?_⟩
    cases hx; cases hy
    exact ⟨_, rfl, .b _⟩
  · rename_i x y hn1 hn2
    split at h
    · rename_i b hb
      refine ⟨_, h, fun E xv yv xo yo w hx hy => ?_⟩
      obtain ⟨h1, h2, h3⟩ := eqV_run hTy hEq hb hx hy xo yo w
      refine ⟨.bool b, ?_, .b _⟩
      have h4 : binOp .eql t xv yv = (do pure (.bool (← Op.equal t xv yv)) : Sem Value) := by
        unfold eqV at hb
        split at hb <;> first | (cases hb; done) | skip
        all_goals (cases hx; cases hy; rfl)
      rw [h4]
      simp only [Sem.run_bind, h2, h1, Result.andThen_ok, Sem.run_pure]
    · cases h
  · rename_i x y hn1 hn2
    split at h
    · rename_i b hb
      refine ⟨_, h, fun E xv yv xo yo w hx hy => ?_⟩
      obtain ⟨h1, h2, h3⟩ := eqV_run hTy hEq hb hx hy xo yo w
      refine ⟨.bool (!b), ?_, .b _⟩
      have h4 : binOp .neq t xv yv = (do pure (.bool (!(← Op.equal t xv yv))) : Sem Value) := by
        unfold eqV at hb
        split at hb <;> first | (cases hb; done) | skip
        all_goals (cases hx; cases hy; rfl)
      rw [h4]
      simp only [Sem.run_bind, h3, h1, Result.andThen_ok, Sem.run_pure]
    · cases h
  · cases h

theorem unK_sound {R : Type} {op : UnOp} {x : AV} {K : AV → Option R} {r : R} (h : unK op x K = some r) :
    ∃ v, K v = some r ∧ ∀ (E : Env) (xv : Value) (w : World), VRel E x xv → ∃ z, (Op.unary op xv).run P w = .ok z w ∧ VRel E v z := by
  unfold unK at h
  split at h
  · refine ⟨_, h, fun E xv w hx => ?_⟩
    cases hx; exact ⟨_, rfl, .b _⟩
  · refine ⟨_, h, fun E xv w hx => ?_⟩
    cases hx; exact ⟨_, rfl, .i _ _⟩
  · refine ⟨_, h, fun E xv w hx => ?_⟩
    cases hx; exact ⟨_, rfl, .i _ _⟩
  · cases h

end
end Go.Ab
