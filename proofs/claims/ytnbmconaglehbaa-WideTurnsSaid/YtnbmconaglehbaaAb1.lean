/- An evaluator of Go code over abstract states, in continuations: definitions alone. Conditions: none. -/
import Derived.Calls
import Derived.Orders
import Derived.ScopeJumps
namespace Go.Ab
set_option linter.unusedVariables false
set_option linter.unusedSimpArgs false
set_option linter.constructorNameAsVariable false
open Go

/-! ### Abstract values -/

inductive SK where
  | b | i (k : IntKind) | s
  deriving DecidableEq

@[reducible] def SK.ty : SK → Type
  | .b => Bool
  | .i _ => Int
  | .s => ByteArray

@[reducible] def Tup : List SK → Type
  | [] => Unit
  | [k] => k.ty
  | k :: k' :: ks => k.ty × Tup (k' :: ks)

inductive AV where
  | b (x : Bool)
  | i (k : IntKind) (x : Int)
  | s (x : ByteArray)
  | np | nsl | nf | ni | nm | u | junk
  | ptr (id base e sz o : Nat)
  | sw (id : Nat)
  | sl (id base e sz n : Nat)
  | agg (cs : List AV)
  | mix (pre : List AV) (sh : List SK) (n : Nat) (xs : List (Tup sh)) (post : List AV)
  | tup (vs : List AV)
  | fn (f : Nat) (cap : List AV)
  | mp (id : Nat)
  | it (id : Nat)

inductive Blk where
  | cells (cs : List AV)
  | row (sh : List SK) (xs : List (Tup sh))
  | mix (pre : List AV) (sh : List SK) (n : Nat) (xs : List (Tup sh)) (post : List AV)
  | map (kvs : List (AV × AV))
  | siter (s : ByteArray) (pos : Nat)

structure HB where
  fam : Nat
  ro : Bool
  blk : Blk

structure Heap where
  next : Nat
  bs : List (Nat × Option HB)

abbrev Tmps := List (Nat × AV)

def look : List (Nat × Option HB) → Nat → Option HB
  | [], _ => none
  | (j, h) :: r, id => cond (Nat.beq j id) h (look r id)

def Heap.get (H : Heap) (id : Nat) : Option HB := look H.bs id
def Heap.put (H : Heap) (id : Nat) (h : HB) : Heap := ⟨H.next, (id, some h) :: H.bs⟩
def Heap.add (H : Heap) (b : Blk) : Heap := ⟨H.next + 1, (H.next, some ⟨H.next, false, b⟩) :: H.bs⟩

def tget : Tmps → Nat → AV
  | [], _ => .junk
  | (j, v) :: r, t => cond (Nat.beq j t) v (tget r t)

/-! ### Types -/

inductive TD where
  | sc (k : SK) | ptr (e : Nat) | slice (e : Nat) | arr (n e : Nat) | struct (fs : List (Nat × Nat)) | func | map (k v : Nat)
  deriving DecidableEq

structure TI where
  d : TD
  size : Nat
  bytes : Nat
  zero : AV

def TD.isAgg : TD → Bool
  | .arr _ _ | .struct _ => true
  | _ => false

def TD.rowLike : TD → Bool
  | .slice _ => true
  | .sc .s => true
  | _ => false

/-! ### Rows -/

def SK.av : (k : SK) → k.ty → AV
  | .b, x => .b x
  | .i k, x => .i k x
  | .s, x => .s x

def SK.un : (k : SK) → AV → Option k.ty
  | .b, .b x => some x
  | .i k, .i k' x => if k = k' then some x else none
  | .s, .s x => some x
  | _, _ => none

def Tup.all : (sh : List SK) → Tup sh → List AV
  | [], _ => []
  | [k], x => [k.av x]
  | k :: k' :: ks, x => k.av x.1 :: Tup.all (k' :: ks) x.2

def Tup.un : (sh : List SK) → List AV → Option (Tup sh)
  | [], [] => some ()
  | [k], [v] => k.un v
  | k :: k' :: ks, v :: vs => (k.un v).bind fun x => (Tup.un (k' :: ks) vs).bind fun y => some (x, y)
  | _, _ => none

def Tup.uns (sh : List SK) : (fuel : Nat) → List AV → Option (List (Tup sh))
  | _, [] => some []
  | 0, _ => none
  | n + 1, vs => (Tup.un sh (vs.take sh.length)).bind fun x => (Tup.uns sh n (vs.drop sh.length)).bind fun r => some (x :: r)

def Blk.len : Blk → Nat
  | .cells cs => cs.length
  | .row sh xs => sh.length * xs.length
  | .mix pre sh n _ post => pre.length + sh.length * n + post.length
  | _ => 0

def seg (cs : List AV) (f len : Nat) : List AV := (cs.drop f).take len
def putSeg (cs : List AV) (f : Nat) (vs : List AV) : List AV := cs.take f ++ vs ++ cs.drop (f + vs.length)

section
variable {R : Type}

/-- Which element of a literal row: by its number. -/
def pickE (e : Nat) (K : Nat → Option R) : (fuel j : Nat) → Option R
  | 0, _ => none
  | f + 1, j => cond (Nat.beq e j) (K j) (pickE e K f (j + 1))

def rdRow (sh : List SK) (xs : List (Tup sh)) (e o len : Nat) (K : List AV → Option R) : Option R :=
  cond (Nat.ble (o + len) sh.length) ((xs[e]?).bind fun x => K (seg (Tup.all sh x) o len)) none

def rdCells (cs : List AV) (f len : Nat) (K : List AV → Option R) : Option R :=
  cond (Nat.ble (f + len) cs.length) (K (seg cs f len)) none

/-- 'len' cells from a place on. -/
def rd (b : Blk) (base e sz o len : Nat) (K : List AV → Option R) : Option R :=
  match b with
  | .cells cs =>
    cond (Nat.beq sz 0) (rdCells cs (base + o) len K) (pickE e (fun j => rdCells cs (base + j * sz + o) len K) cs.length 0)
  | .row sh xs =>
    cond (Nat.beq sz 0) (rdRow sh xs ((base + o) / sh.length) ((base + o) % sh.length) len K)
      (cond (Nat.beq sz sh.length && Nat.beq base 0) (rdRow sh xs e o len K) none)
  | .mix pre sh n xs post =>
    cond (Nat.beq sz 0)
      (cond (Nat.ble (base + o + len) pre.length) (rdCells pre (base + o) len K)
        (cond (Nat.ble (pre.length + sh.length * n) (base + o)) (rdCells post (base + o - (pre.length + sh.length * n)) len K)
          (cond (Nat.ble pre.length (base + o)) (rdRow sh xs ((base + o - pre.length) / sh.length) ((base + o - pre.length) % sh.length) len K) none)))
      (cond (Nat.beq sz sh.length && Nat.beq base pre.length) (rdRow sh xs e o len K) none)
  | _ => none

def wrRow (sh : List SK) (xs : List (Tup sh)) (e o : Nat) (vs : List AV) (K : List (Tup sh) → Option R) : Option R :=
  cond (Nat.ble (o + vs.length) sh.length) ((xs[e]?).bind fun x => (Tup.un sh (putSeg (Tup.all sh x) o vs)).bind fun y => K (xs.set e y)) none

def wrCells (cs : List AV) (f : Nat) (vs : List AV) (K : List AV → Option R) : Option R :=
  cond (Nat.ble (f + vs.length) cs.length) (K (putSeg cs f vs)) none

def wr (b : Blk) (base e sz o : Nat) (vs : List AV) (K : Blk → Option R) : Option R :=
  match b with
  | .cells cs =>
    cond (Nat.beq sz 0) (wrCells cs (base + o) vs fun cs => K (.cells cs)) (pickE e (fun j => wrCells cs (base + j * sz + o) vs fun cs => K (.cells cs)) cs.length 0)
  | .row sh xs =>
    cond (Nat.beq sz 0) (wrRow sh xs ((base + o) / sh.length) ((base + o) % sh.length) vs fun xs => K (.row sh xs))
      (cond (Nat.beq sz sh.length && Nat.beq base 0) (wrRow sh xs e o vs fun xs => K (.row sh xs)) none)
  | .mix pre sh n xs post =>
    cond (Nat.beq sz 0)
      (cond (Nat.ble (base + o + vs.length) pre.length) (wrCells pre (base + o) vs fun pre => K (.mix pre sh n xs post))
        (cond (Nat.ble (pre.length + sh.length * n) (base + o)) (wrCells post (base + o - (pre.length + sh.length * n)) vs fun post => K (.mix pre sh n xs post))
          (cond (Nat.ble pre.length (base + o)) (wrRow sh xs ((base + o - pre.length) / sh.length) ((base + o - pre.length) % sh.length) vs fun xs => K (.mix pre sh n xs post)) none)))
      (cond (Nat.beq sz sh.length && Nat.beq base pre.length) (wrRow sh xs e o vs fun xs => K (.mix pre sh n xs post)) none)
  | _ => none

end

/-! ### Names of blocks, turned -/

mutual
def AV.ids : AV → List Nat
  | .ptr id _ _ _ _ | .sw id | .sl id _ _ _ _ | .mp id | .it id => [id]
  | .agg cs | .tup cs | .fn _ cs => AV.idsL cs
  | .mix pre _ _ _ post => AV.idsL pre ++ AV.idsL post
  | _ => []
def AV.idsL : List AV → List Nat
  | [] => []
  | v :: r => AV.ids v ++ AV.idsL r
end

mutual
def AV.ren (f : Nat → Nat) : AV → AV
  | .ptr id bs e sz o => .ptr (f id) bs e sz o
  | .sw id => .sw (f id)
  | .sl id bs e sz n => .sl (f id) bs e sz n
  | .mp id => .mp (f id)
  | .it id => .it (f id)
  | .agg cs => .agg (AV.renL f cs)
  | .tup cs => .tup (AV.renL f cs)
  | .fn g cs => .fn g (AV.renL f cs)
  | .mix pre sh n xs post => .mix (AV.renL f pre) sh n xs (AV.renL f post)
  | .b x => .b x
  | .i k x => .i k x
  | .s x => .s x
  | .np => .np
  | .nsl => .nsl
  | .nf => .nf
  | .ni => .ni
  | .nm => .nm
  | .u => .u
  | .junk => .junk
def AV.renL (f : Nat → Nat) : List AV → List AV
  | [] => []
  | v :: r => AV.ren f v :: AV.renL f r
end

def Blk.ids : Blk → List Nat
  | .cells cs => AV.idsL cs
  | .row _ _ => []
  | .mix pre _ _ _ post => AV.idsL pre ++ AV.idsL post
  | .map kvs => kvs.flatMap fun p => p.1.ids ++ p.2.ids
  | .siter _ _ => []

def Blk.ren (f : Nat → Nat) : Blk → Blk
  | .cells cs => .cells (AV.renL f cs)
  | .row sh xs => .row sh xs
  | .mix pre sh n xs post => .mix (AV.renL f pre) sh n xs (AV.renL f post)
  | .map kvs => .map (kvs.map fun p => (p.1.ren f, p.2.ren f))
  | .siter s pos => .siter s pos

def has : List Nat → Nat → Bool
  | [], _ => false
  | x :: r, y => cond (Nat.beq x y) true (has r y)

def idx : List Nat → Nat → Nat
  | [], _ => 0
  | x :: r, y => cond (Nat.beq x y) 0 (idx r y + 1)

def getN : List Nat → Nat → Nat
  | [], _ => 0
  | x :: _, 0 => x
  | _ :: r, n + 1 => getN r n

def idsAt (H : Heap) (id : Nat) : List Nat := match H.get id with | some h => h.blk.ids | none => []

def reach (H : Heap) : (fuel : Nat) → (todo seen : List Nat) → List Nat
  | 0, _, seen => seen
  | n + 1, todo, seen => match todo with
    | [] => seen
    | id :: r => cond (has seen id) (reach H n r seen) (reach H n (r ++ idsAt H id) (seen ++ [id]))

def famAt (H : Heap) (id : Nat) : Nat := match H.get id with | some h => h.fam | none => id

/-- The first of 'l' that is of this family. -/
def firstOf (H : Heap) (fam : Nat) : List Nat → Nat → Nat
  | [], n => n
  | x :: r, n => match H.get x with
    | some h => cond (Nat.beq h.fam fam) n (firstOf H fam r (n + 1))
    | none => firstOf H fam r (n + 1)

def restrict (H : Heap) (seen : List Nat) : List Nat → Nat → List (Nat × Option HB)
  | [], _ => []
  | x :: r, n => (n, match H.get x with
      | some h => some ⟨firstOf H h.fam seen 0, h.ro, h.blk.ren (idx seen)⟩
      | none => none) :: restrict H seen r (n + 1)

def seenOf (pin : Nat) (vals : List AV) (H : Heap) : List Nat :=
  reach H 1000 ((List.range pin).flatMap (idsAt H) ++ AV.idsL vals) (List.range pin)

def heapOf (H : Heap) (seen : List Nat) : Heap := ⟨seen.length, restrict H seen seen 0⟩

def liveVals (T : Tmps) : List Nat → List AV
  | [] => []
  | t :: r => tget T t :: liveVals T r

def zipT : List Nat → List AV → Tmps
  | t :: r, v :: vs => (t, v) :: zipT r vs
  | _, _ => []

section
variable {R : Type}

/-- Nothing that is met is missing, and the pinned ones stand ahead. -/
def seenOk (pin : Nat) (vals : List AV) (H : Heap) (seen : List Nat) : Bool :=
  (AV.idsL vals).all (has seen) && (seen.all fun x => (idsAt H x).all (has seen)) && ((List.range pin).all fun i => Nat.beq (getN seen i) i && Nat.blt i seen.length) && (seen.all fun i => Nat.blt i H.next)

/-- Only what is live, by new names (those below 'pin' keep theirs). -/
def normK (pin : Nat) (live : List Nat) (T : Tmps) (H : Heap) (K : Tmps → Heap → Option R) : Option R :=
  (fun seen => cond (seenOk pin (liveVals T live) H seen) (K (zipT live (AV.renL (idx seen) (liveVals T live))) (heapOf H seen)) none) (seenOf pin (liveVals T live) H)

/-- A callee's names back in the caller's. -/
def back (seen : List Nat) (next : Nat) (i : Nat) : Nat := cond (Nat.blt i seen.length) (getN seen i) (next + (i - seen.length))

def backFam (H : Heap) (seen : List Nat) (f : Nat) : Nat := cond (Nat.blt f seen.length) (famAt H (getN seen f)) (H.next + (f - seen.length))

def merged (H : Heap) (seen : List Nat) (H' : Heap) : (fuel i : Nat) → List (Nat × Option HB)
  | 0, _ => []
  | n + 1, i => (back seen H.next i, match H'.get i with
      | some h => some ⟨backFam H seen h.fam, h.ro, h.blk.ren (back seen H.next)⟩
      | none => none) :: merged H seen H' n (i + 1)

def famIs (H : Heap) (fam x : Nat) : Bool := match H.get x with | some g => Nat.beq g.fam fam | none => false

/-- Blocks of a family that went into a call, and did not go in themselves: nothing is known of them behind it. -/
def lost (H : Heap) (seen : List Nat) : List (Nat × Option HB) → List (Nat × Option HB)
  | [] => []
  | (id, _) :: r => match H.get id with
    | some h => cond (!has seen id && seen.any (famIs H h.fam)) ((id, none) :: lost H seen r) (lost H seen r)
    | none => lost H seen r

def mergeH (H : Heap) (seen : List Nat) (H' : Heap) : Heap :=
  ⟨H.next + (H'.next - seen.length), merged H seen H' H'.next 0 ++ (lost H seen H.bs ++ H.bs)⟩

/-- The same, of a callee that leaves as they were the blocks that it was given. -/
def mergeK (H : Heap) (seen : List Nat) (H' : Heap) : Heap :=
  ⟨H.next + (H'.next - seen.length), merged H seen H' (H'.next - seen.length) seen.length ++ (lost H seen H.bs ++ H.bs)⟩

/-- A call in its own frame. -/
def frameK (keep : Bool) (args : List AV) (H : Heap) (callee : List AV → Heap → (AV → Heap → Option R) → Option R) (K : AV → Heap → Option R) : Option R :=
  (fun seen => cond (seenOk 0 args H seen)
    (callee (AV.renL (idx seen) args) (heapOf H seen) fun v H' => cond (Nat.ble seen.length H'.next && (v.ids.all fun i => Nat.blt i H'.next) && ((List.range H'.next).all fun i => (idsAt H' i).all fun j => Nat.blt j H'.next))
      (K (v.ren (back seen H.next)) (cond keep (mergeK H seen H') (mergeH H seen H'))) none) none) (seenOf 0 args H)

end

/-! ### Operands -/

def ofScalar : Value → AV
  | .bool x => .b x
  | .int k n => .i k n
  | .string s => .s s
  | .pointer none => .np
  | .slice none 0 0 => .nsl
  | .nilFunc => .nf
  | .nilIface => .ni
  | .map none => .nm
  | _ => .junk

def ofValue : Value → AV
  | .agg cs => .agg (cs.toList.map ofScalar)
  | .tuple vs => match vs.toList with | [] => .u | _ => .junk
  | v => ofScalar v

def opd (T : Tmps) : Operand → AV
  | .tmp t => tget T t
  | .const v => ofValue v
  | .global _ => .junk
  | .func f => .fn f []

/-! ### Operations -/

abbrev Types := Nat → Option TI

/-- One cell's value. -/
def AV.isOne : AV → Bool
  | .agg _ | .mix .. | .tup _ | .u | .junk => false
  | _ => true

def AV.cells : AV → Option (List AV)
  | .agg cs => some cs
  | v => match v.isOne with | true => some [v] | false => none

def blkOf : AV → Option Blk
  | .mix pre sh n xs post => some (.mix pre sh n xs post)
  | v => match v.cells with | some cs => some (.cells cs) | none => none

/-- Fields one behind the other, each of a shape. -/
def shapeFs (g : Nat → Option (List SK)) : List (Nat × Nat) → Nat → Option (List SK)
  | [], _ => some []
  | (off, t) :: r, n => cond (Nat.beq off n) ((g t).bind fun x => (shapeFs g r (n + x.length)).bind fun y => some (x ++ y)) none

def shapeOf (Ty : Types) : (fuel : Nat) → Nat → Option (List SK)
  | 0, _ => none
  | d + 1, t => match Ty t with
    | some ⟨.sc k, _, _, _⟩ => some [k]
    | some ⟨.struct fs, size, _, _⟩ => (shapeFs (shapeOf Ty d) fs 0).bind fun sh => cond (Nat.beq sh.length size) (some sh) none
    | _ => none

def orInt (k : IntKind) (f : BitVec k.bits → BitVec k.bits → BitVec k.bits) (x y : Int) : Int := k.wrap (f (BitVec.ofInt k.bits x) (BitVec.ofInt k.bits y)).toNat
def bAnd (k : IntKind) (x y : Int) : Int := orInt k (· &&& ·) x y
def bOr (k : IntKind) (x y : Int) : Int := orInt k (· ||| ·) x y
def bXor (k : IntKind) (x y : Int) : Int := orInt k (· ^^^ ·) x y
def bAndNot (k : IntKind) (x y : Int) : Int := orInt k (fun a b => a &&& ~~~b) x y
def shl (k : IntKind) (x y : Int) : Int := k.wrap (x * 2 ^ (min y.toNat k.bits))
def shr (k : IntKind) (x y : Int) : Int := x.fdiv (2 ^ (min y.toNat k.bits))

/-- '==' of values that hold no address, as the model's operator reckons it. -/
def eqS : AV → AV → Option Bool
  | .b x, .b y => some (x == y)
  | .i k x, .i k' y => if k = k' then some (x == y) else none
  | .s x, .s y => some (x == y)
  | _, _ => none

def eqL : List AV → List AV → Option Bool
  | [], [] => some true
  | [x], [y] => eqS x y
  | x :: xs, y :: ys => (eqS x y).bind fun a => (eqL xs ys).bind fun b => some (a && b)
  | _, _ => none

def eqV (Ty : Types) (t : Nat) (x y : AV) : Option Bool :=
  match x, y with
  | .agg xs, .agg ys => match Ty t with
    | some ⟨.struct _, _, _, _⟩ => (shapeOf Ty 10 t).bind fun sh => cond ((Tup.un sh xs).isSome && (Tup.un sh ys).isSome) (eqL xs ys) none
    | _ => none
  | .np, .np => match Ty t with | some ⟨.ptr _, _, _, _⟩ => some true | _ => none
  | .np, .ptr .. => match Ty t with | some ⟨.ptr _, _, _, _⟩ => some false | _ => none
  | .ptr .., .np => match Ty t with | some ⟨.ptr _, _, _, _⟩ => some false | _ => none
  | .nf, .nf => match Ty t with | some ⟨.func, _, _, _⟩ => some true | _ => none
  | .nf, .fn .. => match Ty t with | some ⟨.func, _, _, _⟩ => some false | _ => none
  | .fn .., .nf => match Ty t with | some ⟨.func, _, _, _⟩ => some false | _ => none
  | .nsl, .nsl => match Ty t with | some ⟨.slice _, _, _, _⟩ => some true | _ => none
  | .b a, .b b => match Ty t with | some ⟨.sc .b, _, _, _⟩ => some (a == b) | _ => none
  | _, _ => none

@[reducible] def Wi8 (x : Int) : Int := IntKind.wrap .i8 x
@[reducible] def Wi16 (x : Int) : Int := IntKind.wrap .i16 x
@[reducible] def Wi32 (x : Int) : Int := IntKind.wrap .i32 x
@[reducible] def Wi64 (x : Int) : Int := IntKind.wrap .i64 x
@[reducible] def Wu8 (x : Int) : Int := IntKind.wrap .u8 x
@[reducible] def Wu16 (x : Int) : Int := IntKind.wrap .u16 x
@[reducible] def Wu32 (x : Int) : Int := IntKind.wrap .u32 x
@[reducible] def Wu64 (x : Int) : Int := IntKind.wrap .u64 x

def strInts (s : ByteArray) : List Int := s.data.toList.map fun b => (b.toNat : Int)
def bytesOf (xs : List Int) : ByteArray := ⟨(xs.map fun n : Int => UInt8.ofNat n.toNat).toArray⟩

section
variable {R : Type}

def binK (Ty : Types) (op : BinOp) (t : Nat) (x y : AV) (K : AV → Option R) : Option R :=
  match op, x, y with
  | .shl, .i k a, .i _ b => cond (decide (b < 0)) none (K (.i k (shl k a b)))
  | .shr, .i k a, .i _ b => cond (decide (b < 0)) none (K (.i k (shr k a b)))
  | op, .i k a, .i k' b =>
    if k = k' then
      match op with
      | .add => K (.i k (k.wrap (a + b)))
      | .sub => K (.i k (k.wrap (a - b)))
      | .mul => K (.i k (k.wrap (a * b)))
      | .quo => cond (decide (b = 0)) none (K (.i k (k.wrap (a.tdiv b))))
      | .rem => cond (decide (b = 0)) none (K (.i k (a.tmod b)))
      | .and => K (.i k (bAnd k a b))
      | .or => K (.i k (bOr k a b))
      | .xor => K (.i k (bXor k a b))
      | .andNot => K (.i k (bAndNot k a b))
      | .eql => K (.b (a == b))
      | .neq => K (.b (a != b))
      | .lss => K (.b (decide (a < b)))
      | .leq => K (.b (decide (a ≤ b)))
      | .gtr => K (.b (decide (a > b)))
      | .geq => K (.b (decide (a ≥ b)))
      | _ => none
    else none
  | .add, .s a, .s b => cond (decide (((a.size + b.size : Nat) : Int) ≤ 9223372036854775807)) (K (.s (a ++ b))) none
  | .eql, .s a, .s b => K (.b (a.toList == b.toList))
  | .neq, .s a, .s b => K (.b (!(a.toList == b.toList)))
  | .eql, x, y => match eqV Ty t x y with | some b => K (.b b) | none => none
  | .neq, x, y => match eqV Ty t x y with | some b => K (.b (!b)) | none => none
  | _, _, _ => none

def unK (op : UnOp) (x : AV) (K : AV → Option R) : Option R :=
  match op, x with
  | .not, .b x => K (.b (!x))
  | .neg, .i k n => K (.i k (k.wrap (0 - n)))
  | .xor, .i k n => K (.i k (bXor k (if k.signed then -1 else k.max) n))
  | _, _ => none

def partAt (cs : List AV) (off : Nat) (i : TI) (K : AV → Option R) : Option R :=
  cond (Nat.ble (off + i.size) cs.length)
    (match i.d.isAgg with
     | true => K (.agg (seg cs off i.size))
     | false => match seg cs off 1 with | [v] => K v | _ => none) none

def strAt (s : ByteArray) (i : Int) : Option Int := if 0 ≤ i then (s[i.toNat]?).map (fun b => (b.toNat : Int)) else none

/-- Parts into the cells of a zero value: places (offset, size). -/
def fillL (place : Nat → Option (Nat × Nat)) (cells : List AV) : List (Nat × AV) → Option (List AV)
  | [] => some cells
  | (i, v) :: rest => match place i, v.cells with
    | some (off, size), some vs => cond (Nat.beq vs.length size && Nat.ble (off + size) cells.length) (fillL place (putSeg cells off vs) rest) none
    | _, _ => none

def fieldOff (Ty : Types) (fs : List (Nat × Nat)) (f : Nat) : Option (Nat × TI) := (fs[f]?).bind fun p => (Ty p.2).bind fun i => some (p.1, i)

def repl (n : Nat) (zero : List AV) : List AV := match n with | 0 => [] | n + 1 => zero ++ repl n zero

def opdsL (T : Tmps) (l : List Operand) : List AV := l.map (opd T)

def sliceBnd (lo hi : Option AV) (len : Nat) (K : Nat → Nat → Option R) : Option R :=
  match lo, hi with
  | none, none => K 0 len
  | some (.i _ a), none => cond (decide (0 ≤ a)) (cond (decide (a ≤ (len : Int))) (K a.toNat len) none) none
  | none, some (.i _ b) => cond (decide (0 ≤ b)) (cond (decide (b ≤ (len : Int))) (K 0 b.toNat) none) none
  | some (.i _ a), some (.i _ b) => cond (decide (0 ≤ b)) (cond (decide (b ≤ (len : Int))) (cond (decide (0 ≤ a)) (cond (decide (a ≤ b)) (K a.toNat b.toNat) none) none) none) none
  | _, _ => none

def allocK (H : Heap) (v : AV) (K : AV → Heap → Option R) : Option R :=
  match blkOf v with
  | some b => K (.ptr H.next 0 0 0 0) (H.add b)
  | none => none

def loadK (Ty : Types) (H : Heap) (t : Nat) (a : AV) (K : AV → Heap → Option R) : Option R :=
  match Ty t, a with
  | some i, .ptr id base e sz o => match H.get id with
    | some h => match i.d.isAgg with
      | false => rd h.blk base e sz o 1 fun l => match l with | [v] => K v H | _ => none
      | true => match h.blk with
        | .mix pre sh n xs post =>
          cond (Nat.beq sz 0 && Nat.beq (base + o) 0 && Nat.beq i.size (pre.length + sh.length * n + post.length)) (K (.mix pre sh n xs post) H)
            (cond (Nat.beq sz 0 && Nat.beq (base + o) pre.length && Nat.beq i.size (sh.length * n)) (K (.mix [] sh n xs []) H)
              (rd h.blk base e sz o i.size fun l => K (.agg l) H))
        | blk => rd blk base e sz o i.size fun l => K (.agg l) H
    | none => none
  | _, _ => none

/-- All others of a family: nothing is known of them any more. -/
def killFam (fam : Nat) (but : Nat) : List (Nat × Option HB) → List (Nat × Option HB)
  | [] => []
  | (id, some g) :: r => cond (Nat.beq g.fam fam && !Nat.beq id but) ((id, none) :: killFam fam but r) (killFam fam but r)
  | (_, none) :: r => killFam fam but r

def storeK (Ty : Types) (H : Heap) (t : Nat) (a v : AV) (K : Heap → Option R) : Option R :=
  match Ty t, a with
  | some i, .ptr id base e sz o => match H.get id with
    | some h => cond h.ro none
      ((fun (fin : Blk → Option R) => match v with
        | .mix pre sh n xs post => match h.blk with
          | .mix pre' sh' n' _ post' => cond (Nat.beq sz 0 && Nat.beq (base + o) 0 && Nat.beq pre.length pre'.length && Nat.beq n n' && Nat.beq post.length post'.length && Nat.beq sh.length sh'.length && Nat.beq i.size (pre.length + sh.length * n + post.length) && pre.all AV.isOne && post.all AV.isOne)
              (fin (.mix pre sh n xs post)) none
          | _ => none
        | v => match v.cells with
          | some vs => cond (Nat.beq vs.length i.size && vs.all AV.isOne) (wr h.blk base e sz o vs fin) none
          | none => none)
      (fun blk => K ⟨H.next, (id, some ⟨h.fam, false, blk⟩) :: (killFam h.fam id H.bs ++ H.bs)⟩))
    | none => none
  | _, _ => none

def indexAddrK (Ty : Types) (H : Heap) (t : Nat) (x i : AV) (K : AV → Heap → Option R) : Option R :=
  match Ty t, x, i with
  | some ⟨.slice el, _, _, _⟩, .sw id, .i _ j => match H.get id, Ty el with
    | some ⟨_, _, .row _ xs⟩, some ei => cond (decide (0 ≤ j)) (cond (decide (j < (xs.length : Int))) (K (.ptr id 0 j.toNat ei.size 0) H) none) none
    | _, _ => none
  | some ⟨.slice el, _, _, _⟩, .sl id base e sz n, .i _ j => match Ty el with
    | some ei => cond (Nat.beq ei.size sz) (cond (decide (0 ≤ j)) (cond (decide (j < (n : Int))) (K (.ptr id base (e + j.toNat) sz 0) H) none) none) none
    | _ => none
  | some ⟨.arr n el, _, _, _⟩, .ptr id base e sz o, .i _ j => match Ty el with
    | some ei => cond (decide (0 ≤ j)) (cond (decide (j < (n : Int)))
        (cond (Nat.beq sz 0) (K (.ptr id (base + o) j.toNat ei.size 0) H)
          (cond (Nat.beq (sz % ei.size) 0 && Nat.beq (o % ei.size) 0) (K (.ptr id base (e * (sz / ei.size) + o / ei.size + j.toNat) ei.size 0) H) none)) none) none
    | _ => none
  | _, _, _ => none

def sliceK (Ty : Types) (H : Heap) (t : Nat) (x : AV) (lo hi mx : Option AV) (K : AV → Heap → Option R) : Option R :=
  match Ty t, x with
  | some ⟨.sc .s, _, _, _⟩, .s s => match mx with
    | none => sliceBnd lo hi s.size fun l h => K (.s (s.extract l h)) H
    | some _ => none
  | some ⟨.slice el, _, _, _⟩, .sw id => match H.get id, Ty el, lo, hi, mx with
    | some ⟨_, _, .row sh xs⟩, some ei, lo, hi, none => cond (Nat.beq ei.size sh.length) (sliceBnd lo hi xs.length fun l h => K (.sl id 0 l sh.length (h - l)) H) none
    | some ⟨_, _, .row sh xs⟩, some ei, lo, some hi, some (.i _ m) => (fun hi => cond (Nat.beq ei.size sh.length) (cond (decide (0 ≤ m)) (cond (decide (m ≤ (xs.length : Int))) (sliceBnd lo hi m.toNat fun l h => K (.sl id 0 l sh.length (h - l)) H) none) none) none) (some hi)
    | _, _, _, _, _ => none
  | some ⟨.slice el, _, _, _⟩, .sl id base e sz n => match Ty el, mx with
    | some ei, none => cond (Nat.beq ei.size sz) (sliceBnd lo hi n fun l h => K (.sl id base (e + l) sz (h - l)) H) none
    | _, _ => none
  | some ⟨.arr n el, _, _, _⟩, .ptr id base e sz o => match Ty el with
    | some ei =>
      (fun (fin : Nat → Nat → Option R) => match mx, hi with
        | none, hi => sliceBnd lo hi n fin
        | some (.i _ m), some hi => cond (decide (0 ≤ m)) (cond (decide (m ≤ (n : Int))) (sliceBnd lo (some hi) m.toNat fin) none) none
        | _, _ => none)
      (fun l h => cond (Nat.beq sz 0) (K (.sl id (base + o) l ei.size (h - l)) H)
        (cond (Nat.beq (sz % ei.size) 0 && Nat.beq (o % ei.size) 0) (K (.sl id base (e * (sz / ei.size) + o / ei.size + l) ei.size (h - l)) H) none))
    | none => none
  | _, _ => none

def makeSliceK (Ty : Types) (H : Heap) (t : Nat) (len cap : AV) (K : AV → Heap → Option R) : Option R :=
  match Ty t, len, cap with
  | some ⟨.slice el, _, _, _⟩, .i _ l, .i _ c => match Ty el, shapeOf Ty 10 el with
    | some ei, some sh => match ei.zero.cells.bind (Tup.un sh) with
      | some z => cond (Nat.blt 0 ei.bytes && Nat.beq ei.size sh.length && Nat.blt 0 sh.length) (cond (decide (0 ≤ l)) (cond (decide (l ≤ c)) (cond (decide (c * ei.bytes ≤ 140737488355328)) (K (.sw H.next) (H.add (.row sh (List.replicate l.toNat z)))) none) none) none) none
      | none => none
    | _, _ => none
  | _, _, _ => none

def lenK (Ty : Types) (H : Heap) (t : Nat) (x : AV) (K : AV → Option R) : Option R :=
  match Ty t, x with
  | some ⟨.sc .s, _, _, _⟩, .s s => K (.i .i64 s.size)
  | some ⟨.arr n _, _, _, _⟩, _ => K (.i .i64 n)
  | some ⟨.slice _, _, _, _⟩, .nsl => K (.i .i64 0)
  | some ⟨.slice _, _, _, _⟩, .sl _ _ _ _ n => K (.i .i64 n)
  | some ⟨.slice _, _, _, _⟩, .sw id => match H.get id with
    | some ⟨_, _, .row _ xs⟩ => K (.i .i64 xs.length)
    | _ => none
  | _, _ => none

/-- The elements that a slice shows, if they are of this shape. -/
def shownK (H : Heap) (sh : List SK) (x : AV) (K : List (Tup sh) → Option R) : Option R :=
  match x with
  | .nsl => K []
  | .sw id => match H.get id with
    | some ⟨_, _, .row sh' xs⟩ => if h : sh' = sh then K (h ▸ xs) else none
    | _ => none
  | .sl id base e sz n => match H.get id with
    | some ⟨_, _, .row sh' xs⟩ => if h : sh' = sh then
        cond (Nat.beq base 0 && Nat.beq sz sh.length) (cond (decide (e + n ≤ xs.length)) (K (((h ▸ xs : List (Tup sh)).drop e).take n)) none) none else none
    | some ⟨_, _, .cells cs⟩ => cond (Nat.beq sz sh.length && Nat.ble (base + e * sz + n * sz) cs.length) (match Tup.uns sh n (seg cs (base + e * sz) (n * sz)) with | some ys => cond (Nat.beq ys.length n) (K ys) none | none => none) none
    | _ => none
  | .s s => if h : sh = [.i .u8] then K (h ▸ strInts s) else none
  | _ => none

def zeroLen (z : AV) (n : Nat) : Bool := match z.cells with | some zc => Nat.beq zc.length n | none => false

def appendK (Ty : Types) (H : Heap) (t xt : Nat) (s x : AV) (K : AV → Heap → Option R) : Option R :=
  match Ty t, Ty xt with
  | some ⟨.slice el, _, _, _⟩, some xi => cond xi.d.rowLike (match Ty el, shapeOf Ty 10 el with
    | some ei, some sh => cond (Nat.blt 0 ei.bytes && Nat.beq ei.size sh.length && zeroLen ei.zero sh.length) (shownK H sh x fun ys => match s with
        | .nsl => cond (decide (((ys.length : Nat) : Int) * ei.bytes ≤ 70368744177664)) (K (.sw H.next) (H.add (.row sh ys))) none
        | .sw id => match H.get id with
          | some ⟨fam, ro, .row sh' xs⟩ =>
            if h : sh' = sh then cond ro none (cond (decide (((xs.length + ys.length : Nat) : Int) * ei.bytes ≤ 70368744177664))
              (K (.sw H.next) ⟨H.next + 1, (H.next, some ⟨fam, false, .row sh ((h ▸ xs) ++ ys)⟩) :: (killFam fam id H.bs ++ H.bs)⟩) none)
            else none
          | _ => none
        | _ => none) none
    | _, _ => none) none
  | _, _ => none

def rowBlk (Ty : Types) (el len size : Nat) (cs : List AV) : Option Blk :=
  (shapeOf Ty 10 el).bind fun sh => (Tup.uns sh len cs).bind fun xs => cond (Nat.beq xs.length len && Nat.beq sh.length size) (some (.row sh xs)) none

def buildSliceK (Ty : Types) (H : Heap) (t len : Nat) (parts : List (Nat × AV)) (K : AV → Heap → Option R) : Option R :=
  match Ty t with
  | some ⟨.slice el, _, _, _⟩ => match Ty el with
    | some ei => match ei.zero.cells with
      | some zs => cond (Nat.beq zs.length ei.size && Nat.ble (len * ei.size) 16777216) (match fillL (fun f => some (f * ei.size, ei.size)) (repl len zs) parts with
        | some cs => match rowBlk Ty el len ei.size cs with
          | some blk => K (.sw H.next) (H.add blk)
          | none => K (.sl H.next 0 0 ei.size len) (H.add (.cells cs))
        | none => none) none
      | none => none
    | none => none
  | _ => none

/-- An operation: all but calls. -/
def opK (Ty : Types) (T : Tmps) (H : Heap) (op : Op) (K : AV → Heap → Option R) : Option R :=
  match op with
  | .move x | .assign x => K (opd T x) H
  | .pick c a b => match opd T c with
    | .b x => cond x (K (opd T a) H) (K (opd T b) H)
    | _ => none
  | .alloc t => match Ty t with
    | some i => allocK H i.zero K
    | none => none
  | .box t x => match Ty t with
    | some _ => allocK H (opd T x) K
    | none => none
  | .build t parts => match Ty t with
    | some ⟨.struct fs, _, _, z⟩ => cond (fs.all fun p => (Ty p.2).isSome)
      (match z with
        | .agg zs => match fillL (fun f => (fieldOff Ty fs f).bind fun p => some (p.1, p.2.size)) zs (parts.toList.map fun p => (p.1, opd T p.2)) with
          | some cs => K (.agg cs) H
          | none => none
        | .mix pre sh n xs post => match fillL (fun f => (fieldOff Ty fs f).bind fun p => some (p.1, p.2.size)) pre (parts.toList.map fun p => (p.1, opd T p.2)) with
          | some cs => cond (Nat.beq cs.length pre.length) (K (.mix cs sh n xs post) H) none
          | none => none
        | _ => none) none
    | some ⟨.arr _ el, _, _, .agg zs⟩ => match Ty el with
      | some ei => match fillL (fun f => some (f * ei.size, ei.size)) zs (parts.toList.map fun p => (p.1, opd T p.2)) with
        | some cs => K (.agg cs) H
        | none => none
      | none => none
    | _ => none
  | .buildSlice t len parts => buildSliceK Ty H t len (parts.toList.map fun p => (p.1, opd T p.2)) K
  | .load t a => loadK Ty H t (opd T a) K
  | .store t a x => storeK Ty H t (opd T a) (opd T x) fun H => K .u H
  | .nilCheck x => match opd T x with
    | .ptr id b e sz o => K (.ptr id b e sz o) H
    | .fn f cap => K (.fn f cap) H
    | _ => none
  | .binOp op t x y _ => binK Ty op t (opd T x) (opd T y) fun v => K v H
  | .unOp op _ x => unK op (opd T x) fun v => K v H
  | .convert src dst x => match Ty src, Ty dst, opd T x with
    | some ⟨.sc (.i _), _, _, _⟩, some ⟨.sc (.i k), _, _, _⟩, .i _ n => K (.i k (k.wrap n)) H
    | some ⟨.sc .s, _, _, _⟩, some ⟨.sc .s, _, _, _⟩, .s s => K (.s s) H
    | some ⟨.sc .s, _, _, _⟩, some ⟨.slice el, _, _, _⟩, .s s => match Ty el with
      | some ⟨.sc (.i .u8), _, _, _⟩ => K (.sw H.next) ⟨H.next + 1, (H.next, some ⟨H.next, true, .row [.i .u8] (strInts s)⟩) :: H.bs⟩
      | _ => none
    | some ⟨.slice el, _, _, _⟩, some ⟨.sc .s, _, _, _⟩, x => match Ty el, x with
      | some ⟨.sc (.i .u8), _, _, _⟩, .s _ => none
      | some ⟨.sc (.i .u8), _, _, _⟩, x => shownK H [.i .u8] x fun xs => K (.s (bytesOf xs)) H
      | _, _ => none
    | _, _, _ => none
  | .makeFunc (.func f) first captured => match first.toList with
    | [] => K (.fn f (opdsL T captured.toList)) H
    | _ => none
  | .makeSlice t l c => makeSliceK Ty H t (opd T l) (opd T c) K
  | .slice t x lo hi mx => sliceK Ty H t (opd T x) (lo.map (opd T)) (hi.map (opd T)) (mx.map (opd T)) K
  | .fieldAddr t x f => match Ty t, opd T x with
    | some ⟨.struct fs, _, _, _⟩, .ptr id base e sz o => match fieldOff Ty fs f with
      | some (off, i) => cond (Nat.beq i.size 0) none (K (.ptr id base e sz (o + off)) H)
      | none => none
    | _, _ => none
  | .field t x f => match Ty t, opd T x with
    | some ⟨.struct fs, _, _, _⟩, .agg cs => match fieldOff Ty fs f with
      | some (off, i) => partAt cs off i fun v => K v H
      | none => none
    | _, _ => none
  | .indexAddr t x i => indexAddrK Ty H t (opd T x) (opd T i) K
  | .index t x i => match Ty t, opd T x, opd T i with
    | some ⟨.sc .s, _, _, _⟩, .s s, .i _ j => (strAt s j).bind fun c => K (.i .u8 c) H
    | some ⟨.arr n el, _, _, _⟩, .agg cs, .i _ j => match Ty el with
      | some ei => cond (decide (0 ≤ j)) (pickE j.toNat (fun m => partAt cs (m * ei.size) ei fun v => K v H) n 0) none
      | none => none
    | _, _, _ => none
  | .extract t ix => match opd T t with
    | .tup vs => match vs[ix]? with
      | some v => K v H
      | none => none
    | _ => none
  | _ => none

def minK (x y : AV) : Option AV :=
  match x, y with
  | .i k a, .i k' b => if k = k' then some (.i k (if b < a then b else a)) else none
  | _, _ => none
def maxK (x y : AV) : Option AV :=
  match x, y with
  | .i k a, .i k' b => if k = k' then some (.i k (if b > a then b else a)) else none
  | _, _ => none

def foldK (f : AV → AV → Option AV) : AV → List AV → Option AV
  | x, [] => some x
  | x, y :: ys => match f x y with
    | some z => foldK f z ys
    | none => none

def builtinK (Ty : Types) (H : Heap) (b : Builtin) (argTypes : List Nat) (args : List AV) (K : AV → Heap → Option R) : Option R :=
  match b, argTypes, args with
  | .len, t :: _, x :: _ => lenK Ty H t x fun v => K v H
  | .append, [t, xt], [s, x] => appendK Ty H t xt s x K
  | .min, _, x :: xs => match foldK minK x xs with
    | some v => K v H
    | none => none
  | .max, _, x :: xs => match foldK maxK x xs with
    | some v => K v H
    | none => none
  | _, _, _ => none

end

/-! ### Code -/

inductive Ex where
  | normal | exit (id : Nat) | goto (l : Nat) | ret

/-- What a function's evaluator needs: the loops' and cuts' live slots. -/
abbrev Ann := List (Nat × List Nat)

def annAt : Ann → Nat → Option (List Nat)
  | [], _ => none
  | (j, l) :: r, k => cond (Nat.beq j k) (some l) (annAt r k)

structure FnI where
  no : Nat
  fn : Func
  ann : Ann

abbrev Kont (R : Type) := Ex → Tmps → Heap → Option R
abbrev Sum (R : Type) := List AV → Heap → (AV → Heap → Option R) → Option R
abbrev LSum (R : Type) := Nat → Tmps → Heap → Kont R → Option R

structure Cx (R : Type) where
  Ty : Types
  fns : Nat → Option FnI
  sum : Nat → Option (Bool × Sum R)
  loop : Nat → Nat → Option (LSum R)
  ext : Nat → Option (List AV → Option (Bool × AV))
  fuel : Nat

def firstRegion : Code → Option Nat
  | .region id _ _ => some id
  | .seq a b => match firstRegion a with | some n => some n | none => firstRegion b
  | .block _ c | .loop c | .scope c => firstRegion c
  | _ => none

section
variable {R : Type}

/-- 'prev': the evaluator one level below: a function's body, and what a goto jumps to. -/
abbrev Prev (R : Type) := (pin : Nat) → FnI → Code → Tmps → Heap → Kont R → Option R

def argsT : List AV → Nat → Tmps
  | [], _ => []
  | v :: r, n => (n, v) :: argsT r (n + 1)

def undefs : (k n : Nat) → Tmps
  | 0, _ => []
  | k + 1, n => (n, .u) :: undefs k (n + 1)

def resultsK (Ty : Types) (T : Tmps) (H : Heap) : List ResultVar → (List AV → Option R) → Option R
  | [], K => K []
  | .tmp t :: r, K => resultsK Ty T H r fun vs => K (tget T t :: vs)
  | .cell a t :: r, K => loadK Ty H t (tget T a) fun v _ => resultsK Ty T H r fun vs => K (v :: vs)

def one : List AV → AV
  | [v] => v
  | [] => .u
  | vs => .tup vs

/-- A function's body on its own heap. -/
def bodyK (C : Cx R) (prev : Prev R) (fi : FnI) (args : List AV) (H : Heap) (K : AV → Heap → Option R) : Option R :=
  match fi.fn.body with
  | some c => cond (Nat.ble args.length fi.fn.ntmps) (prev H.next fi c (argsT args 0 ++ undefs (fi.fn.ntmps - args.length) args.length) H fun ex T H' =>
      (fun (fin : Option R) => match ex with | .ret => fin | .normal => fin | _ => none)
      (resultsK C.Ty T H' fi.fn.results.toList fun vs =>
        (fun seen => cond (seenOk H.next [one vs] H' seen) (K ((one vs).ren (idx seen)) (heapOf H' seen)) none) (seenOf H.next [one vs] H'))) none
  | none => none

def callK (C : Cx R) (prev : Prev R) (f : Nat) (args : List AV) (H : Heap) (K : AV → Heap → Option R) : Option R :=
  match C.ext f with
  | some g => match g args with | some p => cond p.1 (K p.2 H) none | none => none
  | none => match C.sum f with
    | some p => frameK p.1 args H p.2 K
    | none => frameK false args H (fun args H K => match C.fns f with
      | some fi => bodyK C prev fi args H K
      | none => none) K

def operK (C : Cx R) (prev : Prev R) (T : Tmps) (H : Heap) (op : Op) (K : AV → Heap → Option R) : Option R :=
  match op with
  | .call ⟨.builtin b, args, argTypes⟩ => builtinK C.Ty H b argTypes.toList (opdsL T args.toList) K
  | .call ⟨.value f, args, _⟩ => match opd T f with
    | .fn f cap => callK C prev f (opdsL T args.toList ++ cap) H K
    | _ => none
  | .call _ => none
  | op => opK C.Ty T H op K

def dstOf (ops : List Oper) (j : Nat) : Option Nat := match ops[j]? with | some o => o.dst | none => none

/-- The guard: carried out, skipped; what is known behind it. -/
def guardK (ops : List Oper) (o : Oper) (T : Tmps) (yes no : Tmps → Option R) : Option R :=
  match o.guard with
  | none => yes T
  | some (j, want) => match dstOf ops j with
    | none => no T
    | some d => match tget T d with
      | .b x => cond x (cond want (yes ((d, .b true) :: T)) (no ((d, .b true) :: T))) (cond want (no ((d, .b false) :: T)) (yes ((d, .b false) :: T)))
      | .u => no T
      | _ => none

def putT (nt : Nat) (dst : Option Nat) (v : AV) (T : Tmps) (K : Tmps → Option R) : Option R :=
  match dst with
  | none => K T
  | some d => cond (Nat.blt d nt) (K ((d, v) :: T)) none

def opsK (C : Cx R) (prev : Prev R) (nt : Nat) (all : List Oper) : List Oper → Tmps → Heap → (Tmps → Heap → Option R) → Option R
  | [], T, H, K => K T H
  | o :: r, T, H, K =>
    guardK all o T (fun T => operK C prev T H o.op fun v H => putT nt o.dst v T fun T => opsK C prev nt all r T H K)
      (fun T => putT nt o.dst .u T fun T => opsK C prev nt all r T H K)

/-! A region whose order is open: each operation is reckoned in what it must wait for, and no more. -/

structure Eff where
  dst : Option Nat
  v : AV
  dl : List (Nat × Option HB)
  own : Nat
  nxt : Nat
  needs : List Nat
  fams : List Nat

def bindsAny (e : Edge) : Bool := match e.ground with | .textOnly _ => false | .gcOnly _ => false | _ => true

def insAll : List Nat → List Nat → List Nat
  | [], l => l
  | x :: r, l => insAll r (cond (has l x) l (x :: l))

def getL : List (List Nat) → Nat → List Nat
  | [], _ => []
  | x :: _, 0 => x
  | _ :: r, n + 1 => getL r n

/-- Of each operation all that it waits for, by any chain. -/
def predTab : List Oper → List (List Nat) → List (List Nat)
  | [], tab => tab
  | o :: r, tab => predTab r (tab ++ [(o.after.toList.filter bindsAny).foldl (fun l e => insAll (e.on :: getL tab e.on) l) []])

def opdTmps (l : List Operand) : List Nat := l.filterMap fun | .tmp t => some t | _ => none

def looksAt (ops : List Oper) (o : Oper) : List Nat :=
  opdTmps o.op.operands.toList ++ (match o.guard with | some (j, _) => (dstOf ops j).toList | none => [])

/-- Two that may come up in either order. -/
def free (tab : List (List Nat)) (i j : Nat) : Bool := !(Nat.beq i j || has (getL tab i) j || has (getL tab j) i)

def bindsOf (o : Oper) : List Edge := o.after.toList.filter bindsAny

/-- The table tells all that is waited for, and no more; what is written by one is not looked at by another that may come up in either order; each slot is written once. -/
def opChk (ops : List Oper) (tab : List (List Nat)) (i : Nat) (oi : Oper) : Bool :=
  (getL tab i).all (fun x => Nat.blt x i && (bindsOf oi).any fun e => Nat.beq e.on x || has (getL tab e.on) x) &&
  ((bindsOf oi).all fun e => has (getL tab i) e.on) &&
  (match oi.guard with | some (g, _) => has (getL tab i) g | none => true) &&
  match oi.dst with
  | some d => (List.range ops.length).all fun j => Nat.beq i j || match ops[j]? with
    | some oj => (match oj.dst with | some d' => !Nat.beq d d' | none => true) && (!free tab i j || !has (looksAt ops oj) d)
    | none => true
  | none => true

def slotsOk (ops : List Oper) (tab : List (List Nat)) : Bool :=
  (List.range ops.length).all fun i => match ops[i]? with
    | some oi => opChk ops tab i oi
    | none => true

def effT : List Eff → Nat → List Nat → Tmps → Tmps
  | [], _, _, T => T
  | e :: r, i, ps, T => effT r (i + 1) ps (match has ps i, e.dst with | true, some d => (d, e.v) :: T | _, _ => T)

def effH : List Eff → Nat → List Nat → List (Nat × Option HB) → List (Nat × Option HB)
  | [], _, _, H => H
  | e :: r, i, ps, H => effH r (i + 1) ps (match has ps i with | true => e.dl ++ H | false => H)

def pickT (T : Tmps) : List Nat → Tmps
  | [] => []
  | t :: r => (t, tget T t) :: pickT T r

def pickH (bs : List (Nat × Option HB)) : List Nat → List (Nat × Option HB)
  | [] => []
  | id :: r => (id, look bs id) :: pickH bs r

def needsOf (T : Tmps) (H : Heap) : Op → List Nat
  | .load _ a => (opd T a).ids
  | .store _ a _ => (opd T a).ids
  | .indexAddr _ x _ | .slice _ x _ _ _ => (opd T x).ids
  | .convert _ _ x => (opd T x).ids
  | .call ⟨.builtin _, args, _⟩ => AV.idsL (opdsL T args.toList)
  | .call ⟨.value f, args, _⟩ => seenOf 0 (opd T f :: opdsL T args.toList) H
  | _ => []

def noneOf (l m : List Nat) : Bool := l.all fun x => !has m x

def dlIds (e : Eff) : List Nat := e.dl.map (·.1)

def dlFams : List (Nat × Option HB) → List Nat
  | [] => []
  | (_, some g) :: r => g.fam :: dlFams r
  | (_, none) :: r => dlFams r

def clashFree (effs : List Eff) (tab : List (List Nat)) : Bool :=
  (List.range effs.length).all fun i => (List.range effs.length).all fun j =>
    !free tab i j || match effs[i]?, effs[j]? with
      | some a, some b => noneOf (dlIds a) b.needs && noneOf (dlIds a) (dlIds b) && noneOf (dlFams a.dl) b.fams
      | _, _ => false

def asc : Nat → List Eff → Nat → Bool
  | n, [], N => Nat.ble n N
  | n, e :: r, N => Nat.ble n e.own && Nat.ble e.own e.nxt && asc e.nxt r N

def famsOf (bs : List (Nat × Option HB)) : List Nat → List Nat
  | [] => []
  | id :: r => match look bs id with
    | some g => g.fam :: famsOf bs r
    | none => famsOf bs r

def withFam (bs : List (Nat × Option HB)) (fams : List Nat) : List (Nat × Option HB) → List Nat
  | [] => []
  | (id, _) :: r => match look bs id with
    | some g => cond (has fams g.fam) (id :: withFam bs fams r) (withFam bs fams r)
    | none => withFam bs fams r

def famClosed (bs : List (Nat × Option HB)) (needs fams : List Nat) : Bool :=
  bs.all fun p => match look bs p.1 with
    | some g => !has fams g.fam || has needs p.1
    | none => true

def below (N : Nat) (T : Tmps) (bs : List (Nat × Option HB)) : Bool :=
  (T.all fun p => p.2.ids.all fun i => Nat.blt i N) && bs.all fun p => Nat.blt p.1 N && match p.2 with
    | some h => h.blk.ids.all fun i => Nat.blt i N
    | none => true

def drawK (C : Cx R) (prev : Prev R) (nt : Nat) (all : List Oper) (tab : List (List Nat)) (T0 : Tmps) (H0 : Heap) :
    List Oper → Nat → Nat → List Eff → (Tmps → Heap → Option R) → Option R
  | [], _, N, effs, K =>
    cond (clashFree effs tab && asc H0.next effs N) (K (effT effs 0 (List.range effs.length) T0) ⟨N, effH effs 0 (List.range effs.length) H0.bs⟩) none
  | o :: r, j, N, effs, K =>
    (fun (skip go : List Eff → Option R) => match o.guard with
      | none => go effs
      | some (g, want) => match effs[g]? with
        | none => none
        | some e => match e.dst with
          | none => skip effs
          | some _ => match e.v with
            | .b x => cond x ((fun effs => cond want (go effs) (skip effs)) (effs.set g ⟨e.dst, .b true, e.dl, e.own, e.nxt, e.needs, e.fams⟩))
                ((fun effs => cond want (skip effs) (go effs)) (effs.set g ⟨e.dst, .b false, e.dl, e.own, e.nxt, e.needs, e.fams⟩))
            | .u => skip effs
            | _ => none)
    (fun effs => drawK C prev nt all tab T0 H0 r (j + 1) N (effs ++ [⟨o.dst, .u, [], N, N, [], []⟩]) K)
    (fun effs => (fun (T : Tmps) (bs : List (Nat × Option HB)) => (fun (needs : List Nat) => (fun (fams : List Nat) (Hr : Heap) =>
          cond (famClosed bs needs fams && below N T Hr.bs)
          (operK C prev T Hr o.op fun v H' => cond (match o.dst with | some d => Nat.blt d nt | none => true)
            (drawK C prev nt all tab T0 H0 r (j + 1) H'.next (effs ++ [⟨o.dst, v, H'.bs.take (H'.bs.length - Hr.bs.length), N, H'.next, needs, fams⟩]) K) none) none)
          (famsOf bs needs) ⟨N, pickH bs needs⟩)
          ((fun base => base ++ withFam bs (famsOf bs base) bs) (needsOf T ⟨N, bs⟩ o.op)))
      (pickT (effT effs 0 (getL tab j) T0) (looksAt all o)) (effH effs 0 (getL tab j) H0.bs))

def normAt (live : Option (List Nat)) (pin : Nat) (T : Tmps) (H : Heap) (K : Tmps → Heap → Option R) : Option R :=
  match live with
  | some live => normK pin live T H K
  | none => K T H

def regionK (C : Cx R) (prev : Prev R) (pin nt : Nat) (ann : Ann) (id : Nat) (ops : List Oper) (draw : Bool) (T : Tmps) (H : Heap) (K : Tmps → Heap → Option R) : Option R :=
  normAt (annAt ann id) pin T H fun T H => match draw with
    | false => opsK C prev nt ops ops T H K
    | true => (fun tab => cond (slotsOk ops tab) (drawK C prev nt ops tab T H ops 0 H.next [] K) none) (predTab ops [])

def exKey (key : Nat) : Ex → Nat
  | .normal => 5000000 + key
  | .ret => 2000000 + key
  | .exit i => 3000000 + (1000 * key + i)
  | .goto l => 4000000 + (1000 * key + l)

/-- What a loop leaves by, told by what is live there. -/
def exitNorm (ann : Ann) (key pin : Nat) (K : Kont R) : Kont R := fun ex T H => normAt (annAt ann (exKey key ex)) pin T H (K ex)

def loopK (pin : Nat) (live : Option (List Nat)) (body : Tmps → Heap → Kont R → Option R) (K : Kont R) : Nat → Tmps → Heap → Option R
  | 0, _, _ => none
  | n + 1, T, H => body T H fun ex T H => match ex with
      | .normal => normAt live pin T H (loopK pin live body K n)
      | ex => K ex T H

def jumpK (pin : Nat) (live : Option (List Nat)) (scope : Code) (l : Nat) (body : Tmps → Heap → Kont R → Option R) (K : Kont R) : Nat → Tmps → Heap → Option R
  | 0, _, _ => none
  | n + 1, T, H => body T H fun ex T H => match ex with
      | .goto l' => cond (Nat.beq l' l) (normAt live pin T H (jumpK pin live scope l body K n)) (match findLabel scope l' with | some _ => none | none => K (.goto l') T H)
      | ex => K ex T H

def codeK (C : Cx R) (prev : Prev R) (pin : Nat) (fi : FnI) : Code → Tmps → Heap → Kont R → Option R
  | .skip, T, H, K => K .normal T H
  | .region id ops draw, T, H, K => regionK C prev pin fi.fn.ntmps fi.ann id ops.toList draw T H fun T H => K .normal T H
  | .seq a b, T, H, K => codeK C prev pin fi a T H fun ex T H => match ex with
    | .normal => codeK C prev pin fi b T H K
    | ex => K ex T H
  | .cond c a b, T, H, K => match opd T c with
    | .b x => (fun (set : Bool → Tmps) => cond x (codeK C prev pin fi a (set true) H K) (codeK C prev pin fi b (set false) H K))
        (fun y => match c with | .tmp t => (t, .b y) :: T | _ => T)
    | _ => none
  | .block id c, T, H, K => codeK C prev pin fi c T H fun ex T H => match ex with
    | .exit i => cond (Nat.beq i id) (K .normal T H) (K (.exit i) T H)
    | ex => K ex T H
  | .loop c, T, H, K => match firstRegion c with
    | none => none
    | some key => normAt (annAt fi.ann (100000 + key)) pin T H fun T H => match C.loop fi.no key with
      | some S => S pin T H K
      | none => loopK pin (annAt fi.ann (100000 + key)) (codeK C prev pin fi c) (exitNorm fi.ann key pin K)
          (match annAt fi.ann (300000 + key) with | some (n :: _) => n | _ => C.fuel) T H
  | .exit id, T, H, K => K (.exit id) T H
  | .scope c, T, H, K => codeK C prev pin fi c T H fun ex T H => match ex with
    | .goto l => match findLabel c l with
      | none => K (.goto l) T H
      | some rest => normAt (annAt fi.ann (200000 + l)) pin T H fun T H => match C.loop fi.no (1000000 + l) with
        | some S => S pin T H K
        | none => jumpK pin (annAt fi.ann (200000 + l)) c l (prev pin fi rest) (exitNorm fi.ann (1000000 + l) pin K) C.fuel T H
    | ex => K ex T H
  | .label _, T, H, K => K .normal T H
  | .goto l, T, H, K => K (.goto l) T H
  | .ret, T, H, K => K .ret T H
  | _, _, _, _ => none

def run (C : Cx R) : Nat → Prev R
  | 0 => fun _ _ _ _ _ _ => none
  | d + 1 => codeK C (run C d)

/-- A function, on a heap of its own. -/
def fnK (C : Cx R) (d f : Nat) (args : List AV) (H : Heap) (K : AV → Heap → Option R) : Option R :=
  match C.fns f with
  | some fi => bodyK C (run C d) fi args H K
  | none => none

end
end Go.Ab
