/- An evaluator of Go code over abstract states, in continuations: definitions alone. Conditions: none. -/
import Derived.Calls
import Derived.Orders
import Derived.ScopeJumps
import Derived.Below
import Derived.Laws.Cells
import Derived.Laws.World
import Derived.Laws.CopyRow
import Derived.Laws.StructEq
namespace Go.Ab
set_option linter.unusedVariables false
set_option linter.unusedSimpArgs false
set_option linter.constructorNameAsVariable false
open Go

/-! ### Abstract values -/

inductive SK where
  | b | i (k : IntKind) | s
  deriving DecidableEq

@[reducible] def SK.ty : SK → Type
  | .b => Bool
  | .i _ => Int
  | .s => ByteArray

@[reducible] def Tup : List SK → Type
  | [] => Unit
  | [k] => k.ty
  | k :: k' :: ks => k.ty × Tup (k' :: ks)

inductive AV where
  | b (x : Bool)
  | i (k : IntKind) (x : Int)
  | s (x : ByteArray)
  | np | nsl | nf | ni | nm | u | junk
  | ptr (id base e sz o : Nat)
  | sw (id : Nat)
  | sl (id base e sz n : Nat)
  | agg (cs : List AV)
  | mix (pre : List AV) (sh : List SK) (n : Nat) (xs : List (Tup sh)) (post : List AV)
  | tup (vs : List AV)
  | fn (f : Nat) (cap : List AV)
  | mp (id : Nat)
  | it (id : Nat)

inductive Blk where
  | cells (cs : List AV)
  | row (sh : List SK) (xs : List (Tup sh))
  | mix (pre : List AV) (sh : List SK) (n : Nat) (xs : List (Tup sh)) (post : List AV)
  | map (kvs : List (AV × AV))
  | siter (s : ByteArray) (pos : Int)

structure HB where
  fam : Nat
  ro : Bool
  blk : Blk

structure Heap where
  next : Nat
  bs : List (Nat × Option HB)

abbrev Tmps := List (Nat × AV)

def look : List (Nat × Option HB) → Nat → Option HB
  | [], _ => none
  | (j, h) :: r, id => cond (Nat.beq j id) h (look r id)

def Heap.get (H : Heap) (id : Nat) : Option HB := look H.bs id
def Heap.put (H : Heap) (id : Nat) (h : HB) : Heap := ⟨H.next, (id, some h) :: H.bs⟩
def Heap.add (H : Heap) (b : Blk) : Heap := ⟨H.next + 1, (H.next, some ⟨H.next, false, b⟩) :: H.bs⟩

def tget : Tmps → Nat → AV
  | [], _ => .junk
  | (j, v) :: r, t => cond (Nat.beq j t) v (tget r t)

/-! ### Types -/

inductive TD where
  | sc (k : SK) | ptr (e : Nat) | slice (e : Nat) | arr (n e : Nat) | struct (fs : List (Nat × Nat)) | func | map (k v : Nat)
  deriving DecidableEq

structure TI where
  d : TD
  size : Nat
  bytes : Nat
  zero : AV

def TD.isAgg : TD → Bool
  | .arr _ _ | .struct _ => true
  | _ => false

def TD.rowLike : TD → Bool
  | .slice _ => true
  | .sc .s => true
  | _ => false

/-! ### Rows -/

def SK.av : (k : SK) → k.ty → AV
  | .b, x => .b x
  | .i k, x => .i k x
  | .s, x => .s x

def SK.un : (k : SK) → AV → Option k.ty
  | .b, .b x => some x
  | .i k, .i k' x => if k = k' then some x else none
  | .s, .s x => some x
  | _, _ => none

def Tup.all : (sh : List SK) → Tup sh → List AV
  | [], _ => []
  | [k], x => [k.av x]
  | k :: k' :: ks, x => k.av x.1 :: Tup.all (k' :: ks) x.2

def Tup.un : (sh : List SK) → List AV → Option (Tup sh)
  | [], [] => some ()
  | [k], [v] => k.un v
  | k :: k' :: ks, v :: vs => (k.un v).bind fun x => (Tup.un (k' :: ks) vs).bind fun y => some (x, y)
  | _, _ => none

def Tup.uns (sh : List SK) : (fuel : Nat) → List AV → Option (List (Tup sh))
  | _, [] => some []
  | 0, _ => none
  | n + 1, vs => (Tup.un sh (vs.take sh.length)).bind fun x => (Tup.uns sh n (vs.drop sh.length)).bind fun r => some (x :: r)

def Blk.len : Blk → Nat
  | .cells cs => cs.length
  | .row sh xs => sh.length * xs.length
  | .mix pre sh n _ post => pre.length + sh.length * n + post.length
  | _ => 0

def seg (cs : List AV) (f len : Nat) : List AV := (cs.drop f).take len
def putSeg (cs : List AV) (f : Nat) (vs : List AV) : List AV := cs.take f ++ vs ++ cs.drop (f + vs.length)

section
variable {R : Type}

/-- Which element of a literal row: by its number. -/
def pickE (e : Nat) (K : Nat → Option R) : (fuel j : Nat) → Option R
  | 0, _ => none
  | f + 1, j => cond (Nat.beq e j) (K j) (pickE e K f (j + 1))

def rdRow (sh : List SK) (xs : List (Tup sh)) (e o len : Nat) (K : List AV → Option R) : Option R :=
  cond (Nat.ble (o + len) sh.length) ((xs[e]?).bind fun x => K (seg (Tup.all sh x) o len)) none

def rdCells (cs : List AV) (f len : Nat) (K : List AV → Option R) : Option R :=
  cond (Nat.ble (f + len) cs.length) (K (seg cs f len)) none

/-- 'len' cells from a place on. -/
def rd (b : Blk) (base e sz o len : Nat) (K : List AV → Option R) : Option R :=
  match b with
  | .cells cs =>
    cond (Nat.beq sz 0) (rdCells cs (base + o) len K) (pickE e (fun j => rdCells cs (base + j * sz + o) len K) cs.length 0)
  | .row sh xs =>
    cond (Nat.beq sz 0) (rdRow sh xs ((base + o) / sh.length) ((base + o) % sh.length) len K)
      (cond (Nat.beq sz sh.length && Nat.beq base 0) (rdRow sh xs e o len K) none)
  | .mix pre sh n xs post =>
    cond (Nat.beq sz 0)
      (cond (Nat.ble (base + o + len) pre.length) (rdCells pre (base + o) len K)
        (cond (Nat.ble (pre.length + sh.length * n) (base + o)) (rdCells post (base + o - (pre.length + sh.length * n)) len K)
          (cond (Nat.ble pre.length (base + o)) (rdRow sh xs ((base + o - pre.length) / sh.length) ((base + o - pre.length) % sh.length) len K) none)))
      (cond (Nat.beq sz sh.length && Nat.beq base pre.length) (rdRow sh xs e o len K) none)
  | _ => none

def wrRow (sh : List SK) (xs : List (Tup sh)) (e o : Nat) (vs : List AV) (K : List (Tup sh) → Option R) : Option R :=
  cond (Nat.ble (o + vs.length) sh.length) ((xs[e]?).bind fun x => (Tup.un sh (putSeg (Tup.all sh x) o vs)).bind fun y => K (xs.set e y)) none

def wrCells (cs : List AV) (f : Nat) (vs : List AV) (K : List AV → Option R) : Option R :=
  cond (Nat.ble (f + vs.length) cs.length) (K (putSeg cs f vs)) none

def wr (b : Blk) (base e sz o : Nat) (vs : List AV) (K : Blk → Option R) : Option R :=
  match b with
  | .cells cs =>
    cond (Nat.beq sz 0) (wrCells cs (base + o) vs fun cs => K (.cells cs)) (pickE e (fun j => wrCells cs (base + j * sz + o) vs fun cs => K (.cells cs)) cs.length 0)
  | .row sh xs =>
    cond (Nat.beq sz 0) (wrRow sh xs ((base + o) / sh.length) ((base + o) % sh.length) vs fun xs => K (.row sh xs))
      (cond (Nat.beq sz sh.length && Nat.beq base 0) (wrRow sh xs e o vs fun xs => K (.row sh xs)) none)
  | .mix pre sh n xs post =>
    cond (Nat.beq sz 0)
      (cond (Nat.ble (base + o + vs.length) pre.length) (wrCells pre (base + o) vs fun pre => K (.mix pre sh n xs post))
        (cond (Nat.ble (pre.length + sh.length * n) (base + o)) (wrCells post (base + o - (pre.length + sh.length * n)) vs fun post => K (.mix pre sh n xs post))
          (cond (Nat.ble pre.length (base + o)) (wrRow sh xs ((base + o - pre.length) / sh.length) ((base + o - pre.length) % sh.length) vs fun xs => K (.mix pre sh n xs post)) none)))
      (cond (Nat.beq sz sh.length && Nat.beq base pre.length) (wrRow sh xs e o vs fun xs => K (.mix pre sh n xs post)) none)
  | _ => none

end

/-! ### Names of blocks, turned -/

mutual
def AV.ids : AV → List Nat
  | .ptr id _ _ _ _ | .sw id | .sl id _ _ _ _ | .mp id | .it id => [id]
  | .agg cs | .tup cs | .fn _ cs => AV.idsL cs
  | .mix pre _ _ _ post => AV.idsL pre ++ AV.idsL post
  | _ => []
def AV.idsL : List AV → List Nat
  | [] => []
  | v :: r => AV.ids v ++ AV.idsL r
end

mutual
def AV.ren (f : Nat → Nat) : AV → AV
  | .ptr id bs e sz o => .ptr (f id) bs e sz o
  | .sw id => .sw (f id)
  | .sl id bs e sz n => .sl (f id) bs e sz n
  | .mp id => .mp (f id)
  | .it id => .it (f id)
  | .agg cs => .agg (AV.renL f cs)
  | .tup cs => .tup (AV.renL f cs)
  | .fn g cs => .fn g (AV.renL f cs)
  | .mix pre sh n xs post => .mix (AV.renL f pre) sh n xs (AV.renL f post)
  | .b x => .b x
  | .i k x => .i k x
  | .s x => .s x
  | .np => .np
  | .nsl => .nsl
  | .nf => .nf
  | .ni => .ni
  | .nm => .nm
  | .u => .u
  | .junk => .junk
def AV.renL (f : Nat → Nat) : List AV → List AV
  | [] => []
  | v :: r => AV.ren f v :: AV.renL f r
end

def Blk.ids : Blk → List Nat
  | .cells cs => AV.idsL cs
  | .row _ _ => []
  | .mix pre _ _ _ post => AV.idsL pre ++ AV.idsL post
  | .map kvs => kvs.flatMap fun p => p.1.ids ++ p.2.ids
  | .siter _ _ => []

def Blk.ren (f : Nat → Nat) : Blk → Blk
  | .cells cs => .cells (AV.renL f cs)
  | .row sh xs => .row sh xs
  | .mix pre sh n xs post => .mix (AV.renL f pre) sh n xs (AV.renL f post)
  | .map kvs => .map (kvs.map fun p => (p.1.ren f, p.2.ren f))
  | .siter s pos => .siter s pos

def has : List Nat → Nat → Bool
  | [], _ => false
  | x :: r, y => cond (Nat.beq x y) true (has r y)

def idx : List Nat → Nat → Nat
  | [], _ => 0
  | x :: r, y => cond (Nat.beq x y) 0 (idx r y + 1)

def getN : List Nat → Nat → Nat
  | [], _ => 0
  | x :: _, 0 => x
  | _ :: r, n + 1 => getN r n

def idsAt (H : Heap) (id : Nat) : List Nat := match H.get id with | some h => h.blk.ids | none => []

def reach (H : Heap) : (fuel : Nat) → (todo seen : List Nat) → List Nat
  | 0, _, seen => seen
  | n + 1, todo, seen => match todo with
    | [] => seen
    | id :: r => cond (has seen id) (reach H n r seen) (reach H n (r ++ idsAt H id) (seen ++ [id]))

def famAt (H : Heap) (id : Nat) : Nat := match H.get id with | some h => h.fam | none => id

/-- The first of 'l' that is of this family. -/
def firstOf (H : Heap) (fam : Nat) : List Nat → Nat → Nat
  | [], n => n
  | x :: r, n => match H.get x with
    | some h => cond (Nat.beq h.fam fam) n (firstOf H fam r (n + 1))
    | none => firstOf H fam r (n + 1)

def restrict (H : Heap) (seen : List Nat) : List Nat → Nat → List (Nat × Option HB)
  | [], _ => []
  | x :: r, n => (n, match H.get x with
      | some h => some ⟨firstOf H h.fam seen 0, h.ro, h.blk.ren (idx seen)⟩
      | none => none) :: restrict H seen r (n + 1)

def seenOf (pin : Nat) (vals : List AV) (H : Heap) : List Nat :=
  reach H 1000 ((List.range pin).flatMap (idsAt H) ++ AV.idsL vals) (List.range pin)

def heapOf (H : Heap) (seen : List Nat) : Heap := ⟨seen.length, restrict H seen seen 0⟩

def liveVals (T : Tmps) : List Nat → List AV
  | [] => []
  | t :: r => tget T t :: liveVals T r

def zipT : List Nat → List AV → Tmps
  | t :: r, v :: vs => (t, v) :: zipT r vs
  | _, _ => []

section
variable {R : Type}

/-- Nothing that is met is missing, and the pinned ones stand ahead. -/
def seenOk (pin : Nat) (vals : List AV) (H : Heap) (seen : List Nat) : Bool :=
  (AV.idsL vals).all (has seen) && (seen.all fun x => (idsAt H x).all (has seen)) && ((List.range pin).all fun i => Nat.beq (getN seen i) i && Nat.blt i seen.length) && (seen.all fun i => Nat.blt i H.next)

/-- Only what is live, by new names (those below 'pin' keep theirs). -/
def normK (pin : Nat) (live : List Nat) (T : Tmps) (H : Heap) (K : Tmps → Heap → Option R) : Option R :=
  (fun seen => cond (seenOk pin (liveVals T live) H seen) (K (zipT live (AV.renL (idx seen) (liveVals T live))) (heapOf H seen)) none) (seenOf pin (liveVals T live) H)

/-- A callee's names back in the caller's. -/
def back (seen : List Nat) (next : Nat) (i : Nat) : Nat := cond (Nat.blt i seen.length) (getN seen i) (next + (i - seen.length))

def backFam (H : Heap) (seen : List Nat) (f : Nat) : Nat := cond (Nat.blt f seen.length) (famAt H (getN seen f)) (H.next + (f - seen.length))

def merged (H : Heap) (seen : List Nat) (H' : Heap) : (fuel i : Nat) → List (Nat × Option HB)
  | 0, _ => []
  | n + 1, i => (back seen H.next i, match H'.get i with
      | some h => some ⟨backFam H seen h.fam, h.ro, h.blk.ren (back seen H.next)⟩
      | none => none) :: merged H seen H' n (i + 1)

def famIs (H : Heap) (fam x : Nat) : Bool := match H.get x with | some g => Nat.beq g.fam fam | none => false

/-- Blocks of a family that went into a call, and did not go in themselves: nothing is known of them behind it. -/
def lost (H : Heap) (seen : List Nat) : List (Nat × Option HB) → List (Nat × Option HB)
  | [] => []
  | (id, _) :: r => match H.get id with
    | some h => cond (!has seen id && seen.any (famIs H h.fam)) ((id, none) :: lost H seen r) (lost H seen r)
    | none => lost H seen r

def mergeH (H : Heap) (seen : List Nat) (H' : Heap) : Heap :=
  ⟨H.next + (H'.next - seen.length), merged H seen H' H'.next 0 ++ (lost H seen H.bs ++ H.bs)⟩

/-- The same, of a callee that leaves as they were the blocks that it was given. -/
def mergeK (H : Heap) (seen : List Nat) (H' : Heap) : Heap :=
  ⟨H.next + (H'.next - seen.length), merged H seen H' (H'.next - seen.length) seen.length ++ (lost H seen H.bs ++ H.bs)⟩

/-- A call in its own frame. -/
def frameK (keep : Bool) (args : List AV) (H : Heap) (callee : List AV → Heap → (AV → Heap → Option R) → Option R) (K : AV → Heap → Option R) : Option R :=
  (fun seen => cond (seenOk 0 args H seen)
    (callee (AV.renL (idx seen) args) (heapOf H seen) fun v H' => cond (Nat.ble seen.length H'.next && (v.ids.all fun i => Nat.blt i H'.next) && ((List.range H'.next).all fun i => (idsAt H' i).all fun j => Nat.blt j H'.next))
      (K (v.ren (back seen H.next)) (cond keep (mergeK H seen H') (mergeH H seen H'))) none) none) (seenOf 0 args H)

end

/-! ### Operands -/

def ofScalar : Value → AV
  | .bool x => .b x
  | .int k n => .i k n
  | .string s => .s s
  | .pointer none => .np
  | .slice none 0 0 => .nsl
  | .nilFunc => .nf
  | .nilIface => .ni
  | .map none => .nm
  | _ => .junk

def ofValue : Value → AV
  | .agg cs => .agg (cs.toList.map ofScalar)
  | .tuple vs => match vs.toList with | [] => .u | _ => .junk
  | v => ofScalar v

def opd (T : Tmps) : Operand → AV
  | .tmp t => tget T t
  | .const v => ofValue v
  | .global _ => .junk
  | .func f => .fn f []

/-! ### Operations -/

abbrev Types := Nat → Option TI

/-- One cell's value. -/
def AV.isOne : AV → Bool
  | .agg _ | .mix .. | .tup _ | .u | .junk => false
  | _ => true

def AV.cells : AV → Option (List AV)
  | .agg cs => some cs
  | v => match v.isOne with | true => some [v] | false => none

def blkOf : AV → Option Blk
  | .mix pre sh n xs post => some (.mix pre sh n xs post)
  | v => match v.cells with | some cs => some (.cells cs) | none => none

/-- Fields one behind the other, each of a shape. -/
def shapeFs (g : Nat → Option (List SK)) : List (Nat × Nat) → Nat → Option (List SK)
  | [], _ => some []
  | (off, t) :: r, n => cond (Nat.beq off n) ((g t).bind fun x => (shapeFs g r (n + x.length)).bind fun y => some (x ++ y)) none

def shapeOf (Ty : Types) : (fuel : Nat) → Nat → Option (List SK)
  | 0, _ => none
  | d + 1, t => match Ty t with
    | some ⟨.sc k, _, _, _⟩ => some [k]
    | some ⟨.struct fs, size, _, _⟩ => (shapeFs (shapeOf Ty d) fs 0).bind fun sh => cond (Nat.beq sh.length size) (some sh) none
    | _ => none

def orInt (k : IntKind) (f : BitVec k.bits → BitVec k.bits → BitVec k.bits) (x y : Int) : Int := k.wrap (f (BitVec.ofInt k.bits x) (BitVec.ofInt k.bits y)).toNat
def bAnd (k : IntKind) (x y : Int) : Int := orInt k (· &&& ·) x y
def bOr (k : IntKind) (x y : Int) : Int := orInt k (· ||| ·) x y
def bXor (k : IntKind) (x y : Int) : Int := orInt k (· ^^^ ·) x y
def bAndNot (k : IntKind) (x y : Int) : Int := orInt k (fun a b => a &&& ~~~b) x y
def shl (k : IntKind) (x y : Int) : Int := k.wrap (x * 2 ^ (min y.toNat k.bits))
def shr (k : IntKind) (x y : Int) : Int := x.fdiv (2 ^ (min y.toNat k.bits))

/-- '==' of values that hold no address, as the model's operator reckons it. -/
def eqS : AV → AV → Option Bool
  | .b x, .b y => some (x == y)
  | .i k x, .i k' y => if k = k' then some (x == y) else none
  | .s x, .s y => some (x == y)
  | _, _ => none

def eqL : List AV → List AV → Option Bool
  | [], [] => some true
  | [x], [y] => eqS x y
  | x :: xs, y :: ys => (eqS x y).bind fun a => (eqL xs ys).bind fun b => some (a && b)
  | _, _ => none

def eqV (Ty : Types) (t : Nat) (x y : AV) : Option Bool :=
  match x, y with
  | .agg xs, .agg ys => match Ty t with
    | some ⟨.struct _, _, _, _⟩ => (shapeOf Ty 10 t).bind fun sh => cond ((Tup.un sh xs).isSome && (Tup.un sh ys).isSome) (eqL xs ys) none
    | _ => none
  | .np, .np => match Ty t with | some ⟨.ptr _, _, _, _⟩ => some true | _ => none
  | .np, .ptr .. => match Ty t with | some ⟨.ptr _, _, _, _⟩ => some false | _ => none
  | .ptr .., .np => match Ty t with | some ⟨.ptr _, _, _, _⟩ => some false | _ => none
  | .nf, .nf => match Ty t with | some ⟨.func, _, _, _⟩ => some true | _ => none
  | .nf, .fn .. => match Ty t with | some ⟨.func, _, _, _⟩ => some false | _ => none
  | .fn .., .nf => match Ty t with | some ⟨.func, _, _, _⟩ => some false | _ => none
  | .nsl, .nsl => match Ty t with | some ⟨.slice _, _, _, _⟩ => some true | _ => none
  | .b a, .b b => match Ty t with | some ⟨.sc .b, _, _, _⟩ => some (a == b) | _ => none
  | _, _ => none

@[reducible] def Wi8 (x : Int) : Int := IntKind.wrap .i8 x
@[reducible] def Wi16 (x : Int) : Int := IntKind.wrap .i16 x
@[reducible] def Wi32 (x : Int) : Int := IntKind.wrap .i32 x
@[reducible] def Wi64 (x : Int) : Int := IntKind.wrap .i64 x
@[reducible] def Wu8 (x : Int) : Int := IntKind.wrap .u8 x
@[reducible] def Wu16 (x : Int) : Int := IntKind.wrap .u16 x
@[reducible] def Wu32 (x : Int) : Int := IntKind.wrap .u32 x
@[reducible] def Wu64 (x : Int) : Int := IntKind.wrap .u64 x

def strInts (s : ByteArray) : List Int := s.data.toList.map fun b => (b.toNat : Int)
def bytesOf (xs : List Int) : ByteArray := ⟨(xs.map fun n : Int => UInt8.ofNat n.toNat).toArray⟩

section
variable {R : Type}

def binK (Ty : Types) (op : BinOp) (t : Nat) (x y : AV) (K : AV → Option R) : Option R :=
  match op, x, y with
  | .shl, .i k a, .i _ b => cond (decide (b < 0)) none (K (.i k (shl k a b)))
  | .shr, .i k a, .i _ b => cond (decide (b < 0)) none (K (.i k (shr k a b)))
  | op, .i k a, .i k' b =>
    if k = k' then
      match op with
      | .add => K (.i k (k.wrap (a + b)))
      | .sub => K (.i k (k.wrap (a - b)))
      | .mul => K (.i k (k.wrap (a * b)))
      | .quo => cond (decide (b = 0)) none (K (.i k (k.wrap (a.tdiv b))))
      | .rem => cond (decide (b = 0)) none (K (.i k (a.tmod b)))
      | .and => K (.i k (bAnd k a b))
      | .or => K (.i k (bOr k a b))
      | .xor => K (.i k (bXor k a b))
      | .andNot => K (.i k (bAndNot k a b))
      | .eql => K (.b (a == b))
      | .neq => K (.b (a != b))
      | .lss => K (.b (decide (a < b)))
      | .leq => K (.b (decide (a ≤ b)))
      | .gtr => K (.b (decide (a > b)))
      | .geq => K (.b (decide (a ≥ b)))
      | _ => none
    else none
  | .add, .s a, .s b => cond (Nat.ble (a.size + b.size) 9223372036854775807) (K (.s (a ++ b))) none
  | .eql, .s a, .s b => K (.b (a.toList == b.toList))
  | .neq, .s a, .s b => K (.b (!(a.toList == b.toList)))
  | .eql, x, y => match eqV Ty t x y with | some b => K (.b b) | none => none
  | .neq, x, y => match eqV Ty t x y with | some b => K (.b (!b)) | none => none
  | _, _, _ => none

def unK (op : UnOp) (x : AV) (K : AV → Option R) : Option R :=
  match op, x with
  | .not, .b x => K (.b (!x))
  | .neg, .i k n => K (.i k (k.wrap (0 - n)))
  | .xor, .i k n => K (.i k (bXor k (if k.signed then -1 else k.max) n))
  | _, _ => none

def partAt (cs : List AV) (off : Nat) (i : TI) (K : AV → Option R) : Option R :=
  cond (Nat.ble (off + i.size) cs.length)
    (match i.d.isAgg with
     | true => K (.agg (seg cs off i.size))
     | false => match seg cs off 1 with | [v] => K v | _ => none) none

def strAt (s : ByteArray) (i : Int) : Option Int := if 0 ≤ i then (s[i.toNat]?).map (fun b => (b.toNat : Int)) else none

/-- Parts into the cells of a zero value: places (offset, size). -/
def fillL (place : Nat → Option (Nat × Nat)) (cells : List AV) : List (Nat × AV) → Option (List AV)
  | [] => some cells
  | (i, v) :: rest => match place i, v.cells with
    | some (off, size), some vs => cond (Nat.beq vs.length size && Nat.ble (off + size) cells.length) (fillL place (putSeg cells off vs) rest) none
    | _, _ => none

def fieldOff (Ty : Types) (fs : List (Nat × Nat)) (f : Nat) : Option (Nat × TI) := (fs[f]?).bind fun p => (Ty p.2).bind fun i => some (p.1, i)

def repl (n : Nat) (zero : List AV) : List AV := match n with | 0 => [] | n + 1 => zero ++ repl n zero

def opdsL (T : Tmps) (l : List Operand) : List AV := l.map (opd T)

def sliceBnd (lo hi : Option AV) (len : Nat) (K : Nat → Nat → Option R) : Option R :=
  match lo, hi with
  | none, none => K 0 len
  | some (.i _ a), none => cond (decide (0 ≤ a)) (cond (decide (a ≤ (len : Int))) (K a.toNat len) none) none
  | none, some (.i _ b) => cond (decide (0 ≤ b)) (cond (decide (b ≤ (len : Int))) (K 0 b.toNat) none) none
  | some (.i _ a), some (.i _ b) => cond (decide (0 ≤ b)) (cond (decide (b ≤ (len : Int))) (cond (decide (0 ≤ a)) (cond (decide (a ≤ b)) (K a.toNat b.toNat) none) none) none) none
  | _, _ => none

def allocK (H : Heap) (v : AV) (K : AV → Heap → Option R) : Option R :=
  match blkOf v with
  | some b => K (.ptr H.next 0 0 0 0) (H.add b)
  | none => none

def loadK (Ty : Types) (H : Heap) (t : Nat) (a : AV) (K : AV → Heap → Option R) : Option R :=
  match Ty t, a with
  | some i, .ptr id base e sz o => match H.get id with
    | some h => match i.d.isAgg with
      | false => rd h.blk base e sz o 1 fun l => match l with | [v] => K v H | _ => none
      | true => match h.blk with
        | .mix pre sh n xs post =>
          cond (Nat.beq sz 0 && Nat.beq (base + o) 0 && Nat.beq i.size (pre.length + sh.length * n + post.length)) (K (.mix pre sh n xs post) H)
            (cond (Nat.beq sz 0 && Nat.beq (base + o) pre.length && Nat.beq i.size (sh.length * n)) (K (.mix [] sh n xs []) H)
              (rd h.blk base e sz o i.size fun l => K (.agg l) H))
        | blk => rd blk base e sz o i.size fun l => K (.agg l) H
    | none => none
  | _, _ => none

/-- All others of a family: nothing is known of them any more. -/
def killFam (fam : Nat) (but : Nat) : List (Nat × Option HB) → List (Nat × Option HB)
  | [] => []
  | (id, some g) :: r => cond (Nat.beq g.fam fam && !Nat.beq id but) ((id, none) :: killFam fam but r) (killFam fam but r)
  | (_, none) :: r => killFam fam but r

def storeK (Ty : Types) (H : Heap) (t : Nat) (a v : AV) (K : Heap → Option R) : Option R :=
  match Ty t, a with
  | some i, .ptr id base e sz o => match H.get id with
    | some h => cond h.ro none
      ((fun (fin : Blk → Option R) => match v with
        | .mix pre sh n xs post => match h.blk with
          | .mix pre' sh' n' _ post' => cond (Nat.beq sz 0 && Nat.beq (base + o) 0 && Nat.beq pre.length pre'.length && Nat.beq n n' && Nat.beq post.length post'.length && Nat.beq sh.length sh'.length && Nat.beq i.size (pre.length + sh.length * n + post.length) && pre.all AV.isOne && post.all AV.isOne)
              (fin (.mix pre sh n xs post)) none
          | _ => none
        | v => match v.cells with
          | some vs => cond (Nat.beq vs.length i.size && vs.all AV.isOne) (wr h.blk base e sz o vs fin) none
          | none => none)
      (fun blk => K ⟨H.next, (id, some ⟨h.fam, false, blk⟩) :: (killFam h.fam id H.bs ++ H.bs)⟩))
    | none => none
  | _, _ => none

def indexAddrK (Ty : Types) (H : Heap) (t : Nat) (x i : AV) (K : AV → Heap → Option R) : Option R :=
  match Ty t, x, i with
  | some ⟨.slice el, _, _, _⟩, .sw id, .i _ j => match H.get id, Ty el with
    | some ⟨_, _, .row _ xs⟩, some ei => cond (decide (0 ≤ j)) (cond (decide (j < (xs.length : Int))) (K (.ptr id 0 j.toNat ei.size 0) H) none) none
    | _, _ => none
  | some ⟨.slice el, _, _, _⟩, .sl id base e sz n, .i _ j => match Ty el with
    | some ei => cond (Nat.beq ei.size sz) (cond (decide (0 ≤ j)) (cond (decide (j < (n : Int))) (K (.ptr id base (e + j.toNat) sz 0) H) none) none) none
    | _ => none
  | some ⟨.arr n el, _, _, _⟩, .ptr id base e sz o, .i _ j => match Ty el with
    | some ei => cond (decide (0 ≤ j)) (cond (decide (j < (n : Int)))
        (cond (Nat.beq sz 0) (K (.ptr id (base + o) j.toNat ei.size 0) H)
          (cond (Nat.beq (sz % ei.size) 0 && Nat.beq (o % ei.size) 0) (K (.ptr id base (e * (sz / ei.size) + o / ei.size + j.toNat) ei.size 0) H) none)) none) none
    | _ => none
  | _, _, _ => none

def sliceK (Ty : Types) (H : Heap) (t : Nat) (x : AV) (lo hi mx : Option AV) (K : AV → Heap → Option R) : Option R :=
  match Ty t, x with
  | some ⟨.sc .s, _, _, _⟩, .s s => match mx with
    | none => sliceBnd lo hi s.size fun l h => K (.s (s.extract l h)) H
    | some _ => none
  | some ⟨.slice el, _, _, _⟩, .sw id => match H.get id, Ty el, lo, hi, mx with
    | some ⟨_, _, .row sh xs⟩, some ei, lo, hi, none => cond (Nat.beq ei.size sh.length) (sliceBnd lo hi xs.length fun l h => K (.sl id 0 l sh.length (h - l)) H) none
    | some ⟨_, _, .row sh xs⟩, some ei, lo, some hi, some (.i _ m) => (fun hi => cond (Nat.beq ei.size sh.length) (cond (decide (0 ≤ m)) (cond (decide (m ≤ (xs.length : Int))) (sliceBnd lo hi m.toNat fun l h => K (.sl id 0 l sh.length (h - l)) H) none) none) none) (some hi)
    | _, _, _, _, _ => none
  | some ⟨.slice el, _, _, _⟩, .sl id base e sz n => match Ty el, mx with
    | some ei, none => cond (Nat.beq ei.size sz) (sliceBnd lo hi n fun l h => K (.sl id base (e + l) sz (h - l)) H) none
    | _, _ => none
  | some ⟨.arr n el, _, _, _⟩, .ptr id base e sz o => match Ty el with
    | some ei =>
      (fun (fin : Nat → Nat → Option R) => match mx, hi with
        | none, hi => sliceBnd lo hi n fin
        | some (.i _ m), some hi => cond (decide (0 ≤ m)) (cond (decide (m ≤ (n : Int))) (sliceBnd lo (some hi) m.toNat fin) none) none
        | _, _ => none)
      (fun l h => cond (Nat.beq sz 0) (K (.sl id (base + o) l ei.size (h - l)) H)
        (cond (Nat.beq (sz % ei.size) 0 && Nat.beq (o % ei.size) 0) (K (.sl id base (e * (sz / ei.size) + o / ei.size + l) ei.size (h - l)) H) none))
    | none => none
  | _, _ => none

def makeSliceK (Ty : Types) (H : Heap) (t : Nat) (len cap : AV) (K : AV → Heap → Option R) : Option R :=
  match Ty t, len, cap with
  | some ⟨.slice el, _, _, _⟩, .i _ l, .i _ c => match Ty el, shapeOf Ty 10 el with
    | some ei, some sh => match ei.zero.cells.bind (Tup.un sh) with
      | some z => cond (Nat.blt 0 ei.bytes && Nat.beq ei.size sh.length && Nat.blt 0 sh.length) (cond (decide (0 ≤ l)) (cond (decide (l ≤ c)) (cond (decide (c * ei.bytes ≤ 140737488355328)) (K (.sw H.next) (H.add (.row sh (List.replicate l.toNat z)))) none) none) none) none
      | none => none
    | _, _ => none
  | _, _, _ => none

def lenK (Ty : Types) (H : Heap) (t : Nat) (x : AV) (K : AV → Option R) : Option R :=
  match Ty t, x with
  | some ⟨.sc .s, _, _, _⟩, .s s => K (.i .i64 s.size)
  | some ⟨.arr n _, _, _, _⟩, _ => K (.i .i64 n)
  | some ⟨.slice _, _, _, _⟩, .nsl => K (.i .i64 0)
  | some ⟨.slice _, _, _, _⟩, .sl _ _ _ _ n => K (.i .i64 n)
  | some ⟨.slice _, _, _, _⟩, .sw id => match H.get id with
    | some ⟨_, _, .row _ xs⟩ => K (.i .i64 xs.length)
    | _ => none
  | _, _ => none

/-- The elements that a slice shows, if they are of this shape. -/
def shownK (H : Heap) (sh : List SK) (x : AV) (K : List (Tup sh) → Option R) : Option R :=
  match x with
  | .nsl => K []
  | .sw id => match H.get id with
    | some ⟨_, _, .row sh' xs⟩ => if h : sh' = sh then K (h ▸ xs) else none
    | _ => none
  | .sl id base e sz n => match H.get id with
    | some ⟨_, _, .row sh' xs⟩ => if h : sh' = sh then
        cond (Nat.beq base 0 && Nat.beq sz sh.length) (cond (decide (e + n ≤ xs.length)) (K (((h ▸ xs : List (Tup sh)).drop e).take n)) none) none else none
    | some ⟨_, _, .cells cs⟩ => cond (Nat.beq sz sh.length && Nat.ble (base + e * sz + n * sz) cs.length) (match Tup.uns sh n (seg cs (base + e * sz) (n * sz)) with | some ys => cond (Nat.beq ys.length n) (K ys) none | none => none) none
    | _ => none
  | .s s => if h : sh = [.i .u8] then K (h ▸ strInts s) else none
  | _ => none

def zeroLen (z : AV) (n : Nat) : Bool := match z.cells with | some zc => Nat.beq zc.length n | none => false

def appendK (Ty : Types) (H : Heap) (t xt : Nat) (s x : AV) (K : AV → Heap → Option R) : Option R :=
  match Ty t, Ty xt with
  | some ⟨.slice el, _, _, _⟩, some xi => cond xi.d.rowLike (match Ty el, shapeOf Ty 10 el with
    | some ei, some sh => cond (Nat.blt 0 ei.bytes && Nat.beq ei.size sh.length && zeroLen ei.zero sh.length) (shownK H sh x fun ys => match s with
        | .nsl => cond (Nat.ble (ys.length * ei.bytes) 70368744177664) (K (.sw H.next) (H.add (.row sh ys))) none
        | .sw id => match H.get id with
          | some ⟨fam, ro, .row sh' xs⟩ =>
            if h : sh' = sh then cond ro none (cond (Nat.ble ((xs.length + ys.length) * ei.bytes) 70368744177664)
              (K (.sw H.next) ⟨H.next + 1, (H.next, some ⟨fam, false, .row sh ((h ▸ xs) ++ ys)⟩) :: (killFam fam id H.bs ++ H.bs)⟩) none)
            else none
          | _ => none
        | _ => none) none
    | _, _ => none) none
  | _, _ => none

def rowBlk (Ty : Types) (el len size : Nat) (cs : List AV) : Option Blk :=
  (shapeOf Ty 10 el).bind fun sh => (Tup.uns sh len cs).bind fun xs => cond (Nat.beq xs.length len && Nat.beq sh.length size) (some (.row sh xs)) none

def buildSliceK (Ty : Types) (H : Heap) (t len : Nat) (parts : List (Nat × AV)) (K : AV → Heap → Option R) : Option R :=
  match Ty t with
  | some ⟨.slice el, _, _, _⟩ => match Ty el with
    | some ei => match ei.zero.cells with
      | some zs => cond (Nat.beq zs.length ei.size && Nat.ble (len * ei.size) 16777216) (match fillL (fun f => some (f * ei.size, ei.size)) (repl len zs) parts with
        | some cs => match rowBlk Ty el len ei.size cs with
          | some blk => K (.sw H.next) (H.add blk)
          | none => K (.sl H.next 0 0 ei.size len) (H.add (.cells cs))
        | none => none) none
      | none => none
    | none => none
  | _ => none

/-- A text's rune at a byte, and how many bytes it has. -/
def runeAt (s : ByteArray) (pos : Int) : Int := ((Utf8.decode s pos.toNat).1 : Nat)
def runeW (s : ByteArray) (pos : Int) : Int := ((Utf8.decode s pos.toNat).2 : Nat)

def rangeK (Ty : Types) (H : Heap) (t : Nat) (x : AV) (K : AV → Heap → Option R) : Option R :=
  match Ty t, x with
  | some ⟨.sc .s, _, _, _⟩, .s s => K (.ptr H.next 0 0 0 0) (H.add (.siter s 0))
  | _, _ => none

def nextK (H : Heap) (str : Bool) (x : AV) (K : AV → Heap → Option R) : Option R :=
  match str, x with
  | true, .ptr id base e sz o => match H.get id with
    | some ⟨fam, ro, .siter s pos⟩ => cond (ro || !Nat.beq (base + e * sz + o) 0) none
        (cond (decide (pos < (s.size : Int)))
          (K (.tup [.b true, .i .i64 pos, .i .i32 (runeAt s pos)]) ⟨H.next, (id, some ⟨fam, false, .siter s (pos + runeW s pos)⟩) :: (killFam fam id H.bs ++ H.bs)⟩)
          (K (.tup [.b false]) H))
    | _ => none
  | _, _ => none

/-- An operation: all but calls. -/
def opK (Ty : Types) (T : Tmps) (H : Heap) (op : Op) (K : AV → Heap → Option R) : Option R :=
  match op with
  | .move x | .assign x => K (opd T x) H
  | .pick c a b => match opd T c with
    | .b x => cond x (K (opd T a) H) (K (opd T b) H)
    | _ => none
  | .alloc t => match Ty t with
    | some i => allocK H i.zero K
    | none => none
  | .box t x => match Ty t with
    | some _ => allocK H (opd T x) K
    | none => none
  | .build t parts => match Ty t with
    | some ⟨.struct fs, _, _, z⟩ => cond (fs.all fun p => (Ty p.2).isSome)
      (match z with
        | .agg zs => match fillL (fun f => (fieldOff Ty fs f).bind fun p => some (p.1, p.2.size)) zs (parts.toList.map fun p => (p.1, opd T p.2)) with
          | some cs => K (.agg cs) H
          | none => none
        | .mix pre sh n xs post => match fillL (fun f => (fieldOff Ty fs f).bind fun p => some (p.1, p.2.size)) pre (parts.toList.map fun p => (p.1, opd T p.2)) with
          | some cs => cond (Nat.beq cs.length pre.length) (K (.mix cs sh n xs post) H) none
          | none => none
        | _ => none) none
    | some ⟨.arr _ el, _, _, .agg zs⟩ => match Ty el with
      | some ei => match fillL (fun f => some (f * ei.size, ei.size)) zs (parts.toList.map fun p => (p.1, opd T p.2)) with
        | some cs => K (.agg cs) H
        | none => none
      | none => none
    | _ => none
  | .buildSlice t len parts => buildSliceK Ty H t len (parts.toList.map fun p => (p.1, opd T p.2)) K
  | .load t a => loadK Ty H t (opd T a) K
  | .store t a x => storeK Ty H t (opd T a) (opd T x) fun H => K .u H
  | .nilCheck x => match opd T x with
    | .ptr id b e sz o => K (.ptr id b e sz o) H
    | .fn f cap => K (.fn f cap) H
    | _ => none
  | .binOp op t x y _ => binK Ty op t (opd T x) (opd T y) fun v => K v H
  | .unOp op _ x => unK op (opd T x) fun v => K v H
  | .convert src dst x => match Ty src, Ty dst, opd T x with
    | some ⟨.sc (.i _), _, _, _⟩, some ⟨.sc (.i k), _, _, _⟩, .i _ n => K (.i k (k.wrap n)) H
    | some ⟨.sc .s, _, _, _⟩, some ⟨.sc .s, _, _, _⟩, .s s => K (.s s) H
    | some ⟨.sc .s, _, _, _⟩, some ⟨.slice el, _, _, _⟩, .s s => match Ty el with
      | some ⟨.sc (.i .u8), _, _, _⟩ => K (.sw H.next) ⟨H.next + 1, (H.next, some ⟨H.next, true, .row [.i .u8] (strInts s)⟩) :: H.bs⟩
      | _ => none
    | some ⟨.slice el, _, _, _⟩, some ⟨.sc .s, _, _, _⟩, x => match Ty el, x with
      | some ⟨.sc (.i .u8), _, _, _⟩, .s _ => none
      | some ⟨.sc (.i .u8), _, _, _⟩, x => shownK H [.i .u8] x fun xs => K (.s (bytesOf xs)) H
      | _, _ => none
    | _, _, _ => none
  | .makeFunc (.func f) first captured => match first.toList with
    | [] => K (.fn f (opdsL T captured.toList)) H
    | _ => none
  | .makeSlice t l c => makeSliceK Ty H t (opd T l) (opd T c) K
  | .slice t x lo hi mx => sliceK Ty H t (opd T x) (lo.map (opd T)) (hi.map (opd T)) (mx.map (opd T)) K
  | .fieldAddr t x f => match Ty t, opd T x with
    | some ⟨.struct fs, _, _, _⟩, .ptr id base e sz o => match fieldOff Ty fs f with
      | some (off, i) => cond (Nat.beq i.size 0) none (K (.ptr id base e sz (o + off)) H)
      | none => none
    | _, _ => none
  | .field t x f => match Ty t, opd T x with
    | some ⟨.struct fs, _, _, _⟩, .agg cs => match fieldOff Ty fs f with
      | some (off, i) => partAt cs off i fun v => K v H
      | none => none
    | _, _ => none
  | .indexAddr t x i => indexAddrK Ty H t (opd T x) (opd T i) K
  | .index t x i => match Ty t, opd T x, opd T i with
    | some ⟨.sc .s, _, _, _⟩, .s s, .i _ j => (strAt s j).bind fun c => K (.i .u8 c) H
    | some ⟨.arr n el, _, _, _⟩, .agg cs, .i _ j => match Ty el with
      | some ei => cond (decide (0 ≤ j)) (pickE j.toNat (fun m => partAt cs (m * ei.size) ei fun v => K v H) n 0) none
      | none => none
    | _, _, _ => none
  | .extract t ix => match opd T t with
    | .tup vs => match vs[ix]? with
      | some v => K v H
      | none => none
    | _ => none
  | .range t x => rangeK Ty H t (opd T x) K
  | .next x str => nextK H str (opd T x) K
  | _ => none

def minK (x y : AV) : Option AV :=
  match x, y with
  | .i k a, .i k' b => if k = k' then some (.i k (if b < a then b else a)) else none
  | _, _ => none
def maxK (x y : AV) : Option AV :=
  match x, y with
  | .i k a, .i k' b => if k = k' then some (.i k (if b > a then b else a)) else none
  | _, _ => none

def foldK (f : AV → AV → Option AV) : AV → List AV → Option AV
  | x, [] => some x
  | x, y :: ys => match f x y with
    | some z => foldK f z ys
    | none => none

def builtinK (Ty : Types) (H : Heap) (b : Builtin) (argTypes : List Nat) (args : List AV) (K : AV → Heap → Option R) : Option R :=
  match b, argTypes, args with
  | .len, t :: _, x :: _ => lenK Ty H t x fun v => K v H
  | .append, [t, xt], [s, x] => appendK Ty H t xt s x K
  | .min, _, x :: xs => match foldK minK x xs with
    | some v => K v H
    | none => none
  | .max, _, x :: xs => match foldK maxK x xs with
    | some v => K v H
    | none => none
  | _, _, _ => none

end

/-! ### Code -/

inductive Ex where
  | normal | exit (id : Nat) | goto (l : Nat) | ret

/-- What a function's evaluator needs: the loops' and cuts' live slots. -/
abbrev Ann := List (Nat × List Nat)

def annAt : Ann → Nat → Option (List Nat)
  | [], _ => none
  | (j, l) :: r, k => cond (Nat.beq j k) (some l) (annAt r k)

structure FnI where
  no : Nat
  fn : Func
  ann : Ann

abbrev Kont (R : Type) := Ex → Tmps → Heap → Option R
abbrev Sum (R : Type) := List AV → Heap → (AV → Heap → Option R) → Option R
abbrev LSum (R : Type) := Nat → Tmps → Heap → Kont R → Option R

structure Cx (R : Type) where
  Ty : Types
  fns : Nat → Option FnI
  sum : Nat → Option (Bool × Sum R)
  loop : Nat → Nat → Option (LSum R)
  cut : Nat → Nat → Option (LSum R)
  ext : Nat → Option (List AV → Option (Bool × AV))
  fuel : Nat

def firstRegion : Code → Option Nat
  | .region id _ _ => some id
  | .seq a b => match firstRegion a with | some n => some n | none => firstRegion b
  | .block _ c | .loop c | .scope c => firstRegion c
  | _ => none

section
variable {R : Type}

/-- 'prev': the evaluator one level below: a function's body, and what a goto jumps to. -/
abbrev Prev (R : Type) := (pin : Nat) → FnI → Code → Tmps → Heap → Kont R → Option R

def argsT : List AV → Nat → Tmps
  | [], _ => []
  | v :: r, n => (n, v) :: argsT r (n + 1)

def undefs : (k n : Nat) → Tmps
  | 0, _ => []
  | k + 1, n => (n, .u) :: undefs k (n + 1)

def resultsK (Ty : Types) (T : Tmps) (H : Heap) : List ResultVar → (List AV → Option R) → Option R
  | [], K => K []
  | .tmp t :: r, K => resultsK Ty T H r fun vs => K (tget T t :: vs)
  | .cell a t :: r, K => loadK Ty H t (tget T a) fun v _ => resultsK Ty T H r fun vs => K (v :: vs)

def one : List AV → AV
  | [v] => v
  | [] => .u
  | vs => .tup vs

/-- A function's body on its own heap. -/
def bodyK (C : Cx R) (prev : Prev R) (fi : FnI) (args : List AV) (H : Heap) (K : AV → Heap → Option R) : Option R :=
  match fi.fn.body with
  | some c => cond (Nat.ble args.length fi.fn.ntmps) (prev H.next fi c (argsT args 0 ++ undefs (fi.fn.ntmps - args.length) args.length) H fun ex T H' =>
      (fun (fin : Option R) => match ex with | .ret => fin | .normal => fin | _ => none)
      (resultsK C.Ty T H' fi.fn.results.toList fun vs =>
        (fun seen => cond (seenOk H.next [one vs] H' seen) (K ((one vs).ren (idx seen)) (heapOf H' seen)) none) (seenOf H.next [one vs] H'))) none
  | none => none

def callK (C : Cx R) (prev : Prev R) (f : Nat) (args : List AV) (H : Heap) (K : AV → Heap → Option R) : Option R :=
  match C.ext f with
  | some g => match g args with | some p => cond p.1 (K p.2 H) none | none => none
  | none => match C.sum f with
    | some p => frameK p.1 args H p.2 K
    | none => frameK false args H (fun args H K => match C.fns f with
      | some fi => bodyK C prev fi args H K
      | none => none) K

def operK (C : Cx R) (prev : Prev R) (T : Tmps) (H : Heap) (op : Op) (K : AV → Heap → Option R) : Option R :=
  match op with
  | .call ⟨.builtin b, args, argTypes⟩ => builtinK C.Ty H b argTypes.toList (opdsL T args.toList) K
  | .call ⟨.value f, args, _⟩ => match opd T f with
    | .fn f cap => callK C prev f (opdsL T args.toList ++ cap) H K
    | _ => none
  | .call _ => none
  | op => opK C.Ty T H op K

def dstOf (ops : List Oper) (j : Nat) : Option Nat := match ops[j]? with | some o => o.dst | none => none

/-- The guard: carried out, skipped; what is known behind it. -/
def guardK (ops : List Oper) (o : Oper) (T : Tmps) (yes no : Tmps → Option R) : Option R :=
  match o.guard with
  | none => yes T
  | some (j, want) => match dstOf ops j with
    | none => no T
    | some d => match tget T d with
      | .b x => cond x (cond want (yes ((d, .b true) :: T)) (no ((d, .b true) :: T))) (cond want (no ((d, .b false) :: T)) (yes ((d, .b false) :: T)))
      | .u => no T
      | _ => none

def putT (nt : Nat) (dst : Option Nat) (v : AV) (T : Tmps) (K : Tmps → Option R) : Option R :=
  match dst with
  | none => K T
  | some d => cond (Nat.blt d nt) (K ((d, v) :: T)) none

def opsK (C : Cx R) (prev : Prev R) (nt : Nat) (all : List Oper) : List Oper → Tmps → Heap → (Tmps → Heap → Option R) → Option R
  | [], T, H, K => K T H
  | o :: r, T, H, K =>
    guardK all o T (fun T => operK C prev T H o.op fun v H => putT nt o.dst v T fun T => opsK C prev nt all r T H K)
      (fun T => putT nt o.dst .u T fun T => opsK C prev nt all r T H K)

/-! A region whose order is open: each operation is reckoned in what it must wait for, and no more. -/

structure Eff where
  dst : Option Nat
  v : AV
  dl : List (Nat × Option HB)
  own : Nat
  nxt : Nat
  needs : List Nat
  fams : List Nat

def bindsAny (e : Edge) : Bool := match e.ground with | .textOnly _ => false | .gcOnly _ => false | _ => true

def insAll : List Nat → List Nat → List Nat
  | [], l => l
  | x :: r, l => insAll r (cond (has l x) l (x :: l))

def getL : List (List Nat) → Nat → List Nat
  | [], _ => []
  | x :: _, 0 => x
  | _ :: r, n + 1 => getL r n

/-- Of each operation all that it waits for, by any chain. -/
def predTab : List Oper → List (List Nat) → List (List Nat)
  | [], tab => tab
  | o :: r, tab => predTab r (tab ++ [(o.after.toList.filter bindsAny).foldl (fun l e => insAll (e.on :: getL tab e.on) l) []])

def opdTmps (l : List Operand) : List Nat := l.filterMap fun | .tmp t => some t | _ => none

def looksAt (ops : List Oper) (o : Oper) : List Nat :=
  opdTmps o.op.operands.toList ++ (match o.guard with | some (j, _) => (dstOf ops j).toList | none => [])

/-- Two that may come up in either order. -/
def free (tab : List (List Nat)) (i j : Nat) : Bool := !(Nat.beq i j || has (getL tab i) j || has (getL tab j) i)

def bindsOf (o : Oper) : List Edge := o.after.toList.filter bindsAny

/-- The table tells all that is waited for, and no more; what is written by one is not looked at by another that may come up in either order; each slot is written once. -/
def opChk (ops : List Oper) (tab : List (List Nat)) (i : Nat) (oi : Oper) : Bool :=
  (getL tab i).all (fun x => Nat.blt x i && (bindsOf oi).any fun e => Nat.beq e.on x || has (getL tab e.on) x) &&
  ((bindsOf oi).all fun e => has (getL tab i) e.on) &&
  (match oi.guard with | some (g, _) => has (getL tab i) g | none => true) &&
  match oi.dst with
  | some d => (List.range ops.length).all fun j => Nat.beq i j || match ops[j]? with
    | some oj => (match oj.dst with | some d' => !Nat.beq d d' | none => true) && (!free tab i j || !has (looksAt ops oj) d)
    | none => true
  | none => true

def slotsOk (ops : List Oper) (tab : List (List Nat)) : Bool :=
  (List.range ops.length).all fun i => match ops[i]? with
    | some oi => opChk ops tab i oi
    | none => true

def effT : List Eff → Nat → List Nat → Tmps → Tmps
  | [], _, _, T => T
  | e :: r, i, ps, T => effT r (i + 1) ps (match has ps i, e.dst with | true, some d => (d, e.v) :: T | _, _ => T)

def effH : List Eff → Nat → List Nat → List (Nat × Option HB) → List (Nat × Option HB)
  | [], _, _, H => H
  | e :: r, i, ps, H => effH r (i + 1) ps (match has ps i with | true => e.dl ++ H | false => H)

def pickT (T : Tmps) : List Nat → Tmps
  | [] => []
  | t :: r => (t, tget T t) :: pickT T r

def pickH (bs : List (Nat × Option HB)) : List Nat → List (Nat × Option HB)
  | [] => []
  | id :: r => (id, look bs id) :: pickH bs r

def needsOf (T : Tmps) (H : Heap) : Op → List Nat
  | .load _ a => (opd T a).ids
  | .next x _ => (opd T x).ids
  | .store _ a _ => (opd T a).ids
  | .indexAddr _ x _ | .slice _ x _ _ _ => (opd T x).ids
  | .convert _ _ x => (opd T x).ids
  | .call ⟨.builtin _, args, _⟩ => AV.idsL (opdsL T args.toList)
  | .call ⟨.value f, args, _⟩ => seenOf 0 (opd T f :: opdsL T args.toList) H
  | _ => []

def noneOf (l m : List Nat) : Bool := l.all fun x => !has m x

def dlIds (e : Eff) : List Nat := e.dl.map (·.1)

def dlFams : List (Nat × Option HB) → List Nat
  | [] => []
  | (_, some g) :: r => g.fam :: dlFams r
  | (_, none) :: r => dlFams r

def clashFree (effs : List Eff) (tab : List (List Nat)) : Bool :=
  (List.range effs.length).all fun i => (List.range effs.length).all fun j =>
    !free tab i j || match effs[i]?, effs[j]? with
      | some a, some b => noneOf (dlIds a) b.needs && noneOf (dlIds a) (dlIds b) && noneOf (dlFams a.dl) b.fams
      | _, _ => false

def asc : Nat → List Eff → Nat → Bool
  | n, [], N => Nat.ble n N
  | n, e :: r, N => Nat.ble n e.own && Nat.ble e.own e.nxt && asc e.nxt r N

def famsOf (bs : List (Nat × Option HB)) : List Nat → List Nat
  | [] => []
  | id :: r => match look bs id with
    | some g => g.fam :: famsOf bs r
    | none => famsOf bs r

def withFam (bs : List (Nat × Option HB)) (fams : List Nat) : List (Nat × Option HB) → List Nat
  | [] => []
  | (id, _) :: r => match look bs id with
    | some g => cond (has fams g.fam) (id :: withFam bs fams r) (withFam bs fams r)
    | none => withFam bs fams r

def famClosed (bs : List (Nat × Option HB)) (needs fams : List Nat) : Bool :=
  bs.all fun p => match look bs p.1 with
    | some g => !has fams g.fam || has needs p.1
    | none => true

def below (N : Nat) (T : Tmps) (bs : List (Nat × Option HB)) : Bool :=
  (T.all fun p => p.2.ids.all fun i => Nat.blt i N) && bs.all fun p => Nat.blt p.1 N && match p.2 with
    | some h => h.blk.ids.all fun i => Nat.blt i N
    | none => true

def drawK (C : Cx R) (prev : Prev R) (nt : Nat) (all : List Oper) (tab : List (List Nat)) (T0 : Tmps) (H0 : Heap) :
    List Oper → Nat → Nat → List Eff → (Tmps → Heap → Option R) → Option R
  | [], _, N, effs, K =>
    cond (clashFree effs tab && asc H0.next effs N) (K (effT effs 0 (List.range effs.length) T0) ⟨N, effH effs 0 (List.range effs.length) H0.bs⟩) none
  | o :: r, j, N, effs, K =>
    (fun (skip go : List Eff → Option R) => match o.guard with
      | none => go effs
      | some (g, want) => match effs[g]? with
        | none => none
        | some e => match e.dst with
          | none => skip effs
          | some _ => match e.v with
            | .b x => cond x ((fun effs => cond want (go effs) (skip effs)) (effs.set g ⟨e.dst, .b true, e.dl, e.own, e.nxt, e.needs, e.fams⟩))
                ((fun effs => cond want (skip effs) (go effs)) (effs.set g ⟨e.dst, .b false, e.dl, e.own, e.nxt, e.needs, e.fams⟩))
            | .u => skip effs
            | _ => none)
    (fun effs => drawK C prev nt all tab T0 H0 r (j + 1) N (effs ++ [⟨o.dst, .u, [], N, N, [], []⟩]) K)
    (fun effs => (fun (T : Tmps) (bs : List (Nat × Option HB)) => (fun (needs : List Nat) => (fun (fams : List Nat) (Hr : Heap) =>
          cond (famClosed bs needs fams && below N T Hr.bs)
          (operK C prev T Hr o.op fun v H' => cond (match o.dst with | some d => Nat.blt d nt | none => true)
            (drawK C prev nt all tab T0 H0 r (j + 1) H'.next (effs ++ [⟨o.dst, v, H'.bs.take (H'.bs.length - Hr.bs.length), N, H'.next, needs, fams⟩]) K) none) none)
          (famsOf bs needs) ⟨N, pickH bs needs⟩)
          ((fun base => base ++ withFam bs (famsOf bs base) bs) (needsOf T ⟨N, bs⟩ o.op)))
      (pickT (effT effs 0 (getL tab j) T0) (looksAt all o)) (effH effs 0 (getL tab j) H0.bs))

def normAt (live : Option (List Nat)) (pin : Nat) (T : Tmps) (H : Heap) (K : Tmps → Heap → Option R) : Option R :=
  match live with
  | some live => normK pin live T H K
  | none => K T H

def regionK (C : Cx R) (prev : Prev R) (pin nt : Nat) (ann : Ann) (id : Nat) (ops : List Oper) (draw : Bool) (T : Tmps) (H : Heap) (K : Tmps → Heap → Option R) : Option R :=
  normAt (annAt ann id) pin T H fun T H => match draw with
    | false => opsK C prev nt ops ops T H K
    | true => (fun tab => cond (slotsOk ops tab) (drawK C prev nt ops tab T H ops 0 H.next [] K) none) (predTab ops [])

def exKey (key : Nat) : Ex → Nat
  | .normal => 5000000 + key
  | .ret => 2000000 + key
  | .exit i => 3000000 + (1000 * key + i)
  | .goto l => 4000000 + (1000 * key + l)

/-- What a loop leaves by, told by what is live there. -/
def exitNorm (ann : Ann) (key pin : Nat) (K : Kont R) : Kont R := fun ex T H => normAt (annAt ann (exKey key ex)) pin T H (K ex)

def loopK (pin : Nat) (live : Option (List Nat)) (body : Tmps → Heap → Kont R → Option R) (K : Kont R) : Nat → Tmps → Heap → Option R
  | 0, _, _ => none
  | n + 1, T, H => body T H fun ex T H => match ex with
      | .normal => normAt live pin T H (loopK pin live body K n)
      | ex => K ex T H

def jumpK (pin : Nat) (live : Option (List Nat)) (scope : Code) (l : Nat) (body : Tmps → Heap → Kont R → Option R) (K : Kont R) : Nat → Tmps → Heap → Option R
  | 0, _, _ => none
  | n + 1, T, H => body T H fun ex T H => match ex with
      | .goto l' => cond (Nat.beq l' l) (normAt live pin T H (jumpK pin live scope l body K n)) (match findLabel scope l' with | some _ => none | none => K (.goto l') T H)
      | ex => K ex T H

/-- A place at which ways meet: what is behind it is told once. -/
def cutOf (ann : Ann) (b : Code) : Option Nat :=
  match firstRegion b with
  | none => none
  | some key => match annAt ann (600000 + key) with
    | none => none
    | some _ => some key

def codeK (C : Cx R) (prev : Prev R) (pin : Nat) (fi : FnI) : Code → Tmps → Heap → Kont R → Option R
  | .skip, T, H, K => K .normal T H
  | .region id ops draw, T, H, K => regionK C prev pin fi.fn.ntmps fi.ann id ops.toList draw T H fun T H => K .normal T H
  | .seq a b, T, H, K => codeK C prev pin fi a T H fun ex T H => match ex with
    | .normal => match cutOf fi.ann b with
      | none => codeK C prev pin fi b T H K
      | some key => normAt (annAt fi.ann (600000 + key)) pin T H fun T H => match C.cut fi.no key with
        | some S => S pin T H K
        | none => codeK C prev pin fi b T H (exitNorm fi.ann (500000 + key) pin K)
    | ex => K ex T H
  | .cond c a b, T, H, K => match opd T c with
    | .b x => (fun (set : Bool → Tmps) => cond x (codeK C prev pin fi a (set true) H K) (codeK C prev pin fi b (set false) H K))
        (fun y => match c with | .tmp t => (t, .b y) :: T | _ => T)
    | _ => none
  | .block id c, T, H, K => codeK C prev pin fi c T H fun ex T H => match ex with
    | .exit i => cond (Nat.beq i id) (K .normal T H) (K (.exit i) T H)
    | ex => K ex T H
  | .loop c, T, H, K => match firstRegion c with
    | none => none
    | some key => normAt (annAt fi.ann (100000 + key)) pin T H fun T H => match C.loop fi.no key with
      | some S => S pin T H K
      | none => loopK pin (annAt fi.ann (100000 + key)) (codeK C prev pin fi c) (exitNorm fi.ann key pin K)
          (match annAt fi.ann (300000 + key) with | some (n :: _) => n | _ => C.fuel) T H
  | .exit id, T, H, K => K (.exit id) T H
  | .scope c, T, H, K => codeK C prev pin fi c T H fun ex T H => match ex with
    | .goto l => match findLabel c l with
      | none => K (.goto l) T H
      | some rest => normAt (annAt fi.ann (200000 + l)) pin T H fun T H => match C.loop fi.no (1000000 + l) with
        | some S => S pin T H K
        | none => jumpK pin (annAt fi.ann (200000 + l)) c l (prev pin fi rest) (exitNorm fi.ann (1000000 + l) pin K) C.fuel T H
    | ex => K ex T H
  | .label _, T, H, K => K .normal T H
  | .goto l, T, H, K => K (.goto l) T H
  | .ret, T, H, K => K .ret T H
  | _, _, _, _ => none

def run (C : Cx R) : Nat → Prev R
  | 0 => fun _ _ _ _ _ _ => none
  | d + 1 => codeK C (run C d)

/-- A function, on a heap of its own. -/
def fnK (C : Cx R) (d f : Nat) (args : List AV) (H : Heap) (K : AV → Heap → Option R) : Option R :=
  match C.fns f with
  | some fi => bodyK C (run C d) fi args H K
  | none => none

end
end Go.Ab

/- What an abstract state says of the machine's, and that turning its names keeps it. Conditions: none. -/
namespace Go.Ab
set_option linter.unusedVariables false
set_option linter.unusedSimpArgs false
set_option linter.constructorNameAsVariable false
open Go

structure Ent where
  r : Option Nat
  off : Nat
  size : Nat
  n : Nat
  sz : Nat

abbrev Env := Nat → Option Ent

def flatRow (sh : List SK) (xs : List (Tup sh)) : List AV := xs.flatMap (Tup.all sh)

mutual
inductive VRel (E : Env) : AV → Value → Prop
  | b (x : Bool) : VRel E (.b x) (.bool x)
  | i (k : IntKind) (x : Int) : VRel E (.i k x) (.int k x)
  | s (x : ByteArray) : VRel E (.s x) (.string x)
  | np : VRel E .np (.pointer none)
  | nsl : VRel E .nsl (.slice none 0 0)
  | nf : VRel E .nf .nilFunc
  | ni : VRel E .ni .nilIface
  | nm : VRel E .nm (.map none)
  | u : VRel E .u undef
  | junk (v : Value) : VRel E .junk v
  | ptr {id base e sz o : Nat} {ent : Ent} {r : Nat} (h : E id = some ent) (hr : ent.r = some r) :
      VRel E (.ptr id base e sz o) (.pointer (some ⟨r, ent.off + (base + e * sz + o), none⟩))
  | sw {id : Nat} {ent : Ent} {r cap : Nat} (h : E id = some ent) (hr : ent.r = some r) (hn : ent.n ≤ cap) (hc : ent.off + cap * ent.sz ≤ ent.size) :
      VRel E (.sw id) (.slice (some ⟨r, ent.off, none⟩) ent.n cap)
  | sw0 {id : Nat} {ent : Ent} (h : E id = some ent) (hn : ent.n = 0) : VRel E (.sw id) (.slice none 0 0)
  | sl {id base e sz n : Nat} {ent : Ent} {r cap : Nat} (h : E id = some ent) (hr : ent.r = some r) (hn : n ≤ cap) :
      VRel E (.sl id base e sz n) (.slice (some ⟨r, ent.off + (base + e * sz), none⟩) n cap)
  | sl0 {id base e sz n cap : Nat} {b : Option Addr} (hn : n = 0) : VRel E (.sl id base e sz n) (.slice b 0 cap)
  | agg {cs : List AV} {vs : Array Value} (h : VRelL E cs vs.toList) : VRel E (.agg cs) (.agg vs)
  | mix {pre : List AV} {sh : List SK} {n : Nat} {xs : List (Tup sh)} {post : List AV} {vs : Array Value}
      (h : VRelL E (pre ++ flatRow sh xs ++ post) vs.toList) (hn : xs.length = n) : VRel E (.mix pre sh n xs post) (.agg vs)
  | tup {cs : List AV} {vs : Array Value} (h : VRelL E cs vs.toList) : VRel E (.tup cs) (.tuple vs)
  | fn {f : Nat} {cap : List AV} {caps : Array Value} (h : VRelL E cap caps.toList) : VRel E (.fn f cap) (.func (.func f) #[] caps)
inductive VRelL (E : Env) : List AV → List Value → Prop
  | nil : VRelL E [] []
  | cons {v : AV} {vs : List AV} {x : Value} {xs : List Value} (h : VRel E v x) (t : VRelL E vs xs) : VRelL E (v :: vs) (x :: xs)
end

theorem VRelL.length {E : Env} : ∀ {vs : List AV} {xs : List Value}, VRelL E vs xs → vs.length = xs.length
  | [], [], _ => rfl
  | _ :: _, _ :: _, .cons _ t => by simp [VRelL.length t]

theorem VRelL.get {E : Env} : ∀ {vs : List AV} {xs : List Value}, VRelL E vs xs → ∀ (j : Nat) (v : AV), vs[j]? = some v → ∃ x, xs[j]? = some x ∧ VRel E v x
  | [], [], _, j, v, h => by simp at h
  | _ :: _, _ :: _, .cons hv t, 0, v, h => by simp at h; subst h; exact ⟨_, rfl, hv⟩
  | _ :: _, _ :: _, .cons hv t, j + 1, v, h => by simp at h ⊢; exact VRelL.get t j v h

theorem VRelL.of_get {E : Env} : ∀ {vs : List AV} {xs : List Value}, vs.length = xs.length → (∀ (j : Nat) (v : AV) (x : Value), vs[j]? = some v → xs[j]? = some x → VRel E v x) → VRelL E vs xs
  | [], [], _, _ => .nil
  | v :: vs, x :: xs, hl, h => .cons (h 0 v x rfl rfl) (VRelL.of_get (by simpa using hl) fun j v x hv hx => h (j + 1) v x (by simpa using hv) (by simpa using hx))
  | [], _ :: _, hl, _ => by simp at hl
  | _ :: _, [], hl, _ => by simp at hl

theorem VRelL.append {E : Env} {vs ws : List AV} {xs ys : List Value} (h : VRelL E vs xs) (k : VRelL E ws ys) : VRelL E (vs ++ ws) (xs ++ ys) := by
  refine VRelL.of_get (by simp [h.length, k.length]) fun j v x hv hx => ?_
  by_cases hj : j < vs.length
  · rw [List.getElem?_append_left hj] at hv
    rw [List.getElem?_append_left (h.length ▸ hj)] at hx
    obtain ⟨y, hy, hr⟩ := h.get j v hv
    rw [hx] at hy; cases hy; exact hr
  · rw [List.getElem?_append_right (by omega)] at hv
    rw [List.getElem?_append_right (by rw [← h.length]; omega)] at hx
    obtain ⟨y, hy, hr⟩ := k.get _ v hv
    rw [← h.length, hy] at hx; cases hx; exact hr

/-- Of one value each. -/
theorem VRelL.sub {E : Env} {vs : List AV} {xs : List Value} (h : VRelL E vs xs) (f n : Nat) : VRelL E ((vs.drop f).take n) ((xs.drop f).take n) := by
  refine VRelL.of_get (by simp [h.length]) fun j v x hv hx => ?_
  simp only [List.getElem?_take, List.getElem?_drop] at hv hx
  split at hv
  · rename_i hj
    rw [if_pos hj] at hx
    obtain ⟨y, hy, hr⟩ := h.get _ v hv
    rw [hx] at hy; cases hy; exact hr
  · cases hv

def Ext (E E' : Env) : Prop := ∀ id ent, E id = some ent → E' id = some ent

mutual
theorem VRel.mono {E E' : Env} (hE : Ext E E') : ∀ {v : AV} {x : Value}, VRel E v x → VRel E' v x
  | _, _, .b x => .b x
  | _, _, .i k x => .i k x
  | _, _, .s x => .s x
  | _, _, .np => .np
  | _, _, .nsl => .nsl
  | _, _, .nf => .nf
  | _, _, .ni => .ni
  | _, _, .nm => .nm
  | _, _, .u => .u
  | _, _, .junk v => .junk v
  | _, _, .ptr h hr => .ptr (hE _ _ h) hr
  | _, _, .sw h hr hn hc => .sw (hE _ _ h) hr hn hc
  | _, _, .sw0 h hn => .sw0 (hE _ _ h) hn
  | _, _, .sl h hr hn => .sl (hE _ _ h) hr hn
  | _, _, .sl0 hn => .sl0 hn
  | _, _, .agg h => .agg (VRelL.mono hE h)
  | _, _, .mix h hn => .mix (VRelL.mono hE h) hn
  | _, _, .tup h => .tup (VRelL.mono hE h)
  | _, _, .fn h => .fn (VRelL.mono hE h)
theorem VRelL.mono {E E' : Env} (hE : Ext E E') : ∀ {v : List AV} {x : List Value}, VRelL E v x → VRelL E' v x
  | _, _, .nil => .nil
  | _, _, .cons h t => .cons (VRel.mono hE h) (VRelL.mono hE t)
end

/-! ### Names -/

theorem Tup.all_ids : ∀ (sh : List SK) (x : Tup sh), AV.idsL (Tup.all sh x) = []
  | [], _ => rfl
  | [k], x => by cases k <;> rfl
  | k :: k' :: ks, x => by
    have := Tup.all_ids (k' :: ks) x.2
    cases k <;> simpa [Tup.all, AV.idsL, SK.av, AV.ids] using this

theorem Tup.all_ren (f : Nat → Nat) : ∀ (sh : List SK) (x : Tup sh), AV.renL f (Tup.all sh x) = Tup.all sh x
  | [], _ => rfl
  | [k], x => by cases k <;> rfl
  | k :: k' :: ks, x => by
    have := Tup.all_ren f (k' :: ks) x.2
    cases k <;> simpa [Tup.all, AV.renL, SK.av, AV.ren] using this

theorem renL_append (f : Nat → Nat) : ∀ (a b : List AV), AV.renL f (a ++ b) = AV.renL f a ++ AV.renL f b
  | [], b => rfl
  | v :: a, b => by simp [AV.renL, renL_append f a b]

theorem idsL_append : ∀ (a b : List AV), AV.idsL (a ++ b) = AV.idsL a ++ AV.idsL b
  | [], b => rfl
  | v :: a, b => by simp [AV.idsL, idsL_append a b]

theorem renL_length (f : Nat → Nat) : ∀ (a : List AV), (AV.renL f a).length = a.length
  | [] => rfl
  | v :: a => by simp [AV.renL, renL_length f a]

theorem flatRow_ren (f : Nat → Nat) (sh : List SK) : ∀ xs : List (Tup sh), AV.renL f (flatRow sh xs) = flatRow sh xs
  | [] => rfl
  | x :: xs => by
    have := flatRow_ren f sh xs
    unfold flatRow at *
    rw [List.flatMap_cons, renL_append, Tup.all_ren, this]

mutual
theorem VRel.ren {E E' : Env} {f : Nat → Nat} : ∀ {v : AV} {x : Value}, VRel E v x → (∀ id ∈ v.ids, E' (f id) = E id) → VRel E' (v.ren f) x
  | _, _, .b x, _ => .b x
  | _, _, .i k x, _ => .i k x
  | _, _, .s x, _ => .s x
  | _, _, .np, _ => .np
  | _, _, .nsl, _ => .nsl
  | _, _, .nf, _ => .nf
  | _, _, .ni, _ => .ni
  | _, _, .nm, _ => .nm
  | _, _, .u, _ => .u
  | _, _, .junk v, _ => .junk v
  | _, _, .ptr h hr, hf => .ptr ((hf _ (by simp [AV.ids])).trans h) hr
  | _, _, .sw h hr hn hc, hf => .sw ((hf _ (by simp [AV.ids])).trans h) hr hn hc
  | _, _, .sw0 h hn, hf => .sw0 ((hf _ (by simp [AV.ids])).trans h) hn
  | _, _, .sl h hr hn, hf => .sl ((hf _ (by simp [AV.ids])).trans h) hr hn
  | _, _, .sl0 hn, hf => .sl0 hn
  | _, _, .agg h, hf => .agg (VRelL.ren h (by simpa [AV.ids] using hf))
  | _, _, .mix (pre := pre) (sh := sh) (xs := xs) (post := post) h hn, hf => by
    rw [AV.ren]
    refine .mix ?_ hn
    have h' := VRelL.ren (f := f) (E' := E') h (by
      intro id hid
      rw [idsL_append, idsL_append] at hid
      refine hf id ?_
      simp only [AV.ids]
      simp only [List.mem_append] at hid ⊢
      rcases hid with (hid | hid) | hid
      · exact .inl hid
      · exfalso
        have : ∀ ys : List (Tup sh), AV.idsL (flatRow sh ys) = [] := by
          intro ys
          induction ys with
          | nil => rfl
          | cons y ys ih => unfold flatRow at *; rw [List.flatMap_cons, idsL_append, Tup.all_ids, ih]; rfl
        rw [this] at hid; cases hid
      · exact .inr hid)
    rwa [renL_append, renL_append, flatRow_ren] at h'
  | _, _, .tup h, hf => .tup (VRelL.ren h (by simpa [AV.ids] using hf))
  | _, _, .fn h, hf => .fn (VRelL.ren h (by simpa [AV.ids] using hf))
theorem VRelL.ren {E E' : Env} {f : Nat → Nat} : ∀ {v : List AV} {x : List Value}, VRelL E v x → (∀ id ∈ AV.idsL v, E' (f id) = E id) → VRelL E' (AV.renL f v) x
  | _, _, .nil, _ => .nil
  | _, _, .cons h t, hf => .cons (VRel.ren h (fun id hid => hf id (by simp [AV.idsL, hid]))) (VRelL.ren t (fun id hid => hf id (by simp [AV.idsL, hid])))
end
end Go.Ab

/- What an abstract heap says of the machine's memory; cutting it down to what is met, and putting a callee's back. Conditions: none. -/
namespace Go.Ab
set_option linter.unusedVariables false
set_option linter.unusedSimpArgs false
set_option linter.constructorNameAsVariable false
open Go

def Blk.flat : Blk → List AV
  | .cells cs => cs
  | .row sh xs => flatRow sh xs
  | .mix pre sh _ xs post => pre ++ flatRow sh xs ++ post
  | _ => []

/-- Blocks that are rows of cells (the others are not told yet). -/
def Blk.isCells : Blk → Bool
  | .map _ => false
  | _ => true

def Blk.isIter : Blk → Bool
  | .siter _ _ => true
  | _ => false

def Blk.fits (b : Blk) (ent : Ent) : Prop := match b with
  | .row sh xs => ent.n = xs.length ∧ ent.sz = sh.length
  | .mix _ _ n xs _ => xs.length = n
  | _ => True

def Blk.void : Blk → Prop
  | .row _ [] => True
  | _ => False

structure Lies (E : Env) (ent : Ent) (ro : Bool) (b : Blk) (r : Nat) (w : World) : Prop where
  ex : (∃ (cs : Array Value) (t : TypeId) (fz : Nat × Nat), w.heap[r]? = some (.cells cs t fz) ∧ cs.size = ent.size ∧ ent.off + b.flat.length ≤ cs.size ∧
    (∀ (j : Nat) (v : AV), b.flat[j]? = some v → ∃ x, cs[ent.off + j]? = some x ∧ VRel E v x) ∧
    (ro = false → fz = (0, 0)) ∧ b.isIter = false) ∨
    (∃ (s : ByteArray) (p : Nat), b = .siter s (p : Int) ∧ w.heap[r]? = some (.stringIter s p) ∧ ent.off = 0)

structure BRel (E : Env) (ent : Ent) (hb : HB) (w : World) : Prop where
  cells : hb.blk.isCells = true
  fits : hb.blk.fits ent
  void : ent.r = none → hb.blk.void
  lies : ∀ r, ent.r = some r → Lies E ent hb.ro hb.blk r w

structure HRel (E : Env) (H : Heap) (w : World) : Prop where
  dom : ∀ id, H.next ≤ id → E id = none
  live : ∀ id hb, H.get id = some hb → ∃ ent, E id = some ent ∧ BRel E ent hb w
  fam : ∀ i j hi hj ei ej r, H.get i = some hi → H.get j = some hj → E i = some ei → E j = some ej → ei.r = some r → ej.r = some r → hi.fam = hj.fam
  full : ∀ id, id < H.next → ∃ ent, E id = some ent

/-- A block of the machine's that the abstract heap speaks of. -/
def Tr (E : Env) (H : Heap) (b : Nat) : Prop := ∃ id hb ent, H.get id = some hb ∧ E id = some ent ∧ ent.r = some b

structure Fr (E : Env) (H : Heap) (w : World) (E' : Env) (H' : Heap) (w' : World) : Prop where
  os : w'.os = w.os
  tape : w'.tape = w.tape
  output : w'.output = w.output
  size : w.heap.size ≤ w'.heap.size
  keep : ∀ b, b < w.heap.size → ¬ Tr E H b → w'.heap[b]? = w.heap[b]?
  new : ∀ b, Tr E' H' b → b < w.heap.size → Tr E H b

theorem Fr.refl (E : Env) (H : Heap) (w : World) : Fr E H w E H w := ⟨rfl, rfl, rfl, Nat.le_refl _, fun _ _ _ => rfl, fun _ h _ => h⟩

theorem Fr.trans {E E1 E2 : Env} {H H1 H2 : Heap} {w w1 w2 : World} (h : Fr E H w E1 H1 w1) (k : Fr E1 H1 w1 E2 H2 w2) : Fr E H w E2 H2 w2 :=
  ⟨k.os.trans h.os, k.tape.trans h.tape, k.output.trans h.output, Nat.le_trans h.size k.size,
    fun b hb ht => (k.keep b (Nat.lt_of_lt_of_le hb h.size) fun ht' => ht (h.new b ht' hb)).trans (h.keep b hb ht),
    fun b hb hlt => h.new b (k.new b hb (Nat.lt_of_lt_of_le hlt h.size)) hlt⟩

theorem Lies.lt {E : Env} {ent : Ent} {ro : Bool} {b : Blk} {r : Nat} {w : World} (h : Lies E ent ro b r w) : r < w.heap.size := by
  rcases h.ex with ⟨cs, t, fz, h, _⟩ | ⟨s, p, _, h, _⟩
  · exact (Array.getElem?_eq_some_iff.1 h).1
  · exact (Array.getElem?_eq_some_iff.1 h).1

theorem Tr.lt {E : Env} {H : Heap} {w : World} {b : Nat} (h : Tr E H b) (k : HRel E H w) : b < w.heap.size := by
  obtain ⟨id, hb, ent, hg, he, hr⟩ := h
  obtain ⟨ent', he', hB⟩ := k.live id hb hg
  rw [he] at he'; cases he'
  exact (hB.lies b hr).lt

/-- The same blocks at another world, other names of the same. -/
theorem Lies.same {E E' : Env} {ent : Ent} {ro : Bool} {b b' : Blk} {r : Nat} {w w' : World} (h : Lies E ent ro b r w) (hw : w'.heap[r]? = w.heap[r]?)
    (hl : b'.flat.length = b.flat.length) (hi : b'.isIter = b.isIter ∧ ∀ s p, b = .siter s p → b' = .siter s p) (hv : ∀ (j : Nat) (v' : AV) (x : Value), b'.flat[j]? = some v' → (∀ v, b.flat[j]? = some v → VRel E v x) → VRel E' v' x) : Lies E' ent ro b' r w' := by
  rcases h.ex with ⟨cs, t, fz, h1, h2, h3, h4, h5, h6⟩ | ⟨s, p, h1, h2, h3⟩
  rotate_left
  · exact ⟨.inr ⟨s, p, hi.2 s p h1, hw.trans h2, h3⟩⟩
  refine ⟨.inl ⟨cs, t, fz, hw.trans h1, h2, by rw [hl]; exact h3, fun j v' hj => ?_, h5, by rw [hi.1]; exact h6⟩⟩
  have hlt : j < b.flat.length := by rw [← hl]; exact (List.getElem?_eq_some_iff.1 hj).1
  obtain ⟨x, hx, hr⟩ := h4 j _ (List.getElem?_eq_getElem hlt)
  exact ⟨x, hx, hv j v' x hj fun v hv => by rw [List.getElem?_eq_getElem hlt] at hv; cases hv; exact hr⟩

/-! ### The heap's table -/

theorem beq_ne {i j : Nat} (h : i ≠ j) : Nat.beq i j = false := by
  cases h' : Nat.beq i j
  · rfl
  · exact absurd (Nat.eq_of_beq_eq_true h') h

theorem beq_self (i : Nat) : Nat.beq i i = true := Nat.beq_refl i

theorem look_put (H : Heap) (id : Nat) (h : HB) (j : Nat) : (H.put id h).get j = if id = j then some h else H.get j := by
  simp only [Heap.put, Heap.get, look]
  by_cases hj : id = j
  · subst hj; simp
  · have : Nat.beq id j = false := beq_ne hj
    rw [this, if_neg hj]; rfl

theorem look_cons (i : Nat) (h : Option HB) (r : List (Nat × Option HB)) (j : Nat) : look ((i, h) :: r) j = if i = j then h else look r j := by
  simp only [look]
  by_cases hj : i = j
  · subst hj; simp
  · have : Nat.beq i j = false := beq_ne hj
    rw [this, if_neg hj]; rfl

theorem look_append (l r : List (Nat × Option HB)) (j : Nat) : look (l ++ r) j = if (l.any fun p => p.1 == j) then look l j else look r j := by
  induction l with
  | nil => simp
  | cons p l ih =>
    obtain ⟨i, h⟩ := p
    rw [List.cons_append, look_cons, look_cons, ih]
    by_cases hj : i = j
    · subst hj; simp
    · have : (i == j) = false := by simpa using hj
      simp only [hj, List.any_cons, this, Bool.false_or, if_false]

theorem look_none_of_any {l : List (Nat × Option HB)} {j : Nat} (h : (l.any fun p => p.1 == j) = false) : look l j = none := by
  induction l with
  | nil => rfl
  | cons p l ih =>
    obtain ⟨i, h'⟩ := p
    simp only [List.any_cons, Bool.or_eq_false_iff, beq_eq_false_iff_ne] at h
    rw [look_cons, if_neg h.1, ih h.2]

theorem mem_of_look {l : List (Nat × Option HB)} {j : Nat} {h : HB} (hl : look l j = some h) : (j, some h) ∈ l := by
  induction l with
  | nil => cases hl
  | cons p l ih =>
    obtain ⟨i, h'⟩ := p
    rw [look_cons] at hl
    by_cases hj : i = j
    · subst hj; rw [if_pos rfl] at hl; subst hl; exact List.mem_cons_self
    · rw [if_neg hj] at hl; exact List.mem_cons_of_mem _ (ih hl)

theorem has_iff {l : List Nat} {x : Nat} : has l x = true ↔ x ∈ l := by
  induction l with
  | nil => simp [has]
  | cons y l ih =>
    simp only [has]
    by_cases h : y = x
    · subst h; simp
    · have : Nat.beq y x = false := beq_ne h
      rw [this]; simp [ih, Ne.symm h]

theorem getN_idx {l : List Nat} {x : Nat} (h : x ∈ l) : getN l (idx l x) = x ∧ idx l x < l.length := by
  induction l with
  | nil => cases h
  | cons y l ih =>
    simp only [idx]
    by_cases hy : y = x
    · subst hy; simp [getN]
    · have hb : Nat.beq y x = false := beq_ne hy
      rw [hb]
      have := ih (by rcases List.mem_cons.1 h with h | h; exact absurd h.symm hy; exact h)
      simp [getN, this.1, this.2]

/-! ### Cut down to what is met -/

def envOf (E : Env) (seen : List Nat) : Env := fun j => if j < seen.length then E (getN seen j) else none

theorem look_restrict (H : Heap) (seen : List Nat) : ∀ (l : List Nat) (n j : Nat), look (restrict H seen l n) j =
    if n ≤ j ∧ j < n + l.length then (match H.get (getN l (j - n)) with | some h => some ⟨firstOf H h.fam seen 0, h.ro, h.blk.ren (idx seen)⟩ | none => none) else none
  | [], n, j => by rw [restrict, look, if_neg (by simp)]
  | x :: l, n, j => by
    rw [restrict, look_cons]
    by_cases h : n = j
    · subst h
      rw [if_pos rfl, if_pos ⟨Nat.le_refl _, by simp⟩]
      simp only [Nat.sub_self, getN]
      all_goals (cases H.get x <;> rfl)
    · rw [if_neg h, look_restrict H seen l (n + 1) j]
      by_cases hj : n + 1 ≤ j ∧ j < n + 1 + l.length
      · rw [if_pos hj, if_pos (by simp only [List.length_cons]; omega)]
        obtain ⟨m, rfl⟩ : ∃ m, j = n + 1 + m := ⟨j - (n + 1), by omega⟩
        rw [show n + 1 + m - (n + 1) = m by omega, show n + 1 + m - n = m + 1 by omega]
        rfl
      · rw [if_neg hj, if_neg (by simp only [List.length_cons]; omega)]

theorem flat_ren (f : Nat → Nat) (b : Blk) : (b.ren f).flat = AV.renL f b.flat := by
  cases b with
  | cells cs => rfl
  | row sh xs => exact (flatRow_ren f sh xs).symm
  | mix pre sh n xs post => simp only [Blk.ren, Blk.flat, renL_append, flatRow_ren]
  | map _ => rfl
  | siter _ _ => rfl

theorem renL_get (f : Nat → Nat) : ∀ (l : List AV) (j : Nat), (AV.renL f l)[j]? = (l[j]?).map (AV.ren f)
  | [], j => by simp [AV.renL]
  | v :: l, 0 => by simp [AV.renL]
  | v :: l, j + 1 => by simpa [AV.renL] using renL_get f l j

theorem ids_mem {l : List AV} {j : Nat} {v : AV} (h : l[j]? = some v) {id : Nat} (hid : id ∈ v.ids) : id ∈ AV.idsL l := by
  induction l generalizing j with
  | nil => simp at h
  | cons u l ih =>
    cases j with
    | zero => simp at h; subst h; simp [AV.idsL, hid]
    | succ j => simp at h; simp [AV.idsL, ih h]

theorem flatRow_ids (sh : List SK) (xs : List (Tup sh)) : AV.idsL (flatRow sh xs) = [] := by
  induction xs with
  | nil => rfl
  | cons y ys ih => unfold flatRow at *; rw [List.flatMap_cons, idsL_append, Tup.all_ids, ih]; rfl

theorem flat_ids {b : Blk} (hc : b.isCells = true) : AV.idsL b.flat = b.ids := by
  cases b with
  | cells cs => rfl
  | row sh xs => exact flatRow_ids sh xs
  | mix pre sh n xs post => simp [Blk.flat, Blk.ids, idsL_append, flatRow_ids]
  | map _ => cases hc
  | siter _ _ => rfl

theorem BRel.ren {E E' : Env} {ent : Ent} {hb : HB} {w w' : World} {f : Nat → Nat} (h : BRel E ent hb w) (fam : Nat) (hf : ∀ id ∈ hb.blk.ids, E' (f id) = E id)
    (hw : ∀ r, ent.r = some r → w'.heap[r]? = w.heap[r]?) : BRel E' ent ⟨fam, hb.ro, hb.blk.ren f⟩ w' := by
  have hids := flat_ids h.cells
  refine ⟨?_, ?_, ?_, fun r hr => ?_⟩
  · have := h.cells; cases hbk : hb.blk <;> simp_all [Blk.ren, Blk.isCells]
  · have := h.fits; cases hbk : hb.blk <;> simp_all [Blk.ren, Blk.fits]
  · intro hr; have := h.void hr; cases hbk : hb.blk <;> simp_all [Blk.ren, Blk.void]
  · refine (h.lies r hr).same (hw r hr) (by rw [flat_ren, renL_length]) (by cases hb.blk <;> simp [Blk.ren, Blk.isIter]) fun j v' x hj hv => ?_
    rw [flat_ren, renL_get] at hj
    cases hfl : hb.blk.flat[j]? with
    | none => rw [hfl] at hj; cases hj
    | some v =>
      rw [hfl] at hj; cases hj
      exact (hv v hfl).ren fun id hid => hf id (by rw [← hids]; exact ids_mem hfl hid)

theorem seenOk_spec {pin : Nat} {vals : List AV} {H : Heap} {seen : List Nat} (h : seenOk pin vals H seen = true) :
    (∀ id ∈ AV.idsL vals, id ∈ seen) ∧ (∀ x ∈ seen, ∀ hb, H.get x = some hb → ∀ id ∈ hb.blk.ids, id ∈ seen) ∧ (∀ i, i < pin → getN seen i = i ∧ i < seen.length) ∧ (∀ x ∈ seen, x < H.next) := by
  simp only [seenOk, Bool.and_eq_true, List.all_eq_true] at h
  obtain ⟨⟨⟨h1, h2⟩, h3⟩, h5⟩ := h
  refine ⟨fun id hid => has_iff.1 (h1 id hid), fun x hx hb hg id hid => ?_, fun i hi => ?_, fun x hx => by simpa using h5 x hx⟩
  · have := h2 x hx id (by unfold idsAt; rw [hg]; exact hid)
    exact has_iff.1 this
  · have h4 := h3 i (List.mem_range.2 hi)
    exact ⟨Nat.eq_of_beq_eq_true h4.1, by simpa using h4.2⟩

theorem envOf_idx {E : Env} {seen : List Nat} {id : Nat} (h : id ∈ seen) : envOf E seen (idx seen id) = E id := by
  obtain ⟨h1, h2⟩ := getN_idx h
  simp [envOf, h1, h2]

theorem HRel.heapOf {E : Env} {H : Heap} {w : World} (h : HRel E H w) {pin : Nat} {vals : List AV} {seen : List Nat} (hs : seenOk pin vals H seen = true) :
    HRel (envOf E seen) (heapOf H seen) w ∧ (∀ b, Tr (envOf E seen) (heapOf H seen) b → Tr E H b) := by
  obtain ⟨h1, h2, h3, h4s⟩ := seenOk_spec hs
  have hget : ∀ j, (Ab.heapOf H seen).get j = if j < seen.length then (match H.get (getN seen j) with | some h => some ⟨firstOf H h.fam seen 0, h.ro, h.blk.ren (idx seen)⟩ | none => none) else none := by
    intro j
    show look (restrict H seen seen 0) j = _
    rw [look_restrict]; simp
  have hmem : ∀ {j}, j < seen.length → getN seen j ∈ seen := by
    intro j hj
    have key : ∀ (l : List Nat) (j : Nat), j < l.length → getN l j ∈ l := by
      intro l
      induction l with
      | nil => intro j hj; simp at hj
      | cons y l ih =>
        intro j hj
        cases j with
        | zero => simp [getN]
        | succ j => simp only [getN]; exact List.mem_cons_of_mem _ (ih j (by simpa using hj))
    exact key seen j hj
  have inv : ∀ j hb, (Ab.heapOf H seen).get j = some hb → j < seen.length ∧ ∃ g, H.get (getN seen j) = some g ∧ hb = ⟨firstOf H g.fam seen 0, g.ro, g.blk.ren (idx seen)⟩ := by
    intro j hb hj
    rw [hget] at hj
    by_cases hlt : j < seen.length
    · rw [if_pos hlt] at hj
      cases hg : H.get (getN seen j) with
      | none => rw [hg] at hj; cases hj
      | some g => rw [hg] at hj; cases hj; exact ⟨hlt, g, rfl, rfl⟩
    · rw [if_neg hlt] at hj; cases hj
  refine ⟨⟨fun id hid => by simp only [envOf]; rw [if_neg (by simpa [Ab.heapOf] using hid)], fun j hb hj => ?_, ?_, fun id hid => (by
    have hid' : id < seen.length := hid
    simp only [envOf, hid', if_true]
    exact h.full _ (h4s _ (hmem hid')))⟩, ?_⟩
  · obtain ⟨hlt, g, hg, rfl⟩ := inv j hb hj
    obtain ⟨ent, he, hB⟩ := h.live _ _ hg
    refine ⟨ent, by simp [envOf, hlt, he], hB.ren _ (fun id hid => envOf_idx (h2 _ (hmem hlt) g hg id hid)) fun _ _ => rfl⟩
  · intro i j hi hj ei ej r hgi hgj hei hej hri hrj
    obtain ⟨hli, gi, hgi', rfl⟩ := inv i hi hgi
    obtain ⟨hlj, gj, hgj', rfl⟩ := inv j hj hgj
    simp only [envOf, hli, hlj, if_true] at hei hej
    have := h.fam _ _ _ _ _ _ r hgi' hgj' hei hej hri hrj
    simp [this]
  · rintro b ⟨j, hb, ent, hg, he, hr⟩
    obtain ⟨hlt, g, hg', rfl⟩ := inv j hb hg
    simp only [envOf, hlt, if_true] at he
    exact ⟨_, g, ent, hg', he, hr⟩

/-- What a slot holds. -/
def TRel (E : Env) (T : Tmps) (a : Act) : Prop := ∀ t, VRel E (tget T t) (a.tmps.getD t undef)

theorem tget_cons (i : Nat) (v : AV) (T : Tmps) (t : Nat) : tget ((i, v) :: T) t = if i = t then v else tget T t := by
  simp only [tget]
  by_cases h : i = t
  · subst h; simp
  · have : Nat.beq i t = false := beq_ne h
    rw [this, if_neg h]; rfl

theorem tget_zip {f : Nat → Nat} : ∀ (live : List Nat) (T : Tmps) (t : Nat), tget (zipT live (AV.renL f (liveVals T live))) t = if t ∈ live then (tget T t).ren f else .junk
  | [], _, _ => by simp [liveVals, AV.renL, zipT, tget]
  | s :: live, T, t => by
    simp only [liveVals, AV.renL, zipT]
    rw [tget_cons, tget_zip live T t]
    by_cases h : s = t
    · subst h; simp
    · simp [h, Ne.symm h]

theorem liveVals_ids {T : Tmps} : ∀ {live : List Nat} {t id : Nat}, t ∈ live → id ∈ (tget T t).ids → id ∈ AV.idsL (liveVals T live)
  | [], _, _, h, _ => by cases h
  | s :: live, t, id, h, hid => by
    simp only [liveVals, AV.idsL, List.mem_append]
    rcases List.mem_cons.1 h with h | h
    · subst h; exact .inl hid
    · exact .inr (liveVals_ids h hid)

/-- The state of a frame. -/
structure St (E : Env) (nt : Nat) (T : Tmps) (H : Heap) (a : Act) (w : World) : Prop where
  t : TRel E T a
  h : HRel E H w
  d : a.defers = []
  n : a.tmps.size = nt

theorem normK_sound {R : Type} {pin : Nat} {live : List Nat} {T : Tmps} {H : Heap} {K : Tmps → Heap → Option R} {r : R} (h : normK pin live T H K = some r) :
    ∃ T' H', K T' H' = some r ∧ ∀ E nt a w, St E nt T H a w → ∃ E', St E' nt T' H' a w ∧ Fr E H w E' H' w ∧ ∀ i, i < pin → E' i = E i := by
  unfold normK at h
  generalize hse : seenOf pin (liveVals T live) H = seen at h
  cases hs : seenOk pin (liveVals T live) H seen with
  | false => simp [hs] at h
  | true =>
    simp only [hs, cond_true] at h
    refine ⟨_, _, h, fun E nt a w hst => ⟨envOf E seen, ?_, ?_, ?_⟩⟩
    · obtain ⟨h1, h2, h3, h4s⟩ := seenOk_spec hs
      refine ⟨fun t => ?_, (hst.h.heapOf hs).1, hst.d, hst.n⟩
      rw [tget_zip]
      split
      · rename_i ht
        exact (hst.t t).ren fun id hid => envOf_idx (h1 id (liveVals_ids ht hid))
      · exact .junk _
    · exact ⟨rfl, rfl, rfl, Nat.le_refl _, fun _ _ _ => rfl, fun b hb _ => (hst.h.heapOf hs).2 b hb⟩
    · intro i hi
      obtain ⟨h1, h2, h3, h4s⟩ := seenOk_spec hs
      obtain ⟨h4, h5⟩ := h3 i hi
      simp [envOf, h4, h5]
end Go.Ab

/- A callee's heap put back into its caller's. Conditions: none. -/
namespace Go.Ab
set_option linter.unusedVariables false
set_option linter.unusedSimpArgs false
open Go

theorem blt_ge {i j : Nat} (h : j ≤ i) : Nat.blt i j = false := by
  cases h' : Nat.blt i j
  · rfl
  · have : i < j := by simpa using h'
    omega

def envBack (E : Env) (next m : Nat) (E2 : Env) : Env := fun id => if id < next then E id else E2 (m + (id - next))

theorem look_merged (H : Heap) (seen : List Nat) (H' : Heap) : ∀ (n i id : Nat) (hb : HB), look (merged H seen H' n i) id = some hb →
    ∃ j, i ≤ j ∧ j < i + n ∧ back seen H.next j = id ∧ ∃ h, H'.get j = some h ∧ hb = ⟨backFam H seen h.fam, h.ro, h.blk.ren (back seen H.next)⟩
  | 0, _, _, _, h => by cases h
  | n + 1, i, id, hb, h => by
    rw [merged, look_cons] at h
    by_cases hj : back seen H.next i = id
    · rw [if_pos hj] at h
      cases hg : H'.get i with
      | none => rw [hg] at h; cases h
      | some g => rw [hg] at h; cases h; exact ⟨i, Nat.le_refl _, by omega, hj, g, hg, rfl⟩
    · rw [if_neg hj] at h
      obtain ⟨j, h1, h2, h3⟩ := look_merged H seen H' n (i + 1) id hb h
      exact ⟨j, by omega, by omega, h3⟩

theorem any_merged (H : Heap) (seen : List Nat) (H' : Heap) : ∀ (n i j : Nat), i ≤ j → j < i + n → ((merged H seen H' n i).any fun p => p.1 == back seen H.next j) = true
  | 0, i, j, h1, h2 => by omega
  | n + 1, i, j, h1, h2 => by
    rw [merged, List.any_cons]
    by_cases h : i = j
    · subst h; simp
    · rw [any_merged H seen H' n (i + 1) j (by omega) (by omega)]; simp

theorem look_lost (H : Heap) (seen : List Nat) : ∀ (l : List (Nat × Option HB)) (id : Nat), look (lost H seen l) id = none
  | [], _ => rfl
  | (i, b) :: l, id => by
    rw [lost]
    cases H.get i with
    | none => exact look_lost H seen l id
    | some h =>
      simp only
      cases (!has seen i && seen.any (famIs H h.fam)) with
      | false => exact look_lost H seen l id
      | true => rw [cond_true, look_cons]; split; rfl; exact look_lost H seen l id

theorem any_lost {H : Heap} {seen : List Nat} {id x : Nat} {h g : HB} (hs : id ∉ seen) (hg : H.get id = some h) (hx : x ∈ seen) (hgx : H.get x = some g) (hf : g.fam = h.fam) :
    ∀ l : List (Nat × Option HB), (∃ b, (id, b) ∈ l) → ((lost H seen l).any fun p => p.1 == id) = true
  | [], ⟨b, hb⟩ => by cases hb
  | (i, b') :: l, ⟨b, hb⟩ => by
    rw [lost]
    by_cases hi : i = id
    · subst hi
      simp only [hg]
      have h1 : has seen i = false := by
        cases hh : has seen i
        · rfl
        · exact absurd (has_iff.1 hh) hs
      have h2 : (seen.any (famIs H h.fam)) = true := by
        rw [List.any_eq_true]
        exact ⟨x, hx, by simp [famIs, hgx, hf]⟩
      rw [h1, h2]; simp
    · have hl : ∃ b, (id, b) ∈ l := ⟨b, by
        rcases List.mem_cons.1 hb with h | h
        · cases h; exact absurd rfl hi
        · exact h⟩
      have ih := any_lost hs hg hx hgx hf l hl
      cases H.get i with
      | none => exact ih
      | some h' =>
        simp only
        cases (!has seen i && seen.any (famIs H h'.fam)) with
        | false => exact ih
        | true => rw [cond_true, List.any_cons, ih]; simp

structure Merges (E : Env) (H : Heap) (w : World) (seen : List Nat) (E2 : Env) (H2 : Heap) (w2 : World) (E' : Env) : Prop where
  h : HRel E' (mergeH H seen H2) w2
  ext : Ext E E'
  fr : Fr E H w E' (mergeH H seen H2) w2
  v : ∀ v x, VRel E2 v x → (∀ i ∈ v.ids, i < H2.next) → VRel E' (v.ren (back seen H.next)) x

theorem merges {E E2 : Env} {H H2 : Heap} {w w2 : World} {args : List AV} {seen : List Nat} (hH : HRel E H w) (hs : seenOk 0 args H seen = true) (hlt : ∀ i ∈ seen, i < H.next)
    (hH2 : HRel E2 H2 w2) (hfr : Fr (envOf E seen) (heapOf H seen) w E2 H2 w2) (hpin : ∀ i, i < seen.length → E2 i = envOf E seen i) (hm : seen.length ≤ H2.next)
    (hids : ∀ i hb, H2.get i = some hb → ∀ j ∈ hb.blk.ids, j < H2.next) : Merges E H w seen E2 H2 w2 (envBack E H.next seen.length E2) := by
  have hgetN : ∀ {i}, i < seen.length → getN seen i ∈ seen := by
    have key : ∀ (l : List Nat) (j : Nat), j < l.length → getN l j ∈ l := by
      intro l
      induction l with
      | nil => intro j hj; simp at hj
      | cons y l ih =>
        intro j hj
        cases j with
        | zero => simp [getN]
        | succ j => simp only [getN]; exact List.mem_cons_of_mem _ (ih j (by simpa using hj))
    exact fun {i} hi => key seen i hi
  have hback1 : ∀ {i}, i < seen.length → back seen H.next i = getN seen i := by
    intro i hi; unfold back; rw [show Nat.blt i seen.length = true by simpa using hi]; rfl
  have hback2 : ∀ {i}, ¬ i < seen.length → back seen H.next i = H.next + (i - seen.length) := by
    intro i hi; unfold back; rw [blt_ge (Nat.le_of_not_lt hi)]; rfl
  have hE : ∀ i, i < H2.next → envBack E H.next seen.length E2 (back seen H.next i) = E2 i := by
    intro i hi
    by_cases h : i < seen.length
    · rw [hback1 h, hpin i h]; simp [envBack, envOf, h, hlt _ (hgetN h)]
    · rw [hback2 h]; simp only [envBack]; rw [if_neg (by omega)]; congr 1; omega
  have hext : Ext E (envBack E H.next seen.length E2) := by
    intro id ent he
    have : id < H.next := by
      rcases Nat.lt_or_ge id H.next with h | h
      · exact h
      · rw [hH.dom id h] at he; cases he
    simp [envBack, this, he]
  have hv : ∀ v x, VRel E2 v x → (∀ i ∈ v.ids, i < H2.next) → VRel (envBack E H.next seen.length E2) (v.ren (back seen H.next)) x :=
    fun v x h hi => h.ren fun id hid => hE id (hi id hid)
  -- what an entry of the merged heap is
  have hent : ∀ id hb, (mergeH H seen H2).get id = some hb →
      (∃ j h, j < H2.next ∧ back seen H.next j = id ∧ H2.get j = some h ∧ hb = ⟨backFam H seen h.fam, h.ro, h.blk.ren (back seen H.next)⟩) ∨
      (H.get id = some hb ∧ id ∉ seen ∧ ∀ x ∈ seen, ∀ g, H.get x = some g → g.fam ≠ hb.fam) := by
    intro id hb hg
    simp only [mergeH, Heap.get] at hg
    rw [look_append] at hg
    by_cases hany : ((merged H seen H2 H2.next 0).any fun p => p.1 == id) = true
    · rw [if_pos hany] at hg
      obtain ⟨j, _, h2, h3, h, h4, h5⟩ := look_merged H seen H2 H2.next 0 id hb hg
      exact .inl ⟨j, h, by omega, h3, h4, h5⟩
    · rw [if_neg hany, look_append] at hg
      by_cases hany2 : ((lost H seen H.bs).any fun p => p.1 == id) = true
      · rw [if_pos hany2, look_lost] at hg; cases hg
      · rw [if_neg hany2] at hg
        have hns : id ∉ seen := by
          intro hmem
          obtain ⟨h1, h2⟩ := getN_idx hmem
          have := any_merged H seen H2 H2.next 0 (idx seen id) (Nat.zero_le _) (by omega)
          rw [hback1 h2, h1] at this
          exact hany this
        exact .inr ⟨hg, hns, fun x hx g hgx hf => hany2 (any_lost hns hg hx hgx hf H.bs ⟨some hb, mem_of_look hg⟩)⟩
  have hold : ∀ id hb ent b, H.get id = some hb → (∀ x ∈ seen, ∀ g, H.get x = some g → g.fam ≠ hb.fam) → E id = some ent → ent.r = some b →
      b < w.heap.size ∧ ¬ Tr (envOf E seen) (heapOf H seen) b := by
    intro id hb ent b hg hf he hr
    refine ⟨Tr.lt ⟨id, hb, ent, hg, he, hr⟩ hH, ?_⟩
    rintro ⟨j, hb', ent', hg', he', hr'⟩
    have hg'' : look (restrict H seen seen 0) j = some hb' := hg'
    rw [look_restrict] at hg''
    by_cases hj : 0 ≤ j ∧ j < 0 + seen.length
    · rw [if_pos hj] at hg''
      have hj' : j < seen.length := by omega
      simp only [Nat.sub_zero] at hg''
      cases hgx : H.get (getN seen j) with
      | none => rw [hgx] at hg''; cases hg''
      | some g =>
        simp only [envOf, hj', if_true] at he'
        exact hf _ (hgetN hj') g hgx (hH.fam _ _ _ _ _ _ b hgx hg he' he hr' hr)
    · rw [if_neg hj] at hg''; cases hg''
  have hbrel : ∀ id hb, (mergeH H seen H2).get id = some hb → ∃ ent, envBack E H.next seen.length E2 id = some ent ∧ BRel (envBack E H.next seen.length E2) ent hb w2 := by
    intro id hb hg
    rcases hent id hb hg with ⟨j, h, hj, hbk, hgj, rfl⟩ | ⟨hg', hns, hf⟩
    · obtain ⟨ent, he, hB⟩ := hH2.live j h hgj
      refine ⟨ent, by rw [← hbk, hE j hj]; exact he, hB.ren _ (fun i hi => hE i (hids j h hgj i hi)) fun _ _ => rfl⟩
    · obtain ⟨ent, he, hB⟩ := hH.live id hb hg'
      refine ⟨ent, hext _ _ he, ⟨hB.cells, hB.fits, hB.void, fun r hr => ?_⟩⟩
      obtain ⟨hlt', hnt⟩ := hold id hb ent r hg' hf he hr
      exact (hB.lies r hr).same (hfr.keep r hlt' hnt) rfl ⟨rfl, fun _ _ h => h⟩ fun j v' x hj hv => (hv v' hj).mono hext
  refine ⟨⟨fun id hid => ?_, hbrel, ?_, fun id hid => ?_⟩, hext, ⟨hfr.os, hfr.tape, hfr.output, hfr.size, fun b hb ht => ?_, ?_⟩, hv⟩
  · simp only [mergeH] at hid
    simp only [envBack]
    rw [if_neg (by omega)]
    exact hH2.dom _ (by omega)
  · intro i j hi hj ei ej r hgi hgj hei hej hri hrj
    rcases hent i hi hgi with ⟨a, ha, hla, hba, hga, rfl⟩ | ⟨hgi', hnsi, hfi⟩
    · rw [← hba, hE a hla] at hei
      rcases hent j hj hgj with ⟨b, hb, hlb, hbb, hgb, rfl⟩ | ⟨hgj', hnsj, hfj⟩
      · rw [← hbb, hE b hlb] at hej
        simp only [hH2.fam a b ha hb ei ej r hga hgb hei hej hri hrj]
      · exfalso
        obtain ⟨ent, he, _⟩ := hH.live j hj hgj'
        rw [hext _ _ he] at hej; cases hej
        obtain ⟨hlt', hnt⟩ := hold j hj _ r hgj' hfj he hrj
        exact hnt (hfr.new r ⟨a, ha, ei, hga, hei, hri⟩ hlt')
    · obtain ⟨ent, he, _⟩ := hH.live i hi hgi'
      rw [hext _ _ he] at hei; cases hei
      obtain ⟨hlt', hnt⟩ := hold i hi _ r hgi' hfi he hri
      rcases hent j hj hgj with ⟨b, hb, hlb, hbb, hgb, rfl⟩ | ⟨hgj', hnsj, hfj⟩
      · exfalso
        rw [← hbb, hE b hlb] at hej
        exact hnt (hfr.new r ⟨b, hb, ej, hgb, hej, hrj⟩ hlt')
      · obtain ⟨ent', he', _⟩ := hH.live j hj hgj'
        rw [hext _ _ he'] at hej; cases hej
        exact hH.fam i j hi hj _ _ r hgi' hgj' he he' hri hrj
  · simp only [envBack]
    split
    · rename_i h; exact hH.full id h
    · refine hH2.full _ ?_
      simp only [mergeH] at hid
      omega
  · refine hfr.keep b hb fun ht' => ht ((hH.heapOf hs).2 b ht')
  · rintro b ⟨id, hb, ent, hg, he, hr⟩ hlt'
    rcases hent id hb hg with ⟨j, h, hj, hbk, hgj, rfl⟩ | ⟨hg', hns, hf⟩
    · rw [← hbk, hE j hj] at he
      exact (hH.heapOf hs).2 b (hfr.new b ⟨j, h, ent, hgj, he, hr⟩ hlt')
    · obtain ⟨ent', he', _⟩ := hH.live id hb hg'
      rw [hext _ _ he'] at he; cases he
      exact ⟨id, hb, _, hg', he', hr⟩

/-- What a call of a function does, on a heap of its own. -/
def CallG (P : Program) (f : Nat) (args : List AV) (H : Heap) (v : AV) (H' : Heap) : Prop :=
  ∀ (E : Env) (cargs : Array Value) (w : World), VRelL E args cargs.toList → HRel E H w →
    Calls P f cargs w fun e w' => ∃ x E', e = .returned x ∧ VRel E' v x ∧ HRel E' H' w' ∧ Fr E H w E' H' w' ∧ ∀ i, i < H.next → E' i = E i

/-- The same in a frame: the caller's names stay. -/
def CallF (P : Program) (f : Nat) (args : List AV) (H : Heap) (v : AV) (H' : Heap) : Prop :=
  ∀ (E : Env) (cargs : Array Value) (w : World), VRelL E args cargs.toList → HRel E H w →
    Calls P f cargs w fun e w' => ∃ x E', e = .returned x ∧ VRel E' v x ∧ HRel E' H' w' ∧ Ext E E' ∧ Fr E H w E' H' w'

def Keeps (H H' : Heap) : Prop := ∀ i hb, H.get i = some hb → H'.get i = some hb

def SumOk {R : Type} (P : Program) (f : Nat) (keep : Bool) (S : List AV → Heap → (AV → Heap → Option R) → Option R) : Prop :=
  ∀ args H K r, S args H K = some r → ∃ v H', K v H' = some r ∧ CallG P f args H v H' ∧ (keep = true → Keeps H H')

mutual
theorem AV.ren_back {f g : Nat → Nat} : ∀ (v : AV), (∀ id ∈ v.ids, g (f id) = id) → (v.ren f).ren g = v
  | .ptr id bs e sz o, h => by simp only [AV.ren]; rw [h id (by simp [AV.ids])]
  | .sw id, h => by simp only [AV.ren]; rw [h id (by simp [AV.ids])]
  | .sl id bs e sz n, h => by simp only [AV.ren]; rw [h id (by simp [AV.ids])]
  | .mp id, h => by simp only [AV.ren]; rw [h id (by simp [AV.ids])]
  | .it id, h => by simp only [AV.ren]; rw [h id (by simp [AV.ids])]
  | .agg cs, h => by simp only [AV.ren]; rw [AV.renL_back cs (by simpa [AV.ids] using h)]
  | .tup cs, h => by simp only [AV.ren]; rw [AV.renL_back cs (by simpa [AV.ids] using h)]
  | .fn k cs, h => by simp only [AV.ren]; rw [AV.renL_back cs (by simpa [AV.ids] using h)]
  | .mix pre sh n xs post, h => by
    simp only [AV.ren]
    rw [AV.renL_back pre (fun id hid => h id (by simp [AV.ids, hid])), AV.renL_back post (fun id hid => h id (by simp [AV.ids, hid]))]
  | .b x, _ => rfl
  | .i k x, _ => rfl
  | .s x, _ => rfl
  | .np, _ => rfl
  | .nsl, _ => rfl
  | .nf, _ => rfl
  | .ni, _ => rfl
  | .nm, _ => rfl
  | .u, _ => rfl
  | .junk, _ => rfl
theorem AV.renL_back {f g : Nat → Nat} : ∀ (v : List AV), (∀ id ∈ AV.idsL v, g (f id) = id) → AV.renL g (AV.renL f v) = v
  | [], _ => rfl
  | v :: vs, h => by
    simp only [AV.renL]
    rw [AV.ren_back v (fun id hid => h id (by simp [AV.idsL, hid])), AV.renL_back vs (fun id hid => h id (by simp [AV.idsL, hid]))]
end

theorem Blk.ren_back {f g : Nat → Nat} (b : Blk) (h : ∀ id ∈ b.ids, g (f id) = id) : (b.ren f).ren g = b := by
  cases b with
  | cells cs => simp only [Blk.ren]; rw [AV.renL_back cs h]
  | row sh xs => rfl
  | mix pre sh n xs post =>
    simp only [Blk.ren]
    rw [AV.renL_back pre (fun id hid => h id (by simp [Blk.ids, hid])), AV.renL_back post (fun id hid => h id (by simp [Blk.ids, hid]))]
  | map kvs =>
    simp only [Blk.ren, List.map_map]
    congr 1
    have : ∀ p ∈ kvs, ((fun p : AV × AV => (p.1.ren g, p.2.ren g)) ∘ fun p => (p.1.ren f, p.2.ren f)) p = p := by
      intro p hp
      obtain ⟨a, c⟩ := p
      simp only [Function.comp]
      rw [AV.ren_back a (fun id hid => h id (by simp only [Blk.ids, List.mem_flatMap]; exact ⟨_, hp, by simp [hid]⟩)), AV.ren_back c (fun id hid => h id (by simp only [Blk.ids, List.mem_flatMap]; exact ⟨_, hp, by simp [hid]⟩))]
    rw [List.map_congr_left this]; simp
  | siter s p => rfl

theorem merged_split (H : Heap) (seen : List Nat) (H' : Heap) : ∀ (a b i : Nat), merged H seen H' (a + b) i = merged H seen H' a i ++ merged H seen H' b (i + a)
  | 0, b, i => by simp [merged]
  | a + 1, b, i => by
    rw [show a + 1 + b = (a + b) + 1 by omega, merged, merged, merged_split H seen H' a b (i + 1)]
    rw [show i + 1 + a = i + (a + 1) by omega]; rfl

theorem firstOf_spec {H : Heap} {fam : Nat} : ∀ (l : List Nat) (n : Nat) (x : Nat) (g : HB), x ∈ l → H.get x = some g → g.fam = fam →
    ∃ j, firstOf H fam l n = n + j ∧ j < l.length ∧ ∃ g', H.get (getN l j) = some g' ∧ g'.fam = fam
  | y :: r, n, x, g, hx, hg, hf => by
    rw [firstOf]
    have next : x ∈ r → ∃ j, firstOf H fam r (n + 1) = n + j ∧ j < (y :: r).length ∧ ∃ g', H.get (getN (y :: r) j) = some g' ∧ g'.fam = fam := by
      intro hr
      obtain ⟨j, h1, h2, h3⟩ := firstOf_spec r (n + 1) x g hr hg hf
      exact ⟨j + 1, by omega, by simp; omega, h3⟩
    cases hy : H.get y with
    | none =>
      simp only
      rcases List.mem_cons.1 hx with h | h
      · subst h; rw [hg] at hy; cases hy
      · exact next h
    | some g' =>
      simp only
      by_cases hgf : g'.fam = fam
      · have : Nat.beq g'.fam fam = true := by rw [hgf]; exact beq_self _
        rw [this]
        exact ⟨0, by simp, by simp, g', hy, hgf⟩
      · have : Nat.beq g'.fam fam = false := beq_ne hgf
        rw [this]
        rcases List.mem_cons.1 hx with h | h
        · subst h; rw [hg] at hy; cases hy; exact absurd hf hgf
        · exact next h

theorem lost_any {H : Heap} {seen : List Nat} {id : Nat} (hs : id ∈ seen) : ∀ l : List (Nat × Option HB), ((lost H seen l).any fun p => p.1 == id) = false
  | [] => rfl
  | (i, b) :: l => by
    rw [lost]
    cases H.get i with
    | none => exact lost_any hs l
    | some h =>
      simp only
      cases hc : (!has seen i && seen.any (famIs H h.fam)) with
      | false => exact lost_any hs l
      | true =>
        rw [cond_true, List.any_cons, lost_any hs l, Bool.or_false]
        rw [Bool.and_eq_true, Bool.not_eq_true'] at hc
        have hne : i ≠ id := fun hh => by
          subst hh
          have := hc.1
          rw [has_iff.2 hs] at this; cases this
        simpa using hne

theorem keep_get {H H2 : Heap} {args : List AV} {seen : List Nat} (hs : seenOk 0 args H seen = true) (hm : seen.length ≤ H2.next) (hk : Keeps (heapOf H seen) H2) {id : Nat} {hb : HB} (h : (mergeK H seen H2).get id = some hb) :
    (mergeH H seen H2).get id = some hb := by
  obtain ⟨hs1, hs2, _, hs4⟩ := seenOk_spec hs
  have hspl : merged H seen H2 H2.next 0 = merged H seen H2 seen.length 0 ++ merged H seen H2 (H2.next - seen.length) seen.length := by
    have := merged_split H seen H2 seen.length (H2.next - seen.length) 0
    rw [Nat.zero_add] at this
    rw [← this]; congr 1; omega
  simp only [mergeH, mergeK, Heap.get] at h ⊢
  rw [hspl, List.append_assoc, look_append]
  by_cases hany : ((merged H seen H2 seen.length 0).any fun p => p.1 == id) = true
  · rw [if_pos hany]
    -- a block that was given
    have hid : id ∈ seen := by
      have key : ∀ (n i : Nat), i + n ≤ seen.length → ((merged H seen H2 n i).any fun p => p.1 == id) = true → id ∈ seen := by
        intro n
        induction n with
        | zero => intro i _ hh; cases hh
        | succ n ih =>
          intro i hle hh
          rw [merged, List.any_cons, Bool.or_eq_true] at hh
          rcases hh with hh | hh
          · have hlt : i < seen.length := by omega
            have : back seen H.next i = id := by simpa using hh
            unfold back at this
            rw [show Nat.blt i seen.length = true by simpa using hlt] at this
            rw [← this]
            have key2 : ∀ (l : List Nat) (j : Nat), j < l.length → getN l j ∈ l := by
              intro l
              induction l with
              | nil => intro j hj; simp at hj
              | cons y l ih =>
                intro j hj
                cases j with
                | zero => simp [getN]
                | succ j => simp only [getN]; exact List.mem_cons_of_mem _ (ih j (by simpa using hj))
            exact key2 seen i hlt
          · exact ih (i + 1) (by omega) hh
      exact key seen.length 0 (by omega) hany
    have hlt := hs4 id hid
    have hold : H.get id = some hb := by
      rw [look_append] at h
      have h1 : ((merged H seen H2 (H2.next - seen.length) seen.length).any fun p => p.1 == id) = false := by
        have key : ∀ (n i : Nat), seen.length ≤ i → ((merged H seen H2 n i).any fun p => p.1 == id) = false := by
          intro n
          induction n with
          | zero => intro i _; rfl
          | succ n ih =>
            intro i hi
            rw [merged, List.any_cons, ih (i + 1) (by omega), Bool.or_false]
            have : back seen H.next i = H.next + (i - seen.length) := by unfold back; rw [blt_ge hi]; rfl
            simp only [beq_eq_false_iff_ne]
            rw [this]; omega
        exact key _ _ (Nat.le_refl _)
      rw [h1] at h
      simp only [Bool.false_eq_true, if_false] at h
      rw [look_append, lost_any hid] at h
      simp only [Bool.false_eq_true, if_false] at h
      exact h
    have key : ∀ (n i : Nat), i + n ≤ seen.length → ((merged H seen H2 n i).any fun p => p.1 == id) = true → look (merged H seen H2 n i) id = some hb := by
      intro n
      induction n with
      | zero => intro i _ hh; cases hh
      | succ n ih =>
        intro i hle hh
        rw [merged, look_cons]
        by_cases hbk : back seen H.next i = id
        · rw [if_pos hbk]
          have hlt' : i < seen.length := by omega
          have hg : getN seen i = id := by
            unfold back at hbk
            rw [show Nat.blt i seen.length = true by simpa using hlt'] at hbk
            exact hbk
          have hh0 : (heapOf H seen).get i = some ⟨firstOf H hb.fam seen 0, hb.ro, hb.blk.ren (idx seen)⟩ := by
            show look (restrict H seen seen 0) i = _
            rw [look_restrict, if_pos (by omega), Nat.sub_zero, hg, hold]
          rw [hk i _ hh0]
          simp only
          have hblk : (hb.blk.ren (idx seen)).ren (back seen H.next) = hb.blk := Blk.ren_back _ fun x hx => by
            have hxs := hs2 id hid hb hold x hx
            obtain ⟨g1, g2⟩ := getN_idx hxs
            unfold back
            rw [show Nat.blt (idx seen x) seen.length = true by simpa using g2]
            exact g1
          have hfam : backFam H seen (firstOf H hb.fam seen 0) = hb.fam := by
            obtain ⟨j, j1, j2, g', j3, j4⟩ := firstOf_spec seen 0 id hb hid hold rfl
            unfold backFam
            rw [j1, Nat.zero_add, show Nat.blt j seen.length = true by simpa using j2]
            show famAt H (getN seen j) = _
            unfold famAt
            rw [j3]; exact j4
          rw [hblk, hfam]
        · rw [if_neg hbk]
          refine ih (i + 1) (by omega) ?_
          rw [merged, List.any_cons, Bool.or_eq_true] at hh
          rcases hh with hh | hh
          · exact absurd (by simpa using hh) hbk
          · exact hh
    exact key seen.length 0 (by omega) hany
  · rw [if_neg hany]
    exact h

theorem frameK_sound {R : Type} {P : Program} {f : Nat} {keep : Bool} {S : List AV → Heap → (AV → Heap → Option R) → Option R} (hS : SumOk P f keep S) {args : List AV} {H : Heap} {K : AV → Heap → Option R} {r : R}
    (h : frameK keep args H S K = some r) : ∃ v H', K v H' = some r ∧ CallF P f args H v H' := by
  unfold frameK at h
  generalize hse : seenOf 0 args H = seen at h
  cases hs : seenOk 0 args H seen with
  | false => simp only [hs] at h; cases h
  | true =>
    simp only [hs, cond_true] at h
    obtain ⟨v, H', hK, hG, hkp⟩ := hS _ _ _ _ h
    cases hc : (Nat.ble seen.length H'.next && (v.ids.all fun i => Nat.blt i H'.next) && ((List.range H'.next).all fun i => (idsAt H' i).all fun j => Nat.blt j H'.next)) with
    | false => rw [hc] at hK; cases hK
    | true =>
      rw [hc, cond_true] at hK
      simp only [Bool.and_eq_true, List.all_eq_true] at hc
      obtain ⟨⟨hc1, hc2⟩, hc3⟩ := hc
      refine ⟨_, _, hK, fun E cargs w hargs hH => ?_⟩
      obtain ⟨hs1, hs2, _, hs3⟩ := seenOk_spec hs
      have hargs' : VRelL (envOf E seen) (AV.renL (idx seen) args) cargs.toList := hargs.ren fun id hid => envOf_idx (hs1 id hid)
      refine (hG (envOf E seen) cargs w hargs' (hH.heapOf hs).1).mono ?_
      rintro e w' ⟨x, E2, rfl, hv, hH2, hfr, hpin⟩
      have hM := merges hH hs hs3 hH2 hfr (fun i hi => hpin i hi) (by simpa using hc1) (fun i hb hg j hj => by
        obtain ⟨ent, he, _⟩ := hH2.live i hb hg
        have hi : i < H'.next := by
          rcases Nat.lt_or_ge i H'.next with h | h
          · exact h
          · rw [hH2.dom i h] at he; cases he
        have := hc3 i (List.mem_range.2 hi) j (by unfold idsAt; rw [hg]; exact hj)
        simpa using this)
      cases keep with
      | false => exact ⟨x, _, rfl, hM.v v x hv (fun i hi => by simpa using hc2 i hi), hM.h, hM.ext, hM.fr⟩
      | true =>
        have hle : seen.length ≤ H'.next := by simpa using hc1
        have hget : ∀ id hb, (mergeK H seen H').get id = some hb → (mergeH H seen H').get id = some hb := fun id hb h => keep_get hs hle (hkp rfl) h
        refine ⟨x, _, rfl, hM.v v x hv (fun i hi => by simpa using hc2 i hi), ⟨hM.h.dom, fun id hb hg => hM.h.live id hb (hget id hb hg), fun i j hi hj ei ej r h1 h2 => hM.h.fam i j hi hj ei ej r (hget _ _ h1) (hget _ _ h2), hM.h.full⟩, hM.ext,
          ⟨hM.fr.os, hM.fr.tape, hM.fr.output, hM.fr.size, hM.fr.keep, fun b ⟨id, hb, ent, h1, h2, h3⟩ hlt => hM.fr.new b ⟨id, hb, ent, hget _ _ h1, h2, h3⟩ hlt⟩⟩
end Go.Ab

/- Cells of blocks: what a place reads, and what a store makes of it. Conditions: none. -/
namespace Go.Ab
set_option linter.unusedVariables false
set_option linter.unusedSimpArgs false
open Go

theorem Tup.all_length : ∀ (sh : List SK) (x : Tup sh), (Tup.all sh x).length = sh.length
  | [], _ => rfl
  | [k], _ => rfl
  | k :: k' :: ks, x => by simp [Tup.all, Tup.all_length (k' :: ks) x.2]

theorem SK.un_av : ∀ {k : SK} {v : AV} {x : k.ty}, k.un v = some x → k.av x = v
  | .b, .b y, x, h => by simp [SK.un] at h; subst h; rfl
  | .i k, .i k' y, x, h => by
    simp only [SK.un] at h
    split at h
    · rename_i hk; subst hk; cases h; rfl
    · cases h
  | .s, .s y, x, h => by simp [SK.un] at h; subst h; rfl

theorem Tup.un_all : ∀ {sh : List SK} {vs : List AV} {x : Tup sh}, Tup.un sh vs = some x → Tup.all sh x = vs
  | [], [], x, h => rfl
  | [k], [v], x, h => by simp only [Tup.un] at h; simp [Tup.all, SK.un_av h]
  | k :: k' :: ks, v :: vs, x, h => by
    simp only [Tup.un] at h
    cases h1 : k.un v with
    | none => simp [h1] at h
    | some a =>
      simp only [h1, Option.bind_some] at h
      cases h2 : Tup.un (k' :: ks) vs with
      | none => simp [h2] at h
      | some b =>
        simp only [h2, Option.bind_some, Option.some.injEq] at h
        subst h
        simp [Tup.all, SK.un_av h1, Tup.un_all h2]
  | [], _ :: _, _, h => by simp [Tup.un] at h
  | [k], [], _, h => by simp [Tup.un] at h
  | [k], _ :: _ :: _, _, h => by simp [Tup.un] at h
  | k :: k' :: ks, [], _, h => by simp [Tup.un] at h

theorem flatRow_length (sh : List SK) : ∀ xs : List (Tup sh), (flatRow sh xs).length = xs.length * sh.length
  | [] => by simp [flatRow]
  | x :: xs => by
    have := flatRow_length sh xs
    unfold flatRow at *
    rw [List.flatMap_cons, List.length_append, this, Tup.all_length, List.length_cons, Nat.succ_mul]; omega

theorem seg_append_left {a b : List AV} {f n : Nat} (h : f + n ≤ a.length) : seg (a ++ b) f n = seg a f n := by
  unfold seg
  rw [List.drop_append_of_le_length (by omega), List.take_append_of_le_length (by simp; omega)]

theorem seg_append_right {a b : List AV} {f n : Nat} (h : a.length ≤ f) : seg (a ++ b) f n = seg b (f - a.length) n := by
  unfold seg
  rw [List.drop_append, List.drop_eq_nil_of_le h]; simp

theorem seg_length {a : List AV} {f n : Nat} (h : f + n ≤ a.length) : (seg a f n).length = n := by
  unfold seg; simp; omega

theorem flatRow_seg (sh : List SK) : ∀ (xs : List (Tup sh)) (e o n : Nat) (x : Tup sh), xs[e]? = some x → o + n ≤ sh.length →
    seg (flatRow sh xs) (e * sh.length + o) n = seg (Tup.all sh x) o n ∧ e * sh.length + o + n ≤ (flatRow sh xs).length
  | [], e, _, _, _, h, _ => by simp at h
  | y :: xs, 0, o, n, x, h, hl => by
    simp at h; subst h
    have h1 : flatRow sh (y :: xs) = Tup.all sh y ++ flatRow sh xs := by simp [flatRow]
    rw [h1]
    constructor
    · rw [seg_append_left (by rw [Tup.all_length]; omega)]; congr 1; omega
    · rw [List.length_append, Tup.all_length]; omega
  | y :: xs, e + 1, o, n, x, h, hl => by
    simp at h
    obtain ⟨h2, h3⟩ := flatRow_seg sh xs e o n x h hl
    have h1 : flatRow sh (y :: xs) = Tup.all sh y ++ flatRow sh xs := by simp [flatRow]
    have h4 : (e + 1) * sh.length + o = sh.length + (e * sh.length + o) := by rw [Nat.succ_mul]; omega
    rw [h1]
    constructor
    · rw [seg_append_right (by rw [Tup.all_length]; omega), Tup.all_length, h4, Nat.add_sub_cancel_left]; exact h2
    · rw [List.length_append, Tup.all_length]; omega

theorem putSeg_length {a vs : List AV} {f : Nat} (h : f + vs.length ≤ a.length) : (putSeg a f vs).length = a.length := by
  unfold putSeg; simp; omega

theorem putSeg_append_left {a b vs : List AV} {f : Nat} (h : f + vs.length ≤ a.length) : putSeg (a ++ b) f vs = putSeg a f vs ++ b := by
  unfold putSeg
  rw [List.take_append_of_le_length (by omega), List.drop_append_of_le_length (by omega)]
  simp [List.append_assoc]

theorem putSeg_append_right {a b vs : List AV} {f : Nat} (h : a.length ≤ f) : putSeg (a ++ b) f vs = a ++ putSeg b (f - a.length) vs := by
  unfold putSeg
  rw [List.take_append, List.take_of_length_le h, List.drop_append, List.drop_eq_nil_of_le (by omega)]
  rw [show f + vs.length - a.length = f - a.length + vs.length by omega]
  simp [List.append_assoc]

theorem flatRow_set (sh : List SK) : ∀ (xs : List (Tup sh)) (e o : Nat) (vs : List AV) (x y : Tup sh), xs[e]? = some x → Tup.all sh y = putSeg (Tup.all sh x) o vs → o + vs.length ≤ sh.length →
    flatRow sh (xs.set e y) = putSeg (flatRow sh xs) (e * sh.length + o) vs
  | [], e, _, _, _, _, h, _, _ => by simp at h
  | z :: xs, 0, o, vs, x, y, h, hy, hl => by
    simp at h; subst h
    have h1 : ∀ (u : Tup sh) (us : List (Tup sh)), flatRow sh (u :: us) = Tup.all sh u ++ flatRow sh us := fun u us => by simp [flatRow]
    rw [List.set_cons_zero, h1, h1, hy, putSeg_append_left (by rw [Tup.all_length]; omega)]
    congr 2; omega
  | z :: xs, e + 1, o, vs, x, y, h, hy, hl => by
    simp at h
    have h1 : ∀ (u : Tup sh) (us : List (Tup sh)), flatRow sh (u :: us) = Tup.all sh u ++ flatRow sh us := fun u us => by simp [flatRow]
    rw [List.set_cons_succ, h1, h1, flatRow_set sh xs e o vs x y h hy hl]
    have h4 : (e + 1) * sh.length + o = sh.length + (e * sh.length + o) := by rw [Nat.succ_mul]; omega
    rw [putSeg_append_right (by rw [Tup.all_length]; omega), Tup.all_length, h4, Nat.add_sub_cancel_left]

section
variable {R : Type}

theorem cond_some {b : Bool} {x : Option R} {r : R} (h : cond b x none = some r) : b = true ∧ x = some r := by
  cases b
  · cases h
  · exact ⟨rfl, h⟩

theorem cond_none_some {b : Bool} {x : Option R} {r : R} (h : cond b none x = some r) : b = false ∧ x = some r := by
  cases b
  · exact ⟨rfl, h⟩
  · cases h

theorem pickE_sound {e : Nat} {K : Nat → Option R} {r : R} : ∀ {fuel j : Nat}, pickE e K fuel j = some r → j ≤ e ∧ e < j + fuel ∧ K e = some r
  | 0, j, h => by cases h
  | f + 1, j, h => by
    rw [pickE] at h
    by_cases hj : e = j
    · subst hj; rw [beq_self] at h; exact ⟨Nat.le_refl _, by omega, h⟩
    · rw [beq_ne hj] at h
      obtain ⟨h1, h2, h3⟩ := pickE_sound h
      exact ⟨by omega, by omega, h3⟩

theorem rdRow_sound {sh : List SK} {xs : List (Tup sh)} {e o len : Nat} {K : List AV → Option R} {r : R} (h : rdRow sh xs e o len K = some r) :
    ∃ l, K l = some r ∧ l = seg (flatRow sh xs) (e * sh.length + o) len ∧ e * sh.length + o + len ≤ (flatRow sh xs).length := by
  unfold rdRow at h
  obtain ⟨h1, h2⟩ := cond_some h
  cases hx : xs[e]? with
  | none => rw [hx] at h2; cases h2
  | some x =>
    rw [hx] at h2
    obtain ⟨h3, h4⟩ := flatRow_seg sh xs e o len x hx (by simpa using h1)
    exact ⟨_, h2, h3.symm, h4⟩

theorem rdCells_sound {cs : List AV} {f len : Nat} {K : List AV → Option R} {r : R} (h : rdCells cs f len K = some r) : ∃ l, K l = some r ∧ l = seg cs f len ∧ f + len ≤ cs.length := by
  unfold rdCells at h
  obtain ⟨h1, h2⟩ := cond_some h
  exact ⟨_, h2, rfl, by simpa using h1⟩

theorem beq_eq {i j : Nat} (h : Nat.beq i j = true) : i = j := Nat.eq_of_beq_eq_true h

theorem bool_cases {b : Bool} {x y : Option R} {r : R} (h : cond b x y = some r) : (b = true ∧ x = some r) ∨ (b = false ∧ y = some r) := by
  cases b
  · exact .inr ⟨rfl, h⟩
  · exact .inl ⟨rfl, h⟩

def Blk.okMix (b : Blk) : Prop := ∀ pre sh n xs post, b = .mix pre sh n xs post → xs.length = n

theorem rd_sound {b : Blk} {base e sz o len : Nat} {K : List AV → Option R} {r : R} (h : rd b base e sz o len K = some r) :
    b.isCells = true ∧ ∃ l, K l = some r ∧ (b.okMix → l = seg b.flat (base + e * sz + o) len ∧ base + e * sz + o + len ≤ b.flat.length) := by
  unfold rd at h
  split at h
  · rename_i cs
    refine ⟨rfl, ?_⟩
    rcases bool_cases h with ⟨h1, h2⟩ | ⟨_, h2⟩
    · obtain ⟨l, h3, h4, h5⟩ := rdCells_sound h2
      have := beq_eq h1; subst this
      exact ⟨l, h3, fun _ => ⟨by simpa [Blk.flat] using h4, by simpa [Blk.flat] using h5⟩⟩
    · obtain ⟨_, _, h3⟩ := pickE_sound h2
      obtain ⟨l, h3, h4, h5⟩ := rdCells_sound h3
      exact ⟨l, h3, fun _ => ⟨h4, h5⟩⟩
  · rename_i sh xs
    refine ⟨rfl, ?_⟩
    rcases bool_cases h with ⟨h1, h2⟩ | ⟨_, h2⟩
    · obtain ⟨l, h3, h4, h5⟩ := rdRow_sound h2
      have := beq_eq h1; subst this
      rw [Nat.mul_comm, Nat.div_add_mod] at h4 h5
      exact ⟨l, h3, fun _ => ⟨by simpa [Blk.flat] using h4, by simpa [Blk.flat] using h5⟩⟩
    · obtain ⟨h1, h2'⟩ := cond_some h2
      rw [Bool.and_eq_true] at h1
      have h6 := beq_eq h1.1; have h7 := beq_eq h1.2; subst h6; subst h7
      obtain ⟨l, h3, h4, h5⟩ := rdRow_sound h2'
      exact ⟨l, h3, fun _ => ⟨by simpa [Blk.flat] using h4, by simpa [Blk.flat] using h5⟩⟩
  · rename_i pre sh n xs post
    refine ⟨rfl, ?_⟩
    have hrow : ∀ {f len : Nat}, f + len ≤ (flatRow sh xs).length → seg (pre ++ flatRow sh xs ++ post) (pre.length + f) len = seg (flatRow sh xs) f len ∧ pre.length + f + len ≤ (pre ++ flatRow sh xs ++ post).length := by
      intro f len hl
      rw [List.append_assoc]
      constructor
      · rw [seg_append_right (by omega), Nat.add_sub_cancel_left, seg_append_left hl]
      · simp only [List.length_append]; omega
    rcases bool_cases h with ⟨h1, h2⟩ | ⟨_, h2⟩
    · have := beq_eq h1; subst this
      simp only [Nat.mul_zero, Nat.add_zero]
      rcases bool_cases h2 with ⟨h3, h4⟩ | ⟨_, h4⟩
      · obtain ⟨l, h5, h6, h7⟩ := rdCells_sound h4
        refine ⟨l, h5, fun _ => ⟨?_, ?_⟩⟩
        · rw [h6]; simp only [Blk.flat]; rw [List.append_assoc, seg_append_left h7]
        · simp only [Blk.flat, List.length_append]; omega
      · rcases bool_cases h4 with ⟨h5, h6⟩ | ⟨_, h6⟩
        · obtain ⟨l, h7, h8, h9⟩ := rdCells_sound h6
          have h5' : pre.length + sh.length * n ≤ base + o := by simpa using h5
          refine ⟨l, h7, fun hf => ?_⟩
          have hn := hf pre sh n xs post rfl
          have hpl : (pre ++ flatRow sh xs).length = pre.length + sh.length * n := by rw [List.length_append, flatRow_length, hn, Nat.mul_comm]
          constructor
          · rw [h8]; simp only [Blk.flat]; rw [seg_append_right (by omega), hpl]
          · simp only [Blk.flat]; rw [List.length_append, hpl]; omega
        · obtain ⟨h7, h8⟩ := cond_some h6
          obtain ⟨l, h9, h10, h11⟩ := rdRow_sound h8
          have h7' : pre.length ≤ base + o := by simpa using h7
          rw [Nat.mul_comm, Nat.div_add_mod] at h10 h11
          obtain ⟨h12, h13⟩ := hrow h11
          rw [Nat.add_sub_cancel' h7'] at h12 h13
          exact ⟨l, h9, fun _ => ⟨by rw [h10]; exact h12.symm, h13⟩⟩
    · obtain ⟨h1, h2'⟩ := cond_some h2
      rw [Bool.and_eq_true] at h1
      have h6 := beq_eq h1.1; have h7 := beq_eq h1.2; subst h6; subst h7
      obtain ⟨l, h9, h10, h11⟩ := rdRow_sound h2'
      obtain ⟨h12, h13⟩ := hrow h11
      rw [Nat.add_assoc]
      exact ⟨l, h9, fun _ => ⟨by rw [h10]; exact h12.symm, h13⟩⟩
  · cases h

theorem wrRow_sound {sh : List SK} {xs : List (Tup sh)} {e o : Nat} {vs : List AV} {K : List (Tup sh) → Option R} {r : R} (h : wrRow sh xs e o vs K = some r) :
    ∃ ys, K ys = some r ∧ flatRow sh ys = putSeg (flatRow sh xs) (e * sh.length + o) vs ∧ e * sh.length + o + vs.length ≤ (flatRow sh xs).length ∧ ys.length = xs.length := by
  unfold wrRow at h
  obtain ⟨hlen, h⟩ := cond_some h
  cases hx : xs[e]? with
  | none => rw [hx] at h; cases h
  | some x =>
    rw [hx, Option.bind_some] at h
    cases hu : Tup.un sh (putSeg (Tup.all sh x) o vs) with
    | none => rw [hu] at h; cases h
    | some y =>
      rw [hu, Option.bind_some] at h
      have hy := Tup.un_all hu
      have hl : o + vs.length ≤ sh.length := by simpa using hlen
      obtain ⟨_, h4⟩ := flatRow_seg sh xs e o vs.length x hx hl
      exact ⟨_, h, flatRow_set sh xs e o vs x y hx hy hl, h4, by simp⟩

theorem wrCells_sound {cs : List AV} {f : Nat} {vs : List AV} {K : List AV → Option R} {r : R} (h : wrCells cs f vs K = some r) : K (putSeg cs f vs) = some r ∧ f + vs.length ≤ cs.length := by
  unfold wrCells at h
  obtain ⟨h1, h2⟩ := cond_some h
  exact ⟨h2, by simpa using h1⟩

/-- The same form, other cells. -/
def Blk.alike : Blk → Blk → Prop
  | .cells a, .cells b => b.length = a.length
  | .row sh xs, .row sh' ys => sh' = sh ∧ ys.length = xs.length
  | .mix pre sh n xs post, .mix pre' sh' n' ys post' => pre'.length = pre.length ∧ sh'.length = sh.length ∧ n' = n ∧ ys.length = n ∧ post'.length = post.length
  | _, _ => False

theorem wr_sound {b : Blk} {base e sz o : Nat} {vs : List AV} {K : Blk → Option R} {r : R} (h : wr b base e sz o vs K = some r) :
    b.isCells = true ∧ ∃ b', K b' = some r ∧ (b.okMix → b'.flat = putSeg b.flat (base + e * sz + o) vs ∧ base + e * sz + o + vs.length ≤ b.flat.length ∧ b.alike b') := by
  unfold wr at h
  split at h
  · rename_i cs
    refine ⟨rfl, ?_⟩
    rcases bool_cases h with ⟨h1, h2⟩ | ⟨_, h2⟩
    · obtain ⟨h3, h4⟩ := wrCells_sound h2
      have := beq_eq h1; subst this
      exact ⟨_, h3, fun _ => ⟨by simp [Blk.flat], by simpa [Blk.flat] using h4, putSeg_length h4⟩⟩
    · obtain ⟨_, _, h3⟩ := pickE_sound h2
      obtain ⟨h3, h4⟩ := wrCells_sound h3
      exact ⟨_, h3, fun _ => ⟨rfl, h4, putSeg_length h4⟩⟩
  · rename_i sh xs
    refine ⟨rfl, ?_⟩
    rcases bool_cases h with ⟨h1, h2⟩ | ⟨_, h2⟩
    · obtain ⟨ys, h3, h4, h5, h6⟩ := wrRow_sound h2
      have := beq_eq h1; subst this
      rw [Nat.mul_comm, Nat.div_add_mod] at h4 h5
      exact ⟨_, h3, fun _ => ⟨by simpa [Blk.flat] using h4, by simpa [Blk.flat] using h5, rfl, h6⟩⟩
    · obtain ⟨h1, h2'⟩ := cond_some h2
      rw [Bool.and_eq_true] at h1
      have h6 := beq_eq h1.1; have h7 := beq_eq h1.2; subst h6; subst h7
      obtain ⟨ys, h3, h4, h5, h6⟩ := wrRow_sound h2'
      exact ⟨_, h3, fun _ => ⟨by simpa [Blk.flat] using h4, by simpa [Blk.flat] using h5, rfl, h6⟩⟩
  · rename_i pre sh n xs post
    refine ⟨rfl, ?_⟩
    have hrow : ∀ {f : Nat} {ys : List (Tup sh)}, f + vs.length ≤ (flatRow sh xs).length → flatRow sh ys = putSeg (flatRow sh xs) f vs →
        pre ++ flatRow sh ys ++ post = putSeg (pre ++ flatRow sh xs ++ post) (pre.length + f) vs ∧ pre.length + f + vs.length ≤ (pre ++ flatRow sh xs ++ post).length := by
      intro f ys hl hy
      rw [List.append_assoc, List.append_assoc]
      constructor
      · rw [putSeg_append_right (by omega), Nat.add_sub_cancel_left, putSeg_append_left hl, hy]
      · simp only [List.length_append]; omega
    rcases bool_cases h with ⟨h1, h2⟩ | ⟨_, h2⟩
    · have := beq_eq h1; subst this
      simp only [Nat.mul_zero, Nat.add_zero]
      rcases bool_cases h2 with ⟨h3, h4⟩ | ⟨_, h4⟩
      · obtain ⟨h5, h7⟩ := wrCells_sound h4
        refine ⟨_, h5, fun hf => ⟨?_, ?_, putSeg_length h7, rfl, rfl, hf pre sh n xs post rfl, rfl⟩⟩
        · simp only [Blk.flat]; rw [List.append_assoc, List.append_assoc, putSeg_append_left h7]
        · simp only [Blk.flat, List.length_append]; omega
      · rcases bool_cases h4 with ⟨h5, h6⟩ | ⟨_, h6⟩
        · obtain ⟨h7, h9⟩ := wrCells_sound h6
          have h5' : pre.length + sh.length * n ≤ base + o := by simpa using h5
          refine ⟨_, h7, fun hf => ?_⟩
          have hn := hf pre sh n xs post rfl
          have hpl : (pre ++ flatRow sh xs).length = pre.length + sh.length * n := by rw [List.length_append, flatRow_length, hn, Nat.mul_comm]
          refine ⟨?_, ?_, rfl, rfl, rfl, hn, putSeg_length h9⟩
          · simp only [Blk.flat]; rw [putSeg_append_right (by omega), hpl]
          · simp only [Blk.flat]; rw [List.length_append, hpl]; omega
        · obtain ⟨h7, h8⟩ := cond_some h6
          obtain ⟨ys, h9, h10, h11, h12⟩ := wrRow_sound h8
          have h7' : pre.length ≤ base + o := by simpa using h7
          rw [Nat.mul_comm, Nat.div_add_mod] at h10 h11
          obtain ⟨h13, h14⟩ := hrow h11 h10
          rw [Nat.add_sub_cancel' h7'] at h13 h14
          exact ⟨_, h9, fun hf => ⟨h13, h14, rfl, rfl, rfl, h12.trans (hf pre sh n xs post rfl), rfl⟩⟩
    · obtain ⟨h1, h2'⟩ := cond_some h2
      rw [Bool.and_eq_true] at h1
      have h6 := beq_eq h1.1; have h7 := beq_eq h1.2; subst h6; subst h7
      obtain ⟨ys, h9, h10, h11, h12⟩ := wrRow_sound h2'
      obtain ⟨h13, h14⟩ := hrow h11 h10
      rw [Nat.add_assoc]
      exact ⟨_, h9, fun hf => ⟨h13, h14, rfl, rfl, rfl, h12.trans (hf pre sh n xs post rfl), rfl⟩⟩
  · cases h

end
end Go.Ab

/- New blocks, loads and stores: the abstract ones and the machine's. Conditions: none. -/
namespace Go.Ab
set_option linter.unusedVariables false
set_option linter.unusedSimpArgs false
open Go

def tdOf : TypeDesc → Option TD
  | .bool => some (.sc .b)
  | .int k => some (.sc (.i k))
  | .string => some (.sc .s)
  | .pointer e => some (.ptr e)
  | .slice e => some (.slice e)
  | .array n e => some (.arr n e)
  | .struct fs => some (.struct (fs.toList.map fun f => (f.offset, f.type)))
  | .func .. => some .func
  | .map k v => some (.map k v)
  | _ => none

structure TyOk (P : Program) (Ty : Types) : Prop where
  ok : ∀ t i, Ty t = some i → ∃ info d, P.info? t = some info ∧ P.underlying t = some d ∧ tdOf d = some i.d ∧ info.size = i.size ∧ info.bytes = i.bytes ∧
    ∃ z, info.zero = some z ∧ ∀ E, VRel E i.zero z

section
variable {P : Program} {Ty : Types}

theorem run_typeInfo {t : Nat} {info : TypeInfo} (h : P.info? t = some info) (w : World) : (typeInfo t).run P w = .ok info w := by simp [typeInfo, h]
theorem run_underlying {t : Nat} {d : TypeDesc} (h : P.underlying t = some d) (w : World) : (underlying t).run P w = .ok d w := by simp [underlying, h]
theorem run_sizeOf {t : Nat} {info : TypeInfo} (h : P.info? t = some info) (w : World) : (sizeOf t).run P w = .ok info.size w := by simp [sizeOf, run_typeInfo h]
theorem run_zeroValue {t : Nat} {info : TypeInfo} {z : Value} (h : P.info? t = some info) (hz : info.zero = some z) (w : World) : (zeroValue t).run P w = .ok z w := by
  simp [zeroValue, run_typeInfo h, hz]
theorem run_isAgg {t : Nat} {d : TypeDesc} {td : TD} (h : P.underlying t = some d) (hd : tdOf d = some td) (w : World) : (isAgg t).run P w = .ok td.isAgg w := by
  cases d <;> simp [tdOf] at hd <;> subst hd <;> simp [isAgg, run_underlying h, TD.isAgg]

theorem addr_add (r o j : Nat) : (⟨r, o, none⟩ : Addr).add j = ⟨r, o + j, none⟩ := by
  unfold Addr.add; split <;> simp_all

theorem Lies.at {E : Env} {ent : Ent} {ro : Bool} {b : Blk} {r : Nat} {w : World} (h : Lies E ent ro b r w) {f n : Nat} (hf : f + n ≤ b.flat.length) :
    ∃ lst : List Value, lst.length = n ∧ VRelL E (seg b.flat f n) lst ∧ ∀ j v, lst[j]? = some v → w.cell? ⟨r, ent.off + f + j, none⟩ = some v := by
  rcases h.ex with ⟨cs, t, fz, h1, h2, h3, h4, h5, _⟩ | ⟨s, p, rfl, _, _⟩
  rotate_left
  · have h0 : f + n ≤ 0 := hf
    have : n = 0 := by omega
    subst this
    exact ⟨[], rfl, by unfold seg; rw [List.take_zero]; exact .nil, fun j v h => by simp at h⟩
  refine ⟨(cs.toList.drop (ent.off + f)).take n, ?_, ?_, ?_⟩
  · simp; omega
  · refine VRelL.of_get (by rw [seg_length hf]; simp; omega) fun j v x hv hx => ?_
    unfold seg at hv
    simp only [List.getElem?_take, List.getElem?_drop] at hv hx
    split at hv
    · rename_i hj
      rw [if_pos hj] at hx
      obtain ⟨y, hy, hr⟩ := h4 _ v hv
      rw [Array.getElem?_toList, show ent.off + f + j = ent.off + (f + j) by omega, hy] at hx
      cases hx; exact hr
    · cases hv
  · intro j v hj
    simp only [List.getElem?_take, List.getElem?_drop] at hj
    split at hj
    · simp only [World.cell?, h1]
      simpa using hj
    · cases hj

theorem VRelL.one {E : Env} {v : AV} {lst : List Value} (h : VRelL E [v] lst) : ∃ x, lst = [x] ∧ VRel E v x := by
  cases h with
  | cons h t => cases t; exact ⟨_, rfl, h⟩

theorem run_loadVar {t : Nat} {info : TypeInfo} {d : TypeDesc} {td : TD} (hi : P.info? t = some info) (hu : P.underlying t = some d) (hd : tdOf d = some td) {w : World} {r o : Nat} {lst : List Value}
    (hl : lst.length = if td.isAgg then info.size else 1) (h : ∀ j v, lst[j]? = some v → w.cell? ⟨r, o + j, none⟩ = some v) :
    (loadVar t ⟨r, o, none⟩).run P w = .ok (if td.isAgg then .agg lst.toArray else lst.getD 0 undef) w := by
  unfold loadVar
  simp only [Sem.run_bind, run_isAgg hu hd, Result.andThen_ok]
  cases hb : td.isAgg with
  | true =>
    simp only [if_true] at *
    simp only [hb] at hl
    have := run_loadCells_list (P := P) w ⟨r, o, none⟩ lst (fun j v hj => by rw [addr_add]; exact h j v hj)
    simp only [if_true] at hl
    rw [hl] at this
    simp [run_sizeOf hi, this]
  | false =>
    simp only [hb, Bool.false_eq_true, if_false] at *
    obtain ⟨x, rfl⟩ : ∃ x, lst = [x] := by
      cases lst with
      | nil => simp at hl
      | cons a l => cases l with
        | nil => exact ⟨a, rfl⟩
        | cons _ _ => simp at hl
    have := h 0 x rfl
    simp only [Nat.add_zero] at this
    simp [run_load, this]

theorem HRel.okMix {E : Env} {H : Heap} {w : World} (h : HRel E H w) {id : Nat} {hb : HB} (hg : H.get id = some hb) : hb.blk.okMix := by
  intro pre sh n xs post he
  obtain ⟨ent, _, hB⟩ := h.live id hb hg
  have := hB.fits
  rw [he] at this
  exact this

/-- A pointer's block. -/
theorem ptr_lies {E : Env} {H : Heap} {w : World} (hH : HRel E H w) {id base e sz o : Nat} {hb : HB} {x : Value} (hg : H.get id = some hb) (hx : VRel E (.ptr id base e sz o) x) :
    ∃ ent r, E id = some ent ∧ ent.r = some r ∧ BRel E ent hb w ∧ Lies E ent hb.ro hb.blk r w ∧ x = .pointer (some ⟨r, ent.off + (base + e * sz + o), none⟩) := by
  cases hx with
  | ptr h hr =>
    obtain ⟨ent', he, hB⟩ := hH.live id hb hg
    rw [h] at he; cases he
    exact ⟨_, _, h, hr, hB, hB.lies _ hr, rfl⟩

theorem loadK_sound {R : Type} (hTy : TyOk P Ty) {H : Heap} {t : Nat} {a : AV} {K : AV → Heap → Option R} {r : R} (h : loadK Ty H t a K = some r) :
    ∃ v, K v H = some r ∧ ∀ E w x, VRel E a x → HRel E H w → ∃ y, (Instr.loadAt t x).run P w = .ok y w ∧ VRel E v y := by
  unfold loadK at h
  split at h
  · rename_i i id base e sz o hTi
    obtain ⟨info, d, hi, hu, hd, hsz, hby, _⟩ := hTy.ok _ _ hTi
    cases hg : H.get id with
    | none => rw [hg] at h; cases h
    | some hb =>
      rw [hg] at h
      simp only at h
      -- what a read of cells gives
      have key : ∀ (n : Nat) (l : List AV), n = (if i.d.isAgg then i.size else 1) → (hb.blk.okMix → l = seg hb.blk.flat (base + e * sz + o) n ∧ base + e * sz + o + n ≤ hb.blk.flat.length) →
          ∀ E w x, VRel E (.ptr id base e sz o) x → HRel E H w → ∃ lst : List Value, VRelL E l lst ∧ (Instr.loadAt t x).run P w = .ok (if i.d.isAgg then .agg lst.toArray else lst.getD 0 undef) w := by
        intro n l hn hle E w x hx hH
        obtain ⟨hl, hle⟩ := hle (hH.okMix hg)
        obtain ⟨ent, rr, he, hr, hB, hL, rfl⟩ := ptr_lies hH hg hx
        obtain ⟨lst, hll, hrel, hc⟩ := hL.at hle
        refine ⟨lst, hl ▸ hrel, ?_⟩
        have := run_loadVar hi hu hd (w := w) (r := rr) (o := ent.off + (base + e * sz + o)) (lst := lst) (by rw [hll, hn, hsz]) (fun j v hj => by
          have := hc j v hj; rwa [show ent.off + (base + e * sz + o) + j = ent.off + (base + e * sz + o) + j from rfl])
        simp only [Instr.loadAt, Instr.sureAddr, Sem.run_bind, Sem.run_pure, Result.andThen_ok]
        exact this
      cases hagg : i.d.isAgg with
      | false =>
        rw [hagg] at h
        simp only at h
        obtain ⟨_, l, h1, h2⟩ := rd_sound h
        split at h1
        · rename_i v
          refine ⟨v, h1, fun E w x hx hH => ?_⟩
          obtain ⟨lst, hrel, hrun⟩ := key 1 [v] (by simp [hagg]) h2 E w x hx hH
          obtain ⟨y, rfl, hy⟩ := hrel.one
          simp only [hagg] at hrun
          exact ⟨y, by simpa using hrun, hy⟩
        · cases h1
      | true =>
        rw [hagg] at h
        simp only at h
        have fin : ∀ {K' : List AV → Option R}, (∀ l, K' l = K (.agg l) H) → rd hb.blk base e sz o i.size K' = some r →
            ∃ v, K v H = some r ∧ ∀ E w x, VRel E (.ptr id base e sz o) x → HRel E H w → ∃ y, (Instr.loadAt t x).run P w = .ok y w ∧ VRel E v y := by
          intro K' hK' h
          obtain ⟨_, l, h1, h2⟩ := rd_sound h
          rw [hK'] at h1
          refine ⟨_, h1, fun E w x hx hH => ?_⟩
          obtain ⟨lst, hrel, hrun⟩ := key i.size l (by simp [hagg]) h2 E w x hx hH
          simp only [hagg, if_true] at hrun
          exact ⟨_, hrun, .agg (by simpa using hrel)⟩
        split at h
        · rename_i pre sh n xs post hblk
          rcases bool_cases h with ⟨hc, hK⟩ | ⟨_, h⟩
          · simp only [Bool.and_eq_true] at hc
            have e1 := beq_eq hc.1.1; have e2 := beq_eq hc.1.2; have e3 := beq_eq hc.2
            subst e1
            refine ⟨_, hK, fun E w x hx hH => ?_⟩
            have hn := hH.okMix hg pre sh n xs post hblk
            have hfl : hb.blk.flat = pre ++ flatRow sh xs ++ post := by rw [hblk]; rfl
            have hflen : hb.blk.flat.length = i.size := by
              rw [hfl, e3]; simp only [List.length_append, flatRow_length, hn]; rw [Nat.mul_comm]
            obtain ⟨lst, hrel, hrun⟩ := key i.size (pre ++ flatRow sh xs ++ post) (by simp [hagg]) (fun _ => ⟨by
              rw [show base + e * 0 + o = 0 by omega]; unfold seg; rw [← hfl, List.drop_zero, ← hflen, List.take_length], by rw [hflen]; omega⟩) E w x hx hH
            simp only [hagg, if_true] at hrun
            exact ⟨_, hrun, .mix (by simpa using hrel) hn⟩
          · rcases bool_cases h with ⟨hc, hK⟩ | ⟨_, h⟩
            · simp only [Bool.and_eq_true] at hc
              have e1 := beq_eq hc.1.1; have e2 := beq_eq hc.1.2; have e3 := beq_eq hc.2
              subst e1
              refine ⟨_, hK, fun E w x hx hH => ?_⟩
              have hn := hH.okMix hg pre sh n xs post hblk
              have hfl : hb.blk.flat = pre ++ flatRow sh xs ++ post := by rw [hblk]; rfl
              have hrl : (flatRow sh xs).length = i.size := by rw [e3, flatRow_length, hn, Nat.mul_comm]
              obtain ⟨lst, hrel, hrun⟩ := key i.size (flatRow sh xs) (by simp [hagg]) (fun _ => ⟨by
                rw [show base + e * 0 + o = pre.length by omega, hfl, List.append_assoc, seg_append_right (Nat.le_refl _), Nat.sub_self]
                unfold seg
                rw [List.drop_zero, List.take_append_of_le_length (by omega), ← hrl, List.take_length], by rw [hfl]; simp only [List.length_append]; omega⟩) E w x hx hH
              simp only [hagg, if_true] at hrun
              refine ⟨_, hrun, .mix (by simpa using hrel) hn⟩
            · exact fin (fun _ => rfl) h
        · exact fin (fun _ => rfl) h
  · cases h

/-! ### A new block -/

def envAdd (E : Env) (id : Nat) (ent : Ent) : Env := fun j => if j = id then some ent else E j

theorem HRel.addG {E : Env} {H : Heap} {w : World} (h : HRel E H w) {blk : Blk} {ent : Ent} {ob : Obj} {ro : Bool} {fam : Nat} (hc : blk.isCells = true) (hfit : blk.fits ent)
    (hr : ent.r = some w.heap.size) (hl : Lies E ent ro blk w.heap.size (w.alloc ob)) :
    HRel (envAdd E H.next ent) ⟨H.next + 1, (H.next, some ⟨fam, ro, blk⟩) :: H.bs⟩ (w.alloc ob) ∧ Ext E (envAdd E H.next ent) ∧
      Fr E H w (envAdd E H.next ent) ⟨H.next + 1, (H.next, some ⟨fam, ro, blk⟩) :: H.bs⟩ (w.alloc ob) := by
  have hext : Ext E (envAdd E H.next ent) := by
    intro id e he
    have : id ≠ H.next := fun hh => by rw [hh, h.dom _ (Nat.le_refl _)] at he; cases he
    simp [envAdd, this, he]
  have hget : ∀ j, (⟨H.next + 1, (H.next, some ⟨fam, ro, blk⟩) :: H.bs⟩ : Heap).get j = if H.next = j then some ⟨fam, ro, blk⟩ else H.get j := fun j => look_cons _ _ _ _
  have hold : ∀ b, b < w.heap.size → (w.alloc ob).heap[b]? = w.heap[b]? := by
    intro b hb
    show (w.heap.push _)[b]? = _
    rw [Array.getElem?_push, if_neg (Nat.ne_of_lt hb)]
  have hlt : ∀ id hb e r, H.get id = some hb → E id = some e → e.r = some r → r < w.heap.size := fun id hb e r h1 h2 h3 => Tr.lt ⟨id, hb, e, h1, h2, h3⟩ h
  refine ⟨⟨fun id hid => ?_, fun id hb hg => ?_, ?_, fun i hi => (by
    by_cases hn : i = H.next
    · exact ⟨_, by simp [envAdd, hn]; rfl⟩
    · obtain ⟨e, he⟩ := h.full i (by simp at hi; omega)
      exact ⟨e, hext _ _ he⟩)⟩, hext, ⟨rfl, rfl, rfl, by simp, fun b hb _ => hold b hb, ?_⟩⟩
  · simp only [envAdd]
    rw [if_neg (by simp at hid; omega)]
    exact h.dom id (by simp at hid; omega)
  · rw [hget] at hg
    by_cases hj : H.next = id
    · subst hj
      rw [if_pos rfl] at hg; cases hg
      refine ⟨ent, by simp [envAdd], ⟨hc, hfit, fun hn => (by rw [hr] at hn; cases hn), fun r hr' => ?_⟩⟩
      rw [hr] at hr'; cases hr'
      exact hl.same rfl rfl ⟨rfl, fun _ _ h => h⟩ fun j v' hj hv => fun hv2 => (hv2 v' (by assumption)).mono hext
    · rw [if_neg hj] at hg
      obtain ⟨e, he, hB⟩ := h.live id hb hg
      refine ⟨e, hext _ _ he, ⟨hB.cells, hB.fits, hB.void, fun r hr' => ?_⟩⟩
      exact (hB.lies r hr').same (hold r (hB.lies r hr').lt) rfl ⟨rfl, fun _ _ h => h⟩ fun j v' x hj hv => (hv v' hj).mono hext
  · intro i j hi hj ei ej r hgi hgj hei hej hri hrj
    rw [hget] at hgi hgj
    simp only [envAdd] at hei hej
    by_cases h1 : H.next = i
    · subst h1
      rw [if_pos rfl] at hgi hei; cases hgi; cases hei
      rw [hr] at hri; cases hri
      by_cases h2 : H.next = j
      · subst h2; rw [if_pos rfl] at hgj; cases hgj; rfl
      · rw [if_neg h2] at hgj; rw [if_neg (Ne.symm h2)] at hej
        exact absurd (hlt j hj ej _ hgj hej hrj) (Nat.lt_irrefl _)
    · rw [if_neg h1] at hgi; rw [if_neg (Ne.symm h1)] at hei
      by_cases h2 : H.next = j
      · subst h2
        rw [if_pos rfl] at hgj hej; cases hgj; cases hej
        rw [hr] at hrj; cases hrj
        exact absurd (hlt i hi ei _ hgi hei hri) (Nat.lt_irrefl _)
      · rw [if_neg h2] at hgj; rw [if_neg (Ne.symm h2)] at hej
        exact h.fam i j hi hj ei ej r hgi hgj hei hej hri hrj
  · rintro b ⟨id, hb, e, hg, he, hr'⟩ hblt
    rw [hget] at hg
    by_cases hj : H.next = id
    · subst hj
      simp only [envAdd, if_true] at he; cases he
      rw [hr] at hr'; cases hr'
      exact absurd hblt (Nat.lt_irrefl _)
    · rw [if_neg hj] at hg
      simp only [envAdd] at he
      rw [if_neg (Ne.symm hj)] at he
      exact ⟨id, hb, e, hg, he, hr'⟩

theorem HRel.add {E : Env} {H : Heap} {w : World} (h : HRel E H w) {blk : Blk} {ent : Ent} {cs : Array Value} {t : TypeId} {fz : Nat × Nat} {ro : Bool} {fam : Nat} (hc : blk.isCells = true) (hfit : blk.fits ent)
    (hr : ent.r = some w.heap.size) (hoff : ent.off = 0) (hsz : ent.size = cs.size) (hl : blk.flat.length ≤ cs.size) (hro : ro = false → fz = (0, 0))
    (hv : ∀ (j : Nat) (v : AV), blk.flat[j]? = some v → ∃ x, cs[j]? = some x ∧ VRel E v x) (hni : blk.isIter = false := by rfl) :
    HRel (envAdd E H.next ent) ⟨H.next + 1, (H.next, some ⟨fam, ro, blk⟩) :: H.bs⟩ (w.alloc (.cells cs t fz)) ∧ Ext E (envAdd E H.next ent) ∧
      Fr E H w (envAdd E H.next ent) ⟨H.next + 1, (H.next, some ⟨fam, ro, blk⟩) :: H.bs⟩ (w.alloc (.cells cs t fz)) := by
  refine HRel.addG h hc hfit hr ⟨.inl ⟨cs, t, fz, (show (w.heap.push _)[w.heap.size]? = _ by rw [Array.getElem?_push, if_pos rfl]), hsz.symm, by rw [hoff]; simpa using hl, fun j v hj => ?_, hro, hni⟩⟩
  rw [hoff, Nat.zero_add]
  exact hv j v hj

theorem VRel.cellsOne {E : Env} {v : AV} {x : Value} (h : VRel E v x) (ho : v.isOne = true) : x.oneCell' = true ∧ x.cells = #[x] := by
  cases h <;> first | (cases ho; done) | exact ⟨rfl, rfl⟩

theorem VRel.cells {E : Env} {v : AV} {x : Value} {cs : List AV} (h : VRel E v x) (hc : v.cells = some cs) : VRelL E cs x.cells.toList := by
  cases v with
  | agg l =>
    cases h with
    | agg h => simp only [AV.cells, Option.some.injEq] at hc; subst hc; exact h
  | mix _ _ _ _ _ => cases hc
  | tup _ => cases hc
  | u => cases hc
  | junk => cases hc
  | _ =>
    simp only [AV.cells, AV.isOne, Option.some.injEq] at hc
    subst hc
    rw [(h.cellsOne rfl).2]
    exact .cons h .nil

theorem VRel.blk {E : Env} {v : AV} {x : Value} {b : Blk} (h : VRel E v x) (hb : blkOf v = some b) :
    (b.isCells = true ∧ b.isIter = false) ∧ VRelL E b.flat x.cells.toList ∧ b.okMix ∧ ∀ sh xs, b ≠ .row sh xs := by
  cases v with
  | mix pre sh n xs post =>
    cases h with
    | mix h hn =>
      simp only [blkOf, Option.some.injEq] at hb; subst hb
      exact ⟨⟨rfl, rfl⟩, h, fun _ _ _ _ _ he => (by cases he; exact hn), fun _ _ he => (by cases he)⟩
  | _ =>
    simp only [blkOf] at hb
    split at hb
    · rename_i cs hcs
      cases hb
      exact ⟨⟨rfl, rfl⟩, h.cells hcs, fun _ _ _ _ _ he => (by cases he), fun _ _ he => (by cases he)⟩
    · cases hb

/-- A new block, with what its cells are. -/
theorem alloc_sound {E : Env} {H : Heap} {w : World} (h : HRel E H w) {v : AV} {x : Value} {b : Blk} {t : TypeId} (hv : VRel E v x) (hb : blkOf v = some b) :
    ∃ E', HRel E' (H.add b) (w.alloc (.cells x.cells t)) ∧ Ext E E' ∧ Fr E H w E' (H.add b) (w.alloc (.cells x.cells t)) ∧ VRel E' (.ptr H.next 0 0 0 0) (.pointer (some ⟨w.heap.size, 0, none⟩)) := by
  obtain ⟨h1, h2, h3, h4⟩ := hv.blk hb
  have hlen := h2.length
  obtain ⟨k1, k2, k3⟩ := HRel.add (t := t) (fz := (0, 0)) (ro := false) (fam := H.next) h (blk := b) (ent := ⟨some w.heap.size, 0, x.cells.size, 0, 0⟩) (cs := x.cells) h1.1 (by
    cases b with
    | row sh xs => exact absurd rfl (h4 sh xs)
    | mix pre sh n xs post => exact h3 _ _ _ _ _ rfl
    | _ => trivial) rfl rfl rfl (by rw [hlen]; simp) (fun _ => rfl) (fun j v hj => by
      obtain ⟨y, hy, hr⟩ := h2.get j v hj
      exact ⟨y, by simpa using hy, hr⟩) h1.2
  refine ⟨_, k1, k2, k3, ?_⟩
  have := VRel.ptr (E := envAdd E H.next ⟨some w.heap.size, 0, x.cells.size, 0, 0⟩) (id := H.next) (base := 0) (e := 0) (sz := 0) (o := 0) (ent := ⟨some w.heap.size, 0, x.cells.size, 0, 0⟩) (r := w.heap.size) (by simp [envAdd]) rfl
  simpa using this

/-! ### A store -/

theorem any_kill {fam but id : Nat} (hne : id ≠ but) {g : HB} (hf : g.fam = fam) : ∀ (l : List (Nat × Option HB)), (id, some g) ∈ l → ((killFam fam but l).any fun p => p.1 == id) = true
  | [], h => by cases h
  | (i, none) :: l, h => by
    rw [killFam]
    rcases List.mem_cons.1 h with h | h
    · cases h
    · exact any_kill hne hf l h
  | (i, some g') :: l, h => by
    rw [killFam]
    rcases List.mem_cons.1 h with h | h
    · cases h
      have h1 : (Nat.beq g.fam fam && !Nat.beq id but) = true := by rw [hf, beq_self, beq_ne hne]; rfl
      rw [h1, cond_true, List.any_cons]; simp
    · have ih := any_kill hne hf l h
      cases (Nat.beq g'.fam fam && !Nat.beq i but) with
      | true => rw [cond_true, List.any_cons, ih]; simp
      | false => exact ih

theorem look_kill {fam but : Nat} : ∀ (l : List (Nat × Option HB)) (id : Nat), look (killFam fam but l) id = none
  | [], _ => rfl
  | (i, none) :: l, id => by rw [killFam]; exact look_kill l id
  | (i, some g') :: l, id => by
    rw [killFam]
    cases (Nat.beq g'.fam fam && !Nat.beq i but) with
    | true => rw [cond_true, look_cons]; split; rfl; exact look_kill l id
    | false => exact look_kill l id

/-- Behind the others' end: what is told is of other families. -/
theorem get_killed {H : Heap} {next id : Nat} {hb : HB} {fam but : Nat} {j : Nat} {g : HB} (h : (⟨next, (id, some hb) :: (killFam fam but H.bs ++ H.bs)⟩ : Heap).get j = some g) :
    (j = id ∧ g = hb) ∨ (j ≠ id ∧ H.get j = some g ∧ (g.fam ≠ fam ∨ j = but)) := by
  simp only [Heap.get] at h
  rw [look_cons] at h
  by_cases hj : id = j
  · rw [if_pos hj] at h; cases h; exact .inl ⟨hj.symm, rfl⟩
  · rw [if_neg hj, look_append] at h
    split at h
    · rw [look_kill] at h; cases h
    · rename_i hany
      refine .inr ⟨Ne.symm hj, h, ?_⟩
      by_cases hb : j = but
      · exact .inr hb
      · exact .inl fun hf => hany (any_kill hb hf H.bs (mem_of_look h))

theorem alike_fits {b b' : Blk} {ent : Ent} (h : b.alike b') (hf : b.fits ent) : b'.fits ent := by
  cases b <;> cases b' <;> simp_all [Blk.alike, Blk.fits]

theorem alike_cells {b b' : Blk} (h : b.alike b') : b'.isCells = true := by
  cases b <;> cases b' <;> simp_all [Blk.alike, Blk.isCells]

theorem alike_iter {b b' : Blk} (h : b.alike b') : b.isIter = false ∧ b'.isIter = false := by
  cases b <;> cases b' <;> simp_all [Blk.alike, Blk.isIter]

theorem putSeg_get {a vs : List AV} {f j : Nat} (h : f + vs.length ≤ a.length) : (putSeg a f vs)[j]? = if f ≤ j ∧ j < f + vs.length then vs[j - f]? else a[j]? := by
  unfold putSeg
  by_cases h1 : j < f
  · rw [if_neg (by omega), List.append_assoc, List.getElem?_append_left (by simp; omega), List.getElem?_take, if_pos h1]
  · by_cases h2 : j < f + vs.length
    · rw [if_pos (by omega), List.append_assoc, List.getElem?_append_right (by simp; omega), List.getElem?_append_left (by simp; omega)]
      congr 1; simp; omega
    · rw [if_neg (by omega), List.getElem?_append_right (by simp; omega), List.getElem?_drop]
      congr 1; simp; omega

/-- A block's cells are turned. -/
theorem HRel.setG {E : Env} {H : Heap} {w : World} (h : HRel E H w) {id : Nat} {hb : HB} {ent : Ent} {r : Nat} {w' : World} {blk : Blk}
    (hg : H.get id = some hb) (he : E id = some ent) (hr : ent.r = some r) (hw : ∀ b, b ≠ r → w'.heap[b]? = w.heap[b]?) (hos : w'.os = w.os ∧ w'.tape = w.tape ∧ w'.output = w.output ∧ w.heap.size ≤ w'.heap.size)
    (hc : blk.isCells = true) (hfit : blk.fits ent) (hl : Lies E ent false blk r w') :
    HRel E ⟨H.next, (id, some ⟨hb.fam, false, blk⟩) :: (killFam hb.fam id H.bs ++ H.bs)⟩ w' ∧
      Fr E H w E ⟨H.next, (id, some ⟨hb.fam, false, blk⟩) :: (killFam hb.fam id H.bs ++ H.bs)⟩ w' := by
  have hother : ∀ j g e rr, j ≠ id → H.get j = some g → (g.fam ≠ hb.fam ∨ j = id) → E j = some e → e.r = some rr → rr ≠ r := by
    intro j g e rr hj hgj hf hej hrr heq
    rcases hf with hf | hf
    · exact hf (h.fam j id g hb e ent r hgj hg hej he (heq ▸ hrr) hr)
    · exact hj hf
  refine ⟨⟨h.dom, fun j g hj => ?_, ?_, h.full⟩, ⟨hos.1, hos.2.1, hos.2.2.1, hos.2.2.2, fun b hb' ht => ?_, ?_⟩⟩
  · rcases get_killed hj with ⟨rfl, rfl⟩ | ⟨hne, hgj, hf⟩
    · refine ⟨ent, he, ⟨hc, hfit, fun hn => (by rw [hr] at hn; cases hn), fun r' hr' => ?_⟩⟩
      rw [hr] at hr'; cases hr'
      exact hl
    · obtain ⟨e, he', hB⟩ := h.live j g hgj
      refine ⟨e, he', ⟨hB.cells, hB.fits, hB.void, fun rr hrr => ?_⟩⟩
      exact (hB.lies rr hrr).same (hw rr (hother j g e rr hne hgj hf he' hrr)) rfl ⟨rfl, fun _ _ h => h⟩ fun _ v' _ hj hv => hv v' hj
  · intro i j hi hj ei ej rr hgi hgj hei hej hri hrj
    rcases get_killed hgi with ⟨rfl, rfl⟩ | ⟨hnei, hgi', hfi⟩ <;> rcases get_killed hgj with ⟨rfl, rfl⟩ | ⟨hnej, hgj', hfj⟩
    · rfl
    · rw [he] at hei; cases hei; rw [hr] at hri; cases hri
      exact absurd rfl (hother j hj ej _ hnej hgj' hfj hej hrj)
    · rw [he] at hej; cases hej; rw [hr] at hrj; cases hrj
      exact absurd rfl (hother i hi ei _ hnei hgi' hfi hei hri)
    · exact h.fam i j hi hj ei ej rr hgi' hgj' hei hej hri hrj
  · exact hw b fun heq => ht ⟨id, hb, ent, hg, he, heq ▸ hr⟩
  · rintro b ⟨j, g, e, hgj, hej, hrj⟩ _
    rcases get_killed hgj with ⟨rfl, rfl⟩ | ⟨_, hgj', _⟩
    · exact ⟨_, hb, e, hg, hej, hrj⟩
    · exact ⟨j, g, e, hgj', hej, hrj⟩

/-- A block's cells are turned. -/
theorem HRel.set {E : Env} {H : Heap} {w : World} (h : HRel E H w) {id : Nat} {hb : HB} {ent : Ent} {r : Nat} {cs cs' : Array Value} {t : TypeId} {blk : Blk}
    (hg : H.get id = some hb) (he : E id = some ent) (hr : ent.r = some r) (hw : w.heap[r]? = some (.cells cs t (0, 0))) (hsz : cs'.size = cs.size) (hcs : cs.size = ent.size)
    (hc : blk.isCells = true) (hfit : blk.fits ent) (hlen : ent.off + blk.flat.length ≤ cs.size)
    (hv : ∀ (j : Nat) (v : AV), blk.flat[j]? = some v → ∃ x, cs'[ent.off + j]? = some x ∧ VRel E v x) (hni : blk.isIter = false := by rfl) :
    HRel E ⟨H.next, (id, some ⟨hb.fam, false, blk⟩) :: (killFam hb.fam id H.bs ++ H.bs)⟩ (w.setRow r cs') ∧
      Fr E H w E ⟨H.next, (id, some ⟨hb.fam, false, blk⟩) :: (killFam hb.fam id H.bs ++ H.bs)⟩ (w.setRow r cs') := by
  exact h.setG hg he hr (fun b hb => setRow_other w r b cs' hb) ⟨rfl, rfl, rfl, by simp⟩ hc hfit
    ⟨.inl ⟨cs', t, (0, 0), setRow_heap w r cs cs' t (0, 0) hw, hsz.trans hcs, by rw [hsz]; exact hlen, hv, fun _ => rfl, hni⟩⟩

theorem VRelL.oneCell {E : Env} : ∀ {vs : List AV} {xs : List Value}, VRelL E vs xs → vs.all AV.isOne = true → ∀ x ∈ xs, x.oneCell' = true
  | [], [], _, _ => by simp
  | v :: vs, x :: xs, .cons h t, ha => by
    simp only [List.all_cons, Bool.and_eq_true] at ha
    intro y hy
    rcases List.mem_cons.1 hy with rfl | hy
    · exact (h.cellsOne ha.1).1
    · exact VRelL.oneCell t ha.2 y hy

theorem flatRow_one (sh : List SK) (xs : List (Tup sh)) : (flatRow sh xs).all AV.isOne = true := by
  have h1 : ∀ (sh : List SK) (x : Tup sh), (Tup.all sh x).all AV.isOne = true := by
    intro sh
    induction sh with
    | nil => intro x; rfl
    | cons k ks ih =>
      cases ks with
      | nil => intro x; cases k <;> rfl
      | cons k' ks =>
        intro x
        have := ih x.2
        cases k <;> simpa [Tup.all, SK.av, AV.isOne] using this
  induction xs with
  | nil => rfl
  | cons y ys ih => unfold flatRow at *; rw [List.flatMap_cons, List.all_append, h1, ih]; rfl

/-- The machine's store of these cells at this place. -/
theorem store_run {E : Env} {H : Heap} {w : World} (hH : HRel E H w) {t : Nat} {info : TypeInfo} (hi : P.info? t = some info) {id base e sz o : Nat} {hb : HB} {x y : Value} {vs : List AV} {blk : Blk}
    (hg : H.get id = some hb) (hro : hb.ro = false) (hx : VRel E (.ptr id base e sz o) x) (hy : VRelL E vs y.cells.toList) (hone : vs.all AV.isOne = true) (hsz : vs.length = info.size)
    (hflat : blk.flat = putSeg hb.blk.flat (base + e * sz + o) vs) (hle : base + e * sz + o + vs.length ≤ hb.blk.flat.length) (hal : hb.blk.alike blk) :
    ∃ w', (Instr.storeAt t x y).run P w = .ok () w' ∧ HRel E ⟨H.next, (id, some ⟨hb.fam, false, blk⟩) :: (killFam hb.fam id H.bs ++ H.bs)⟩ w' ∧
      Fr E H w E ⟨H.next, (id, some ⟨hb.fam, false, blk⟩) :: (killFam hb.fam id H.bs ++ H.bs)⟩ w' := by
  obtain ⟨ent, r, he, hr, hB, hL, rfl⟩ := ptr_lies hH hg hx
  rcases hL.ex with ⟨cs, t', fz, h1, h2, h3, h4, h5, _⟩ | ⟨s, p, hb', _, _⟩
  rotate_left
  · have := (alike_iter hal).1
    rw [hb'] at this; cases this
  have h6 := h5 hro; subst h6
  have hlen := hy.length
  have hst := run_storeCells_at (P := P) r (ent.off + (base + e * sz + o)) t' y.cells.toList 0 cs w h1 (by rw [← hlen]; omega) (hy.oneCell hone)
  have hset := hH.set (cs' := (cs.toList.take (ent.off + (base + e * sz + o)) ++ y.cells.toList ++ cs.toList.drop (ent.off + (base + e * sz + o) + y.cells.toList.length)).toArray) (blk := blk)
    hg he hr h1 (by simp at hlen ⊢; omega) h2 (alike_cells hal) (alike_fits hal hB.fits) (by rw [hflat, putSeg_length hle]; exact h3) (fun j v hj => by
      rw [hflat, putSeg_get hle] at hj
      by_cases hjr : base + e * sz + o ≤ j ∧ j < base + e * sz + o + vs.length
      · rw [if_pos hjr] at hj
        obtain ⟨z, hz, hrel⟩ := hy.get _ v hj
        refine ⟨z, ?_, hrel⟩
        rw [List.getElem?_toArray, List.append_assoc, List.getElem?_append_right (by simp; omega), List.getElem?_append_left (by simp at hlen ⊢; omega)]
        rw [← hz]; congr 1; simp; omega
      · rw [if_neg hjr] at hj
        obtain ⟨z, hz, hrel⟩ := h4 j v hj
        refine ⟨z, ?_, hrel⟩
        rw [List.getElem?_toArray]
        by_cases hlt : j < base + e * sz + o
        · rw [List.append_assoc, List.getElem?_append_left (by simp; omega), List.getElem?_take, if_pos (by omega), Array.getElem?_toList]; exact hz
        · rw [List.getElem?_append_right (by simp at hlen ⊢; omega), List.getElem?_drop]
          rw [← hz, ← Array.getElem?_toList]; congr 1; simp at hlen ⊢; omega) (alike_iter hal).2
  refine ⟨_, ?_, hset⟩
  have hne : ¬ (y.cells.size ≠ info.size) := by rw [← hsz, hlen]; simp
  simp only [Instr.storeAt, Instr.sureAddr, Sem.run_bind, Sem.run_pure, Result.andThen_ok, storeVar, run_sizeOf hi]
  rw [if_neg hne]
  simpa using hst

theorem storeK_sound {R : Type} (hTy : TyOk P Ty) {H : Heap} {t : Nat} {a v : AV} {K : Heap → Option R} {r : R} (h : storeK Ty H t a v K = some r) :
    ∃ H', K H' = some r ∧ ∀ E w x y, VRel E a x → VRel E v y → HRel E H w → ∃ w', (Instr.storeAt t x y).run P w = .ok () w' ∧ HRel E H' w' ∧ Fr E H w E H' w' := by
  unfold storeK at h
  split at h
  · rename_i i id base e sz o hTi
    obtain ⟨info, d, hi, hu, hd, hsz, hby, _⟩ := hTy.ok _ _ hTi
    cases hg : H.get id with
    | none => rw [hg] at h; cases h
    | some hb =>
      rw [hg] at h
      simp only at h
      obtain ⟨hro, h⟩ := cond_none_some h
      have plain : ∀ {K' : Blk → Option R}, (match v.cells with
          | some vs => cond (Nat.beq vs.length i.size && vs.all AV.isOne) (wr hb.blk base e sz o vs K') none
          | none => none) = some r → (∀ b, K' b = K ⟨H.next, (id, some ⟨hb.fam, false, b⟩) :: (killFam hb.fam id H.bs ++ H.bs)⟩) →
          ∃ H', K H' = some r ∧ ∀ E w x y, VRel E (.ptr id base e sz o) x → VRel E v y → HRel E H w → ∃ w', (Instr.storeAt t x y).run P w = .ok () w' ∧ HRel E H' w' ∧ Fr E H w E H' w' := by
        intro K' h hK'
        split at h
        · rename_i vs hvs
          obtain ⟨hc, h⟩ := cond_some h
          rw [Bool.and_eq_true] at hc
          obtain ⟨_, blk, hK, hw⟩ := wr_sound h
          rw [hK'] at hK
          refine ⟨_, hK, fun E w x y hx hy hH => ?_⟩
          obtain ⟨k1, k2, k3⟩ := hw (hH.okMix hg)
          exact store_run hH hi hg hro hx (hy.cells hvs) hc.2 ((beq_eq hc.1).trans hsz.symm) k1 k2 k3
        · cases h
      cases v with
      | mix pre sh n xs post =>
        simp only at h
        split at h
        · rename_i pre' sh' n' xs' post' hblk
          obtain ⟨hc, hK⟩ := cond_some h
          simp only [Bool.and_eq_true] at hc
          obtain ⟨⟨⟨⟨⟨⟨⟨⟨c1, c2⟩, c3⟩, c4⟩, c5⟩, c6⟩, c7⟩, c8⟩, c9⟩ := hc
          have e1 := beq_eq c1; have e2 := beq_eq c2; have e3 := beq_eq c3; have e4 := beq_eq c4; have e5 := beq_eq c5; have e6 := beq_eq c6; have e7 := beq_eq c7
          subst e1
          refine ⟨_, hK, fun E w x y hx hy hH => ?_⟩
          have hn' := hH.okMix hg _ _ _ _ _ hblk
          cases hy with
          | mix hy hn =>
            have hfl : hb.blk.flat.length = i.size := by
              rw [hblk, e7]; simp only [Blk.flat, List.length_append, flatRow_length, hn']; rw [e3, e4, e5, e6, Nat.mul_comm]
            have hvl : (pre ++ flatRow sh xs ++ post).length = i.size := by
              rw [e7]; simp only [List.length_append, flatRow_length, hn]; rw [Nat.mul_comm]
            refine store_run (y := .agg _) hH hi hg hro hx hy (by rw [List.all_append, List.all_append, c8, c9, flatRow_one]; rfl) (hvl.trans hsz.symm) ?_ ?_ ?_
            · show pre ++ flatRow sh xs ++ post = _
              rw [show base + e * 0 + o = 0 by omega]
              unfold putSeg
              rw [List.take_zero, List.nil_append, List.drop_eq_nil_of_le (by omega), List.append_nil]
            · rw [hvl, hfl]; omega
            · rw [hblk]; exact ⟨e3, e6, e4, hn.trans e4, e5⟩
        · cases h
      | _ => exact plain h fun _ => rfl
  · cases h

/-- One more name for a block that is told. -/
theorem HRel.alias {E : Env} {H : Heap} {w : World} (h : HRel E H w) {id : Nat} {hb : HB} {ent ent' : Ent} {r : Nat} {blk : Blk} {ro : Bool} (hg : H.get id = some hb) (he : E id = some ent) (hr : ent.r = some r)
    (hr' : ent'.r = some r) (hc : blk.isCells = true) (hfit : blk.fits ent') (hl : Lies E ent' ro blk r w) :
    HRel (envAdd E H.next ent') ⟨H.next + 1, (H.next, some ⟨hb.fam, ro, blk⟩) :: H.bs⟩ w ∧ Ext E (envAdd E H.next ent') ∧ Fr E H w (envAdd E H.next ent') ⟨H.next + 1, (H.next, some ⟨hb.fam, ro, blk⟩) :: H.bs⟩ w := by
  have hext : Ext E (envAdd E H.next ent') := by
    intro i e hi
    have : i ≠ H.next := fun hh => by rw [hh, h.dom _ (Nat.le_refl _)] at hi; cases hi
    simp [envAdd, this, hi]
  have hget : ∀ j, (⟨H.next + 1, (H.next, some ⟨hb.fam, ro, blk⟩) :: H.bs⟩ : Heap).get j = if H.next = j then some ⟨hb.fam, ro, blk⟩ else H.get j := fun j => look_cons _ _ _ _
  refine ⟨⟨fun i hi => ?_, fun i g hi => ?_, ?_, fun i hi => (by
    by_cases hn : i = H.next
    · exact ⟨_, by simp [envAdd, hn]; rfl⟩
    · obtain ⟨e, he⟩ := h.full i (by simp at hi; omega)
      exact ⟨e, hext _ _ he⟩)⟩, hext, ⟨rfl, rfl, rfl, Nat.le_refl _, fun _ _ _ => rfl, ?_⟩⟩
  · simp only [envAdd]
    rw [if_neg (by simp at hi; omega)]
    exact h.dom i (by simp at hi; omega)
  · rw [hget] at hi
    by_cases hj : H.next = i
    · subst hj
      rw [if_pos rfl] at hi; cases hi
      refine ⟨ent', by simp [envAdd], ⟨hc, hfit, fun hn => (by rw [hr'] at hn; cases hn), fun r' h' => ?_⟩⟩
      rw [hr'] at h'; cases h'
      exact hl.same rfl rfl ⟨rfl, fun _ _ h => h⟩ fun _ v' _ _ hv => (hv v' (by assumption)).mono hext
    · rw [if_neg hj] at hi
      obtain ⟨e, he', hB⟩ := h.live i g hi
      exact ⟨e, hext _ _ he', ⟨hB.cells, hB.fits, hB.void, fun r' hr'' => (hB.lies r' hr'').same rfl rfl ⟨rfl, fun _ _ h => h⟩ fun j v' x hj hv => (hv v' hj).mono hext⟩⟩
  · intro i j hi hj ei ej rr hgi hgj hei hej hri hrj
    rw [hget] at hgi hgj
    simp only [envAdd] at hei hej
    by_cases h1 : H.next = i
    · subst h1
      rw [if_pos rfl] at hgi hei; cases hgi; cases hei
      rw [hr'] at hri; cases hri
      by_cases h2 : H.next = j
      · subst h2; rw [if_pos rfl] at hgj; cases hgj; rfl
      · rw [if_neg h2] at hgj; rw [if_neg (Ne.symm h2)] at hej
        exact h.fam id j hb hj ent ej r hg hgj he hej hr hrj
    · rw [if_neg h1] at hgi; rw [if_neg (Ne.symm h1)] at hei
      by_cases h2 : H.next = j
      · subst h2
        rw [if_pos rfl] at hgj hej; cases hgj; cases hej
        rw [hr'] at hrj; cases hrj
        exact h.fam i id hi hb ei ent r hgi hg hei he hri hr
      · rw [if_neg h2] at hgj; rw [if_neg (Ne.symm h2)] at hej
        exact h.fam i j hi hj ei ej rr hgi hgj hei hej hri hrj
  · rintro b ⟨i, g, e, hgi, hei, hri⟩ _
    rw [hget] at hgi
    by_cases hj : H.next = i
    · subst hj
      simp only [envAdd, if_true] at hei; cases hei
      rw [hr'] at hri; cases hri
      exact ⟨id, hb, ent, hg, he, hr⟩
    · rw [if_neg hj] at hgi
      simp only [envAdd] at hei
      rw [if_neg (Ne.symm hj)] at hei
      exact ⟨i, g, e, hgi, hei, hri⟩

end
end Go.Ab

/- Operators and comparisons. Conditions: none. -/
namespace Go.Ab
set_option linter.unusedVariables false
set_option linter.unusedSimpArgs false
open Go

/-- What '==' of structs wants besides. -/
structure EqOk (P : Program) (Ty : Types) : Prop where
  ok : ∀ t i fs, Ty t = some i → i.d = .struct fs → P.stoodInHeld t = false ∧ P.eqGuardType P.depth t = false ∧ ∀ fields, P.underlying t = some (.struct fields) → ∀ f ∈ fields.toList, (f.name == "_") = false

section
variable {P : Program} {Ty : Types}

theorem ofScalar_rel (E : Env) : ∀ v : Value, VRel E (ofScalar v) v := by
  intro v
  unfold ofScalar
  split <;> first | constructor

theorem ofValue_rel (E : Env) (v : Value) : VRel E (ofValue v) v := by
  unfold ofValue
  split
  · rename_i cs
    refine .agg (VRelL.of_get (by simp) fun j v x hv hx => ?_)
    rw [List.getElem?_map, hx] at hv
    cases hv
    exact ofScalar_rel E x
  · rename_i vs
    split
    · rename_i h
      obtain rfl : vs = #[] := by cases vs; simp_all
      exact .u
    · exact .junk _
  · exact ofScalar_rel E v

theorem opd_rel {E : Env} {T : Tmps} {a : Act} (h : TRel E T a) (x : Operand) : VRel E (opd T x) (a.eval x) := by
  cases x with
  | tmp t => exact h t
  | const v => exact ofValue_rel E v
  | global g => exact .junk _
  | func f => exact .fn .nil

theorem opdsL_rel {E : Env} {T : Tmps} {a : Act} (h : TRel E T a) : ∀ (l : List Operand), VRelL E (opdsL T l) (l.map a.eval)
  | [] => .nil
  | x :: l => .cons (opd_rel h x) (opdsL_rel h l)

/-! ### '==' -/

theorem part_one {w : World} {t : Nat} {d : TypeDesc} {k : SK} (hu : P.underlying t = some d) (hd : tdOf d = some (.sc k)) {cs : Array Value} {off : Nat} {x : Value} (h : cs[off]? = some x) :
    (part t cs off).run P w = .ok x w := by
  unfold part
  simp [run_isAgg hu hd, TD.isAgg, h]

theorem part_agg {w : World} {t : Nat} {info : TypeInfo} {d : TypeDesc} {td : TD} (hi : P.info? t = some info) (hu : P.underlying t = some d) (hd : tdOf d = some td) (ha : td.isAgg = true) (cs : Array Value) (off : Nat) :
    (part t cs off).run P w = .ok (.agg (cs.extract off (off + info.size))) w := by
  unfold part
  simp [run_isAgg hu hd, ha, run_sizeOf hi]

theorem eqS_run {d : TypeDesc} {k : SK} {t : Nat} (hu : P.underlying t = some d) (hd : tdOf d = some (.sc k)) {E : Env} {x y : AV} {xv yv : Value} (hx : VRel E x xv) (hy : VRel E y yv) {b : Bool} (h : eqS x y = some b)
    (hk : ∃ v, k.un x = some v) (n : Nat) (w : World) : (Op.equalIn (n + 1) t xv yv).run P w = .ok b w := by
  obtain ⟨v, hk⟩ := hk
  unfold eqS at h
  split at h
  · cases hx; cases hy
    cases k <;> simp [SK.un] at hk
    cases d <;> simp [tdOf] at hd
    simp [Op.equalIn, run_underlying hu]; simpa using h
  · rename_i k1 a k2 b'
    cases hx; cases hy
    split at h
    · rename_i hkk; subst hkk
      cases k <;> simp [SK.un] at hk
      cases d <;> simp [tdOf] at hd
      simp [Op.equalIn, run_underlying hu]; simpa using h
    · cases h
  · cases hx; cases hy
    cases k <;> simp [SK.un] at hk
    cases d <;> simp [tdOf] at hd
    simp [Op.equalIn, run_underlying hu]; simpa using h
  · cases h

theorem eqL_append : ∀ (xs ys : List AV) {xs' ys' : List AV} {b : Bool}, xs.length = ys.length → eqL (xs ++ xs') (ys ++ ys') = some b → ∃ b1 b2, eqL xs ys = some b1 ∧ eqL xs' ys' = some b2 ∧ b = (b1 && b2)
  | [], [], xs', ys', b, _, h => ⟨true, b, rfl, h, by simp⟩
  | [x], [y], xs', ys', b, _, h => by
    cases xs' with
    | nil => cases ys' with
      | nil => simp only [List.append_nil] at h; exact ⟨b, true, h, rfl, by simp⟩
      | cons y' ys' => simp [eqL] at h
    | cons x' xs' => cases ys' with
      | nil => simp [eqL] at h
      | cons y' ys' =>
        simp only [List.cons_append, List.nil_append, eqL] at h
        cases h1 : eqS x y with
        | none => simp [h1] at h
        | some a =>
          cases h2 : eqL (x' :: xs') (y' :: ys') with
          | none => simp [h1, h2] at h
          | some c => simp [h1, h2] at h; exact ⟨a, c, by simp [eqL, h1], rfl, h.symm⟩
  | x :: x2 :: xs, y :: y2 :: ys, xs', ys', b, hl, h => by
    simp only [List.cons_append, eqL] at h
    cases h1 : eqS x y with
    | none => simp [h1] at h
    | some a =>
      rw [h1, Option.bind_some] at h
      cases h2 : eqL (x2 :: (xs ++ xs')) (y2 :: (ys ++ ys')) with
      | none => rw [h2] at h; simp at h
      | some c =>
        rw [h2] at h; simp at h
        obtain ⟨b1, b2, h3, h4, h5⟩ := eqL_append (x2 :: xs) (y2 :: ys) (by simpa using hl) h2
        exact ⟨a && b1, b2, by simp [eqL, h1, h3], h4, by rw [← h, h5, Bool.and_assoc]⟩
  | [], _ :: _, _, _, _, hl, _ => by simp at hl
  | _ :: _, [], _, _, _, hl, _ => by simp at hl
  | [_], _ :: _ :: _, _, _, _, hl, _ => by simp at hl
  | _ :: _ :: _, [_], _, _, _, hl, _ => by simp at hl

/-- Cells of these kinds. -/
def ofKinds : List SK → List AV → Prop
  | [], [] => True
  | k :: ks, v :: vs => (∃ x, k.un v = some x) ∧ ofKinds ks vs
  | _, _ => False

theorem un_kinds : ∀ {sh : List SK} {vs : List AV}, (Tup.un sh vs).isSome = true → ofKinds sh vs
  | [], [], _ => trivial
  | [k], [v], h => by
    simp only [Tup.un] at h
    exact ⟨Option.isSome_iff_exists.1 h, trivial⟩
  | k :: k' :: ks, v :: vs, h => by
    simp only [Tup.un] at h
    cases h1 : k.un v with
    | none => simp [h1] at h
    | some a =>
      simp only [h1, Option.bind_some] at h
      refine ⟨⟨a, h1⟩, un_kinds (sh := k' :: ks) ?_⟩
      cases h2 : Tup.un (k' :: ks) vs with
      | none => simp [h2] at h
      | some b => rfl
  | [], _ :: _, h => by simp [Tup.un] at h
  | [k], [], h => by simp [Tup.un] at h
  | [k], _ :: _ :: _, h => by simp [Tup.un] at h
  | k :: k' :: ks, [], h => by simp [Tup.un] at h

theorem ofKinds.length : ∀ {sh : List SK} {vs : List AV}, ofKinds sh vs → vs.length = sh.length
  | [], [], _ => rfl
  | _ :: _, _ :: _, h => by simp [ofKinds.length h.2]
  | [], _ :: _, h => h.elim
  | _ :: _, [], h => h.elim

theorem ofKinds.split : ∀ {a b : List SK} {vs : List AV}, ofKinds (a ++ b) vs → ofKinds a (vs.take a.length) ∧ ofKinds b (vs.drop a.length)
  | [], _, _, h => ⟨trivial, h⟩
  | _ :: _, _, [], h => h.elim
  | k :: a, b, v :: vs, h => by
    obtain ⟨h1, h2⟩ := h
    obtain ⟨h3, h4⟩ := ofKinds.split (a := a) h2
    exact ⟨⟨h1, h3⟩, h4⟩

/-- A value of a type, out of its cells. -/
def asVal (d : TD) (vs : List Value) : Value := match d.isAgg with | true => .agg vs.toArray | false => vs.getD 0 undef

theorem shape_size (hTy : TyOk P Ty) {d t : Nat} {sh : List SK} (h : shapeOf Ty d t = some sh) : ∃ i, Ty t = some i ∧ (match i.d with | .sc k => sh = [k] | .struct _ => sh.length = i.size | _ => False) := by
  cases d with
  | zero => cases h
  | succ d =>
    simp only [shapeOf] at h
    split at h
    · rename_i k _ _ _ hT; cases h; exact ⟨_, hT, rfl⟩
    · rename_i fs size _ _ hT
      cases hs : shapeFs (shapeOf Ty d) fs 0 with
      | none => rw [hs] at h; cases h
      | some sh' =>
        rw [hs, Option.bind_some] at h
        obtain ⟨h1, h2⟩ := cond_some h
        cases h2
        exact ⟨_, hT, beq_eq h1⟩
    · cases h

theorem eq_run (hTy : TyOk P Ty) (hEq : EqOk P Ty) {E : Env} (w : World) : ∀ (d t : Nat) (sh : List SK) (i : TI), shapeOf Ty d t = some sh → Ty t = some i → ∀ (n : Nat) (xs ys : List AV) (vs ws : List Value) (b : Bool), d ≤ n →
    ofKinds sh xs → ofKinds sh ys → VRelL E xs vs → VRelL E ys ws → eqL xs ys = some b → (Op.equalIn n t (asVal i.d vs) (asVal i.d ws)).run P w = .ok b w := by
  intro d
  induction d with
  | zero => intro t sh i h; cases h
  | succ d ih =>
    intro t sh i h hT n xs ys vs ws b hn hkx hky hx hy he
    obtain ⟨n, rfl⟩ : ∃ m, n = m + 1 := ⟨n - 1, by omega⟩
    obtain ⟨info, ds, hi, hu, hd, hsz, _, _⟩ := hTy.ok _ _ hT
    simp only [shapeOf, hT] at h
    obtain ⟨id_, isz, iby, iz⟩ := i
    cases id_ with
    | sc k =>
      simp only [Option.some.injEq] at h; subst h
      simp only at hd hT
      match xs, ys, vs, ws, hkx, hky, hx, hy with
      | [x], [y], [v], [u], hkx, hky, .cons hx .nil, .cons hy .nil =>
        exact eqS_run hu hd hx hy he hkx.1 n w
      | [], _, _, _, hkx, _, _, _ => exact hkx.elim
      | _ :: _ :: _, _, _, _, hkx, _, _, _ => exact hkx.2.elim
      | [_], [], _, _, _, hky, _, _ => exact hky.elim
      | [_], _ :: _ :: _, _, _, _, hky, _, _ => exact hky.2.elim
    | struct fs =>
      simp only at h hd hT hsz
      obtain ⟨hp, hg, hnm⟩ := hEq.ok _ _ _ hT rfl
      cases hs : shapeFs (shapeOf Ty d) fs 0 with
      | none => rw [hs] at h; cases h
      | some sh' =>
        rw [hs, Option.bind_some] at h
        obtain ⟨_, h2⟩ := cond_some h
        cases h2
        obtain ⟨fields, rfl⟩ : ∃ fields, ds = .struct fields := by cases ds <;> simp [tdOf] at hd; exact ⟨_, rfl⟩
        simp only [tdOf, Option.some.injEq, TD.struct.injEq] at hd
        have hf : P.fieldsOf t = fields := by simp [Program.fieldsOf, hu]
        show (Op.equalIn (n + 1) t (.agg vs.toArray) (.agg ws.toArray)).run P w = _
        rw [run_equalIn_struct (P := P) w n t _ _ (by rw [hf]; exact hu) hp, hf]
        have hnm' := hnm fields hu
        have key : ∀ (l : List Field) (off : Nat) (sh' : List SK) (b : Bool), shapeFs (shapeOf Ty d) (l.map fun f => (f.offset, f.type)) off = some sh' → (∀ f ∈ l, (f.name == "_") = false) →
            ofKinds sh' (xs.drop off) → ofKinds sh' (ys.drop off) → eqL (xs.drop off) (ys.drop off) = some b → (Op.eqFields n vs.toArray ws.toArray l).run P w = .ok b w := by
          intro l
          induction l with
          | nil =>
            intro off sh' b hs _ hkx hky he
            cases hs
            have h1 := hkx.length; have h2 := hky.length
            simp only [List.length_nil, List.length_eq_zero_iff] at h1 h2
            rw [h1, h2] at he; cases he
            rfl
          | cons f l ihl =>
            intro off sh' b hs hnames hkx hky he
            simp only [List.map_cons, shapeFs] at hs
            obtain ⟨ho, hs⟩ := cond_some hs
            have ho := beq_eq ho
            cases h1 : shapeOf Ty d f.type with
            | none => rw [h1] at hs; cases hs
            | some s1 =>
              rw [h1, Option.bind_some] at hs
              cases h2 : shapeFs (shapeOf Ty d) (l.map fun f => (f.offset, f.type)) (off + s1.length) with
              | none => rw [h2] at hs; cases hs
              | some s2 =>
                rw [h2, Option.bind_some] at hs; cases hs
                obtain ⟨fi, hfT, hfs⟩ := shape_size hTy h1
                obtain ⟨finfo, fd, hfi, hfu, hfd, hfsz, _, _⟩ := hTy.ok _ _ hfT
                obtain ⟨kx1, kx2⟩ := hkx.split
                obtain ⟨ky1, ky2⟩ := hky.split
                rw [List.drop_drop] at kx2 ky2
                have hlx := hkx.length; have hly := hky.length
                simp only [List.length_append, List.length_drop] at hlx hly
                rw [← List.take_append_drop s1.length (xs.drop off), ← List.take_append_drop s1.length (ys.drop off), List.drop_drop, List.drop_drop] at he
                obtain ⟨b1, b2, e1, e2, e3⟩ := eqL_append _ _ (by simp; omega) he
                have hpart : ∀ (zs : List AV) (us : List Value), VRelL E zs us → ofKinds s1 ((zs.drop off).take s1.length) → (part f.type us.toArray f.offset).run P w = .ok (asVal fi.d ((us.drop off).take s1.length)) w := by
                  intro zs us hz hk
                  have hlen := hk.length
                  have hzl := hz.length
                  simp only [List.length_take, List.length_drop] at hlen
                  cases hfd' : fi.d with
                  | sc k =>
                    rw [hfd'] at hfs hfd
                    subst hfs
                    have hlt : off < us.length := by simp only [List.length_cons, List.length_nil] at hlen; omega
                    rw [part_one hfu hfd (x := us[off]) (by rw [ho]; simp [hlt])]
                    have : asVal (.sc k) ((us.drop off).take [k].length) = us[off] := by
                      simp only [asVal, TD.isAgg, List.length_cons, List.length_nil]
                      simp [List.getD, List.getElem?_take, List.getElem?_drop, hlt]
                    rw [this]
                  | struct fs' =>
                    rw [hfd'] at hfs hfd
                    rw [part_agg hfi hfu hfd rfl, ho, hfsz, ← hfs]
                    simp only [asVal, TD.isAgg]
                    congr 2
                    simp [List.extract_eq_take_drop, List.extract_toArray]
                  | _ => rw [hfd'] at hfs; exact hfs.elim
                have heq := ih f.type s1 fi h1 hfT n _ _ _ _ b1 (by omega) kx1 ky1 (hx.sub off s1.length) (hy.sub off s1.length) e1
                have hrest := ihl (off + s1.length) s2 b2 h2 (fun g hg => hnames g (List.mem_cons_of_mem _ hg)) kx2 ky2 e2
                have hn' : f.name ≠ "_" := by simpa using hnames f List.mem_cons_self
                rw [Op.eqFields]
                simp only [if_pos hn', Sem.run_bind, hpart xs vs hx kx1, hpart ys ws hy ky1, heq, Result.andThen_ok]
                cases b1
                · simp [e3]
                · simpa [e3] using hrest
        exact key fields.toList 0 _ b (by rw [hd]; exact hs) hnm' (by simpa using hkx) (by simpa using hky) (by simpa using he)
    | _ => simp at h

theorem eqIn_np {t e : Nat} (hu : P.underlying t = some (.pointer e)) (b : Option Addr) (n : Nat) (w : World) : (Op.equalIn (n + 1) t (.pointer none) (.pointer b)).run P w = .ok b.isNone w := by
  simp [Op.equalIn, run_underlying hu]
theorem eqIn_pn {t e : Nat} (hu : P.underlying t = some (.pointer e)) (b : Addr) (n : Nat) (w : World) : (Op.equalIn (n + 1) t (.pointer (some b)) (.pointer none)).run P w = .ok false w := by
  simp [Op.equalIn, run_underlying hu]
theorem eqIn_nn {t : Nat} {p r : Array TypeId} {v : Bool} (hu : P.underlying t = some (.func p r v)) (n : Nat) (w : World) : (Op.equalIn (n + 1) t .nilFunc .nilFunc).run P w = .ok true w := by
  simp [Op.equalIn, run_underlying hu]
theorem eqIn_nf {t : Nat} {p r : Array TypeId} {v : Bool} (hu : P.underlying t = some (.func p r v)) (f : Fn) (a b : Array Value) (n : Nat) (w : World) : (Op.equalIn (n + 1) t .nilFunc (.func f a b)).run P w = .ok false w := by
  simp [Op.equalIn, run_underlying hu]
theorem eqIn_fn {t : Nat} {p r : Array TypeId} {v : Bool} (hu : P.underlying t = some (.func p r v)) (f : Fn) (a b : Array Value) (n : Nat) (w : World) : (Op.equalIn (n + 1) t (.func f a b) .nilFunc).run P w = .ok false w := by
  simp [Op.equalIn, run_underlying hu]
theorem eqIn_ss {t e : Nat} (hu : P.underlying t = some (.slice e)) (n : Nat) (w : World) : (Op.equalIn (n + 1) t (.slice none 0 0) (.slice none 0 0)).run P w = .ok true w := by
  simp [Op.equalIn, run_underlying hu]
theorem eqIn_bb {t : Nat} (hu : P.underlying t = some .bool) (x y : Bool) (n : Nat) (w : World) : (Op.equalIn (n + 1) t (.bool x) (.bool y)).run P w = .ok (x == y) w := by
  simp [Op.equalIn, run_underlying hu]

theorem eqV_run (hTy : TyOk P Ty) (hEq : EqOk P Ty) {t : Nat} {x y : AV} {b : Bool} (h : eqV Ty t x y = some b) {E : Env} {xv yv : Value} (hx : VRel E x xv) (hy : VRel E y yv) (xo yo : Operand) (w : World) :
    (Op.equal t xv yv).run P w = .ok b w ∧ (eqGuard .eql t xo yo xv yv).run P w = .ok () w ∧ (eqGuard .neq t xo yo xv yv).run P w = .ok () w := by
  unfold eqV at h
  split at h
  · rename_i xs ys
    split at h
    · rename_i fs _ _ _ hT0
      cases hsh : shapeOf Ty 10 t with
      | none => rw [hsh] at h; cases h
      | some sh =>
        rw [hsh, Option.bind_some] at h
        obtain ⟨h1, h2⟩ := cond_some h
        rw [Bool.and_eq_true] at h1
        cases hx with
        | agg hx =>
          cases hy with
          | agg hy =>
            have := eq_run hTy hEq w 10 t sh _ hsh hT0 Op.maxDepth xs ys _ _ b (by decide) (un_kinds h1.1) (un_kinds h1.2) hx hy h2
            simp only [asVal, TD.isAgg] at this
            obtain ⟨_, hg, _⟩ := hEq.ok _ _ _ hT0 rfl
            refine ⟨by simpa [Op.equal] using this, ?_, ?_⟩ <;> simp [eqGuard, hg]
    · cases h
  · split at h
    · rename_i hT0
      obtain ⟨info, ds, hi, hu, hd, hsz, _, _⟩ := hTy.ok _ _ hT0
      cases hx; cases hy; cases h
      cases ds <;> simp [tdOf] at hd
      exact ⟨eqIn_np hu none 9999 w, rfl, rfl⟩
    · cases h
  · split at h
    · rename_i hT0
      obtain ⟨info, ds, hi, hu, hd, hsz, _, _⟩ := hTy.ok _ _ hT0
      cases hx; cases hy; cases h
      cases ds <;> simp [tdOf] at hd
      exact ⟨eqIn_np hu _ 9999 w, rfl, rfl⟩
    · cases h
  · split at h
    · rename_i hT0
      obtain ⟨info, ds, hi, hu, hd, hsz, _, _⟩ := hTy.ok _ _ hT0
      cases hx; cases hy; cases h
      cases ds <;> simp [tdOf] at hd
      exact ⟨eqIn_pn hu _ 9999 w, rfl, rfl⟩
    · cases h
  · split at h
    · rename_i hT0
      obtain ⟨info, ds, hi, hu, hd, hsz, _, _⟩ := hTy.ok _ _ hT0
      cases hx; cases hy; cases h
      cases ds <;> simp [tdOf] at hd
      exact ⟨eqIn_nn hu 9999 w, rfl, rfl⟩
    · cases h
  · split at h
    · rename_i hT0
      obtain ⟨info, ds, hi, hu, hd, hsz, _, _⟩ := hTy.ok _ _ hT0
      cases hx; cases hy; cases h
      cases ds <;> simp [tdOf] at hd
      exact ⟨eqIn_nf hu _ _ _ 9999 w, rfl, rfl⟩
    · cases h
  · split at h
    · rename_i hT0
      obtain ⟨info, ds, hi, hu, hd, hsz, _, _⟩ := hTy.ok _ _ hT0
      cases hx; cases hy; cases h
      cases ds <;> simp [tdOf] at hd
      exact ⟨eqIn_fn hu _ _ _ 9999 w, rfl, rfl⟩
    · cases h
  · split at h
    · rename_i hT0
      obtain ⟨info, ds, hi, hu, hd, hsz, _, _⟩ := hTy.ok _ _ hT0
      cases hx; cases hy; cases h
      cases ds <;> simp [tdOf] at hd
      exact ⟨eqIn_ss hu 9999 w, rfl, rfl⟩
    · cases h
  · split at h
    · rename_i hT0
      obtain ⟨info, ds, hi, hu, hd, hsz, _, _⟩ := hTy.ok _ _ hT0
      cases hx; cases hy; cases h
      cases ds <;> simp [tdOf] at hd
      exact ⟨eqIn_bb hu _ _ 9999 w, rfl, rfl⟩
    · cases h
  · cases h

theorem binK_sound {R : Type} (hTy : TyOk P Ty) (hEq : EqOk P Ty) {op : BinOp} {t : Nat} {x y : AV} {K : AV → Option R} {r : R} (h : binK Ty op t x y K = some r) :
    ∃ v, K v = some r ∧ ∀ (E : Env) (xv yv : Value) (xo yo : Operand) (w : World), VRel E x xv → VRel E y yv →
      ∃ z, (do eqGuard op t xo yo xv yv; binOp op t xv yv : Sem Value).run P w = .ok z w ∧ VRel E v z := by
  unfold binK at h
  split at h
  · obtain ⟨h1, h2⟩ := cond_none_some h
    refine ⟨_, h2, fun E xv yv xo yo w hx hy => ?_⟩
    cases hx; cases hy
    have h3 := of_decide_eq_false h1
    exact ⟨_, by simp [eqGuard, binOp, Op.shift, h3]; rfl, .i _ _⟩
  · obtain ⟨h1, h2⟩ := cond_none_some h
    refine ⟨_, h2, fun E xv yv xo yo w hx hy => ?_⟩
    cases hx; cases hy
    have h3 := of_decide_eq_false h1
    exact ⟨_, by simp [eqGuard, binOp, Op.shift, h3]; rfl, .i _ _⟩
  · rename_i k a k' b hn1 hn2
    split at h
    · rename_i hk; subst hk
      cases op <;> (try dsimp only at h) <;> first
        | (cases h; done)
        | (exact absurd rfl (hn1 _ _ _ _ rfl rfl)) | (exact absurd rfl (hn2 _ _ _ _ rfl rfl))
        | (refine ⟨_, h, fun E xv yv xo yo w hx hy => ?_⟩; cases hx; cases hy
           exact ⟨_, by simp [eqGuard, binOp, Op.intArith, Op.intBits, Op.intCmp]; rfl, by constructor⟩)
        | (refine ⟨_, h, fun E xv yv xo yo w hx hy => ?_⟩; cases hx; cases hy
           first | exact ⟨.int k _, rfl, .i _ _⟩ | exact ⟨.int k (bAndNot k a b), rfl, .i _ _⟩ | exact ⟨.int k (bAndNot k a b), (by simp only [eqGuard, binOp, Op.intBits, bAndNot, orInt]; simp), .i _ _⟩)
        | (obtain ⟨h1, h2⟩ := cond_none_some h
           refine ⟨_, h2, fun E xv yv xo yo w hx hy => ?_⟩; cases hx; cases hy
           have h3 := of_decide_eq_false h1
           exact ⟨_, by simp [eqGuard, binOp, Op.intDiv, h3]; rfl, by constructor⟩)
    · cases h
  · rename_i a b
    obtain ⟨h1, h2⟩ := cond_some h
    refine ⟨_, h2, fun E xv yv xo yo w hx hy => ?_⟩
    cases hx; cases hy
    have h3 := Nat.le_of_ble_eq_true h1
    have h4 : ¬ (((a.size + b.size : Nat) : Int) > IntKind.i64.max) := by
      have : IntKind.i64.max = 9223372036854775807 := by decide
      rw [this]; omega
    refine ⟨.string (a ++ b), ?_, .s _⟩
    simp only [eqGuard, binOp, Op.stringOp]
    simp only [h4, if_false]
    rfl
  · refine ⟨_, h, fun E xv yv xo yo w hx hy => ?_⟩
    cases hx; cases hy
    exact ⟨_, rfl, .b _⟩
  · refine ⟨_, h, fun E xv yv xo yo w hx hy => ?_⟩
    cases hx; cases hy
    exact ⟨_, rfl, .b _⟩
  · rename_i x y hn1 hn2
    split at h
    · rename_i b hb
      refine ⟨_, h, fun E xv yv xo yo w hx hy => ?_⟩
      obtain ⟨h1, h2, h3⟩ := eqV_run hTy hEq hb hx hy xo yo w
      refine ⟨.bool b, ?_, .b _⟩
      have h4 : binOp .eql t xv yv = (do pure (.bool (← Op.equal t xv yv)) : Sem Value) := by
        unfold eqV at hb
        split at hb <;> first | (cases hb; done) | skip
        all_goals (cases hx; cases hy; rfl)
      rw [h4]
      simp only [Sem.run_bind, h2, h1, Result.andThen_ok, Sem.run_pure]
    · cases h
  · rename_i x y hn1 hn2
    split at h
    · rename_i b hb
      refine ⟨_, h, fun E xv yv xo yo w hx hy => ?_⟩
      obtain ⟨h1, h2, h3⟩ := eqV_run hTy hEq hb hx hy xo yo w
      refine ⟨.bool (!b), ?_, .b _⟩
      have h4 : binOp .neq t xv yv = (do pure (.bool (!(← Op.equal t xv yv))) : Sem Value) := by
        unfold eqV at hb
        split at hb <;> first | (cases hb; done) | skip
        all_goals (cases hx; cases hy; rfl)
      rw [h4]
      simp only [Sem.run_bind, h3, h1, Result.andThen_ok, Sem.run_pure]
    · cases h
  · cases h

theorem unK_sound {R : Type} {op : UnOp} {x : AV} {K : AV → Option R} {r : R} (h : unK op x K = some r) :
    ∃ v, K v = some r ∧ ∀ (E : Env) (xv : Value) (w : World), VRel E x xv → ∃ z, (Op.unary op xv).run P w = .ok z w ∧ VRel E v z := by
  unfold unK at h
  split at h
  · refine ⟨_, h, fun E xv w hx => ?_⟩
    cases hx; exact ⟨_, rfl, .b _⟩
  · refine ⟨_, h, fun E xv w hx => ?_⟩
    cases hx; exact ⟨_, rfl, .i _ _⟩
  · refine ⟨_, h, fun E xv w hx => ?_⟩
    cases hx; exact ⟨_, rfl, .i _ _⟩
  · cases h

end
end Go.Ab

/- Operations but calls, one by one. Conditions: none. -/
namespace Go.Ab
set_option linter.unusedVariables false
set_option linter.unusedSimpArgs false
open Go

def OpV (P : Program) (T : Tmps) (H : Heap) (o : Oper) (v : AV) (H' : Heap) : Prop :=
  ∀ (E : Env) (a : Act) (w : World), TRel E T a → HRel E H w → ∃ (x : Value) (w' : World) (E' : Env) (nx : Next), (execOp a.eval o).run P w = .ok nx w' ∧ (nx = .value x ∨ (nx = .skip ∧ x = undef)) ∧
    VRel E' v x ∧ HRel E' H' w' ∧ Ext E E' ∧ Fr E H w E' H' w'

theorem Ext.refl (E : Env) : Ext E E := fun _ _ h => h

section
variable {P : Program} {Ty : Types} {R : Type}

theorem OpV.pure {T : Tmps} {H : Heap} {o : Oper} {v : AV} (sem : Act → Sem Value) (hex : ∀ a : Act, execOp a.eval o = (do Pure.pure (.value (← sem a)) : Sem Next))
    (h : ∀ (E : Env) (a : Act) (w : World), TRel E T a → HRel E H w → ∃ x, (sem a).run P w = .ok x w ∧ VRel E v x) : OpV P T H o v H := by
  intro E a w hT hH
  obtain ⟨x, hx, hv⟩ := h E a w hT hH
  exact ⟨x, w, E, .value x, by rw [hex]; simp [hx], .inl rfl, hv, hH, Ext.refl E, Fr.refl E H w⟩

theorem OpV.made {T : Tmps} {H H' : Heap} {o : Oper} {v : AV} (sem : Act → Sem Value) (hex : ∀ a : Act, execOp a.eval o = (do Pure.pure (.value (← sem a)) : Sem Next))
    (h : ∀ (E : Env) (a : Act) (w : World), TRel E T a → HRel E H w → ∃ x w' E', (sem a).run P w = .ok x w' ∧ VRel E' v x ∧ HRel E' H' w' ∧ Ext E E' ∧ Fr E H w E' H' w') : OpV P T H o v H' := by
  intro E a w hT hH
  obtain ⟨x, w', E', hx, hv, h1, h2, h3⟩ := h E a w hT hH
  exact ⟨x, w', E', .value x, by rw [hex]; simp [hx], .inl rfl, hv, h1, h2, h3⟩

theorem int_of {E : Env} {k : IntKind} {n : Int} {x : Value} (h : VRel E (.i k n) x) : x = .int k n := by cases h; rfl

/-! ### Parts -/

theorem VRelL.arr {E : Env} {cs : List AV} {vs : Array Value} (h : VRelL E cs vs.toList) {j : Nat} {v : AV} (hj : cs[j]? = some v) : ∃ x, vs[j]? = some x ∧ VRel E v x := by
  obtain ⟨x, hx, hr⟩ := h.get j v hj
  exact ⟨x, by simpa using hx, hr⟩

theorem partAt_sound (hTy : TyOk P Ty) {cs : List AV} {off t : Nat} {i : TI} {K : AV → Option R} {r : R} (hT : Ty t = some i) (h : partAt cs off i K = some r) :
    ∃ v, K v = some r ∧ ∀ (E : Env) (vs : Array Value) (w : World), VRelL E cs vs.toList → ∃ x, (part t vs off).run P w = .ok x w ∧ VRel E v x := by
  obtain ⟨info, d, hi, hu, hd, hsz, _, _⟩ := hTy.ok _ _ hT
  unfold partAt at h
  obtain ⟨h1, h⟩ := cond_some h
  have h1 : off + i.size ≤ cs.length := by simpa using h1
  cases ha : i.d.isAgg with
  | true =>
    rw [ha] at h
    refine ⟨_, h, fun E vs w hv => ⟨_, part_agg hi hu hd ha vs off, .agg ?_⟩⟩
    rw [hsz]
    have := hv.sub off i.size
    simpa [seg, Array.toList_extract, List.extract_eq_take_drop] using this
  | false =>
    rw [ha] at h
    simp only at h
    split at h
    · rename_i v hs
      refine ⟨_, h, fun E vs w hv => ?_⟩
      have hj : cs[off]? = some v := by
        have := congrArg (fun l : List AV => l[0]?) hs
        simpa [seg, List.getElem?_take, List.getElem?_drop] using this
      obtain ⟨x, hx, hr⟩ := hv.arr hj
      refine ⟨x, ?_, hr⟩
      unfold part
      simp [run_isAgg hu hd, ha, hx]
    · cases h

theorem fieldOff_sound (hTy : TyOk P Ty) {t f off : Nat} {fs : List (Nat × Nat)} {i : TI} (h : fieldOff Ty fs f = some (off, i)) :
    ∃ ft, fs[f]? = some (off, ft) ∧ Ty ft = some i := by
  unfold fieldOff at h
  cases hf : fs[f]? with
  | none => rw [hf] at h; cases h
  | some p =>
    rw [hf, Option.bind_some] at h
    cases hp : Ty p.2 with
    | none => rw [hp] at h; cases h
    | some i' => rw [hp, Option.bind_some] at h; cases h; exact ⟨p.2, rfl, hp⟩

theorem struct_of {d : TypeDesc} {fs : List (Nat × Nat)} (hd : tdOf d = some (.struct fs)) : ∃ fields : Array Field, d = .struct fields ∧ fields.toList.map (fun f => (f.offset, f.type)) = fs := by
  cases d <;> simp [tdOf] at hd
  exact ⟨_, rfl, hd⟩

theorem field_get {fields : Array Field} {fs : List (Nat × Nat)} (h : fields.toList.map (fun f => (f.offset, f.type)) = fs) {f off ft : Nat} (hf : fs[f]? = some (off, ft)) :
    ∃ fd, fields[f]? = some fd ∧ fd.offset = off ∧ fd.type = ft := by
  rw [← h, List.getElem?_map] at hf
  cases hx : fields.toList[f]? with
  | none => rw [hx] at hf; cases hf
  | some fd => rw [hx] at hf; cases hf; exact ⟨fd, by simpa using hx, rfl, rfl⟩

/-! ### Filling -/

theorem fold_put (off : Nat) : ∀ (l : List Value) (k : Nat) (vs : Array Value), off + k + l.length ≤ vs.size →
    ((l.zipIdx k).foldl (fun cs (p : Value × Nat) => cs.setIfInBounds (off + p.2) p.1) vs).size = vs.size ∧
    ∀ j : Nat, ((l.zipIdx k).foldl (fun cs (p : Value × Nat) => cs.setIfInBounds (off + p.2) p.1) vs)[j]? = if off + k ≤ j ∧ j < off + k + l.length then l[j - (off + k)]? else vs[j]?
  | [], k, vs, h => ⟨rfl, fun j => by simp; omega⟩
  | x :: l, k, vs, h => by
    rw [List.zipIdx_cons, List.foldl_cons]
    simp only [List.length_cons] at h
    obtain ⟨h1, h2⟩ := fold_put off l (k + 1) (vs.setIfInBounds (off + k) x) (by simp; omega)
    refine ⟨by rw [h1]; simp, fun j => ?_⟩
    rw [h2, Array.getElem?_setIfInBounds]
    simp only [List.length_cons]
    by_cases hj : off + k = j
    · subst hj
      rw [if_neg (by omega), if_pos rfl, if_pos (by omega), if_pos (by omega)]
      simp
    · rw [if_neg hj]
      by_cases hj2 : off + (k + 1) ≤ j ∧ j < off + (k + 1) + l.length
      · rw [if_pos hj2, if_pos (by omega)]
        rw [show j - (off + k) = (j - (off + (k + 1))) + 1 by omega, List.getElem?_cons_succ]
      · rw [if_neg hj2, if_neg (by omega)]

theorem fill_sound {E : Env} {place : Nat → Option (Nat × Nat)} {place' : Nat → Option (Nat × Nat)} (hp : ∀ i off size, place i = some (off, size) → place' i = some (off, size)) :
    ∀ (parts : List (Nat × AV)) (parts' : List (Nat × Value)) (cs cs' : List AV) (vs : Array Value), fillL place cs parts = some cs' → VRelL E cs vs.toList →
      parts.map (·.1) = parts'.map (·.1) → VRelL E (parts.map (·.2)) (parts'.map (·.2)) → ∃ vs', Instr.fill place' vs parts' = some vs' ∧ VRelL E cs' vs'.toList
  | [], [], cs, cs', vs, h, hv, _, _ => by cases h; exact ⟨vs, rfl, hv⟩
  | (i, v) :: parts, (i', x) :: parts', cs, cs', vs, h, hv, hn, hr => by
    simp only [List.map_cons, List.cons.injEq] at hn
    obtain ⟨rfl, hn⟩ := hn
    cases hr with
    | cons hr hrs =>
      simp only [fillL] at h
      split at h
      · rename_i off size us hpl hus
        obtain ⟨h1, h2⟩ := cond_some h
        simp only [Bool.and_eq_true] at h1
        have h3 := beq_eq h1.1
        have h4 : off + size ≤ cs.length := by simpa using h1.2
        have hcells := hr.cells hus
        have hlen := hcells.length
        have hvl := hv.length
        have hput : VRelL E (putSeg cs off us) (x.cells.zipIdx.foldl (fun cs (c, j) => cs.setIfInBounds (off + j) c) vs).toList := by
          rw [← Array.foldl_toList, Array.toList_zipIdx]
          have hle : off + 0 + x.cells.toList.length ≤ vs.size := by rw [← hlen, h3]; rw [← Array.length_toList, ← hvl]; omega
          obtain ⟨k1, k2⟩ := fold_put off x.cells.toList 0 vs hle
          simp only [Nat.add_zero] at k2
          have hle' : off + us.length ≤ cs.length := by omega
          refine VRelL.of_get ?_ fun j v z hv' hz => ?_
          · rw [putSeg_length hle', hvl]; simp only [Array.length_toList]; exact k1.symm
          · rw [putSeg_get hle'] at hv'
            rw [Array.getElem?_toList] at hz
            have hz' := (k2 j).symm.trans hz
            rw [← hlen] at hz'
            by_cases hj : off ≤ j ∧ j < off + us.length
            · rw [if_pos hj] at hv' hz'
              obtain ⟨y, hy, hry⟩ := hcells.get _ v hv'
              rw [hy] at hz'; cases hz'; exact hry
            · rw [if_neg hj] at hv' hz'
              obtain ⟨y, hy, hry⟩ := hv.arr hv'
              rw [hy] at hz'; cases hz'; exact hry
        obtain ⟨vs', k1, k2⟩ := fill_sound hp parts parts' _ _ _ h2 hput hn hrs
        refine ⟨vs', ?_, k2⟩
        simp only [Instr.fill, hp _ _ _ hpl]
        rw [if_neg]
        · exact k1
        · simp at hlen hvl ⊢; omega
      · cases h
  | [], _ :: _, _, _, _, _, _, hn, _ => by simp at hn
  | _ :: _, [], _, _, _, _, _, hn, _ => by simp at hn

/-! ### Addresses -/

theorem arr_of {d : TypeDesc} {n e : Nat} (hd : tdOf d = some (.arr n e)) : d = .array n e := by cases d <;> simp [tdOf] at hd; obtain ⟨rfl, rfl⟩ := hd; rfl
theorem slice_of {d : TypeDesc} {e : Nat} (hd : tdOf d = some (.slice e)) : d = .slice e := by cases d <;> simp [tdOf] at hd; subst hd; rfl
theorem str_of {d : TypeDesc} (hd : tdOf d = some (.sc .s)) : d = .string := by cases d <;> simp [tdOf] at hd; rfl
theorem int_ty {d : TypeDesc} {k : IntKind} (hd : tdOf d = some (.sc (.i k))) : d = .int k := by cases d <;> simp [tdOf] at hd; subst hd; rfl

theorem run_indexAt_slice {t el : Nat} {ei : TypeInfo} (hu : P.underlying t = some (.slice el)) (hi : P.info? el = some ei) {r o n cap : Nat} {k : IntKind} {j : Int} (h0 : 0 ≤ j) (h1 : j < n) (w : World) :
    (Instr.indexAt t (.slice (some ⟨r, o, none⟩) n cap) (.int k j)).run P w = .ok (.pointer (some ⟨r, o + j.toNat * ei.size, none⟩)) w := by
  unfold Instr.indexAt
  simp [asIntOf, run_underlying hu, h0, h1, run_sizeOf hi, addr_add]

theorem run_indexAt_arr {t el n : Nat} {ei : TypeInfo} (hu : P.underlying t = some (.array n el)) (hi : P.info? el = some ei) {r o : Nat} {k : IntKind} {j : Int} (h0 : 0 ≤ j) (h1 : j < n) (w : World) :
    (Instr.indexAt t (.pointer (some ⟨r, o, none⟩)) (.int k j)).run P w = .ok (.pointer (some ⟨r, o + j.toNat * ei.size, none⟩)) w := by
  unfold Instr.indexAt
  simp [asIntOf, run_underlying hu, h0, h1, run_sizeOf hi, addr_add, Instr.sureAddr]

theorem div_mul_self {a b : Nat} (h : Nat.beq (a % b) 0 = true) : a / b * b = a := by
  have := beq_eq h
  exact Nat.div_mul_cancel (Nat.dvd_of_mod_eq_zero this)

theorem indexAddrK_sound (hTy : TyOk P Ty) {H : Heap} {t : Nat} {x i : AV} {K : AV → Heap → Option R} {r : R} (h : indexAddrK Ty H t x i K = some r) :
    ∃ v, K v H = some r ∧ ∀ E xv iv w, VRel E x xv → VRel E i iv → HRel E H w → ∃ y, (Instr.indexAt t xv iv).run P w = .ok y w ∧ VRel E v y := by
  unfold indexAddrK at h
  split at h
  · rename_i el _ _ _ id _ j hT
    obtain ⟨info, d, hi, hu, hd, _⟩ := hTy.ok _ _ hT
    have := slice_of hd; subst this
    split at h
    · rename_i fam ro sh xs ei hg hTe
      obtain ⟨h0, h⟩ := cond_some h
      obtain ⟨h1, h⟩ := cond_some h
      have h0 := of_decide_eq_true h0
      have h1 := of_decide_eq_true h1
      obtain ⟨einfo, ed, hei, heu, hed, hesz, _⟩ := hTy.ok _ _ hTe
      refine ⟨_, h, fun E xv iv w hx hiv hH => ?_⟩
      have := int_of hiv; subst this
      obtain ⟨ent, he, hB⟩ := hH.live _ _ hg
      obtain ⟨hn, hsz⟩ := hB.fits
      cases hx with
      | sw h' hr hcap hc =>
        rw [he] at h'; cases h'
        refine ⟨_, run_indexAt_slice hu hei h0 (by rw [hn]; exact h1) w, ?_⟩
        have := VRel.ptr (E := E) (id := id) (base := 0) (e := j.toNat) (sz := ei.size) (o := 0) he hr
        rw [hesz]
        simpa using this
      | sw0 h' hn0 =>
        rw [he] at h'; cases h'
        rw [hn0] at hn; omega
    · cases h
  · rename_i el _ _ _ id base e sz n _ j hT
    obtain ⟨info, d, hi, hu, hd, _⟩ := hTy.ok _ _ hT
    have := slice_of hd; subst this
    split at h
    · rename_i ei hTe
      obtain ⟨hs, h⟩ := cond_some h
      obtain ⟨h0, h⟩ := cond_some h
      obtain ⟨h1, h⟩ := cond_some h
      have hs := beq_eq hs
      have h0 := of_decide_eq_true h0
      have h1 := of_decide_eq_true h1
      obtain ⟨einfo, ed, hei, heu, hed, hesz, _⟩ := hTy.ok _ _ hTe
      refine ⟨_, h, fun E xv iv w hx hiv hH => ?_⟩
      have := int_of hiv; subst this
      cases hx with
      | sl h' hr hn =>
        refine ⟨_, run_indexAt_slice hu hei h0 h1 w, ?_⟩
        have := VRel.ptr (E := E) (id := id) (base := base) (e := e + j.toNat) (sz := sz) (o := 0) h' hr
        rw [hesz, hs]
        rw [Nat.add_mul] at this
        simpa [Nat.add_assoc] using this
      | sl0 hn => omega
    · cases h
  · rename_i n el _ _ _ id base e sz o _ j hT
    obtain ⟨info, d, hi, hu, hd, _⟩ := hTy.ok _ _ hT
    have := arr_of hd; subst this
    split at h
    · rename_i ei hTe
      obtain ⟨h0, h⟩ := cond_some h
      obtain ⟨h1, h⟩ := cond_some h
      have h0 := of_decide_eq_true h0
      have h1 := of_decide_eq_true h1
      obtain ⟨einfo, ed, hei, heu, hed, hesz, _⟩ := hTy.ok _ _ hTe
      rcases bool_cases h with ⟨hs, h⟩ | ⟨hs, h⟩
      · have := beq_eq hs; subst this
        refine ⟨_, h, fun E xv iv w hx hiv hH => ?_⟩
        have := int_of hiv; subst this
        cases hx with
        | ptr h' hr =>
          refine ⟨_, run_indexAt_arr hu hei h0 h1 w, ?_⟩
          have := VRel.ptr (E := E) (id := id) (base := base + o) (e := j.toNat) (sz := ei.size) (o := 0) h' hr
          rw [hesz]
          simpa [Nat.add_assoc] using this
      · obtain ⟨hm, h⟩ := cond_some h
        rw [Bool.and_eq_true] at hm
        have m1 := div_mul_self hm.1
        have m2 := div_mul_self hm.2
        refine ⟨_, h, fun E xv iv w hx hiv hH => ?_⟩
        have := int_of hiv; subst this
        cases hx with
        | ptr h' hr =>
          refine ⟨_, run_indexAt_arr hu hei h0 h1 w, ?_⟩
          have := VRel.ptr (E := E) (id := id) (base := base) (e := e * (sz / ei.size) + o / ei.size + j.toNat) (sz := ei.size) (o := 0) h' hr
          rw [Nat.add_mul, Nat.add_mul, Nat.mul_assoc, m1, m2] at this
          rw [hesz]
          simpa [Nat.add_assoc] using this
    · cases h
  · cases h

end
end Go.Ab

/- Slices, strings and their operations. Conditions: none. -/
namespace Go.Ab
set_option linter.unusedVariables false
set_option linter.unusedSimpArgs false
open Go

def ORel (E : Env) : Option AV → Option Value → Prop
  | none, none => True
  | some a, some v => VRel E a v
  | _, _ => False

section
variable {P : Program} {Ty : Types} {R : Type}

theorem run_sliceBound {k : IntKind} {i : Int} {y : Nat} {code : BoundsCode} (h0 : 0 ≤ i) (h1 : i ≤ y) (w : World) : (Instr.sliceBound (.int k i) y code).run P w = .ok i.toNat w := by
  simp [Instr.sliceBound, asIntOf, h0, h1]

theorem sliceBnd_sound {lo hi : Option AV} {len : Nat} {K : Nat → Nat → Option R} {r : R} (h : sliceBnd lo hi len K = some r) :
    ∃ l u, K l u = some r ∧ l ≤ u ∧ u ≤ len ∧
      (∀ (E : Env) (lo' hi' : Option Value) (isSlice : Bool) (cap : Nat) (w : World), ORel E lo lo' → ORel E hi hi' → len ≤ cap → (Instr.sliceBounds isSlice len cap lo' hi' none).run P w = .ok (l, u, cap) w) ∧
      (∀ (E : Env) (lo' hi' : Option Value) (isSlice : Bool) (rlen cap : Nat) (k : IntKind) (m : Int) (w : World), ORel E lo lo' → ORel E hi hi' → hi ≠ none → len = m.toNat → 0 ≤ m → m ≤ cap →
        (Instr.sliceBounds isSlice rlen cap lo' hi' (some (.int k m))).run P w = .ok (l, u, len) w) := by
  unfold sliceBnd at h
  split at h
  · refine ⟨0, len, h, Nat.zero_le _, Nat.le_refl _, fun E lo' hi' b cap w hl hh hc => ?_, fun E lo' hi' b rlen cap k m w hl hh hn => absurd rfl hn⟩
    cases lo' <;> cases hi' <;> first | exact hl.elim | exact hh.elim | skip
    simp [Instr.sliceBounds]
  · rename_i k a
    obtain ⟨h0, h⟩ := cond_some h
    obtain ⟨h1, h⟩ := cond_some h
    have h0 := of_decide_eq_true h0
    have h1 := of_decide_eq_true h1
    refine ⟨a.toNat, len, h, by omega, Nat.le_refl _, fun E lo' hi' b cap w hl hh hc => ?_, fun E lo' hi' b rlen cap k m w hl hh hn => absurd rfl hn⟩
    cases lo' <;> cases hi' <;> first | exact hl.elim | exact hh.elim | skip
    have := int_of hl; subst this
    simp [Instr.sliceBounds, run_sliceBound h0 h1]
  · rename_i k b
    obtain ⟨h0, h⟩ := cond_some h
    obtain ⟨h1, h⟩ := cond_some h
    have h0 := of_decide_eq_true h0
    have h1 := of_decide_eq_true h1
    refine ⟨0, b.toNat, h, Nat.zero_le _, by omega, fun E lo' hi' b' cap w hl hh hc => ?_, fun E lo' hi' b' rlen cap k m w hl hh hn hlm hm0 hmc => ?_⟩
    · cases lo' <;> cases hi' <;> first | exact hl.elim | exact hh.elim | skip
      have := int_of hh; subst this
      have h2 : b ≤ (cap : Int) := by omega
      simp [Instr.sliceBounds, run_sliceBound h0 h2]
    · cases lo' <;> cases hi' <;> first | exact hl.elim | exact hh.elim | skip
      have := int_of hh; subst this
      subst hlm
      simp [Instr.sliceBounds, run_sliceBound hm0 hmc, run_sliceBound h0 h1]
  · rename_i k a k' b
    obtain ⟨h0, h⟩ := cond_some h
    obtain ⟨h1, h⟩ := cond_some h
    obtain ⟨h2, h⟩ := cond_some h
    obtain ⟨h3, h⟩ := cond_some h
    have h0 := of_decide_eq_true h0
    have h1 := of_decide_eq_true h1
    have h2 := of_decide_eq_true h2
    have h3 := of_decide_eq_true h3
    have h4 : a ≤ ((b.toNat : Nat) : Int) := by omega
    refine ⟨a.toNat, b.toNat, h, by omega, by omega, fun E lo' hi' b' cap w hl hh hc => ?_, fun E lo' hi' b' rlen cap k m w hl hh hn hlm hm0 hmc => ?_⟩
    · cases lo' <;> cases hi' <;> first | exact hl.elim | exact hh.elim | skip
      have := int_of hh; subst this
      have := int_of hl; subst this
      have h5 : b ≤ (cap : Int) := by omega
      simp [Instr.sliceBounds, run_sliceBound h0 h5, run_sliceBound h2 h4]
    · cases lo' <;> cases hi' <;> first | exact hl.elim | exact hh.elim | skip
      have := int_of hh; subst this
      have := int_of hl; subst this
      subst hlm
      simp [Instr.sliceBounds, run_sliceBound hm0 hmc, run_sliceBound h0 h1, run_sliceBound h2 h4]
  · cases h

theorem some_add (r o l : Nat) : (some (⟨r, o, none⟩ : Addr)).map (·.add l) = some ⟨r, o + l, none⟩ := by simp [addr_add]

/-- A part of a slice, told by its elements. -/
theorem sl_rel {E : Env} {id : Nat} {ent : Ent} {r : Nat} (he : E id = some ent) (hr : ent.r = some r) {base e sz l u m : Nat} (hlu : l ≤ u) (hum : u ≤ m) :
    VRel E (.sl id base (e + l) sz (u - l)) (.slice (if m = l then some ⟨r, ent.off + (base + e * sz), none⟩ else some ⟨r, ent.off + (base + e * sz) + l * sz, none⟩) (u - l) (m - l)) := by
  by_cases hz : u - l = 0
  · rw [hz]; exact .sl0 rfl
  · rw [if_neg (by omega)]
    have := VRel.sl (E := E) (id := id) (base := base) (e := e + l) (sz := sz) (n := u - l) (cap := m - l) he hr (by omega)
    rw [Nat.add_mul] at this
    simpa [Nat.add_assoc] using this

theorem run_slice_some {t el : Nat} {ei : TypeInfo} (hu : P.underlying t = some (.slice el)) (hi : P.info? el = some ei) {r o n cap l u m : Nat} {lo hi' mx : Option Value} {w : World}
    (h : (Instr.sliceBounds true n cap lo hi' mx).run P w = .ok (l, u, m) w) :
    (Instr.sliceAt t (.slice (some ⟨r, o, none⟩) n cap) lo hi' mx).run P w = .ok (.slice (if m = l then some ⟨r, o, none⟩ else some ⟨r, o + l * ei.size, none⟩) (u - l) (m - l)) w := by
  unfold Instr.sliceAt Instr.slice
  simp only [Sem.run_bind, run_underlying hu, Result.andThen_ok, h, run_sizeOf hi, Sem.run_pure, some_add]

theorem run_slice_any {t el : Nat} {ei : TypeInfo} (hu : P.underlying t = some (.slice el)) (hi : P.info? el = some ei) {b : Option Addr} {n cap l u m : Nat} {lo hi' mx : Option Value} {w : World}
    (h : (Instr.sliceBounds true n cap lo hi' mx).run P w = .ok (l, u, m) w) :
    ∃ b' cap', (Instr.sliceAt t (.slice b n cap) lo hi' mx).run P w = .ok (.slice b' (u - l) cap') w := by
  unfold Instr.sliceAt Instr.slice
  simp only [Sem.run_bind, run_underlying hu, Result.andThen_ok, h, run_sizeOf hi, Sem.run_pure]
  exact ⟨_, _, rfl⟩

theorem sl_empty {E : Env} {id base e sz n : Nat} {b : Option Addr} {cap : Nat} (hn : n = 0) : VRel E (.sl id base e sz n) (.slice b n cap) := by subst hn; exact .sl0 rfl

theorem sliceK_sound (hTy : TyOk P Ty) {H : Heap} {t : Nat} {x : AV} {lo hi mx : Option AV} {K : AV → Heap → Option R} {r : R} (h : sliceK Ty H t x lo hi mx K = some r) :
    ∃ v, K v H = some r ∧ ∀ E xv lov hiv mxv w, VRel E x xv → ORel E lo lov → ORel E hi hiv → ORel E mx mxv → HRel E H w → ∃ y, (Instr.sliceAt t xv lov hiv mxv).run P w = .ok y w ∧ VRel E v y := by
  unfold sliceK at h
  split at h
  · -- a string
    rename_i _ _ _ s hT
    obtain ⟨info, d, hi', hu, hd, _⟩ := hTy.ok _ _ hT
    have := str_of hd; subst this
    split at h
    · obtain ⟨l, u, hK, hlu, hul, hrun, _⟩ := sliceBnd_sound (P := P) h
      refine ⟨_, hK, fun E xv lov hiv mxv w hx hl hh hm hH => ?_⟩
      cases hx
      cases mxv <;> first | exact hm.elim | skip
      refine ⟨.string (s.extract l u), ?_, .s _⟩
      unfold Instr.sliceAt Instr.slice
      simp [run_underlying hu, hrun E lov hiv false s.size w hl hh (Nat.le_refl _)]
    · cases h
  · -- a whole row
    rename_i el _ _ _ id hT
    obtain ⟨info, d, hi', hu, hd, _⟩ := hTy.ok _ _ hT
    have := slice_of hd; subst this
    split at h
    · rename_i fam ro sh xs ei hg hTe
      obtain ⟨einfo, ed, hei, heu, hed, hesz, _⟩ := hTy.ok _ _ hTe
      obtain ⟨hsz, h⟩ := cond_some h
      have hsz := beq_eq hsz
      obtain ⟨l, u, hK, hlu, hul, hrun, _⟩ := sliceBnd_sound (P := P) h
      refine ⟨_, hK, fun E xv lov hiv mxv w hx hl hh hm hH => ?_⟩
      cases mxv <;> first | exact hm.elim | skip
      obtain ⟨ent, he, hB⟩ := hH.live _ _ hg
      obtain ⟨hn, hesz'⟩ := hB.fits
      cases hx with
      | sw h' hr hcap hc =>
        rename_i cap
        rw [he] at h'; cases h'
        have hr' := hrun E lov hiv true cap w hl hh (by rw [← hn]; exact hcap)
        rw [← hn] at hr'
        refine ⟨_, run_slice_some hu hei hr', ?_⟩
        · have := sl_rel (base := 0) (e := 0) (sz := sh.length) he hr hlu (m := cap) (by omega)
          rw [hesz, hsz]
          simpa using this
      | sw0 h' hn0 =>
        rw [he] at h'; cases h'
        have hx0 : xs.length = 0 := by omega
        have hr' := hrun E lov hiv true 0 w hl hh (by omega)
        rw [hx0] at hr'
        obtain ⟨b', cap', hrr⟩ := run_slice_any (b := none) hu hei hr'
        exact ⟨_, hrr, sl_empty (by omega)⟩
    · rename_i fam ro sh xs ei hi0 km m hg hTe
      obtain ⟨einfo, ed, hei, heu, hed, hesz, _⟩ := hTy.ok _ _ hTe
      obtain ⟨hsz, h⟩ := cond_some h
      obtain ⟨hm0, h⟩ := cond_some h
      obtain ⟨hm1, h⟩ := cond_some h
      have hsz := beq_eq hsz
      have hm0 := of_decide_eq_true hm0
      have hm1 := of_decide_eq_true hm1
      obtain ⟨l, u, hK, hlu, hul, _, hrun⟩ := sliceBnd_sound (P := P) h
      refine ⟨_, hK, fun E xv lov hiv mxv w hx hl hh hm hH => ?_⟩
      cases mxv with
      | none => exact hm.elim
      | some mv =>
        have := int_of hm; subst this
        obtain ⟨ent, he, hB⟩ := hH.live _ _ hg
        obtain ⟨hn, hesz'⟩ := hB.fits
        cases hx with
        | sw h' hr hcap hc =>
          rename_i cap
          rw [he] at h'; cases h'
          have hr' := hrun E lov hiv true ent.n cap km m w hl hh (by simp) rfl hm0 (by omega)
          refine ⟨_, run_slice_some hu hei hr', ?_⟩
          · have := sl_rel (base := 0) (e := 0) (sz := sh.length) he hr hlu (m := m.toNat) (by omega)
            rw [hesz, hsz]
            simpa using this
        | sw0 h' hn0 =>
          rw [he] at h'; cases h'
          have hr' := hrun E lov hiv true 0 0 km m w hl hh (by simp) rfl hm0 (by omega)
          obtain ⟨b', cap', hrr⟩ := run_slice_any (b := none) hu hei hr'
          exact ⟨_, hrr, sl_empty (by omega)⟩
    · cases h
  · -- a part of one
    rename_i el _ _ _ id base e sz n hT
    obtain ⟨info, d, hi', hu, hd, _⟩ := hTy.ok _ _ hT
    have := slice_of hd; subst this
    split at h
    · rename_i ei hTe
      obtain ⟨einfo, ed, hei, heu, hed, hesz, _⟩ := hTy.ok _ _ hTe
      obtain ⟨hsz, h⟩ := cond_some h
      have hsz := beq_eq hsz
      obtain ⟨l, u, hK, hlu, hul, hrun, _⟩ := sliceBnd_sound (P := P) h
      refine ⟨_, hK, fun E xv lov hiv mxv w hx hl hh hm hH => ?_⟩
      cases mxv <;> first | exact hm.elim | skip
      cases hx with
      | sl h' hr hcap =>
        rename_i cap
        have hr' := hrun E lov hiv true cap w hl hh hcap
        refine ⟨_, run_slice_some hu hei hr', ?_⟩
        · have := sl_rel (base := base) (e := e) (sz := sz) h' hr hlu (m := cap) (by omega)
          rw [hesz, hsz]
          simpa using this
      | sl0 hn =>
        rename_i cap b
        subst hn
        have hr' := hrun E lov hiv true cap w hl hh (Nat.zero_le _)
        obtain ⟨b', cap', hrr⟩ := run_slice_any (b := b) hu hei hr'
        exact ⟨_, hrr, sl_empty (by omega)⟩
    · cases h
  · -- an array's address
    rename_i n el _ _ _ id base e sz o hT
    obtain ⟨info, d, hi', hu, hd, _⟩ := hTy.ok _ _ hT
    have := arr_of hd; subst this
    split at h
    · rename_i ei hTe
      obtain ⟨einfo, ed, hei, heu, hed, hesz, _⟩ := hTy.ok _ _ hTe
      have fin : ∀ (l u m : Nat), l ≤ u → u ≤ m → (cond (Nat.beq sz 0) (K (.sl id (base + o) l ei.size (u - l)) H)
          (cond (Nat.beq (sz % ei.size) 0 && Nat.beq (o % ei.size) 0) (K (.sl id base (e * (sz / ei.size) + o / ei.size + l) ei.size (u - l)) H) none)) = some r →
          ∃ v, K v H = some r ∧ ∀ E ent rr, E id = some ent → ent.r = some rr →
            VRel E v (.slice (some (if m = l then (⟨rr, ent.off + (base + e * sz + o), none⟩ : Addr) else (⟨rr, ent.off + (base + e * sz + o), none⟩ : Addr).add (l * einfo.size))) (u - l) (m - l)) := by
        intro l u m hlu hum h
        rcases bool_cases h with ⟨hs, h⟩ | ⟨_, h⟩
        · have := beq_eq hs; subst this
          refine ⟨_, h, fun E ent rr he hr => ?_⟩
          have := sl_rel (base := base + o) (e := 0) (sz := ei.size) he hr hlu hum
          rw [hesz, addr_add]
          simp only [Nat.mul_zero, Nat.add_zero, Nat.zero_mul, Nat.zero_add] at this ⊢
          split at this <;> rename_i hc
          · rw [if_pos hc]; exact this
          · rw [if_neg hc]; exact this
        · obtain ⟨hm, h⟩ := cond_some h
          rw [Bool.and_eq_true] at hm
          have m1 := div_mul_self hm.1
          have m2 := div_mul_self hm.2
          refine ⟨_, h, fun E ent rr he hr => ?_⟩
          have := sl_rel (base := base) (e := e * (sz / ei.size) + o / ei.size) (sz := ei.size) he hr hlu hum
          rw [Nat.add_mul, Nat.mul_assoc, m1, m2, ← Nat.add_assoc base] at this
          rw [hesz, addr_add]
          split at this <;> rename_i hc
          · rw [if_pos hc]; exact this
          · rw [if_neg hc]; exact this
      split at h
      · obtain ⟨l, u, hK, hlu, hul, hrun, _⟩ := sliceBnd_sound (P := P) h
        obtain ⟨v, hv, hrel⟩ := fin l u n hlu hul hK
        refine ⟨v, hv, fun E xv lov hiv mxv w hx hl hh hm hH => ?_⟩
        cases mxv <;> first | exact hm.elim | skip
        cases hx with
        | ptr h' hr =>
          refine ⟨_, ?_, hrel E _ _ h' hr⟩
          unfold Instr.sliceAt
          simp [run_underlying hu, Instr.sureAddr, hrun E lov hiv false n w hl hh (Nat.le_refl _), run_sizeOf hei]
      · rename_i km m hi0
        obtain ⟨hm0, h⟩ := cond_some h
        obtain ⟨hm1, h⟩ := cond_some h
        have hm0 := of_decide_eq_true hm0
        have hm1 := of_decide_eq_true hm1
        obtain ⟨l, u, hK, hlu, hul, _, hrun⟩ := sliceBnd_sound (P := P) h
        obtain ⟨v, hv, hrel⟩ := fin l u m.toNat hlu hul hK
        refine ⟨v, hv, fun E xv lov hiv mxv w hx hl hh hm hH => ?_⟩
        cases mxv with
        | none => exact hm.elim
        | some mv =>
          have := int_of hm; subst this
          cases hx with
          | ptr h' hr =>
            refine ⟨_, ?_, hrel E _ _ h' hr⟩
            unfold Instr.sliceAt
            simp [run_underlying hu, Instr.sureAddr, hrun E lov hiv false n n km m w hl hh (by simp) rfl hm0 hm1, run_sizeOf hei]
      · cases h
    · cases h
  · cases h

end
end Go.Ab

/- Rows that are made, appended to, turned into texts and back. Conditions: none. -/
namespace Go.Ab
set_option linter.unusedVariables false
set_option linter.unusedSimpArgs false
open Go

section
variable {P : Program} {Ty : Types} {R : Type}

/-! ### What a slice shows -/

structure Shows (E : Env) (P : Program) (sh : List SK) (ys : List (Tup sh)) (xv : Value) (w : World) : Prop where
  len : (Builtin.lenOf xv).run P w = .ok ys.length w
  cells : ∃ arr : Array Value, (Builtin.firstCells sh.length ys.length xv).run P w = .ok arr w ∧ VRelL E (flatRow sh ys) arr.toList
  kind : xv = .slice none 0 0 ∨ (∃ r o n cap, xv = .slice (some ⟨r, o, none⟩) n cap) ∨ (∃ s, xv = .string s) ∨ ∃ b cap, xv = .slice b 0 cap

theorem strInts_rel (E : Env) (s : ByteArray) : VRelL E (flatRow [.i .u8] (strInts s)) (s.data.map fun b => Value.int .u8 b.toNat).toList := by
  unfold strInts
  rw [Array.toList_map]
  generalize s.data.toList = l
  induction l with
  | nil => exact .nil
  | cons b l ih => exact .cons (.i _ _) ih

theorem uns_flat (sh : List SK) : ∀ (n : Nat) (cs : List AV) (ys : List (Tup sh)), Tup.uns sh n cs = some ys → flatRow sh ys = cs
  | _, [], ys, h => by
    unfold Tup.uns at h
    cases h; rfl
  | 0, c :: cs, ys, h => by simp [Tup.uns] at h
  | n + 1, c :: cs, ys, h => by
    simp only [Tup.uns] at h
    cases h1 : Tup.un sh ((c :: cs).take sh.length) with
    | none => rw [h1] at h; cases h
    | some x =>
      rw [h1, Option.bind_some] at h
      cases h2 : Tup.uns sh n ((c :: cs).drop sh.length) with
      | none => rw [h2] at h; cases h
      | some r =>
        rw [h2, Option.bind_some] at h; cases h
        have := uns_flat sh n _ _ h2
        unfold flatRow at *
        rw [List.flatMap_cons, this, Tup.un_all h1, List.take_append_drop]

theorem seg_flatRow (sh : List SK) (xs : List (Tup sh)) (e n : Nat) : seg (flatRow sh xs) (e * sh.length) (n * sh.length) = flatRow sh ((xs.drop e).take n) := by
  have h1 : ∀ (e : Nat) (xs : List (Tup sh)), (flatRow sh xs).drop (e * sh.length) = flatRow sh (xs.drop e) := by
    intro e
    induction e with
    | zero => intro xs; simp
    | succ e ih =>
      intro xs
      cases xs with
      | nil => simp [flatRow]
      | cons x xs =>
        have : flatRow sh (x :: xs) = Tup.all sh x ++ flatRow sh xs := by simp [flatRow]
        rw [this, List.drop_succ_cons, Nat.succ_mul, Nat.add_comm, ← List.drop_drop, ← Tup.all_length sh x, List.drop_left, Tup.all_length, ih]
  have h2 : ∀ (n : Nat) (xs : List (Tup sh)), (flatRow sh xs).take (n * sh.length) = flatRow sh (xs.take n) := by
    intro n
    induction n with
    | zero => intro xs; simp [flatRow]
    | succ n ih =>
      intro xs
      cases xs with
      | nil => simp [flatRow]
      | cons x xs =>
        have h3 : ∀ ys : List (Tup sh), flatRow sh (x :: ys) = Tup.all sh x ++ flatRow sh ys := fun ys => by simp [flatRow]
        rw [h3, List.take_succ_cons, h3, Nat.succ_mul, Nat.add_comm, List.take_append, Tup.all_length, Nat.add_sub_cancel_left, ih, List.take_of_length_le (by rw [Tup.all_length]; omega)]
  unfold seg
  rw [h1, h2]

theorem run_first_some {r o n cap m size : Nat} {lst : List Value} {w : World} (hl : lst.length = m * size) (h : ∀ j v, lst[j]? = some v → w.cell? ⟨r, o + j, none⟩ = some v) :
    (Builtin.firstCells size m (.slice (some ⟨r, o, none⟩) n cap)).run P w = .ok lst.toArray w := by
  have := run_loadCells_list (P := P) w ⟨r, o, none⟩ lst (fun j v hj => by rw [addr_add]; exact h j v hj)
  rw [hl] at this
  simpa [Builtin.firstCells] using this

theorem run_first_none {b : Option Addr} {cap size : Nat} {w : World} : (Builtin.firstCells size 0 (.slice b 0 cap)).run P w = .ok #[] w := by
  cases b <;> simp [Builtin.firstCells, loadCells, loadCellsFrom]

theorem flatRow_nil (sh : List SK) : flatRow sh [] = [] := rfl

theorem shows_lies {E : Env} {ent : Ent} {ro : Bool} {b : Blk} {r : Nat} {w : World} (hL : Lies E ent ro b r w) {sh : List SK} {ys : List (Tup sh)} {f cap : Nat}
    (hseg : seg b.flat f (ys.length * sh.length) = flatRow sh ys) (hle : f + ys.length * sh.length ≤ b.flat.length) :
    Shows E P sh ys (.slice (some ⟨r, ent.off + f, none⟩) ys.length cap) w := by
  obtain ⟨lst, hll, hrel, hc⟩ := hL.at hle
  refine ⟨by simp [Builtin.lenOf], ⟨_, run_first_some (P := P) (size := sh.length) (m := ys.length) (n := ys.length) (cap := cap) hll hc, ?_⟩, .inr (.inl ⟨_, _, _, _, rfl⟩)⟩
  rw [← hseg]; exact hrel

theorem shownK_sound {H : Heap} {sh : List SK} {x : AV} {K : List (Tup sh) → Option R} {r : R} (h : shownK H sh x K = some r) :
    ∃ ys, K ys = some r ∧ ∀ E xv w, VRel E x xv → HRel E H w → Shows E P sh ys xv w := by
  unfold shownK at h
  split at h
  · refine ⟨[], h, fun E xv w hx hH => ?_⟩
    cases hx
    exact ⟨rfl, ⟨#[], run_first_none, .nil⟩, .inl rfl⟩
  · rename_i id
    split at h
    · rename_i fam ro sh' xs hg
      split at h
      · rename_i hsh; subst hsh
        refine ⟨xs, h, fun E xv w hx hH => ?_⟩
        obtain ⟨ent, he, hB⟩ := hH.live _ _ hg
        obtain ⟨hn, hsz⟩ := hB.fits
        cases hx with
        | sw h' hr hcap hc =>
          rw [he] at h'; cases h'
          rw [hn]
          have hfl : (Blk.row sh' xs).flat.length = xs.length * sh'.length := flatRow_length sh' xs
          rename_i cap
          have := shows_lies (P := P) (cap := cap) (hB.lies _ hr) (ys := xs) (f := 0) (by
            unfold seg; rw [List.drop_zero]; show (flatRow sh' xs).take _ = _; rw [← flatRow_length, List.take_length]) (by rw [hfl]; omega)
          simpa using this
        | sw0 h' hn0 =>
          rw [he] at h'; cases h'
          have : xs = [] := List.length_eq_zero_iff.1 (by omega)
          subst this
          exact ⟨rfl, ⟨#[], run_first_none, .nil⟩, .inl rfl⟩
      · cases h
    · cases h
  · rename_i id base e sz n
    split at h
    · rename_i fam ro sh' xs hg
      split at h
      · rename_i hsh; subst hsh
        obtain ⟨hc, h2⟩ := cond_some h
        obtain ⟨hle, h3⟩ := cond_some h2
        clear h h2
        rw [Bool.and_eq_true] at hc
        have hb := beq_eq hc.1; have hs := beq_eq hc.2; subst hb; subst hs
        have hle := of_decide_eq_true hle
        refine ⟨_, h3, fun E xv w hx hH => ?_⟩
        have hlen : ((xs.drop e).take n).length = n := by simp; omega
        obtain ⟨ent, he, hB⟩ := hH.live _ _ hg
        cases hx with
        | sl h' hr hn =>
          rw [he] at h'; cases h'
          have hfl : (Blk.row sh' xs).flat.length = xs.length * sh'.length := flatRow_length sh' xs
          rename_i cap
          have := shows_lies (P := P) (cap := cap) (hB.lies _ hr) (ys := (xs.drop e).take n) (f := e * sh'.length) (by rw [hlen]; exact seg_flatRow sh' xs e n) (by
            rw [hfl, hlen, ← Nat.add_mul]; exact Nat.mul_le_mul_right _ hle)
          rw [hlen] at this
          simpa using this
        | sl0 hn =>
          subst hn
          simp only [List.take_zero]
          exact ⟨rfl, ⟨#[], run_first_none, .nil⟩, .inr (.inr (.inr ⟨_, _, rfl⟩))⟩
      · cases h
    · rename_i fam ro cs hg
      obtain ⟨hc, h⟩ := cond_some h
      rw [Bool.and_eq_true] at hc
      have hs := beq_eq hc.1; subst hs
      have hle : base + e * sh.length + n * sh.length ≤ cs.length := by simpa using hc.2
      split at h
      · rename_i ys hys
        obtain ⟨hl, h3⟩ := cond_some h
        clear h
        have hl := beq_eq hl; subst hl
        refine ⟨ys, h3, fun E xv w hx hH => ?_⟩
        obtain ⟨ent, he, hB⟩ := hH.live _ _ hg
        have hfl := uns_flat sh _ _ _ hys
        cases hx with
        | sl h' hr hn =>
          rw [he] at h'; cases h'
          exact shows_lies (P := P) (hB.lies _ hr) (f := base + e * sh.length) hfl.symm hle
        | sl0 hn =>
          have : ys = [] := List.length_eq_zero_iff.1 hn
          subst this
          exact ⟨rfl, ⟨#[], run_first_none, .nil⟩, .inr (.inr (.inr ⟨_, _, rfl⟩))⟩
      · cases h
    · cases h
  · rename_i s
    split at h
    · rename_i hsh; subst hsh
      refine ⟨_, h, fun E xv w hx hH => ?_⟩
      cases hx
      have hlen : (strInts s).length = s.size := by unfold strInts; rw [List.length_map, Array.length_toList]; rfl
      refine ⟨?_, ⟨(s.data.map fun b => Value.int .u8 b.toNat), ?_, strInts_rel E s⟩, .inr (.inr (.inl ⟨s, rfl⟩))⟩
      · simp only [hlen]; rfl
      · have : s.extract 0 s.size = s := ByteArray.extract_zero_size
        simp only [hlen]
        simp [Builtin.firstCells, this]
    · cases h
  · cases h

/-! ### make -/

theorem wrap_id {x : Int} (h0 : 0 ≤ x) (h1 : x < 9223372036854775808) : IntKind.i64.wrap x = x := by
  unfold IntKind.wrap
  simp only [IntKind.bits, IntKind.signed]
  have e1 : (2 ^ 64 : Int) = 18446744073709551616 := by decide
  have e2 : (2 ^ (64 - 1) : Int) = 9223372036854775808 := by decide
  simp only [e1, e2]
  have : x % 18446744073709551616 = x := Int.emod_eq_of_lt h0 (by omega)
  rw [this]
  simp; omega

theorem replicate_get (sh : List SK) (z : Tup sh) : ∀ (n j : Nat), j < n * sh.length → (flatRow sh (List.replicate n z))[j]? = (Tup.all sh z)[j % sh.length]?
  | 0, j, h => by simp at h
  | n + 1, j, h => by
    have h1 : flatRow sh (List.replicate (n + 1) z) = Tup.all sh z ++ flatRow sh (List.replicate n z) := by simp [List.replicate_succ, flatRow]
    rw [h1]
    have hl := Tup.all_length sh z
    by_cases hj : j < sh.length
    · rw [List.getElem?_append_left (by omega), Nat.mod_eq_of_lt hj]
    · have h3 : j - sh.length < n * sh.length := by
        have := Nat.add_mul n 1 sh.length
        rw [this] at h; omega
      have h4 : j % sh.length = (j - sh.length) % sh.length := Nat.mod_eq_sub_mod (by omega)
      rw [List.getElem?_append_right (by omega), hl, replicate_get sh z n _ h3, h4]

/-- A new row of at least what is shown. -/
theorem row_new {E : Env} {H : Heap} {w : World} (hH : HRel E H w) {sh : List SK} {xs : List (Tup sh)} {cs : Array Value} {t : TypeId} {fz : Nat × Nat} {ro : Bool} {cap : Nat}
    (hcap : xs.length ≤ cap) (hsz : cs.size = cap * sh.length) (hro : ro = false → fz = (0, 0)) (hv : ∀ (j : Nat) (v : AV), (flatRow sh xs)[j]? = some v → ∃ x, cs[j]? = some x ∧ VRel E v x) :
    ∃ E', VRel E' (.sw H.next) (.slice (some ⟨w.heap.size, 0, none⟩) xs.length cap) ∧ HRel E' ⟨H.next + 1, (H.next, some ⟨H.next, ro, .row sh xs⟩) :: H.bs⟩ (w.alloc (.cells cs t fz)) ∧
      Ext E E' ∧ Fr E H w E' ⟨H.next + 1, (H.next, some ⟨H.next, ro, .row sh xs⟩) :: H.bs⟩ (w.alloc (.cells cs t fz)) := by
  obtain ⟨k1, k2, k3⟩ := HRel.add (t := t) (fz := fz) (ro := ro) (fam := H.next) hH (blk := .row sh xs) (ent := ⟨some w.heap.size, 0, cs.size, xs.length, sh.length⟩) (cs := cs) rfl ⟨rfl, rfl⟩ rfl rfl rfl (by
    show (flatRow sh xs).length ≤ _
    rw [flatRow_length, hsz]; exact Nat.mul_le_mul_right _ hcap) hro hv
  refine ⟨_, ?_, k1, k2, k3⟩
  exact VRel.sw (E := envAdd E H.next ⟨some w.heap.size, 0, cs.size, xs.length, sh.length⟩) (id := H.next) (ent := ⟨some w.heap.size, 0, cs.size, xs.length, sh.length⟩) (r := w.heap.size) (cap := cap)
    (by simp [envAdd]) rfl hcap (by simp [hsz])

theorem run_newRow (e : TypeId) (cs : Array Value) (w : World) : (newRow e cs).run P w = .ok ⟨w.heap.size, 0, none⟩ (w.alloc (.cells cs e (0, 0))) := rfl

theorem makeSliceK_sound (hTy : TyOk P Ty) {H : Heap} {t : Nat} {l c : AV} {K : AV → Heap → Option R} {r : R} (h : makeSliceK Ty H t l c K = some r) :
    ∃ v H', K v H' = some r ∧ ∀ E lv cv w, VRel E l lv → VRel E c cv → HRel E H w → ∃ x w' E', (Instr.makeSlice t lv cv).run P w = .ok x w' ∧ VRel E' v x ∧ HRel E' H' w' ∧ Ext E E' ∧ Fr E H w E' H' w' := by
  unfold makeSliceK at h
  split at h
  · rename_i el _ _ _ lk l ck c hT
    obtain ⟨info, d, hi', hu, hd, _⟩ := hTy.ok _ _ hT
    have := slice_of hd; subst this
    split at h
    · rename_i ei sh hTe hsh
      obtain ⟨einfo, ed, hei, heu, hed, hesz, hby, z0, hz0, hzr⟩ := hTy.ok _ _ hTe
      split at h
      · rename_i z hz
        obtain ⟨hk, h⟩ := cond_some h
        obtain ⟨h0, h⟩ := cond_some h
        obtain ⟨h1, h⟩ := cond_some h
        obtain ⟨h2, h⟩ := cond_some h
        simp only [Bool.and_eq_true] at hk
        have hb0 : 0 < ei.bytes := by simpa using hk.1.1
        have hes := beq_eq hk.1.2
        have hs0 : 0 < sh.length := by simpa using hk.2
        have h0 := of_decide_eq_true h0
        have h1 := of_decide_eq_true h1
        have h2 := of_decide_eq_true h2
        refine ⟨_, _, h, fun E lv cv w hl hc hH => ?_⟩
        have := int_of hl; subst this
        have := int_of hc; subst this
        have hcb : c ≤ 140737488355328 := by
          have : c * 1 ≤ c * (ei.bytes : Int) := Int.mul_le_mul_of_nonneg_left (by omega) (by omega)
          omega
        cases hzc : ei.zero.cells with
        | none => rw [hzc] at hz; cases hz
        | some zc =>
          rw [hzc, Option.bind_some] at hz
          have hzall := Tup.un_all hz
          have hzcells := (hzr E).cells hzc
          have hzl : z0.cells.size = sh.length := by
            have := hzcells.length
            rw [← hzall, Tup.all_length] at this
            simpa using this.symm
          have hw1 : IntKind.i64.wrap l = l := wrap_id h0 (by omega)
          have hw2 : IntKind.i64.wrap c = c := wrap_id (by omega) (by omega)
          have hnl : ¬ (c < 0) := by omega
          have hnb : ¬ ((einfo.bytes : Int) * c > 2 ^ 48) := by
            rw [hby, Int.mul_comm]
            have : (2 ^ 48 : Int) = 281474976710656 := by decide
            rw [this]; omega
          have hnb2 : ¬ (281474976710656 < (einfo.bytes : Int) * c) := by
            rw [hby, Int.mul_comm]; omega
          have hlc : ¬ (l < 0) := by omega
          have hlc2 : ¬ (l > c) := by omega
          have hrun : (Instr.makeSlice t (.int lk l) (.int ck c)).run P w = .ok (.slice (some ⟨w.heap.size, 0, none⟩) l.toNat c.toNat)
              (w.alloc (.cells ((Array.range (c.toNat * einfo.size)).map ((if c.toNat * einfo.size = 0 then #[] else z0.cells)[· % (if c.toNat * einfo.size = 0 then #[] else z0.cells).size]!)) el (0, 0))) := by
            unfold Instr.makeSlice
            by_cases hz : c.toNat * einfo.size = 0
            · simp [run_underlying hu, asInt, asIntOf, run_typeInfo hei, hw1, hw2, hnl, hnb2, hlc, hlc2, run_sizeOf hei, run_newRow, hz]
            · simp [run_underlying hu, asInt, asIntOf, run_typeInfo hei, hw1, hw2, hnl, hnb2, hlc, hlc2, run_sizeOf hei, run_newRow, hz, run_zeroValue hei hz0]
          obtain ⟨E', k1, k2, k3, k4⟩ := row_new (t := el) (fz := (0, 0)) (ro := false) hH (sh := sh) (xs := List.replicate l.toNat z) (cap := c.toNat)
            (cs := (Array.range (c.toNat * einfo.size)).map ((if c.toNat * einfo.size = 0 then #[] else z0.cells)[· % (if c.toNat * einfo.size = 0 then #[] else z0.cells).size]!))
            (by simp; omega) (by simp [hesz, hes]) (fun _ => rfl) (fun j v hj => by
              have hjl : j < l.toNat * sh.length := by
                have := (List.getElem?_eq_some_iff.1 hj).1
                rw [flatRow_length] at this; simpa using this
              rw [replicate_get sh z _ _ hjl, hzall] at hj
              obtain ⟨x, hx, hr⟩ := hzcells.arr hj
              have hjc : j < c.toNat * einfo.size := by
                rw [hesz, hes]
                exact Nat.lt_of_lt_of_le hjl (Nat.mul_le_mul_right _ (by omega))
              refine ⟨x, ?_, hr⟩
              rw [if_neg (by omega)]
              rw [← hzl] at hx
              simp only [Array.getElem?_map, Array.getElem?_range, hjc, if_true, Option.map_some]
              rw [getElem!_pos _ _ (by rw [hzl]; exact Nat.mod_lt _ hs0)]
              rw [← hx]
              rw [Array.getElem?_eq_getElem (by rw [hzl]; exact Nat.mod_lt _ hs0)])
          refine ⟨_, _, E', hrun, ?_, k2, k3, k4⟩
          simpa using k1
      · cases h
    · cases h
  · cases h

/-! ### append -/

theorem Fr.drew {E : Env} {H : Heap} {w : World} (h : HRel E H w) : HRel E H w.drew ∧ Fr E H w E H w.drew :=
  ⟨⟨h.dom, fun id hb hg => by
      obtain ⟨ent, he, hB⟩ := h.live id hb hg
      exact ⟨ent, he, ⟨hB.cells, hB.fits, hB.void, fun r hr => (hB.lies r hr).same rfl rfl ⟨rfl, fun _ _ h => h⟩ fun _ _ _ hj hv => hv _ hj⟩⟩, h.fam, h.full⟩,
    ⟨rfl, rfl, rfl, Nat.le_refl _, fun _ _ _ => rfl, fun _ h _ => h⟩⟩

theorem HRel.weaken {E : Env} {H H' : Heap} {w : World} (h : HRel E H w) (hn : H'.next = H.next) (hg : ∀ id hb, H'.get id = some hb → H.get id = some hb) :
    HRel E H' w ∧ Fr E H w E H' w :=
  ⟨⟨fun id hid => h.dom id (by rw [← hn]; exact hid), fun id hb hj => h.live id hb (hg id hb hj), fun i j hi hj ei ej r h1 h2 => h.fam i j hi hj ei ej r (hg _ _ h1) (hg _ _ h2), fun id hid => h.full id (by rw [← hn]; exact hid)⟩,
    ⟨rfl, rfl, rfl, Nat.le_refl _, fun _ _ _ => rfl, fun b ⟨id, hb, ent, h1, h2, h3⟩ _ => ⟨id, hb, ent, hg _ _ h1, h2, h3⟩⟩⟩

/-- An empty row that lies nowhere. -/
theorem HRel.voidRow {E : Env} {H : Heap} {w : World} (hH : HRel E H w) (sh : List SK) (fam : Nat) :
    HRel (envAdd E H.next ⟨none, 0, 0, 0, sh.length⟩) ⟨H.next + 1, (H.next, some ⟨fam, false, .row sh []⟩) :: H.bs⟩ w ∧ Ext E (envAdd E H.next ⟨none, 0, 0, 0, sh.length⟩) ∧
      Fr E H w (envAdd E H.next ⟨none, 0, 0, 0, sh.length⟩) ⟨H.next + 1, (H.next, some ⟨fam, false, .row sh []⟩) :: H.bs⟩ w := by
  have hext : Ext E (envAdd E H.next ⟨none, 0, 0, 0, sh.length⟩) := by
    intro i e hi
    have : i ≠ H.next := fun hh => by rw [hh, hH.dom _ (Nat.le_refl _)] at hi; cases hi
    simp [envAdd, this, hi]
  have hget : ∀ j, (⟨H.next + 1, (H.next, some ⟨fam, false, .row sh []⟩) :: H.bs⟩ : Heap).get j = if H.next = j then some ⟨fam, false, .row sh []⟩ else H.get j := fun j => look_cons _ _ _ _
  refine ⟨⟨fun i hi => ?_, fun i g hi => ?_, ?_, fun i hi => (by
    by_cases hn : i = H.next
    · exact ⟨_, by simp [envAdd, hn]; rfl⟩
    · obtain ⟨e, he⟩ := hH.full i (by simp at hi; omega)
      exact ⟨e, hext _ _ he⟩)⟩, hext, ⟨rfl, rfl, rfl, Nat.le_refl _, fun _ _ _ => rfl, ?_⟩⟩
  · simp only [envAdd]
    rw [if_neg (by simp at hi; omega)]
    exact hH.dom i (by simp at hi; omega)
  · rw [hget] at hi
    by_cases hj : H.next = i
    · subst hj
      rw [if_pos rfl] at hi; cases hi
      exact ⟨⟨none, 0, 0, 0, sh.length⟩, by simp [envAdd], ⟨rfl, ⟨rfl, rfl⟩, fun _ => trivial, fun r' h' => by cases h'⟩⟩
    · rw [if_neg hj] at hi
      obtain ⟨e, he', hB⟩ := hH.live i g hi
      exact ⟨e, hext _ _ he', ⟨hB.cells, hB.fits, hB.void, fun r' hr'' => (hB.lies r' hr'').same rfl rfl ⟨rfl, fun _ _ h => h⟩ fun j v' x hj hv => (hv v' hj).mono hext⟩⟩
  · intro i j hi hj ei' ej rr hgi hgj hei' hej hri hrj
    rw [hget] at hgi hgj
    simp only [envAdd] at hei' hej
    by_cases h1 : H.next = i
    · subst h1; rw [if_pos rfl] at hei'; cases hei'; cases hri
    · rw [if_neg h1] at hgi; rw [if_neg (Ne.symm h1)] at hei'
      by_cases h2 : H.next = j
      · subst h2; rw [if_pos rfl] at hej; cases hej; cases hrj
      · rw [if_neg h2] at hgj; rw [if_neg (Ne.symm h2)] at hej
        exact hH.fam i j hi hj ei' ej rr hgi hgj hei' hej hri hrj
  · rintro b ⟨i, g, e, hgi, hei', hri⟩ _
    rw [hget] at hgi
    by_cases hj : H.next = i
    · subst hj; simp only [envAdd, if_true] at hei'; cases hei'; cases hri
    · rw [if_neg hj] at hgi
      simp only [envAdd] at hei'
      rw [if_neg (Ne.symm hj)] at hei'
      exact ⟨i, g, e, hgi, hei', hri⟩

theorem Shows.mono {E E' : Env} {sh : List SK} {ys : List (Tup sh)} {xv : Value} {w : World} (h : Shows E P sh ys xv w) (hE : Ext E E') : Shows E' P sh ys xv w :=
  ⟨h.len, let ⟨arr, h1, h2⟩ := h.cells; ⟨arr, h1, h2.mono hE⟩, h.kind⟩

theorem flatRow_append (sh : List SK) (xs ys : List (Tup sh)) : flatRow sh (xs ++ ys) = flatRow sh xs ++ flatRow sh ys := by simp [flatRow]

/-- The operator where there is room. -/
theorem append_room {t xt el : Nat} {ei : TypeInfo} {xd : TypeDesc} (hu : P.underlying t = some (.slice el)) (hi : P.info? el = some ei) (hx : P.underlying xt = some xd) (hxd : (∃ e, xd = .slice e) ∨ xd = .string) {base : Option Addr} {n cap m : Nat} {xv : Value}
    {arr : Array Value} {w : World} (hl : (Builtin.lenOf xv).run P w = .ok m w) (hc : (Builtin.firstCells ei.size m xv).run P w = .ok arr w) (hroom : n + m ≤ cap) (ty : TypeId) :
    (Builtin.append_ #[t, xt] ty #[.slice base n cap, xv]).run P w =
      ((match base with | some a => storeCells (a.add (n * ei.size)) arr.toList | none => Pure.pure ()) >>= fun _ => (Pure.pure (.slice base (n + m) cap) : Sem Value)).run P w := by
  unfold Builtin.append_
  rcases hxd with ⟨e, rfl⟩ | rfl
  all_goals
    simp only [List.getElem?_toArray, List.getElem?_cons_zero, List.getElem?_cons_succ, Sem.run_bind, run_underlying hu, Result.andThen_ok, run_sizeOf hi, run_underlying hx, Sem.run_pure]
    cases base <;> simp [hl, hc, hroom]

theorem append_grow {t xt el : Nat} {ei : TypeInfo} {xd : TypeDesc} {z : Value} (hu : P.underlying t = some (.slice el)) (hi : P.info? el = some ei) (hzv : ei.zero = some z) (hx : P.underlying xt = some xd) (hxd : (∃ e, xd = .slice e) ∨ xd = .string)
    {base : Option Addr} {n cap m : Nat} {xv : Value} {old arr : Array Value} {w : World} (hl : (Builtin.lenOf xv).run P w = .ok m w)
    (hc : (Builtin.firstCells ei.size m xv).run P w.drew = .ok arr w.drew) (ho : (Builtin.firstCells ei.size n (.slice base n cap)).run P w.drew = .ok old w.drew)
    (hroom : ¬ n + m ≤ cap) (hb : 0 < ei.bytes) (hlim : (n + m) * ei.bytes ≤ 70368744177664) (ty : TypeId) :
    ∃ nc, n + m ≤ nc ∧ (Builtin.append_ #[t, xt] ty #[.slice base n cap, xv]).run P w =
      .ok (.slice (some ⟨w.heap.size, 0, none⟩) (n + m) nc) (w.drew.alloc (.cells (old ++ arr ++ Builtin.zeroCells z.cells (nc - (n + m))) el (0, 0))) := by
  refine ⟨(n + m) + w.tape w.drawn (.appendCap (n + m) cap el) % (2 ^ 63 - (n + m)), Nat.le_add_right _ _, ?_⟩
  have hcapsz : ¬ (Builtin.nextslicecap (n + m) cap * ei.bytes > 2 ^ 48) := by
    have h48 : (2 : Nat) ^ 48 = 281474976710656 := by decide
    rw [h48]
    have hn : Builtin.nextslicecap (n + m) cap ≤ 4 * (n + m) := by
      have hg : ∀ k c, Builtin.growBy (n + m) k c ≤ Nat.max (2 * c + 400) (2 * (n + m) + 400) ∨ True := fun _ _ => .inr trivial
      unfold Builtin.nextslicecap
      split
      · omega
      · split
        · omega
        · have key : ∀ k c, c ≤ 4 * (n + m) → 256 ≤ n + m → Builtin.growBy (n + m) k c ≤ 4 * (n + m) := by
            intro k
            induction k with
            | zero => intro c h _; exact h
            | succ k ih =>
              intro c h h2
              simp only [Builtin.growBy]
              split
              · exact h
              · exact ih _ (by omega) h2
          exact key 4 cap (by omega) (by omega)
    have := Nat.mul_le_mul_right ei.bytes hn
    have h3 : 4 * (n + m) * ei.bytes = 4 * ((n + m) * ei.bytes) := by rw [Nat.mul_assoc]
    omega
  have hnb : ei.bytes ≠ 0 := by omega
  have h48 : ¬ (281474976710656 < Builtin.nextslicecap (n + m) cap * ei.bytes) := by
    have h48 : (2 : Nat) ^ 48 = 281474976710656 := by decide
    rw [h48] at hcapsz; exact hcapsz
  unfold Builtin.append_
  rcases hxd with ⟨e, rfl⟩ | rfl
  all_goals
    simp only [List.getElem?_toArray, List.getElem?_cons_zero, List.getElem?_cons_succ, Sem.run_bind, run_underlying hu, Result.andThen_ok, run_sizeOf hi, run_underlying hx, Sem.run_pure]
    simp [hl, hroom, run_typeInfo hi, hnb, h48, run_choose, Question.forced, World.drew_eq, hc, ho, run_zeroValue hi hzv, run_newRow, Question.cut]

theorem look_killed2 {H : Heap} {id : Nat} {hb : HB} {fam but j : Nat} {g : HB} (h : (⟨H.next + 1, (id, some hb) :: (killFam fam but H.bs ++ H.bs)⟩ : Heap).get j = some g) :
    (j = id ∧ g = hb) ∨ (j ≠ id ∧ H.get j = some g ∧ (g.fam ≠ fam ∨ j = but)) := get_killed h

theorem kind_some {d : TypeDesc} {td : TD} (hd : tdOf d = some td) (h : td.rowLike = true) : (∃ e, d = .slice e) ∨ d = .string := by
  unfold TD.rowLike at h
  split at h
  · exact .inl ⟨_, slice_of hd⟩
  · exact .inr (str_of hd)
  · cases h

theorem appendK_sound (hTy : TyOk P Ty) {H : Heap} {t xt : Nat} {s x : AV} {K : AV → Heap → Option R} {r : R} (h : appendK Ty H t xt s x K = some r) :
    ∃ v H', K v H' = some r ∧ ∀ E sv xv w (ty : TypeId), VRel E s sv → VRel E x xv → HRel E H w →
      ∃ y w' E', (Builtin.append_ #[t, xt] ty #[sv, xv]).run P w = .ok y w' ∧ VRel E' v y ∧ HRel E' H' w' ∧ Ext E E' ∧ Fr E H w E' H' w' := by
  unfold appendK at h
  split at h
  · rename_i el _ _ _ xi hT hTx
    have hkind := (cond_some h).1
    replace h := (cond_some h).2
    obtain ⟨info, d, hi', hu, hd, _⟩ := hTy.ok _ _ hT
    have := slice_of hd; subst this
    obtain ⟨xinfo, xd, hxi, hxu, hxd, _⟩ := hTy.ok _ _ hTx
    have hnk := kind_some hxd hkind
    split at h
    · rename_i ei sh hTe hsh
      have hc := (cond_some h).1
      replace h := (cond_some h).2
      simp only [Bool.and_eq_true] at hc
      have hb0 : 0 < ei.bytes := by simpa using hc.1.1
      have hes := beq_eq hc.1.2
      have hzl := hc.2
      obtain ⟨einfo, ed, hei, heu, hed, hesz, hby, z0, hz0, hzr⟩ := hTy.ok _ _ hTe
      obtain ⟨ys, h', hshow⟩ := shownK_sound (P := P) h
      clear h
      have h := h'
      clear h'
      have hsl : einfo.size = sh.length := hesz.trans hes
      -- growing: a new block
      have grow : ∀ (E : Env) (xs : List (Tup sh)) (base : Option Addr) (cap : Nat) (old : Array Value) (xv : Value) (w : World) (ty : TypeId) (Hn : Heap) (fam : Nat), HRel E H w → VRel E x xv →
          (Builtin.firstCells sh.length xs.length (.slice base xs.length cap)).run P w.drew = .ok old w.drew → VRelL E (flatRow sh xs) old.toList → ¬ xs.length + ys.length ≤ cap →
          (xs.length + ys.length) * ei.bytes ≤ 70368744177664 →
          (Hn.next = H.next + 1) → (∀ j g, Hn.get j = some g → (⟨H.next + 1, (H.next, some ⟨fam, false, .row sh (xs ++ ys)⟩) :: H.bs⟩ : Heap).get j = some g) →
          ∃ y w' E', (Builtin.append_ #[t, xt] ty #[.slice base xs.length cap, xv]).run P w = .ok y w' ∧ VRel E' (.sw H.next) y ∧
            HRel E' Hn w' ∧ Ext E E' ∧ Fr E H w E' Hn w' := by
        intro E xs base cap old xv w ty Hn fam hH hx hold hoR hroom hlim hnext hHn
        obtain ⟨hHd, hFd⟩ := Fr.drew hH
        have hS := hshow E xv w.drew hx hHd
        have hSl := (hshow E xv w hx hH).len
        obtain ⟨arr, ha, hrel⟩ := hS.cells
        rw [← hsl] at ha hold
        obtain ⟨nc, hnc, hrun⟩ := append_grow hu hei hz0 hxu hnk hSl ha hold hroom (by omega) (by rw [hby]; exact hlim) ty
        have hflat : VRelL E (flatRow sh (xs ++ ys)) (old ++ arr).toList := by
          rw [flatRow_append, Array.toList_append]; exact hoR.append hrel
        have hfl := hflat.length
        rw [flatRow_length] at hfl
        have hzs : z0.cells.size = sh.length := by
          unfold zeroLen at hzl
          split at hzl
          · rename_i zc hzc
            have := ((hzr E).cells hzc).length
            rw [beq_eq hzl] at this
            simpa using this.symm
          · cases hzl
        have hcsz : (old ++ arr ++ Builtin.zeroCells z0.cells (nc - (xs.length + ys.length))).size = nc * sh.length := by
          have h1 : (old ++ arr).size = (xs ++ ys).length * sh.length := by rw [hfl, Array.length_toList]
          have h2 : (Builtin.zeroCells z0.cells (nc - (xs.length + ys.length))).size = (nc - (xs.length + ys.length)) * sh.length := by
            unfold Builtin.zeroCells; simp [hzs]
          rw [Array.size_append, h1, h2, ← Nat.add_mul]
          congr 1
          simp only [List.length_append]; omega
        have hsize : w.drew.heap.size = w.heap.size := rfl
        have hcap' : (xs ++ ys).length ≤ nc := by simpa using hnc
        obtain ⟨k1, k2, k3⟩ := HRel.add (t := el) (fz := (0, 0)) (ro := false) (fam := fam) hHd (blk := .row sh (xs ++ ys)) (ent := ⟨some w.heap.size, 0, nc * sh.length, (xs ++ ys).length, sh.length⟩)
          (cs := old ++ arr ++ Builtin.zeroCells z0.cells (nc - (xs.length + ys.length))) rfl ⟨rfl, rfl⟩ rfl rfl hcsz.symm (by
            rw [hcsz]; show (flatRow sh (xs ++ ys)).length ≤ _
            rw [flatRow_length]; exact Nat.mul_le_mul_right _ hcap') (fun _ => rfl) (fun j v hj => by
            obtain ⟨y, hy, hr⟩ := hflat.get j v hj
            have hlt : j < (old ++ arr).size := by
              have := (List.getElem?_eq_some_iff.1 hy).1
              simpa using this
            exact ⟨y, by rw [Array.getElem?_append_left hlt, ← Array.getElem?_toList]; exact hy, hr⟩)
        obtain ⟨k4, k5⟩ := k1.weaken (H' := Hn) hnext hHn
        refine ⟨_, _, _, hrun, ?_, k4, k2, hFd.trans (k3.trans k5)⟩
        have := VRel.sw (E := envAdd E H.next ⟨some w.heap.size, 0, nc * sh.length, (xs ++ ys).length, sh.length⟩) (id := H.next) (ent := ⟨some w.heap.size, 0, nc * sh.length, (xs ++ ys).length, sh.length⟩) (r := w.heap.size) (cap := nc)
          (by simp [envAdd]) rfl hcap' (by simp)
        simpa using this
      have keep : ∀ (fam id : Nat) (hb : HB), ∀ j g, (⟨H.next + 1, (H.next, some hb) :: (killFam fam id H.bs ++ H.bs)⟩ : Heap).get j = some g → (⟨H.next + 1, (H.next, some hb) :: H.bs⟩ : Heap).get j = some g := by
        intro fam id hb j g hj
        rcases get_killed hj with ⟨rfl, rfl⟩ | ⟨hne, hg, _⟩
        · simp [Heap.get, look_cons]
        · simp only [Heap.get, look_cons]; rw [if_neg (Ne.symm hne)]; exact hg
      have nothing : ∀ (E : Env) (xv : Value) (w : World) (ty : TypeId) (Hn : Heap) (fam : Nat), HRel E H w → VRel E x xv → ys = [] →
          (Hn.next = H.next + 1) → (∀ j g, Hn.get j = some g → (⟨H.next + 1, (H.next, some ⟨fam, false, .row sh []⟩) :: H.bs⟩ : Heap).get j = some g) →
          ∃ y w' E', (Builtin.append_ #[t, xt] ty #[.slice none 0 0, xv]).run P w = .ok y w' ∧ VRel E' (.sw H.next) y ∧ HRel E' Hn w' ∧ Ext E E' ∧ Fr E H w E' Hn w' := by
        intro E xv w ty Hn fam hH hx hy hnext hHn
        subst hy
        have hS := hshow E xv w hx hH
        obtain ⟨arr, ha, hrel⟩ := hS.cells
        have harr : arr = #[] := by
          have := hrel.length; simp [flatRow] at this; exact Array.eq_empty_of_size_eq_zero this.symm
        subst harr
        rw [← hsl] at ha
        have hrun := append_room (n := 0) (cap := 0) (base := none) hu hei hxu hnk (by simpa using hS.len) (by simpa using ha) (Nat.le_refl _) ty
        obtain ⟨k1, k2, k3⟩ := hH.voidRow sh fam
        obtain ⟨k4, k5⟩ := k1.weaken (H' := Hn) hnext hHn
        exact ⟨.slice none 0 0, w, _, by simpa using hrun, .sw0 (ent := ⟨none, 0, 0, 0, sh.length⟩) (by simp [envAdd]) rfl, k4, k2, k3.trans k5⟩
      split at h
      · -- onto nil
        obtain ⟨hlim, hK⟩ := cond_some h
        have hlim := Nat.le_of_ble_eq_true hlim
        refine ⟨_, _, hK, fun E sv xv w ty hs hx hH => ?_⟩
        cases hs
        have hS := hshow E xv w hx hH
        by_cases hy : ys = []
        · exact nothing E xv w ty (H.add (.row sh ys)) H.next hH hx hy rfl (fun j g hj => by rw [hy] at hj; exact hj)
        · have hpos : 0 < ys.length := List.length_pos_iff.2 hy
          exact grow E [] none 0 #[] xv w ty (H.add (.row sh ys)) H.next hH hx run_first_none .nil (by simp; omega) (by simp; omega) rfl (fun j g hj => hj)
      · rename_i id
        split at h
        · rename_i fam ro sh' xs hg
          split at h
          · rename_i hsh'; subst hsh'
            obtain ⟨hro, h2⟩ := cond_none_some h
            obtain ⟨hlim, hK⟩ := cond_some h2
            subst hro
            have hlim := Nat.le_of_ble_eq_true hlim
            refine ⟨_, _, hK, fun E sv xv w ty hs hx hH => ?_⟩
            have hS := hshow E xv w hx hH
            obtain ⟨ent, he, hB⟩ := hH.live _ _ hg
            obtain ⟨hn, hsz⟩ := hB.fits
            obtain ⟨hHd, hFd⟩ := Fr.drew hH
            have hlim' : (xs.length + ys.length) * ei.bytes ≤ 70368744177664 := hlim
            cases hs with
            | sw h' hr hcap hcb =>
              rename_i rr cap
              rw [he] at h'; cases h'
              have hL := hB.lies _ hr
              rw [hn] at hcap ⊢
              by_cases hroom : xs.length + ys.length ≤ cap
              · -- in place
                obtain ⟨arr, ha, hrel⟩ := hS.cells
                rw [← hsl] at ha
                have hrun := append_room (n := xs.length) (cap := cap) (base := some ⟨rr, ent.off, none⟩) hu hei hxu hnk hS.len ha hroom ty
                rcases hL.ex with ⟨cs, t', fz, c1, c2, c3, c4, c5, _⟩ | ⟨s, p, hb', _, _⟩
                rotate_left
                · cases hb'
                have := c5 rfl; subst this
                have hal : arr.toList.length = ys.length * sh'.length := by rw [← hrel.length, flatRow_length]
                have hfl : (Blk.row sh' xs).flat.length = xs.length * sh'.length := flatRow_length sh' xs
                have hbound : ent.off + xs.length * sh'.length + arr.toList.length ≤ cs.size := by
                  rw [hal, c2]
                  have h1 := Nat.mul_le_mul_right sh'.length hroom
                  rw [Nat.add_mul] at h1
                  rw [hsz] at hcb
                  omega
                have hone : ∀ v ∈ arr.toList, v.oneCell' = true := hrel.oneCell (flatRow_one sh' ys)
                have hst := run_storeCells_at (P := P) rr (ent.off + xs.length * sh'.length) t' arr.toList 0 cs w c1 (by omega) hone
                simp only [Nat.add_zero] at hst
                generalize hcs' : (cs.toList.take (ent.off + xs.length * sh'.length) ++ arr.toList ++ cs.toList.drop (ent.off + xs.length * sh'.length + arr.toList.length)).toArray = cs' at hst
                have htl : (cs.toList.take (ent.off + xs.length * sh'.length)).length = ent.off + xs.length * sh'.length := by rw [List.length_take, Array.length_toList (xs := cs)]; omega
                have hsz' : cs'.size = cs.size := by
                  rw [← hcs', List.size_toArray, List.length_append, List.length_append, htl, List.length_drop, Array.length_toList (xs := cs)]; omega
                have hget' : ∀ j, cs'[j]? = if ent.off + xs.length * sh'.length ≤ j ∧ j < ent.off + xs.length * sh'.length + arr.toList.length then arr.toList[j - (ent.off + xs.length * sh'.length)]? else cs[j]? := by
                  intro j
                  rw [← hcs', List.getElem?_toArray]
                  by_cases h1 : j < ent.off + xs.length * sh'.length
                  · rw [if_neg (by omega), List.append_assoc, List.getElem?_append_left (by rw [htl]; exact h1), List.getElem?_take, if_pos h1, Array.getElem?_toList]
                  · by_cases h2 : j < ent.off + xs.length * sh'.length + arr.toList.length
                    · rw [if_pos ⟨by omega, h2⟩, List.append_assoc, List.getElem?_append_right (by rw [htl]; omega), List.getElem?_append_left (by rw [htl]; omega), htl]
                    · rw [if_neg (by omega), List.getElem?_append_right (by rw [List.length_append, htl]; omega), List.getElem?_drop, Array.getElem?_toList, List.length_append, htl]
                      congr 1; omega
                obtain ⟨s1, s2⟩ := hH.set (cs' := cs') (blk := .row sh' xs) hg he hr c1 hsz' c2 rfl hB.fits c3 (fun j v hj => by
                  obtain ⟨z, hz, hzr'⟩ := c4 j v hj
                  have hlt : j < xs.length * sh'.length := by rw [← hfl]; exact (List.getElem?_eq_some_iff.1 hj).1
                  exact ⟨z, by rw [hget', if_neg (by omega)]; exact hz, hzr'⟩)
                have hg2 : (⟨H.next, (id, some ⟨fam, false, .row sh' xs⟩) :: (killFam fam id H.bs ++ H.bs)⟩ : Heap).get id = some ⟨fam, false, .row sh' xs⟩ := by simp [Heap.get, look_cons]
                obtain ⟨a1, a2, a3⟩ := s1.alias (ent' := ⟨some rr, ent.off, ent.size, (xs ++ ys).length, sh'.length⟩) (blk := .row sh' (xs ++ ys)) (ro := false) hg2 he hr rfl rfl ⟨rfl, rfl⟩ ⟨.inl ⟨cs', t', (0, 0), setRow_heap w rr cs cs' t' (0, 0) c1, hsz'.trans c2, by
                    show ent.off + (flatRow sh' (xs ++ ys)).length ≤ _
                    rw [hsz', flatRow_length, List.length_append, Nat.add_mul]; omega, fun j v hj => by
                    show ∃ x, cs'[ent.off + j]? = some x ∧ _
                    have hj' : (flatRow sh' xs ++ flatRow sh' ys)[j]? = some v := by rw [← flatRow_append]; exact hj
                    by_cases hjx : j < xs.length * sh'.length
                    · rw [List.getElem?_append_left (by rw [flatRow_length]; exact hjx)] at hj'
                      obtain ⟨z, hz, hzr'⟩ := c4 j v hj'
                      exact ⟨z, by rw [hget', if_neg (by omega)]; exact hz, hzr'⟩
                    · rw [List.getElem?_append_right (by rw [flatRow_length]; omega), flatRow_length] at hj'
                      obtain ⟨z, hz, hzr'⟩ := hrel.get _ v hj'
                      have hlt := (List.getElem?_eq_some_iff.1 hz).1
                      exact ⟨z, by rw [hget', if_pos (by omega), ← hz]; congr 1; omega, hzr'⟩, fun _ => rfl, rfl⟩⟩
                obtain ⟨b1, b2⟩ := a1.weaken (H' := ⟨H.next + 1, (H.next, some ⟨fam, false, .row sh' (xs ++ ys)⟩) :: (killFam fam id H.bs ++ H.bs)⟩) rfl (fun j g hj => by
                  simp only [Heap.get, look_cons] at hj ⊢
                  by_cases h1 : H.next = j
                  · rw [if_pos h1] at hj ⊢; exact hj
                  · rw [if_neg h1] at hj ⊢
                    by_cases h2 : id = j
                    · rw [if_pos h2]; subst h2
                      have := get_killed (H := H) (next := 0) (id := H.next) (hb := ⟨0, false, .cells []⟩) (fam := fam) (but := id) (j := id) (g := g) (by simp only [Heap.get, look_cons]; rw [if_neg h1]; exact hj)
                      rcases this with ⟨h3, _⟩ | ⟨_, h3, _⟩
                      · exact absurd h3.symm h1
                      · rw [hg] at h3; exact h3
                    · rw [if_neg h2]; exact hj)
                refine ⟨.slice (some ⟨rr, ent.off, none⟩) (xs.length + ys.length) cap, _, _, ?_, ?_, b1, a2, s2.trans (a3.trans b2)⟩
                · rw [hrun]
                  simp only [Sem.run_bind, addr_add, hsl, hst, Result.andThen_ok, Sem.run_pure]
                · have := VRel.sw (E := envAdd E H.next ⟨some rr, ent.off, ent.size, (xs ++ ys).length, sh'.length⟩) (id := H.next) (ent := ⟨some rr, ent.off, ent.size, (xs ++ ys).length, sh'.length⟩) (r := rr) (cap := cap)
                    (by simp [envAdd]) rfl (by simpa using hroom) (by rw [← hsz]; exact hcb)
                  simpa using this
              · -- a new block
                obtain ⟨lst, l1, l2, l3⟩ := (hB.lies _ hr).at (f := 0) (n := xs.length * sh'.length) (by show 0 + xs.length * sh'.length ≤ (flatRow sh' xs).length; rw [flatRow_length]; omega)
                have hseg : seg (Blk.row sh' xs).flat 0 (xs.length * sh'.length) = flatRow sh' xs := by
                  unfold seg; rw [List.drop_zero]; show (flatRow sh' xs).take _ = _; rw [← flatRow_length, List.take_length]
                rw [hseg] at l2
                exact grow E xs (some ⟨rr, ent.off, none⟩) cap lst.toArray xv w ty _ fam hH hx (run_first_some l1 (fun j v hj => by have := l3 j v hj; simpa using this)) (by simpa using l2) hroom hlim' rfl (keep fam id _)
            | sw0 h' hn0 =>
              rw [he] at h'; cases h'
              have hx0 : xs = [] := List.length_eq_zero_iff.1 (by omega)
              subst hx0
              by_cases hy : ys = []
              · exact nothing E xv w ty _ fam hH hx hy rfl (fun j g hj => by have := keep fam id _ j g hj; rw [hy] at this; exact this)
              · have hpos : 0 < ys.length := List.length_pos_iff.2 hy
                exact grow E [] none 0 #[] xv w ty _ fam hH hx run_first_none .nil (by simp; omega) hlim' rfl (keep fam id _)
          · cases h
        · cases h
      · cases h
    · cases h
  · cases h

end
end Go.Ab

/- All operations but calls are sound. Conditions: none. -/
namespace Go.Ab
set_option linter.unusedVariables false
set_option linter.unusedSimpArgs false
open Go

section
variable {P : Program} {Ty : Types} {R : Type}

theorem opsTail {α : Type} (s : Sem α) (f : α → Value) (w : World) : True := trivial

/-! ### Texts -/

theorem freeze_alloc (w : World) (cs : Array Value) (t : TypeId) : (w.alloc (.cells cs t (0, 0))).freeze ⟨w.heap.size, cs.size, none⟩ 1 = w.alloc (.cells cs t (cs.size, cs.size + 1)) := by
  unfold World.freeze
  simp only [Nat.one_ne_zero, if_false]
  show ({ w.alloc _ with heap := _ } : World) = _
  have : ((w.heap.push (Obj.cells cs t (0, 0))).modify w.heap.size fun
      | .cells c elem (lo, hi) => .cells c elem (if lo == hi then (cs.size, cs.size + 1) else (min lo cs.size, max hi (cs.size + 1)))
      | o => o) = w.heap.push (.cells cs t (cs.size, cs.size + 1)) := by
    apply Array.ext_getElem?
    intro i
    rw [Array.getElem?_modify, Array.getElem?_push, Array.getElem?_push]
    by_cases h : i = w.heap.size
    · subst h; simp
    · rw [if_neg (Ne.symm h), if_neg h, if_neg h]
  exact congrArg (fun hp => ({ w with heap := hp } : World)) this

def strCells (s : ByteArray) (cap : Nat) : Array Value := (s.data.map fun b => Value.int .u8 b.toNat) ++ Array.replicate (cap - s.size) (Value.int .u8 0)

theorem str_bytes (hTy : TyOk P Ty) {src dst el : Nat} {sd : TypeDesc} {ed : TypeDesc} (hs : P.underlying src = some sd) (hsd : tdOf sd = some (.sc .s)) (hd : P.underlying dst = some (.slice el)) (he : P.underlying el = some ed) (hed : tdOf ed = some (.sc (.i .u8)))
    {E : Env} {H : Heap} {w : World} (hH : HRel E H w) (s : ByteArray) :
    ∃ x w' E', (convert src dst (.string s)).run P w = .ok x w' ∧ VRel E' (.sw H.next) x ∧ HRel E' ⟨H.next + 1, (H.next, some ⟨H.next, true, .row [.i .u8] (strInts s)⟩) :: H.bs⟩ w' ∧ Ext E E' ∧
      Fr E H w E' ⟨H.next + 1, (H.next, some ⟨H.next, true, .row [.i .u8] (strInts s)⟩) :: H.bs⟩ w' := by
  have := str_of hsd; subst this
  have := int_ty hed; subst this
  obtain ⟨hHd, hFd⟩ := Fr.drew hH
  have hlen : (strInts s).length = s.size := by unfold strInts; rw [List.length_map, Array.length_toList]; rfl
  -- how much memory is drawn
  generalize hcap : s.size + w.tape w.drawn (.appendCap s.size 0 el) % (2 ^ 63 - s.size) = cap
  have hle : s.size ≤ cap := by omega
  have hrun : (convert src dst (.string s)).run P w = .ok (.slice (some ⟨w.heap.size, 0, none⟩) s.size cap)
      (w.drew.alloc (.cells (strCells s cap) el
        ((strCells s cap).size, (strCells s cap).size + 1))) := by
    unfold convert
    simp only [Sem.run_bind, run_underlying hs, run_underlying hd, run_underlying he, Result.andThen_ok]
    unfold Conv.stringToBytes markStringish
    simp only [Sem.run_bind, run_choose, Question.forced, Bool.false_eq_true, if_false, Question.cut, World.drew_eq, Result.andThen_ok, run_newRow, run_shape, hcap, Sem.run_pure]
    change _ = _
    rw [show (Array.map (fun b : UInt8 => Value.int .u8 b.toNat) s.data ++ Array.replicate (cap - s.size) (Value.int .u8 0)) = strCells s cap from rfl]
    have hsh : (w.drew.alloc (.cells (strCells s cap) el (0, 0))).shape? w.drew.heap.size =
        some (el, (strCells s cap).size) := by
      unfold World.shape?
      rw [show (w.drew.alloc (.cells (strCells s cap) el (0, 0))).heap[w.drew.heap.size]? = some (.cells (strCells s cap) el (0, 0)) from by
        show (w.heap.push _)[w.heap.size]? = _
        rw [Array.getElem?_push, if_pos rfl]]
    rw [hsh]
    simp only [Sem.run_bind, run_freeze, Result.andThen_ok]
    rw [freeze_alloc]
    rfl
  obtain ⟨E', k1, k2, k3, k4⟩ := row_new (t := el) (fz := ((strCells s cap).size, (strCells s cap).size + 1))
    (ro := true) hHd (sh := [.i .u8]) (xs := strInts s) (cap := cap) (cs := strCells s cap) (by rw [hlen]; exact hle)
    (by unfold strCells; simp; show s.data.size + _ = _; have : s.data.size = s.size := rfl; omega) (fun h => by cases h) (fun j v hj => by
      obtain ⟨x, hx, hr⟩ := (strInts_rel E s).get j v hj
      have hlt : j < (s.data.map (fun b => Value.int .u8 b.toNat)).size := by
        have := (List.getElem?_eq_some_iff.1 hx).1; simpa using this
      exact ⟨x, by unfold strCells; rw [Array.getElem?_append_left hlt, ← Array.getElem?_toList]; exact hx, hr⟩)
  exact ⟨_, _, E', hrun, by rw [← hlen]; exact k1, k2, k3, hFd.trans k4⟩

theorem push_bytes (f : Value → ByteArray → Sem (ForInStep ByteArray)) (hf : ∀ n s w, (f (.int .u8 n) s).run P w = .ok (.yield (s.push (UInt8.ofNat n.toNat))) w) :
    ∀ (xs : List Int) (cs : List Value) (E : Env) (acc : ByteArray) (w : World), VRelL E (flatRow [.i .u8] xs) cs →
    (forIn cs acc f).run P w = .ok ⟨acc.data ++ (xs.map fun n : Int => UInt8.ofNat n.toNat).toArray⟩ w
  | [], [], _, acc, w, _ => by simp
  | x :: xs, c :: cs, E, acc, w, h => by
    have h' : VRelL E (.i .u8 x :: flatRow [.i .u8] xs) (c :: cs) := h
    cases h' with
    | cons h1 h2 =>
      have := int_of h1; subst this
      rw [List.forIn_cons]
      simp only [Sem.run_bind, hf, Result.andThen_ok]
      rw [push_bytes f hf xs cs E _ w h2]
      congr 1
      apply ByteArray.ext
      simp [ByteArray.push]
  | [], _ :: _, _, _, _, h => by cases h
  | _ :: _, [], _, _, _, h => by cases h

theorem bytes_str {E : Env} {xs : List Int} {xv : Value} {w : World} (h : Shows E P [.i .u8] xs xv w) (hns : ∀ s, xv ≠ .string s) : (Conv.bytesToString xv).run P w = .ok (.string (bytesOf xs)) w := by
  obtain ⟨arr, ha, hrel⟩ := h.cells
  have hl := h.len
  have key : ∀ (b : Option Addr) (n cap : Nat), xv = .slice b n cap → (Conv.bytesToString xv).run P w = .ok (.string (bytesOf xs)) w := by
    intro b n cap hx
    subst hx
    have hn : n = xs.length := by simpa [Builtin.lenOf] using hl
    subst hn
    cases b with
    | none =>
      have h0 : arr = #[] := by simpa [Builtin.firstCells] using ha.symm
      subst h0
      have : xs = [] := by
        have := hrel.length; rw [flatRow_length] at this; simp at this; exact this
      subst this; rfl
    | some a =>
      have hla : (loadCells a xs.length).run P w = .ok arr w := by simpa [Builtin.firstCells] using ha
      unfold Conv.bytesToString
      simp only [Sem.run_bind, hla, Result.andThen_ok]
      rw [← Array.forIn_toList]
      rw [push_bytes (P := P) _ (fun n s w => rfl) xs arr.toList E .empty w hrel]
      simp only [Result.andThen_ok, Sem.run_pure]
      congr 2
      apply ByteArray.ext
      simp [bytesOf]
  rcases h.kind with h | ⟨r, o, n, cap, h⟩ | ⟨s, h⟩ | ⟨b, cap, h⟩
  · exact key _ _ _ h
  · exact key _ _ _ h
  · exact absurd h (hns s)
  · exact key _ _ _ h

/-! ### Aggregates -/

theorem places_mapM {w : World} (hTy : TyOk P Ty) : ∀ (l : List Field) (fs : List (Nat × Nat)), l.map (fun f => (f.offset, f.type)) = fs → (∀ p ∈ fs, ∃ i, Ty p.2 = some i) →
    ∃ ps : List (Nat × Nat), (l.mapM fun f => (do pure (f.offset, ← sizeOf f.type) : Sem (Nat × Nat))).run P w = .ok ps w ∧ ∀ j off i, fieldOff Ty fs j = some (off, i) → ps[j]? = some (off, i.size)
  | [], fs, h, _ => ⟨[], by simp, fun j off i hj => by subst h; simp [fieldOff] at hj⟩
  | f :: l, fs, h, hk => by
    subst h
    simp only [List.map_cons] at hk
    obtain ⟨i, hi⟩ := hk _ List.mem_cons_self
    obtain ⟨info, d, hinfo, _, _, hsz, _⟩ := hTy.ok _ _ hi
    obtain ⟨ps, h1, h2⟩ := places_mapM hTy l _ rfl (fun p hp => hk p (List.mem_cons_of_mem _ hp))
    refine ⟨(f.offset, info.size) :: ps, ?_, fun j off i' hj => ?_⟩
    · rw [List.mapM_cons]
      simp only [Sem.run_bind, run_sizeOf hinfo, Result.andThen_ok, Sem.run_pure]
      rw [h1]; simp [hsz]
    · cases j with
      | zero =>
        simp only [fieldOff, List.map_cons, List.getElem?_cons_zero, Option.bind_some] at hj
        simp only at hi
        rw [hi, Option.bind_some] at hj
        cases hj
        simp [hsz]
      | succ j =>
        rw [List.getElem?_cons_succ]
        exact h2 j off i' (by simpa [fieldOff] using hj)

theorem parts_rel {E : Env} {T : Tmps} {a : Act} (h : TRel E T a) (ps : List (Nat × Operand)) :
    (ps.map fun p => (p.1, opd T p.2)).map (·.1) = (ps.map fun p => (p.1, a.eval p.2)).map (·.1) ∧ VRelL E ((ps.map fun p => (p.1, opd T p.2)).map (·.2)) ((ps.map fun p => (p.1, a.eval p.2)).map (·.2)) := by
  constructor
  · simp [List.map_map, Function.comp_def]
  · rw [List.map_map, List.map_map]
    have := opdsL_rel h (ps.map (·.2))
    simpa [opdsL, List.map_map, Function.comp_def] using this

end
end Go.Ab

/- All operations but calls are sound: the remaining ones. Conditions: none. -/
namespace Go.Ab
set_option linter.unusedVariables false
set_option linter.unusedSimpArgs false
open Go

section
variable {P : Program} {Ty : Types} {R : Type}

theorem fillL_length (place : Nat → Option (Nat × Nat)) : ∀ (parts : List (Nat × AV)) (cs cs' : List AV), fillL place cs parts = some cs' → cs'.length = cs.length
  | [], cs, cs', h => by cases h; rfl
  | (i, v) :: parts, cs, cs', h => by
    simp only [fillL] at h
    split at h
    · rename_i off size us hp hu
      obtain ⟨h1, h2⟩ := cond_some h
      rw [Bool.and_eq_true] at h1
      have h3 := beq_eq h1.1
      have h4 : off + size ≤ cs.length := by simpa using h1.2
      rw [fillL_length place parts _ _ h2, putSeg_length (by omega)]
    · cases h

theorem repl_length (n : Nat) (zs : List AV) : (repl n zs).length = n * zs.length := by
  induction n with
  | zero => simp [repl]
  | succ n ih => simp [repl, ih, Nat.succ_mul]; omega

theorem repl_get (zs : List AV) : ∀ (n j : Nat), j < n * zs.length → (repl n zs)[j]? = zs[j % zs.length]?
  | 0, j, h => by simp at h
  | n + 1, j, h => by
    simp only [repl]
    by_cases hj : j < zs.length
    · rw [List.getElem?_append_left hj, Nat.mod_eq_of_lt hj]
    · rw [List.getElem?_append_right (by omega), repl_get zs n (j - zs.length) (by rw [Nat.succ_mul] at h; omega)]
      rw [Nat.mod_eq_sub_mod (a := j) (by omega)]

theorem zero_rows {E : Env} {zs : List AV} {z : Array Value} (h : VRelL E zs z.toList) (n : Nat) : VRelL E (repl n zs) ((Array.range (n * zs.length)).map (z[· % z.size]!)).toList := by
  have hl := h.length
  simp only [Array.length_toList] at hl
  refine VRelL.of_get (by rw [repl_length]; simp) fun j v x hv hx => ?_
  have hj : j < n * zs.length := by
    have := (List.getElem?_eq_some_iff.1 hv).1
    rwa [repl_length] at this
  rw [repl_get zs n j hj] at hv
  obtain ⟨y, hy, hr⟩ := h.arr hv
  rw [hl] at hy
  rw [Array.getElem?_toList, Array.getElem?_map, Array.getElem?_range, if_pos hj] at hx
  simp only [Option.map_some, Option.some.injEq] at hx
  have : z[j % z.size]! = y := by rw [getElem!_def, hy]
  rw [this] at hx; subst hx; exact hr

theorem buildSliceK_sound (hTy : TyOk P Ty) {H : Heap} {t len : Nat} {parts : List (Nat × AV)} {K : AV → Heap → Option R} {r : R} (h : buildSliceK Ty H t len parts K = some r) :
    ∃ v H', K v H' = some r ∧ ∀ (E : Env) (parts' : Array (Nat × Value)) (w : World), parts.map (·.1) = parts'.toList.map (·.1) → VRelL E (parts.map (·.2)) (parts'.toList.map (·.2)) → HRel E H w →
      ∃ x w' E', (Instr.buildSlice t len parts').run P w = .ok x w' ∧ VRel E' v x ∧ HRel E' H' w' ∧ Ext E E' ∧ Fr E H w E' H' w' := by
  unfold buildSliceK at h
  split at h
  · rename_i el _ _ _ hT
    obtain ⟨info, d, hi, hu, hd, _⟩ := hTy.ok _ _ hT
    have := slice_of hd; subst this
    split at h
    · rename_i ei hTe
      obtain ⟨einfo, ed, hei, heu, hed, hesz, _, z, hz, hzr⟩ := hTy.ok _ _ hTe
      split at h
      · rename_i zs hzs
        obtain ⟨hc, h⟩ := cond_some h
        rw [Bool.and_eq_true] at hc
        have hzl := beq_eq hc.1
        have hlim : len * ei.size ≤ 16777216 := by simpa using hc.2
        split at h
        · rename_i cs hcs
          -- the run
          have hrun : ∀ (E : Env) (parts' : Array (Nat × Value)) (w : World), parts.map (·.1) = parts'.toList.map (·.1) → VRelL E (parts.map (·.2)) (parts'.toList.map (·.2)) →
              ∃ vs : Array Value, VRelL E cs vs.toList ∧ vs.size = len * ei.size ∧ (Instr.buildSlice t len parts').run P w = .ok (.slice (some ⟨w.heap.size, 0, none⟩) len len) (w.alloc (.cells vs el (0, 0))) := by
            intro E parts' w hn hr
            have hzc := (hzr E).cells hzs
            have hzero := zero_rows hzc len
            obtain ⟨vs, k1, k2⟩ := fill_sound (place' := fun i => some (i * einfo.size, einfo.size)) (fun i off size hp => by rw [hesz]; exact hp) parts parts'.toList _ cs _ hcs hzero hn hr
            refine ⟨vs, k2, ?_, ?_⟩
            · have hl1 := k2.length
              have hl2 := fillL_length _ _ _ _ hcs
              rw [repl_length, hzl] at hl2
              simp only [Array.length_toList] at hl1; omega
            · unfold Instr.buildSlice
              have hlim' : ¬ (len * einfo.size > 2 ^ 24) := by rw [hesz]; omega
              simp only [Sem.run_bind, run_underlying hu, run_sizeOf hei, Result.andThen_ok, hlim', if_false, Sem.run_pure]
              by_cases h0 : len * einfo.size = 0
              · rw [if_pos h0]
                simp only [Sem.run_bind, Sem.run_pure, Result.andThen_ok]
                have : (Array.map (fun x => (#[] : Array Value)[x % (#[] : Array Value).size]!) (Array.range (len * einfo.size))) = ((Array.range (len * zs.length)).map (z.cells[· % z.cells.size]!)) := by rw [hzl, ← hesz, h0]; simp
                rw [this, k1]
                simp only [Sem.run_bind, run_newRow, Result.andThen_ok, Sem.run_pure]
              · simp only [h0, if_false, Sem.run_bind, run_zeroValue hei hz, Result.andThen_ok, Sem.run_pure]
                have : len * einfo.size = len * zs.length := by rw [hzl, hesz]
                rw [this, k1]
                simp only [Sem.run_bind, run_newRow, Result.andThen_ok, Sem.run_pure]
          split at h
          · rename_i blk hblk
            unfold rowBlk at hblk
            cases hsh : shapeOf Ty 10 el with
            | none => rw [hsh] at hblk; cases hblk
            | some sh =>
              rw [hsh, Option.bind_some] at hblk
              cases hxs : Tup.uns sh len cs with
              | none => rw [hxs] at hblk; cases hblk
              | some xs =>
                rw [hxs, Option.bind_some] at hblk
                obtain ⟨hb, hblk⟩ := cond_some hblk
                cases hblk
                rw [Bool.and_eq_true] at hb
                have hb1 := beq_eq hb.1
                have hb2 := beq_eq hb.2
                refine ⟨_, _, h, fun E parts' w hn hr hH => ?_⟩
                obtain ⟨vs, k1, k2, k3⟩ := hrun E parts' w hn hr
                obtain ⟨E', e1, e2, e3, e4⟩ := row_new (t := el) (fz := (0, 0)) (ro := false) hH (sh := sh) (xs := xs) (cap := len) (cs := vs) (by omega) (by rw [k2, hb2]) (fun _ => rfl) (fun j v hj => by
                  rw [uns_flat sh len cs xs hxs] at hj
                  exact k1.arr hj)
                exact ⟨_, _, E', k3, by rw [← hb1] at e1 ⊢; exact e1, e2, e3, e4⟩
          · refine ⟨_, _, h, fun E parts' w hn hr hH => ?_⟩
            obtain ⟨vs, k1, k2, k3⟩ := hrun E parts' w hn hr
            have hl1 := k1.length
            obtain ⟨e1, e2, e3⟩ := HRel.add (t := el) (fz := (0, 0)) (ro := false) (fam := H.next) hH (blk := .cells cs) (ent := ⟨some w.heap.size, 0, vs.size, 0, 0⟩) (cs := vs) rfl trivial rfl rfl rfl (by
              show cs.length ≤ _; simp only [Array.length_toList] at hl1; omega) (fun _ => rfl) (fun j v hj => k1.arr hj)
            refine ⟨_, _, _, k3, ?_, e1, e2, e3⟩
            have := VRel.sl (E := envAdd E H.next ⟨some w.heap.size, 0, vs.size, 0, 0⟩) (id := H.next) (base := 0) (e := 0) (sz := ei.size) (n := len) (cap := len) (r := w.heap.size) (ent := ⟨some w.heap.size, 0, vs.size, 0, 0⟩) (by simp [envAdd]) rfl (Nat.le_refl _)
            simpa using this
        · cases h
      · cases h
    · cases h
  · cases h

end
end Go.Ab

/- All operations but calls are sound: joined. Conditions: none. -/
namespace Go.Ab
set_option linter.unusedVariables false
set_option linter.unusedSimpArgs false
open Go

section
variable {P : Program} {Ty : Types} {R : Type}

theorem fillL_append (place : Nat → Option (Nat × Nat)) (rest : List AV) : ∀ (parts : List (Nat × AV)) (cs cs' : List AV), fillL place cs parts = some cs' → fillL place (cs ++ rest) parts = some (cs' ++ rest)
  | [], cs, cs', h => by cases h; rfl
  | (i, v) :: parts, cs, cs', h => by
    simp only [fillL] at h ⊢
    split at h
    · rename_i off size us hp hu
      obtain ⟨h1, h2⟩ := cond_some h
      have h1' := h1
      rw [Bool.and_eq_true] at h1
      have h3 := beq_eq h1.1
      have h4 : off + size ≤ cs.length := by simpa using h1.2
      have h5 : Nat.ble (off + size) (cs ++ rest).length = true := by simp; omega
      rw [h1.1, h5]
      simp only [Bool.and_self, cond_true]
      rw [putSeg_append_left (by omega)]
      exact fillL_append place rest parts _ _ h2
    · cases h

theorem build_struct {t : Nat} (hTy : TyOk P Ty) {fs : List (Nat × Nat)} {i : TI} (hT : Ty t = some i) (hd : i.d = .struct fs) (hall : (fs.all fun p => (Ty p.2).isSome) = true) {zs cs : List AV} {parts : List (Nat × AV)}
    {E : Env} {parts' : Array (Nat × Value)} (h : fillL (fun f => (fieldOff Ty fs f).bind fun p => some (p.1, p.2.size)) zs parts = some cs)
    (hn : parts.map (·.1) = parts'.toList.map (·.1)) (hr : VRelL E (parts.map (·.2)) (parts'.toList.map (·.2))) (w : World) :
    ∃ z, VRel E i.zero z ∧ ∀ vs0 : Array Value, VRelL E zs vs0.toList → vs0 = z.cells → ∃ vs : Array Value, (Instr.build t parts').run P w = .ok (.agg vs) w ∧ VRelL E cs vs.toList := by
  obtain ⟨info, d, hi, hu, hdd, hsz, _, z, hzi, hzr⟩ := hTy.ok _ _ hT
  refine ⟨z, hzr E, fun vs0 hz hvs => ?_⟩
  subst hvs
  rw [hd] at hdd
  obtain ⟨fields, rfl, hf⟩ := struct_of hdd
  obtain ⟨ps, p1, p2⟩ := places_mapM (w := w) hTy fields.toList fs hf (fun p hp => by
    have := List.all_eq_true.1 hall p hp
    exact Option.isSome_iff_exists.1 this)
  obtain ⟨vs, k1, k2⟩ := fill_sound (place' := fun i => ps.toArray[i]?) (fun j off size hp => by
    cases hfo : fieldOff Ty fs j with
    | none => rw [hfo] at hp; cases hp
    | some q => rw [hfo] at hp; cases hp; simpa using p2 j _ _ hfo) parts parts'.toList zs cs z.cells h hz hn hr
  refine ⟨vs, ?_, k2⟩
  unfold Instr.build
  simp only [Sem.run_bind, run_zeroValue hi hzi, run_underlying hu, Result.andThen_ok]
  rw [Array.mapM_eq_mapM_toList]
  simp only [Sem.run_map]
  rw [p1]
  simp only [Result.andThen_ok]
  rw [k1]
  rfl

theorem build_arr {t n el : Nat} (hTy : TyOk P Ty) {i ei : TI} (hT : Ty t = some i) (hd : i.d = .arr n el) (hTe : Ty el = some ei) {zs cs : List AV} {parts : List (Nat × AV)} (hz : i.zero = .agg zs)
    {E : Env} {parts' : Array (Nat × Value)} (h : fillL (fun f => some (f * ei.size, ei.size)) zs parts = some cs)
    (hn : parts.map (·.1) = parts'.toList.map (·.1)) (hr : VRelL E (parts.map (·.2)) (parts'.toList.map (·.2))) (w : World) :
    ∃ vs : Array Value, (Instr.build t parts').run P w = .ok (.agg vs) w ∧ VRelL E cs vs.toList := by
  obtain ⟨info, d, hi, hu, hdd, hsz, _, z, hzi, hzr⟩ := hTy.ok _ _ hT
  obtain ⟨einfo, ed, hei, heu, hed, hesz, _⟩ := hTy.ok _ _ hTe
  rw [hd] at hdd
  have := arr_of hdd; subst this
  have hzz := hzr E
  rw [hz] at hzz
  have hzc := hzz.cells (cs := zs) rfl
  obtain ⟨vs, k1, k2⟩ := fill_sound (place' := fun i => some (i * einfo.size, einfo.size)) (fun j off size hp => by rw [hesz]; exact hp) parts parts'.toList zs cs z.cells h hzc hn hr
  refine ⟨vs, ?_, k2⟩
  unfold Instr.build
  simp only [Sem.run_bind, run_zeroValue hi hzi, run_underlying hu, Result.andThen_ok, run_sizeOf hei]
  rw [k1]
  rfl

theorem strAt_run {t : Nat} (hu : P.underlying t = some .string) {s : ByteArray} {j c : Int} {k : IntKind} (h : strAt s j = some c) (w : World) :
    (Instr.index t (.string s) (.int k j)).run P w = .ok (.int .u8 c) w := by
  unfold strAt at h
  split at h
  · rename_i h0
    cases hg : s[j.toNat]? with
    | none => rw [hg] at h; cases h
    | some b =>
      rw [hg] at h
      simp only [Option.map_some, Option.some.injEq] at h
      subst h
      unfold Instr.index
      simp [asIntOf, run_underlying hu, h0, hg]
  · cases h

theorem idx_run {t n el : Nat} (hTy : TyOk P Ty) (hu : P.underlying t = some (.array n el)) {ei : TI} (hTe : Ty el = some ei) {cs : List AV} {j : Int} {K : AV → Option R} {r : R}
    (h : cond (decide (0 ≤ j)) (pickE j.toNat (fun m => partAt cs (m * ei.size) ei K) n 0) none = some r) :
    ∃ v, K v = some r ∧ ∀ (E : Env) (k : IntKind) (vs : Array Value) (w : World), VRelL E cs vs.toList → ∃ x, (Instr.index t (.agg vs) (.int k j)).run P w = .ok x w ∧ VRel E v x := by
  obtain ⟨h0, h⟩ := cond_some h
  have h0 := of_decide_eq_true h0
  obtain ⟨_, h2, h⟩ := pickE_sound h
  obtain ⟨v, hK, hv⟩ := partAt_sound hTy hTe h
  obtain ⟨einfo, ed, hei, heu, hed, hesz, _⟩ := hTy.ok _ _ hTe
  refine ⟨v, hK, fun E k vs w hr => ?_⟩
  obtain ⟨x, hx, hrel⟩ := hv E vs w hr
  refine ⟨x, ?_, hrel⟩
  have hb : 0 ≤ j ∧ j < (n : Int) := ⟨h0, by omega⟩
  unfold Instr.index
  simp only [Sem.run_bind, asIntOf, Sem.run_pure, Result.andThen_ok, run_underlying hu]
  rw [if_pos hb]
  simp only [Sem.run_bind, run_sizeOf hei, Result.andThen_ok, hesz]
  exact hx

theorem field_run {t : Nat} (hTy : TyOk P Ty) {i : TI} {fs : List (Nat × Nat)} (hT : Ty t = some i) (hd : i.d = .struct fs) {f off : Nat} {fi : TI} (hf : fieldOff Ty fs f = some (off, fi)) {cs : List AV} {K : AV → Option R} {r : R}
    (h : partAt cs off fi K = some r) :
    ∃ v, K v = some r ∧ ∀ (E : Env) (vs : Array Value) (w : World), VRelL E cs vs.toList → ∃ x, (Instr.field t (.agg vs) f).run P w = .ok x w ∧ VRel E v x := by
  obtain ⟨ft, hft, hTf⟩ := fieldOff_sound hTy (t := t) hf
  obtain ⟨v, hK, hv⟩ := partAt_sound hTy hTf h
  obtain ⟨info, d, hi, hu, hdd, hsz, _⟩ := hTy.ok _ _ hT
  rw [hd] at hdd
  obtain ⟨fields, rfl, hfl⟩ := struct_of hdd
  obtain ⟨fd, hfd, ho, hty⟩ := field_get hfl hft
  refine ⟨v, hK, fun E vs w hr => ?_⟩
  obtain ⟨x, hx, hrel⟩ := hv E vs w hr
  refine ⟨x, ?_, hrel⟩
  unfold Instr.field
  simp only [Sem.run_bind, run_underlying hu, Result.andThen_ok, hfd, asAgg, Sem.run_pure, ho, hty]
  exact hx

theorem run_asBool (x : Bool) (w : World) : (asBool (.bool x)).run P w = .ok x w := rfl

theorem run_range_str {t : Nat} (hu : P.underlying t = some .string) (s : ByteArray) (w : World) :
    (Instr.range t (.string s)).run P w = .ok (.pointer (some ⟨w.heap.size, 0, none⟩)) (w.alloc (.stringIter s 0)) := by
  unfold Instr.range
  simp only [Sem.run_bind, run_underlying hu, Result.andThen_ok]
  rfl

theorem rangeK_sound (hTy : TyOk P Ty) {H : Heap} {t : Nat} {x : AV} {K : AV → Heap → Option R} {r : R} (h : rangeK Ty H t x K = some r) :
    ∃ v H', K v H' = some r ∧ ∀ E w xv, VRel E x xv → HRel E H w → ∃ y w' E', (Instr.range t xv).run P w = .ok y w' ∧ VRel E' v y ∧ HRel E' H' w' ∧ Ext E E' ∧ Fr E H w E' H' w' := by
  unfold rangeK at h
  split at h
  · rename_i s hT
    obtain ⟨info, d, hi, hu, hd, _⟩ := hTy.ok _ _ hT
    have := str_of hd; subst this
    refine ⟨_, _, h, fun E w xv hx hH => ?_⟩
    cases hx
    obtain ⟨k1, k2, k3⟩ := HRel.addG (ob := .stringIter s 0) (ro := false) (fam := H.next) hH (blk := .siter s 0) (ent := ⟨some w.heap.size, 0, 0, 0, 0⟩) rfl trivial rfl
      ⟨.inr ⟨s, 0, rfl, (show (w.heap.push _)[w.heap.size]? = _ by rw [Array.getElem?_push, if_pos rfl]), rfl⟩⟩
    refine ⟨_, _, _, run_range_str hu s w, ?_, k1, k2, k3⟩
    have := VRel.ptr (E := envAdd E H.next ⟨some w.heap.size, 0, 0, 0, 0⟩) (id := H.next) (base := 0) (e := 0) (sz := 0) (o := 0) (ent := ⟨some w.heap.size, 0, 0, 0, 0⟩) (r := w.heap.size) (by simp [envAdd]) rfl
    simpa using this
  · cases h

theorem run_getIter {r p : Nat} {s : ByteArray} {w : World} (h : w.heap[r]? = some (.stringIter s p)) : (getObj r).run P w = .ok (.stringIter s p) w := by simp [getObj, Sem.run, h]

theorem run_setIter {r p : Nat} {s : ByteArray} {w : World} (h : w.heap[r]? = some (.stringIter s p)) (o : Obj) : (setObj r o).run P w = .ok () { w with heap := w.heap.setIfInBounds r o } := by simp [setObj, Sem.run, h]

theorem nextK_sound {H : Heap} {str : Bool} {x : AV} {K : AV → Heap → Option R} {r : R} (h : nextK H str x K = some r) :
    ∃ v H', K v H' = some r ∧ ∀ E w xv ty, VRel E x xv → HRel E H w → ∃ y w', (Instr.next xv str ty).run P w = .ok y w' ∧ VRel E v y ∧ HRel E H' w' ∧ Fr E H w E H' w' := by
  unfold nextK at h
  split at h
  · rename_i id base e sz o
    split at h
    · rename_i fam ro s pos hg
      obtain ⟨h0, h⟩ := cond_none_some h
      rw [Bool.or_eq_false_iff, Bool.not_eq_false'] at h0
      obtain ⟨hro, hz⟩ := h0
      have hz := beq_eq hz
      have lies : ∀ E w xv, VRel E (.ptr id base e sz o) xv → HRel E H w → ∃ ent rr p, xv = .pointer (some ⟨rr, 0, none⟩) ∧ E id = some ent ∧ ent.r = some rr ∧ pos = ((p : Nat) : Int) ∧ w.heap[rr]? = some (.stringIter s p) ∧ ent.off = 0 := by
        intro E w xv hx hH
        cases hx with
        | ptr he hr =>
          rename_i ent rr
          obtain ⟨ent', he', hB⟩ := hH.live _ _ hg
          rw [he] at he'; cases he'
          rcases (hB.lies _ hr).ex with ⟨_, _, _, _, _, _, _, _, hi⟩ | ⟨s', p, hb, hw, ho⟩
          · cases hi
          · cases hb
            exact ⟨ent, rr, p, by rw [hz, ho], he, hr, rfl, hw, ho⟩
      rcases bool_cases h with ⟨hlt, hK⟩ | ⟨hlt, hK⟩
      · have hlt := of_decide_eq_true hlt
        refine ⟨_, _, hK, fun E w xv ty hx hH => ?_⟩
        obtain ⟨ent, rr, p, rfl, he, hr, rfl, hw, ho⟩ := lies E w xv hx hH
        have hlt' : p < s.size := by omega
        have hb := (Array.getElem?_eq_some_iff.1 hw).1
        obtain ⟨k1, k2⟩ := hH.setG (w' := { w with heap := w.heap.setIfInBounds rr (.stringIter s (p + (Utf8.decode s p).2)) }) (blk := .siter s ((p : Int) + runeW s (p : Int))) hg he hr
          (fun b hne => by simp [Array.getElem?_setIfInBounds, Ne.symm hne]) ⟨rfl, rfl, rfl, by simp⟩ rfl trivial
          ⟨.inr ⟨s, p + (Utf8.decode s p).2, by unfold runeW; rw [Int.toNat_natCast, ← Int.natCast_add], by simp [Array.getElem?_setIfInBounds, hb], ho⟩⟩
        refine ⟨.tuple #[.bool true, goInt p, .int .i32 ((Utf8.decode s p).1 : Nat)], _, ?_, ?_, k1, k2⟩
        · unfold Instr.next
          simp only [Sem.run_bind, run_getIter hw, Result.andThen_ok, hlt', if_true, run_setIter hw, Sem.run_pure]
        · exact .tup (.cons (.b _) (.cons (.i _ _) (.cons (by unfold runeAt; exact .i _ _) .nil)))
      · have hlt := of_decide_eq_false hlt
        refine ⟨_, _, hK, fun E w xv ty hx hH => ?_⟩
        obtain ⟨ent, rr, p, rfl, he, hr, rfl, hw, ho⟩ := lies E w xv hx hH
        have hlt' : ¬ p < s.size := by omega
        refine ⟨.tuple #[.bool false], w, ?_, .tup (.cons (.b _) .nil), hH, Fr.refl E H w⟩
        unfold Instr.next
        simp only [Sem.run_bind, run_getIter hw, Result.andThen_ok, hlt', if_false, Sem.run_pure]
    · cases h
  · cases h

theorem opK_sound (hTy : TyOk P Ty) (hEq : EqOk P Ty) {T : Tmps} {H : Heap} {o : Oper} {K : AV → Heap → Option R} {r : R} (h : opK Ty T H o.op K = some r) :
    ∃ v H', K v H' = some r ∧ OpV P T H o v H' := by
  unfold opK at h
  split at h
  · -- move
    rename_i x ho
    exact ⟨_, _, h, OpV.pure (fun a => pure (a.eval x)) (fun a => by unfold execOp; rw [ho]; rfl) fun E a w hT hH => ⟨_, rfl, opd_rel hT x⟩⟩
  · rename_i x ho
    exact ⟨_, _, h, OpV.pure (fun a => pure (a.eval x)) (fun a => by unfold execOp; rw [ho]; rfl) fun E a w hT hH => ⟨_, rfl, opd_rel hT x⟩⟩
  · -- pick
    rename_i c x y ho
    split at h
    · rename_i b hb
      have key : ∀ (E : Env) (a : Act) (w : World), TRel E T a → (execOp a.eval o).run P w = .ok (.value (if b = true then a.eval x else a.eval y)) w := by
        intro E a w hT
        have hv := opd_rel hT c
        rw [hb] at hv
        unfold execOp; rw [ho]
        dsimp only
        generalize a.eval c = cv at hv
        cases hv
        simp [run_asBool]
      cases b with
      | true => exact ⟨_, _, h, fun E a w hT hH => ⟨_, w, E, _, key E a w hT, .inl rfl, opd_rel hT x, hH, Ext.refl E, Fr.refl E H w⟩⟩
      | false => exact ⟨_, _, h, fun E a w hT hH => ⟨_, w, E, _, key E a w hT, .inl rfl, opd_rel hT y, hH, Ext.refl E, Fr.refl E H w⟩⟩
    · cases h
  · -- alloc
    rename_i t ho
    split at h
    · rename_i i hT
      obtain ⟨info, d, hi, hu, hd, hsz, _, z, hz, hzr⟩ := hTy.ok _ _ hT
      unfold allocK at h
      split at h
      · rename_i b hb
        refine ⟨_, _, h, OpV.made (fun a => Instr.alloc t true (.tuple #[])) (fun a => by unfold execOp; rw [ho]) fun E a w hTr hH => ?_⟩
        obtain ⟨E', k1, k2, k3, k4⟩ := alloc_sound (t := t) hH (hzr E) hb
        refine ⟨_, _, E', ?_, k4, k1, k2, k3⟩
        unfold Instr.alloc
        simp only [Sem.run_bind, run_zeroValue hi hz, Result.andThen_ok, newVar, run_newRow, Sem.run_pure]
      · cases h
    · cases h
  · -- box
    rename_i t x ho
    split at h
    · unfold allocK at h
      split at h
      · rename_i b hb
        refine ⟨_, _, h, OpV.made (fun a => Instr.box t (a.eval x)) (fun a => by unfold execOp; rw [ho]) fun E a w hTr hH => ?_⟩
        obtain ⟨E', k1, k2, k3, k4⟩ := alloc_sound (t := t) hH (opd_rel hTr x) hb
        refine ⟨_, _, E', ?_, k4, k1, k2, k3⟩
        unfold Instr.box
        simp only [Sem.run_bind, Result.andThen_ok, newVar, run_newRow, Sem.run_pure]
      · cases h
    · cases h
  · -- build
    rename_i t parts ho
    have hparts : ∀ (a : Act), (parts.map fun p : Nat × Operand => (p.1, a.eval p.2)).toList = parts.toList.map fun p => (p.1, a.eval p.2) := fun a => Array.toList_map
    split at h
    · rename_i fs size bytes z hT
      obtain ⟨hall, h⟩ := cond_some h
      split at h
      · rename_i zs h'
        clear h'
        split at h
        · rename_i cs hcs
          refine ⟨_, _, h, OpV.pure (fun a => Instr.build t (parts.map fun p => (p.1, a.eval p.2))) (fun a => by unfold execOp; rw [ho]) fun E a w hTr hH => ?_⟩
          obtain ⟨p1, p2⟩ := parts_rel hTr parts.toList
          rw [← hparts] at p1 p2
          obtain ⟨zv, hzv, hk⟩ := build_struct hTy hT rfl hall hcs p1 p2 w
          obtain ⟨vs, k1, k2⟩ := hk zv.cells (hzv.cells rfl) rfl
          exact ⟨_, k1, .agg k2⟩
        · cases h
      · rename_i pre sh n xs post h'
        clear h'
        split at h
        · rename_i cs hcs
          obtain ⟨hcl, h⟩ := cond_some h
          have hcl := beq_eq hcl
          refine ⟨_, _, h, OpV.pure (fun a => Instr.build t (parts.map fun p => (p.1, a.eval p.2))) (fun a => by unfold execOp; rw [ho]) fun E a w hTr hH => ?_⟩
          obtain ⟨p1, p2⟩ := parts_rel hTr parts.toList
          rw [← hparts] at p1 p2
          obtain ⟨zv, hzv, hk⟩ := build_struct hTy hT rfl hall (fillL_append _ (flatRow sh xs ++ post) _ _ _ hcs) p1 p2 w
          cases hzv with
          | mix hzv hn =>
            rename_i zvs
            obtain ⟨vs, k1, k2⟩ := hk zvs (by rw [List.append_assoc] at hzv; exact hzv) rfl
            exact ⟨_, k1, .mix (by rw [List.append_assoc]; exact k2) hn⟩
        · cases h
      · cases h
    · rename_i n el size bytes zs hT
      split at h
      · rename_i ei hTe
        split at h
        · rename_i cs hcs
          refine ⟨_, _, h, OpV.pure (fun a => Instr.build t (parts.map fun p => (p.1, a.eval p.2))) (fun a => by unfold execOp; rw [ho]) fun E a w hTr hH => ?_⟩
          obtain ⟨p1, p2⟩ := parts_rel hTr parts.toList
          rw [← hparts] at p1 p2
          obtain ⟨vs, k1, k2⟩ := build_arr hTy hT rfl hTe rfl hcs p1 p2 w
          exact ⟨_, k1, .agg k2⟩
        · cases h
      · cases h
    · cases h
  · -- buildSlice
    rename_i t len parts ho
    obtain ⟨v, H', hK, hs⟩ := buildSliceK_sound hTy h
    refine ⟨v, H', hK, OpV.made (fun a => Instr.buildSlice t len (parts.map fun p => (p.1, a.eval p.2))) (fun a => by unfold execOp; rw [ho]) fun E a w hTr hH => ?_⟩
    obtain ⟨p1, p2⟩ := parts_rel hTr parts.toList
    have hparts : (parts.map fun p : Nat × Operand => (p.1, a.eval p.2)).toList = parts.toList.map fun p => (p.1, a.eval p.2) := Array.toList_map
    rw [← hparts] at p1 p2
    exact hs E _ w p1 p2 hH
  · -- load
    rename_i t a' ho
    obtain ⟨v, hK, hs⟩ := loadK_sound (P := P) hTy h
    exact ⟨v, H, hK, OpV.pure (fun a => Instr.loadAt t (a.eval a')) (fun a => by unfold execOp; rw [ho]) fun E a w hTr hH => hs E w _ (opd_rel hTr a') hH⟩
  · -- store
    rename_i t a' x ho
    obtain ⟨H', hK, hs⟩ := storeK_sound (P := P) hTy h
    refine ⟨.u, H', hK, fun E a w hTr hH => ?_⟩
    obtain ⟨w', k1, k2, k3⟩ := hs E w _ _ (opd_rel hTr a') (opd_rel hTr x) hH
    refine ⟨undef, w', E, .skip, ?_, .inr ⟨rfl, rfl⟩, .u, k2, Ext.refl E, k3⟩
    unfold execOp; rw [ho]
    simp only [Sem.run_bind, k1, Result.andThen_ok, Sem.run_pure]
  · -- nilCheck
    rename_i x ho
    split at h
    · rename_i id b e sz o' hx
      refine ⟨_, _, h, fun E a w hTr hH => ?_⟩
      have hv := opd_rel hTr x
      rw [hx] at hv
      refine ⟨a.eval x, w, E, .value (a.eval x), ?_, .inl rfl, hv, hH, Ext.refl E, Fr.refl E H w⟩
      unfold execOp; rw [ho]
      dsimp only
      generalize a.eval x = xv at hv
      cases hv; rfl
    · rename_i f cap hx
      refine ⟨_, _, h, fun E a w hTr hH => ?_⟩
      have hv := opd_rel hTr x
      rw [hx] at hv
      refine ⟨a.eval x, w, E, .value (a.eval x), ?_, .inl rfl, hv, hH, Ext.refl E, Fr.refl E H w⟩
      unfold execOp; rw [ho]
      dsimp only
      generalize a.eval x = xv at hv
      cases hv; rfl
    · cases h
  · -- binOp
    rename_i op t x y b ho
    obtain ⟨v, hK, hs⟩ := binK_sound hTy hEq h
    exact ⟨v, H, hK, OpV.pure (fun a => (do eqGuard op t x y (a.eval x) (a.eval y); binOp op t (a.eval x) (a.eval y) : Sem Value)) (fun a => by unfold execOp; rw [ho]) fun E a w hTr hH => hs E _ _ x y w (opd_rel hTr x) (opd_rel hTr y)⟩
  · -- unOp
    rename_i op t x ho
    obtain ⟨v, hK, hs⟩ := unK_sound (P := P) h
    exact ⟨v, H, hK, OpV.pure (fun a => Op.unary op (a.eval x)) (fun a => by unfold execOp; rw [ho]) fun E a w hTr hH => hs E _ w (opd_rel hTr x)⟩
  · -- convert
    rename_i src dst x ho
    split at h
    · rename_i ks _ _ _ k _ _ _ k' n hTs hTd hx
      obtain ⟨_, ds, _, hus, hds, _⟩ := hTy.ok _ _ hTs
      obtain ⟨_, dd, _, hud, hdd, _⟩ := hTy.ok _ _ hTd
      have := int_ty hds; subst this
      have := int_ty hdd; subst this
      refine ⟨_, _, h, OpV.pure (fun a => convert src dst (a.eval x)) (fun a => by unfold execOp; rw [ho]) fun E a w hTr hH => ?_⟩
      have hv := opd_rel hTr x
      rw [hx] at hv
      rw [int_of hv]
      refine ⟨_, ?_, .i _ _⟩
      unfold convert
      simp only [Sem.run_bind, run_underlying hus, run_underlying hud, Result.andThen_ok]
      rfl
    · rename_i s hTs hTd hx
      obtain ⟨_, ds, _, hus, hds, _⟩ := hTy.ok _ _ hTs
      obtain ⟨_, dd, _, hud, hdd, _⟩ := hTy.ok _ _ hTd
      have := str_of hds; subst this
      have := str_of hdd; subst this
      refine ⟨_, _, h, OpV.pure (fun a => convert src dst (a.eval x)) (fun a => by unfold execOp; rw [ho]) fun E a w hTr hH => ?_⟩
      have hv := opd_rel hTr x
      rw [hx] at hv
      refine ⟨_, ?_, .s _⟩
      generalize a.eval x = xv at hv
      cases hv
      unfold convert
      simp only [Sem.run_bind, run_underlying hus, run_underlying hud, Result.andThen_ok]
      rfl
    · rename_i el _ _ _ s hTs hTd hx
      split at h
      · rename_i hTe
        obtain ⟨_, ds, _, hus, hds, _⟩ := hTy.ok _ _ hTs
        obtain ⟨_, dd, _, hud, hdd, _⟩ := hTy.ok _ _ hTd
        obtain ⟨_, ed, _, hue, hde, _⟩ := hTy.ok _ _ hTe
        have := slice_of hdd; subst this
        refine ⟨_, _, h, OpV.made (fun a => convert src dst (a.eval x)) (fun a => by unfold execOp; rw [ho]) fun E a w hTr hH => ?_⟩
        have hv := opd_rel hTr x
        rw [hx] at hv
        generalize a.eval x = xv at hv
        cases hv
        exact str_bytes hTy hus hds hud hue hde hH s
      · cases h
    · rename_i el _ _ _ _ _ _ hTs hTd
      split at h
      · cases h
      · rename_i hTe hns
        obtain ⟨_, ds, _, hus, hds, _⟩ := hTy.ok _ _ hTs
        obtain ⟨_, dd, _, hud, hdd, _⟩ := hTy.ok _ _ hTd
        obtain ⟨_, ed, _, hue, hde, _⟩ := hTy.ok _ _ hTe
        have := slice_of hds; subst this
        have := str_of hdd; subst this
        have := int_ty hde; subst this
        obtain ⟨ys, hK, hsh⟩ := shownK_sound (P := P) h
        refine ⟨_, _, hK, OpV.pure (fun a => convert src dst (a.eval x)) (fun a => by unfold execOp; rw [ho]) fun E a w hTr hH => ?_⟩
        have hv := opd_rel hTr x
        have hS := hsh E _ w hv hH
        have hnos : ∀ s, a.eval x ≠ .string s := by
          intro s hs
          rw [hs] at hv
          generalize hy : opd T x = y at hv h hns
          cases hv with
          | s => exact hns _ rfl
          | junk => simp [shownK] at h
        refine ⟨_, ?_, .s _⟩
        have hb := bytes_str hS hnos
        unfold convert
        simp only [Sem.run_bind, run_underlying hus, run_underlying hud, Result.andThen_ok]
        generalize a.eval x = xv at *
        rcases hS.kind with hk | ⟨_, _, _, _, hk⟩ | ⟨_, hk⟩ | ⟨_, _, hk⟩
        · subst hk; simp only [Sem.run_bind, run_underlying hue, Result.andThen_ok]; exact hb
        · subst hk; simp only [Sem.run_bind, run_underlying hue, Result.andThen_ok]; exact hb
        · exact absurd hk (hnos _)
        · subst hk; simp only [Sem.run_bind, run_underlying hue, Result.andThen_ok]; exact hb
      · cases h
    · cases h
  · -- makeFunc
    rename_i f first captured ho
    split at h
    · rename_i hf
      refine ⟨_, _, h, OpV.pure (fun a => Instr.makeFunc (.func f) (first.map a.eval) (captured.map a.eval)) (fun a => by unfold execOp; rw [ho]) fun E a w hTr hH => ?_⟩
      refine ⟨_, rfl, ?_⟩
      have : first.map a.eval = #[] := by
        have : first = #[] := by simpa using hf
        subst this; simp
      rw [this]
      exact .fn (by rw [Array.toList_map]; exact opdsL_rel hTr _)
    · cases h
  · -- makeSlice
    rename_i t l c ho
    obtain ⟨v, H', hK, hs⟩ := makeSliceK_sound hTy h
    exact ⟨v, H', hK, OpV.made (fun a => Instr.makeSlice t (a.eval l) (a.eval c)) (fun a => by unfold execOp; rw [ho]) fun E a w hTr hH => hs E _ _ w (opd_rel hTr l) (opd_rel hTr c) hH⟩
  · -- slice
    rename_i t x lo hi mx ho
    obtain ⟨v, hK, hs⟩ := sliceK_sound hTy h
    have ho' : ∀ {E : Env} {a : Act} (y : Option Operand), TRel E T a → ORel E (y.map (opd T)) (y.map a.eval) := by
      intro E a y hTr
      cases y with
      | none => trivial
      | some y => exact opd_rel hTr y
    exact ⟨v, H, hK, OpV.pure (fun a => Instr.sliceAt t (a.eval x) (lo.map a.eval) (hi.map a.eval) (mx.map a.eval)) (fun a => by unfold execOp; rw [ho]) fun E a w hTr hH => hs E _ _ _ _ w (opd_rel hTr x) (ho' lo hTr) (ho' hi hTr) (ho' mx hTr) hH⟩
  · -- fieldAddr
    rename_i t x f ho
    split at h
    · rename_i fs _ _ _ id base e sz o' hT hx
      split at h
      · rename_i off fti hp
        obtain ⟨h0, h⟩ := cond_none_some h
        obtain ⟨ft, hft, hTf⟩ := fieldOff_sound hTy (t := t) hp
        obtain ⟨finfo, fdd, hfi, _, _, hfsz, _⟩ := hTy.ok _ _ hTf
        obtain ⟨info, d, hi, hu, hdd, hsz, _⟩ := hTy.ok _ _ hT
        obtain ⟨fields, rfl, hfl⟩ := struct_of hdd
        obtain ⟨fd, hfd, hof, hty⟩ := field_get hfl hft
        have hne : finfo.size ≠ 0 := by
          intro hz
          rw [← hfsz, hz] at h0
          cases h0
        refine ⟨_, _, h, OpV.pure (fun a => Instr.fieldAt t (a.eval x) f) (fun a => by unfold execOp; rw [ho]) fun E a w hTr hH => ?_⟩
        have hv := opd_rel hTr x
        rw [hx] at hv
        generalize a.eval x = xv at hv
        cases hv with
        | ptr h' hr =>
          rename_i ent r'
          refine ⟨.pointer (some ⟨r', ent.off + (base + e * sz + (o' + off)), none⟩), ?_, .ptr h' hr⟩
          unfold Instr.fieldAt
          simp [run_underlying hu, hfd, hof, addr_add, Nat.add_assoc, Instr.sureAddr, fieldPlace, hty, run_sizeOf hfi, hne]
      · cases h
    · cases h
  · -- field
    rename_i t x f ho
    split at h
    · rename_i fs _ _ _ cs hT hx
      split at h
      · rename_i off fi hf
        obtain ⟨v, hK, hs⟩ := field_run hTy hT rfl hf h
        refine ⟨v, H, hK, OpV.pure (fun a => Instr.field t (a.eval x) f) (fun a => by unfold execOp; rw [ho]) fun E a w hTr hH => ?_⟩
        have hv := opd_rel hTr x
        rw [hx] at hv
        generalize a.eval x = xv at hv
        cases hv with
        | agg hv => exact hs E _ w hv
      · cases h
    · cases h
  · -- indexAddr
    rename_i t x i ho
    obtain ⟨v, hK, hs⟩ := indexAddrK_sound hTy h
    exact ⟨v, H, hK, OpV.pure (fun a => Instr.indexAt t (a.eval x) (a.eval i)) (fun a => by unfold execOp; rw [ho]) fun E a w hTr hH => hs E _ _ w (opd_rel hTr x) (opd_rel hTr i) hH⟩
  · -- index
    rename_i t x i ho
    split at h
    · rename_i s k j hT hx hi
      obtain ⟨_, d, _, hu, hd, _⟩ := hTy.ok _ _ hT
      have := str_of hd; subst this
      cases hsa : strAt s j with
      | none => rw [hsa] at h; cases h
      | some c =>
        rw [hsa, Option.bind_some] at h
        refine ⟨_, _, h, OpV.pure (fun a => Instr.index t (a.eval x) (a.eval i)) (fun a => by unfold execOp; rw [ho]) fun E a w hTr hH => ?_⟩
        have hv := opd_rel hTr x
        have hw := opd_rel hTr i
        rw [hx] at hv
        rw [hi] at hw
        rw [int_of hw]
        generalize a.eval x = xv at hv
        cases hv
        exact ⟨_, strAt_run hu hsa w, .i _ _⟩
    · rename_i n el _ _ _ cs k j hT hx hi
      obtain ⟨_, d, _, hu, hd, _⟩ := hTy.ok _ _ hT
      have := arr_of hd; subst this
      split at h
      · rename_i ei hTe
        obtain ⟨v, hK, hs⟩ := idx_run hTy hu hTe h
        refine ⟨v, H, hK, OpV.pure (fun a => Instr.index t (a.eval x) (a.eval i)) (fun a => by unfold execOp; rw [ho]) fun E a w hTr hH => ?_⟩
        have hv := opd_rel hTr x
        have hw := opd_rel hTr i
        rw [hx] at hv
        rw [hi] at hw
        rw [int_of hw]
        generalize a.eval x = xv at hv
        cases hv with
        | agg hv => exact hs E _ _ w hv
      · cases h
    · cases h
  · -- extract
    rename_i t ix ho
    split at h
    · rename_i vs hx
      split at h
      · rename_i v hv
        refine ⟨_, _, h, OpV.pure (fun a => Instr.extract (a.eval t) ix) (fun a => by unfold execOp; rw [ho]) fun E a w hTr hH => ?_⟩
        have hr := opd_rel hTr t
        rw [hx] at hr
        generalize a.eval t = xv at hr
        cases hr with
        | tup hr =>
          obtain ⟨x, hx, hrel⟩ := hr.arr hv
          refine ⟨x, ?_, hrel⟩
          unfold Instr.extract
          simp [hx]
      · cases h
    · cases h
  · -- range
    rename_i t x ho
    obtain ⟨v, H', hK, hs⟩ := rangeK_sound hTy h
    exact ⟨v, H', hK, OpV.made (fun a => Instr.range t (a.eval x)) (fun a => by unfold execOp; rw [ho]) fun E a w hTr hH => hs E w _ (opd_rel hTr x) hH⟩
  · -- next
    rename_i x str ho
    obtain ⟨v, H', hK, hs⟩ := nextK_sound (P := P) h
    refine ⟨v, H', hK, OpV.made (fun a => Instr.next (a.eval x) str o.type) (fun a => by unfold execOp; rw [ho]) fun E a w hTr hH => ?_⟩
    obtain ⟨y, w', k1, k2, k3, k4⟩ := hs E w _ o.type (opd_rel hTr x) hH
    exact ⟨y, w', E, k1, k2, k3, Ext.refl E, k4⟩
  · cases h

end
end Go.Ab
