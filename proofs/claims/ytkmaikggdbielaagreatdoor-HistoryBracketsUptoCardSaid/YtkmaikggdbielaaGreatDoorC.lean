/- The framework, part C: operations on abstract values and heaps, and which of the model's operations they stand for. No condition. -/
import Derived.Test.YtkmaikggdbielaaGreatDoorB
namespace Go.Proofs.YtkmaikggdbielaaGreatDoor.Fw
open Go

inductive X where
  | s (t : Nat)
  | k (v : V)
  | g (n : Nat)
  deriving Inhabited

abbrev Fr := List (Nat × V)
def Fr.get : Fr → Nat → Option V
  | [], _ => none
  | (s, v) :: r, t => if s = t then some v else Fr.get r t

def X.ev (fr : Fr) (H : Heap) : X → Option V
  | .s t => fr.get t
  | .k v => some v
  | .g n => if n < H.gn then some (.ptr n 0) else none
def evL (fr : Fr) (H : Heap) : List X → Option (List V)
  | [] => some []
  | x :: xs => match x.ev fr H, evL fr H xs with
    | some v, some vs => some (v :: vs)
    | _, _ => none

/-- Operations whose operands are values. -/
inductive AK where
  | mov | pick | nilck
  | ibin (op : BinOp) | bbin (neg : Bool) | sbin (op : BinOp) | fbin (op : BinOp) | eqnil (cls : Nat) (neg : Bool) | eqagg (neg : Bool) (ks : List Nat)
  | neg | bnot
  | fa (off : Nat) | ia (sz : Nat) | iar (len sz : Nat)
  | ld (n : Nat) | lda (n : Nat) | st (n : Nat)
  | alloc (zero : List V) | box
  | build (zero : List V) (parts : List (Nat × Nat))
  | bsl (sz len : Nat) (cells : List V) (parts : List (Nat × Nat))
  | konst (v : V) | len | slen | cap
  | app (sz bytes : Nat) | appz (sz bytes : Nat) (zero : List V) | copy (sz : Nat) | clear (zero : List V) | mn | mx
  | slc (sz : Nat) (lo hi mx : Bool) | slca (len sz : Nat) (lo hi mx : Bool) | slcs (lo hi : Bool)
  | ext (i : Nat) | fld (off : Nat) | flda (off n : Nat)
  | idxs | idxa (len : Nat)
  | mkfn (f : Fn) (n : Nat)
  | toInt (k : IntKind) | b2s | s2b | id
  | rits | rnext
  | mkmap | mset (c : Nat) | look (c : Nat) (zero : V) (ok : Bool) | mdel (c : Nat)
  deriving Inhabited

def intBin (op : BinOp) (k : IntKind) (a b : Int) : Option V :=
  match op with
  | .add => some (.int k (k.wrap (a + b)))
  | .sub => some (.int k (k.wrap (a - b)))
  | .mul => some (.int k (k.wrap (a * b)))
  | .quo => if b = 0 then none else some (.int k (k.wrap (a.tdiv b)))
  | .rem => if b = 0 then none else some (.int k (a.tmod b))
  | .and => some (.int k (k.wrap (BitVec.ofInt k.bits a &&& BitVec.ofInt k.bits b).toNat))
  | .or => some (.int k (k.wrap (BitVec.ofInt k.bits a ||| BitVec.ofInt k.bits b).toNat))
  | .xor => some (.int k (k.wrap (BitVec.ofInt k.bits a ^^^ BitVec.ofInt k.bits b).toNat))
  | .andNot => some (.int k (k.wrap (BitVec.ofInt k.bits a &&& ~~~ BitVec.ofInt k.bits b).toNat))
  | .shl => none
  | .shr => none
  | .eql => some (.bool (a == b))
  | .neq => some (.bool (a != b))
  | .lss => some (.bool (a < b))
  | .leq => some (.bool (a ≤ b))
  | .gtr => some (.bool (a > b))
  | .geq => some (.bool (a ≥ b))
def intSh (op : BinOp) (k : IntKind) (a b : Int) : Option V :=
  match op with
  | .shl => if b < 0 then none else some (.int k (k.wrap (a * 2 ^ (min b.toNat k.bits))))
  | .shr => if b < 0 then none else some (.int k (a.fdiv (2 ^ (min b.toNat k.bits))))
  | _ => none
def ibin (op : BinOp) (k : IntKind) (a : Int) (k' : IntKind) (b : Int) : Option V :=
  match op with
  | .shl => intSh .shl k a b
  | .shr => intSh .shr k a b
  | op => if k = k' then intBin op k a b else none
def strBin (op : BinOp) (x y : ByteArray) : Option V :=
  let eq := x.toList == y.toList
  let lt := Op.bytesLess x.toList y.toList
  match op with
  | .add => if x.size + y.size ≤ 9223372036854775807 then some (.str (x ++ y)) else none
  | .eql => some (.bool eq)
  | .neq => some (.bool !eq)
  | .lss => some (.bool lt)
  | .leq => some (.bool (lt || eq))
  | .gtr => some (.bool !(lt || eq))
  | .geq => some (.bool !lt)
  | _ => none
def fltBin (op : BinOp) (k : FloatKind) (x y : Nat) : Option V :=
  let c := k.format.order x y
  match op with
  | .eql => some (.bool (c == some .eq))
  | .neq => some (.bool (c != some .eq))
  | .lss => some (.bool (c == some .lt))
  | .leq => some (.bool (c == some .lt || c == some .eq))
  | .gtr => some (.bool (c == some .gt))
  | .geq => some (.bool (c == some .gt || c == some .eq))
  | _ => none

/-- Cells alike: numbers, bools, strings. -/
def V.same : V → V → Option Bool
  | .int j a, .int k b => if j = k then some (a == b) else none
  | .bool a, .bool b => some (a == b)
  | .str a, .str b => some (a.toList == b.toList)
  | _, _ => none
def V.sameK : Nat → V → V → Option Bool
  | 0, .int j a, .int k b => if j = k then some (a == b) else none
  | 1, .bool a, .bool b => some (a == b)
  | 2, .str a, .str b => some (a.toList == b.toList)
  | _, _, _ => none
def sameL : List Nat → List V → List V → Option Bool
  | [], [], [] => some true
  | k :: ks, a :: as, b :: bs => match V.sameK k a b, sameL ks as bs with
    | some x, some y => some (x && y)
    | _, _ => none
  | _, _, _ => none

def splice (cells : List V) (off : Nat) (vs : List V) : List V := cells.take off ++ vs ++ cells.drop (off + vs.length)
def fillA : List V → List ((Nat × Nat) × V) → Option (List V)
  | cells, [] => some cells
  | cells, ((off, size), v) :: r => if v.cells.length = size ∧ off + size ≤ cells.length then fillA (splice cells off v.cells) r else none

/-- The cells that a slice of so many elements has. -/
def readN (H : Heap) (n : Nat) : V → Option (List V)
  | .nils => if n = 0 then some [] else none
  | .slice id off _ _ => if n = 0 then some [] else match H.get id with
    | some (.row _ _ cells) => if off + n ≤ cells.length then some ((cells.drop off).take n) else none
    | _ => none
  | _ => none
def lenV : V → Option Nat
  | .nils => some 0
  | .slice _ _ n _ => some n
  | .str s => some s.size
  | _ => none
def bytesV (s : ByteArray) : List V := s.data.toList.map fun b => .int .u8 b.toNat
def srcCells (H : Heap) (n sz : Nat) : V → Option (List V)
  | .str s => if sz = 1 then some ((bytesV s).take n) else none
  | v => readN H (n * sz) v

/-- Writes cells where a row of the call's own has them. -/
def writeAt (H : Heap) (id off : Nat) (vs : List V) : Option Heap :=
  match H.get id with
  | some (.row false esz cells) => if off + vs.length ≤ cells.length ∧ vs.all V.one then some (H.set id (.row false esz (splice cells off vs))) else none
  | _ => none

def appendA (H : Heap) (sz bytes : Nat) (s x : V) : Option (V × Heap) :=
  match lenV x with
  | none => none
  | some n =>
    match srcCells H n sz x with
    | none => none
    | some news =>
      if news.length ≠ n * sz ∨ ¬ news.all V.one ∨ sz = 0 then none else
      match s with
      | .nils =>
        if n = 0 then some (.nils, H)
        else if n * bytes ≤ 140737488355328 ∧ n ≤ 9223372036854775807 then some (.slice H.next 0 n none, H.new (.row false sz news)) else none
      | .slice id off len cap =>
        if n = 0 then some (s, H) else
        if ¬ ((len + n) * bytes ≤ 140737488355328 ∧ len + n ≤ 9223372036854775807) then none else
        match cap with
        | some c =>
          if len + n ≤ c then (writeAt H id (off + len * sz) news).map fun H' => (.slice id off (len + n) (some c), H')
          else (readN H (len * sz) s).bind fun olds => if olds.all V.one then some (.slice H.next 0 (len + n) none, H.new (.row false sz (olds ++ news))) else none
        | none =>
          match H.get id with
          | some (.row false esz cells) =>
            if esz = sz ∧ off + len * sz ≤ cells.length ∧ cells.all V.one then
              some (.slice H.next 0 (len + n) none, (H.kill id).new (.row false sz ((cells.drop off).take (len * sz) ++ news)))
            else none
          | _ => none
      | _ => none

def natV : V → Option Nat
  | .int _ i => if 0 ≤ i then some i.toNat else none
  | _ => none
/-- Low, high, max out of what is given, the defaults 0, len, cap. -/
def bounds3 (lo hi mx : Bool) (dh dm : Nat) (vs : List V) : Option (Nat × Nat × Nat) :=
  match lo, hi, mx, vs with
  | false, false, false, [] => some (0, dh, dm)
  | true, false, false, [a] => (natV a).map fun a => (a, dh, dm)
  | false, true, false, [b] => (natV b).map fun b => (0, b, dm)
  | true, true, false, [a, b] => match natV a, natV b with | some a, some b => some (a, b, dm) | _, _ => none
  | false, true, true, [b, c] => match natV b, natV c with | some b, some c => some (0, b, c) | _, _ => none
  | true, true, true, [a, b, c] => match natV a, natV b, natV c with | some a, some b, some c => some (a, b, c) | _, _, _ => none
  | _, _, _, _ => none

def mnI : IntKind → Int → List V → Option V
  | k, a, [] => some (.int k a)
  | k, a, .int _ b :: r => mnI k (if b < a then b else a) r
  | _, _, _ => none
def mxI : IntKind → Int → List V → Option V
  | k, a, [] => some (.int k a)
  | k, a, .int _ b :: r => mxI k (if b > a then b else a) r
  | _, _, _ => none

def byteOf : V → Option UInt8
  | .int .u8 n => some (UInt8.ofNat n.toNat)
  | _ => none

def bytesL : List V → Option (List UInt8)
  | [] => some []
  | v :: r => match byteOf v, bytesL r with
    | some b, some l => some (b :: l)
    | _, _ => none

/-- The place of a key: numbers and strings alone. -/
def findE (c : Nat) (k : V) : List (V × V) → Option (Option Nat)
  | [] => some none
  | (k', _) :: r => match V.sameK c k k' with
    | some true => some (some 0)
    | some false => (findE c k r).map fun o => o.map (· + 1)
    | none => none
def keyC : TypeDesc → Option Nat
  | .int _ => some 0
  | .string => some 2
  | _ => none
def keyOk : Nat → V → Bool
  | 0, .int _ _ => true
  | 2, .str _ => true
  | _, _ => false

/-- Two pointers (0), slices (1), maps (2), functions (3), one of them nil. -/
def nilEq : Nat → V → V → Option Bool
  | 0, .nilp, .nilp => some true
  | 0, .nilp, .ptr _ _ => some false
  | 0, .ptr _ _, .nilp => some false
  | 1, .nils, .nils => some true
  | 1, .nils, .slice _ _ _ _ => some false
  | 1, .slice _ _ _ _, .nils => some false
  | 2, .nilm, .nilm => some true
  | 2, .nilm, .map _ => some false
  | 2, .map _, .nilm => some false
  | 3, .nilf, .nilf => some true
  | 3, .nilf, .fn _ _ _ => some false
  | 3, .fn _ _ _, .nilf => some false
  | _, _, _ => none

def slcOk (H : Heap) (sz id : Nat) (cap : Option Nat) (mx : Bool) : Bool :=
  match cap with
  | some _ => true
  | none => mx || match H.get id with
    | some (.row false esz _) => esz == sz
    | _ => true

def exec (k : AK) (vs : List V) (H : Heap) : Option (V × Heap) :=
  match k with
  | .mov => match vs with
    | [v] => some (v, H)
    | _ => none
  | .pick => match vs with
    | [.bool c, a, b] => some (if c then a else b, H)
    | _ => none
  | .nilck => match vs with
    | [.ptr id off] => some (.ptr id off, H)
    | [.fn (.func f) a b] => some (.fn (.func f) a b, H)
    | _ => none
  | .ibin op => match vs with
    | [.int k a, .int k' b] => (ibin op k a k' b).map (·, H)
    | _ => none
  | .bbin n => match vs with
    | [.bool a, .bool b] => some (.bool ((a == b) != n), H)
    | _ => none
  | .sbin op => match vs with
    | [.str a, .str b] => (strBin op a b).map (·, H)
    | _ => none
  | .fbin op => match vs with
    | [.float k a, .float k' b] => if k = k' then (fltBin op k a b).map (·, H) else none
    | _ => none
  | .eqnil c n => match vs with
    | [a, b] => (nilEq c a b).map fun q => (.bool (q != n), H)
    | _ => none
  | .eqagg n ks => match vs with
    | [.agg a, .agg b] => (sameL ks a b).map fun r => (.bool (r != n), H)
    | _ => none
  | .neg => match vs with
    | [.int k a] => some (.int k (k.wrap (0 - a)), H)
    | _ => none
  | .bnot => match vs with
    | [.bool b] => some (.bool !b, H)
    | _ => none
  | .fa off => match vs with
    | [.ptr id o] => some (.ptr id (o + off), H)
    | _ => none
  | .ia sz => match vs with
    | [.slice id off len _, .int _ i] => if 0 ≤ i ∧ i < len then some (.ptr id (off + i.toNat * sz), H) else none
    | _ => none
  | .iar len sz => match vs with
    | [.ptr id off, .int _ i] => if 0 ≤ i ∧ i < len then some (.ptr id (off + i.toNat * sz), H) else none
    | _ => none
  | .ld _ => match vs with
    | [.ptr id off] =>
      match H.get id with
      | some (.row _ _ cells) => (cells[off]?).map (·, H)
      | _ => none
    | _ => none
  | .lda n => match vs with
    | [.ptr id off] =>
      match H.get id with
      | some (.row _ _ cells) => if off + n ≤ cells.length then some (.agg ((cells.drop off).take n), H) else none
      | _ => none
    | _ => none
  | .st n => match vs with
    | [.ptr id off, v] => if v.cells.length = n then (writeAt H id off v.cells).map (.undef, ·) else none
    | _ => none
  | .alloc zero => match vs with
    | [] => if zero.all V.one then some (.ptr H.next 0, H.new (.row false zero.length zero)) else none
    | _ => none
  | .box => match vs with
    | [v] => if v.cells.all V.one then some (.ptr H.next 0, H.new (.row false v.cells.length v.cells)) else none
    | _ => none
  | .build zero parts => match vs with
    | vs => if vs.length = parts.length then (fillA zero (parts.zip vs)).map fun cs => (.agg cs, H) else none
  | .bsl sz len cells parts => match vs with
    | vs =>
      if vs.length = parts.length then
        (fillA cells (parts.zip vs)).bind fun cs => if cs.all V.one then some (.slice H.next 0 len (some len), H.new (.row false sz cs)) else none
      else none
  | .konst v => match vs with
    | [_] => some (v, H)
    | _ => none
  | .len => match vs with
    | [.nils] => some (.int .i64 0, H)
    | [.slice _ _ n _] => some (.int .i64 n, H)
    | _ => none
  | .slen => match vs with
    | [.str s] => some (.int .i64 s.size, H)
    | _ => none
  | .cap => match vs with
    | [.nils] => some (.int .i64 0, H)
    | [.slice _ _ _ (some c)] => some (.int .i64 c, H)
    | _ => none
  | .appz sz bytes z => match vs with
    | [.nils, .int .i64 n] =>
      if 0 < n ∧ n * bytes ≤ 140737488355328 ∧ n ≤ 4611686018427387904 ∧ z.length = sz ∧ z.all V.one = true ∧ sz ≠ 0 then
        some (.slice H.next 0 n.toNat none, H.new (.row false sz (List.replicate n.toNat z).flatten))
      else none
    | _ => none
  | .app sz bytes => match vs with
    | [s, x] => appendA H sz bytes s x
    | _ => none
  | .copy sz => match vs with
    | [d, x] =>
      match d, lenV d, lenV x with
      | .nils, _, some _ => some (.int .i64 0, H)
      | .slice id off _ _, some dl, some sl =>
        match srcCells H (min sl dl) sz x with
        | some news => if news.length = min sl dl * sz then (writeAt H id off news).map fun H' => (.int .i64 (min sl dl : Nat), H') else none
        | none => none
      | _, _, _ => none
    | _ => none
  | .clear zero => match vs with
    | [v] =>
      match v with
      | .nils => some (.undef, H)
      | .slice _ _ 0 _ => some (.undef, H)
      | .slice id off n _ => (writeAt H id off (List.replicate n zero).flatten).map (.undef, ·)
      | _ => none
    | _ => none
  | .mn => match vs with
    | .int k a :: r => (mnI k a r).map (·, H)
    | _ => none
  | .mx => match vs with
    | .int k a :: r => (mxI k a r).map (·, H)
    | _ => none
  | .slc sz lo hi mx => match vs with
    | v :: bs =>
      match v with
      | .nils =>
        match bounds3 lo hi mx 0 0 bs with
        | some (0, 0, 0) => some (.nils, H)
        | _ => none
      | .slice id off len cap =>
        match bounds3 lo hi mx len (cap.getD len) bs with
        | some (l, h, m) =>
          if l ≤ h ∧ h ≤ m ∧ m ≤ cap.getD len ∧ slcOk H sz id cap mx = true then
            some (.slice id (off + l * sz) (h - l) (match cap, mx with | none, false => none | _, _ => some (m - l)), H)
          else none
        | none => none
      | _ => none
    | _ => none
  | .slca len sz lo hi mx => match vs with
    | .ptr id off :: bs =>
      match bounds3 lo hi mx len len bs with
      | some (l, h, m) => if l ≤ h ∧ h ≤ m ∧ m ≤ len then some (.slice id (off + l * sz) (h - l) (some (m - l)), H) else none
      | none => none
    | _ => none
  | .slcs lo hi => match vs with
    | .str s :: bs =>
      match bounds3 lo hi false s.size s.size bs with
      | some (l, h, _) => if l ≤ h ∧ h ≤ s.size then some (.str (s.extract l h), H) else none
      | none => none
    | _ => none
  | .ext i => match vs with
    | [.tup ws] => (ws[i]?).map (·, H)
    | _ => none
  | .fld off => match vs with
    | [.agg cs] => (cs[off]?).map (·, H)
    | _ => none
  | .flda off n => match vs with
    | [.agg cs] => if off + n ≤ cs.length then some (.agg ((cs.drop off).take n), H) else none
    | _ => none
  | .idxs => match vs with
    | [.str s, .int _ i] => if 0 ≤ i then (s.data.toList[i.toNat]?).map fun b => (.int .u8 b.toNat, H) else none
    | _ => none
  | .idxa len => match vs with
    | [.agg cs, .int _ i] => if 0 ≤ i ∧ i < len then (cs[i.toNat]?).map (·, H) else none
    | _ => none
  | .mkfn f n => match vs with
    | vs => some (.fn f (vs.take n) (vs.drop n), H)
  | .toInt k => match vs with
    | [.int _ n] => some (.int k (k.wrap n), H)
    | _ => none
  | .b2s => match vs with
    | [v] => match lenV v with
      | some n => match readN H n v with
        | some cs => (bytesL cs).map fun bs => (.str ⟨bs.toArray⟩, H)
        | none => none
      | none => none
    | _ => none
  | .s2b => match vs with
    | [.str s] => some (.slice H.next 0 s.size none, H.new (.row false 1 (bytesV s)))
    | _ => none
  | .id => match vs with
    | [.str s] => some (.str s, H)
    | _ => none
  | .rits => match vs with
    | [.str s] => some (.ptr H.next 0, H.new (.iter s 0))
    | _ => none
  | .rnext => match vs with
    | [.ptr id 0] =>
      match H.get id with
      | some (.iter s pos) =>
        if pos < s.size then some (.tup [.bool true, .int .i64 pos, .int .i32 (Utf8.decode s pos).1], H.set id (.iter s (pos + (Utf8.decode s pos).2)))
        else some (.tup [.bool false], H)
      | _ => none
    | _ => none
  | .mkmap => match vs with
    | [] => some (.map H.next, H.new (.mapo []))
    | _ => none
  | .mset c => match vs with
    | [.map id, k, v] =>
      match H.get id with
      | some (.mapo es) =>
        match (if keyOk c k then findE c k es else none) with
        | some none => some (.undef, H.set id (.mapo (es ++ [(k, v)])))
        | some (some i) => some (.undef, H.set id (.mapo (es.set i (k, v))))
        | none => none
      | _ => none
    | _ => none
  | .look c zero ok => match vs with
    | [.map id, k] =>
      match H.get id with
      | some (.mapo es) =>
        match (if keyOk c k then findE c k es else none) with
        | some none => some (if ok then .tup [zero, .bool false] else zero, H)
        | some (some i) => (es[i]?).map fun e => (if ok then .tup [e.2, .bool true] else e.2, H)
        | none => none
      | _ => none
    | _ => none
  | .mdel c => match vs with
    | [.map id, k] =>
      match H.get id with
      | some (.mapo es) =>
        match (if keyOk c k then findE c k es else none) with
        | some none => some (.undef, H)
        | some (some i) => some (.undef, H.set id (.mapo (es.eraseIdx i)))
        | none => none
      | _ => none
    | _ => none

/-! ### Which of the model's operations these are -/
def abs1 : Value → Option V
  | .bool b => some (.bool b)
  | .int k n => some (.int k n)
  | .float k n => some (.float k n)
  | .string s => some (.str s)
  | .pointer none => some .nilp
  | .slice none 0 0 => some .nils
  | .map none => some .nilm
  | .nilFunc => some .nilf
  | _ => none
def absL : List Value → Option (List V)
  | [] => some []
  | x :: xs => match abs1 x, absL xs with
    | some v, some vs => some (v :: vs)
    | _, _ => none
def absV : Value → Option V
  | .agg cs => (absL cs.toList).map .agg
  | .tuple vs => if vs.isEmpty then some (.tup []) else none
  | x => abs1 x
def opd : Operand → Option X
  | .tmp t => some (.s t)
  | .const v => (absV v).map .k
  | .global g => some (.g g)
  | .func f => some (.k (.fn (.func f) [] []))

/- A type whose values are compared cell by cell: the kinds of the cells (0 a number, 1 a bool, 2 a string). -/
def kindsFs (P : Program) (p : TypeId → Option (List Nat)) : Nat → List Field → Option (List Nat)
  | _, [] => some []
  | n, f :: fs => if f.name ≠ "_" ∧ f.offset = n then match p f.type, kindsFs P p (n + P.cellsOf f.type) fs with
      | some a, some b => some (a ++ b)
      | _, _ => none
    else none
def kindsT (P : Program) : Nat → TypeId → Option (List Nat)
  | 0, _ => none
  | d + 1, t => match P.underlying t with
    | some (.struct fs) => if P.stoodInHeld t = false then match kindsFs P (kindsT P d) 0 fs.toList with
        | some ks => if ks.length = P.cellsOf t then some ks else none
        | none => none
      else none
    | some (.int _) => if P.cellsOf t = 1 then some [0] else none
    | some .bool => if P.cellsOf t = 1 then some [1] else none
    | some .string => if P.cellsOf t = 1 then some [2] else none
    | _ => none

def isAggT (P : Program) (t : TypeId) : Option Bool := (P.underlying t).map fun d => match d with | .struct _ | .array _ _ => true | _ => false
def zeroCellsA (P : Program) (t : TypeId) : Option (List V) := match P.info? t with
  | some i => match i.zero with
    | some z => if z.cells.size = i.size then absL z.cells.toList else none
    | none => none
  | none => none
def sizeA (P : Program) (t : TypeId) : Option Nat := (P.info? t).map (·.size)

def compBin (P : Program) (op : BinOp) (t : TypeId) : Option AK :=
  match P.underlying t with
  | some (.int _) => some (.ibin op)
  | some .string => some (.sbin op)
  | some (.float _) => some (.fbin op)
  | some .bool => match op with | .eql => some (.bbin false) | .neq => some (.bbin true) | _ => none
  | some (.pointer _) => match op with | .eql => some (.eqnil 0 false) | .neq => some (.eqnil 0 true) | _ => none
  | some (.slice _) => match op with | .eql => some (.eqnil 1 false) | .neq => some (.eqnil 1 true) | _ => none
  | some (.map _ _) => match op with | .eql => some (.eqnil 2 false) | .neq => some (.eqnil 2 true) | _ => none
  | some (.func _ _ _) => match op with | .eql => some (.eqnil 3 false) | .neq => some (.eqnil 3 true) | _ => none
  | some (.struct _) | some (.array _ _) => match kindsT P 100 t with
    | some ks => if P.eqGuardType P.depth t = false then (match op with | .eql => some (.eqagg false ks) | .neq => some (.eqagg true ks) | _ => none) else none
    | none => none
  | _ => none

/-- The field's offset, where it has cells. -/
def fieldOff (P : Program) (t : TypeId) (f : Nat) : Option Nat :=
  match P.underlying t with
  | some (.struct fs) => match fs[f]? with
    | some fd => match sizeA P fd.type with
      | some 0 => none
      | some _ => some fd.offset
      | none => none
    | none => none
  | _ => none
def partsA (P : Program) (t : TypeId) : List (Nat × Operand) → Option (List (Nat × Nat))
  | [] => some []
  | (i, _) :: r => match P.underlying t with
    | some (.struct fs) => match fs[i]? with
      | some fd => match sizeA P fd.type, partsA P t r with
        | some n, some l => some ((fd.offset, n) :: l)
        | _, _ => none
      | none => none
    | some (.array _ e) => match sizeA P e, partsA P t r with
      | some n, some l => some ((i * n, n) :: l)
      | _, _ => none
    | _ => none
def elemPartsA (sz : Nat) (l : List (Nat × Operand)) : List (Nat × Nat) := l.map fun p => (p.1 * sz, sz)
def fieldsSized (P : Program) (fs : Array Field) : Bool := fs.all fun f => (P.info? f.type).isSome

def compOp (P : Program) : Op → Option (AK × List Operand)
  | .move x | .assign x => some (.mov, [x])
  | .pick c a b => some (.pick, [c, a, b])
  | .nilCheck x => some (.nilck, [x])
  | .binOp op t x y _ => (compBin P op t).map (·, [x, y])
  | .unOp .neg _ x => some (.neg, [x])
  | .unOp .not _ x => some (.bnot, [x])
  | .fieldAddr t x f => (fieldOff P t f).map fun o => (.fa o, [x])
  | .indexAddr t x i =>
    match P.underlying t with
    | some (.slice e) => (sizeA P e).map fun n => (.ia n, [x, i])
    | some (.array len e) => (sizeA P e).map fun n => (.iar len n, [x, i])
    | _ => none
  | .load t a => match isAggT P t, sizeA P t with
    | some true, some n => some (.lda n, [a])
    | some false, some _ => some (.ld 1, [a])
    | _, _ => none
  | .store t a v => (sizeA P t).map fun n => (.st n, [a, v])
  | .alloc e => (zeroCellsA P e).map fun z => (.alloc z, [])
  | .box _ v => some (.box, [v])
  | .build t ps =>
    match zeroCellsA P t, partsA P t ps.toList with
    | some z, some l => match P.underlying t with
      | some (.struct fs) => if fieldsSized P fs then some (.build z l, ps.toList.map (·.2)) else none
      | some (.array _ e) => match sizeA P e with
        | some _ => some (.build z l, ps.toList.map (·.2))
        | none => none
      | _ => none
    | _, _ => none
  | .buildSlice t len ps =>
    match P.underlying t with
    | some (.slice e) => match zeroCellsA P e, sizeA P e with
      | some z, some n => if len * n ≤ 16777216 then some (.bsl n len (List.replicate len z).flatten (elemPartsA n ps.toList), ps.toList.map (·.2)) else none
      | _, _ => none
    | _ => none
  | .extract t i => some (.ext i, [t])
  | .makeFunc f first caps => some (.mkfn f first.size, first.toList ++ caps.toList)
  | .slice t x lo hi mx =>
    let os := x :: (lo.toList ++ hi.toList ++ mx.toList)
    match P.underlying t with
    | some .string => if mx.isNone then some (.slcs lo.isSome hi.isSome, os) else none
    | some (.slice e) => (sizeA P e).map fun n => (.slc n lo.isSome hi.isSome mx.isSome, os)
    | some (.array len e) => (sizeA P e).map fun n => (.slca len n lo.isSome hi.isSome mx.isSome, os)
    | _ => none
  | .field t x f =>
    match P.underlying t with
    | some (.struct fs) => match fs[f]? with
      | some fd => match isAggT P fd.type, sizeA P fd.type with
        | some true, some n => some (.flda fd.offset n, [x])
        | some false, some _ => some (.fld fd.offset, [x])
        | _, _ => none
      | none => none
    | _ => none
  | .index t x i =>
    match P.underlying t with
    | some .string => some (.idxs, [x, i])
    | some (.array len e) => match isAggT P e, sizeA P e with
      | some false, some 1 => some (.idxa len, [x, i])
      | _, _ => none
    | _ => none
  | .convert src dst x =>
    match P.underlying src, P.underlying dst with
    | some (.int _), some (.int k) => some (.toInt k, [x])
    | some (.slice e), some .string => match P.underlying e with
      | some (.int .u8) => some (.b2s, [x])
      | _ => none
    | some .string, some (.slice e) => match P.underlying e with
      | some (.int .u8) => some (.s2b, [x])
      | _ => none
    | some .string, some .string => some (.id, [x])
    | _, _ => none
  | .range t x => match P.underlying t with
    | some .string => some (.rits, [x])
    | _ => none
  | .next it true => some (.rnext, [it])
  | .makeMap _ none => some (.mkmap, [])
  | .mapUpdate t m k v => match P.underlying t with
    | some (.map kt _) => ((P.underlying kt).bind keyC).map fun c => (.mset c, [m, k, v])
    | _ => none
  | .lookup t m k ok => match P.underlying t with
    | some (.map kt et) => match (P.underlying kt).bind keyC, P.info? et with
      | some c, some i => match i.zero with
        | some z => (absV z).map fun z => (.look c z ok, [m, k])
        | none => none
      | _, _ => none
    | _ => none
  | .call { callee := .builtin b, args, argTypes } =>
    match b with
    | .len => match argTypes[0]?, args.toList with
      | some t, [x] => match P.underlying t with
        | some .string => some (.slen, [x])
        | some (.slice _) => some (.len, [x])
        | some (.array n _) => some (.konst (.int .i64 n), [x])
        | _ => none
      | _, _ => none
    | .cap => match argTypes[0]?, args.toList with
      | some t, [x] => match P.underlying t with
        | some (.slice _) => some (.cap, [x])
        | _ => none
      | _, _ => none
    | .append => match argTypes[0]?, argTypes[1]?, args.toList with
      | some t, some u, [s, x] => match P.underlying t, P.underlying u with
        | some (.slice e), some (.slice _) | some (.slice e), some .string => match P.info? e with
          | some i => match i.zero with
            | some z => if z.cells.size = i.size ∧ argTypes.size = 2 then some (.app i.size i.bytes, [s, x]) else none
            | none => none
          | none => none
        | some (.slice e), some (.int .i64) => match P.info? e with
          | some i => match i.zero with
            | some z => if z.cells.size = i.size ∧ argTypes.size = 2 then (absL z.cells.toList).map fun zs => (.appz i.size i.bytes zs, [s, x]) else none
            | none => none
          | none => none
        | _, _ => none
      | _, _, _ => none
    | .copy => match argTypes[0]?, args.toList with
      | some t, [d, x] => match P.underlying t with
        | some (.slice e) => (sizeA P e).map fun n => (.copy n, [d, x])
        | _ => none
      | _, _ => none
    | .clear => match argTypes[0]?, args.toList with
      | some t, [x] => match P.underlying t with
        | some (.slice e) => (zeroCellsA P e).map fun z => (.clear z, [x])
        | _ => none
      | _, _ => none
    | .min => match args.toList with
      | x :: r => some (.mn, x :: r)
      | _ => none
    | .max => match args.toList with
      | x :: r => some (.mx, x :: r)
      | _ => none
    | .delete => match argTypes[0]?, args.toList with
      | some t, [m, k] => match P.underlying t with
        | some (.map kt _) => ((P.underlying kt).bind keyC).map fun c => (.mdel c, [m, k])
        | _ => none
      | _, _ => none
    | _ => none
  | _ => none
end Go.Proofs.YtkmaikggdbielaaGreatDoor.Fw
