/- The abstract machine: a deterministic interpreter of (checked copies of) loaded functions over a plain heap of growable rows. No condition. -/
import Derived.Orders
import Derived.Laws.Cells
import Derived.Lib.FrozenHead
import Derived.ChangeKeysEq
namespace Go.AM
open Go

inductive Opd where
  | t (i : Nat)
  | c (v : Value)
  | f (k : Nat)

/-- what an operand comes to: a value; the address of a cell of a frame's own variable; the address of cells of a row -/
inductive AV where
  | v (x : Value)
  | lp (s off : Nat)
  | hp (f off c n : Nat)

/-- a slot: unknown; a value; addresses; a variable of the frame's own (its cells) -/
inductive SC where
  | no
  | v (x : Value)
  | lp (s off : Nat)
  | hp (f off c n : Nat)
  | loc (cs : List Value)

def AV.sc : AV → SC
  | .v x => .v x
  | .lp s o => .lp s o
  | .hp f o c n => .hp f o c n

inductive AObj where
  | cells (ty sz : Nat) (vals : List Value) (cur minv frz : Nat) (ro : Bool)
  | amap (es : List (Value × Value))
  | dead

abbrev Heap := List AObj
abbrev Fr := List SC

def evO (fr : Fr) : Opd → Option AV
  | .t i => match fr.getD i .no with
    | .no => none
    | .v x => some (.v x)
    | .lp s o => some (.lp s o)
    | .hp f o c n => some (.hp f o c n)
    | .loc _ => some (.lp i 0)
  | .c v => some (.v v)
  | .f k => some (.v (.func (.func k) #[] #[]))

def evV (fr : Fr) (o : Opd) : Option Value := match evO fr o with | some (.v x) => some x | _ => none

def evVs (fr : Fr) : List Opd → Option (List Value)
  | [] => some []
  | o :: r => match evV fr o, evVs fr r with | some x, some xs => some (x :: xs) | _, _ => none

def SC.unlp (d : Nat) : SC → SC
  | .lp s o => if s = d then .no else .lp s o
  | c => c

def putS (fr : Fr) (d : Nat) (x : SC) : Fr :=
  match x with
  | .loc cs => (fr.map (SC.unlp d)).set d (.loc cs)
  | x => fr.set d x

def putO (fr : Fr) : Option Nat → SC → Fr
  | some d, x => putS fr d x
  | none, _ => fr

def splice (cs : List Value) (off : Nat) (xs : List Value) : List Value := cs.take off ++ xs ++ cs.drop (off + xs.length)

def cut (cs : List Value) (off n : Nat) : List Value := (cs.drop off).take n

/-- n cells behind an address -/
def rdV (H : Heap) (y : Value) (n : Nat) : Option (List Value) :=
  match y with
  | .pointer (some ⟨f, off, some 0⟩) => match H[f]? with
    | some (.cells _ _ vals 0 _ _ _) => if off + n ≤ vals.length then some (cut vals off n) else none
    | _ => none
  | _ => none

def rd (fr : Fr) (H : Heap) (av : AV) (n : Nat) : Option (List Value) :=
  match av with
  | .lp s off => match fr.getD s .no with
    | .loc cs => if off + n ≤ cs.length then some (cut cs off n) else none
    | _ => none
  | .v y => rdV H y n
  | .hp f off c m => match H[f]? with
    | some (.cells _ _ vals cur minv _ _) => if n ≤ m ∧ minv ≤ c ∧ c ≤ cur then some (cut vals off n) else none
    | _ => none

def wr (fr : Fr) (H : Heap) (av : AV) (xs : List Value) : Option (Fr × Heap) :=
  match av with
  | .lp s off => match fr.getD s .no with
    | .loc cs => if off + xs.length ≤ cs.length then some (fr.set s (.loc (splice cs off xs)), H) else none
    | _ => none
  | .v (.pointer (some ⟨f, off, some 0⟩)) => match H[f]? with
    | some (.cells ty sz vals 0 _ frz false) => if off + xs.length ≤ vals.length ∧ frz ≤ off then some (fr, H.set f (.cells ty sz (splice vals off xs) 0 0 frz false)) else none
    | _ => none
  | .hp f off c m => match H[f]? with
    | some (.cells ty sz vals cur _ frz false) => if xs.length ≤ m ∧ c = cur ∧ frz ≤ off then some (fr, H.set f (.cells ty sz (splice vals off xs) cur cur frz false)) else none
    | _ => none
  | _ => none

def cellsV : Value → Option (List Value)
  | .agg cs => some cs.toList
  | .tuple _ => none
  | v => some [v]

def mkV (agg : Bool) (cs : List Value) : Option Value :=
  if agg then some (.agg cs.toArray) else match cs with | [v] => some v | _ => none

/-- the cells that a slice value shows -/
def rdSl (H : Heap) (sz : Nat) : Value → Option (List Value)
  | .slice none 0 0 => some []
  | .slice (some ⟨f, off, some c⟩) len _ => match H[f]? with
    | some (.cells _ sz' vals cur minv _ _) => if sz' = sz ∧ minv ≤ c ∧ c ≤ cur then some (cut vals off (len * sz)) else none
    | _ => none
  | _ => none

def slLen : Value → Option Nat
  | .slice _ n _ => some n
  | _ => none

/-- append of the cells of n elements -/
def appendV (H : Heap) (ty sz bytes : Nat) (s : Value) (ns : List Value) (n : Nat) : Option (Value × Heap) :=
  match s with
  | .slice none 0 0 => if n = 0 then some (s, H) else
    if n * bytes ≤ 1099511627776 then some (.slice (some ⟨H.length, 0, some 0⟩) n n, H ++ [.cells ty sz ns 0 0 0 false]) else none
  | .slice (some ⟨f, off, some c⟩) len _ => if n = 0 then some (s, H) else
    match H[f]? with
    | some (.cells ty' sz' vals cur minv frz false) =>
      if (ty' = ty ∧ sz' = sz) ∧ c = cur ∧ frz ≤ off + len * sz ∧ (len + n) * bytes ≤ 1099511627776 then
        some (.slice (some ⟨f, off, some (cur + 1)⟩) (len + n) (len + n),
          H.set f (.cells ty sz (vals.take (off + len * sz) ++ ns) (cur + 1) (if off + len * sz = vals.length then minv else cur + 1) frz false))
      else none
    | _ => none
  | _ => none

def wrapOp (k : IntKind) (n : Int) : Option Value := some (.int k (k.wrap n))

def bitsOp (k : IntKind) (f : BitVec k.bits → BitVec k.bits → BitVec k.bits) (a b : Int) : Option Value :=
  some (.int k (k.wrap (f (BitVec.ofInt k.bits a) (BitVec.ofInt k.bits b)).toNat))

def binI (op : BinOp) (k : IntKind) (a b : Int) : Option Value :=
  match op with
  | .add => wrapOp k (a + b)
  | .sub => wrapOp k (a - b)
  | .mul => wrapOp k (a * b)
  | .quo => if b = 0 then none else wrapOp k (a.tdiv b)
  | .rem => if b = 0 then none else some (.int k (a.tmod b))
  | .and => bitsOp k (· &&& ·) a b
  | .or => bitsOp k (· ||| ·) a b
  | .xor => bitsOp k (· ^^^ ·) a b
  | .andNot => bitsOp k (fun x y => x &&& ~~~y) a b
  | .eql => some (.bool (a == b))
  | .neq => some (.bool (a != b))
  | .lss => some (.bool (decide (a < b)))
  | .leq => some (.bool (decide (a ≤ b)))
  | .gtr => some (.bool (decide (a > b)))
  | .geq => some (.bool (decide (a ≥ b)))
  | _ => none

def binS (op : BinOp) (a b : ByteArray) : Option Value :=
  match op with
  | .add => if ((a.size + b.size : Nat) : Int) > 9223372036854775807 then none else some (.string (a ++ b))
  | .eql => some (.bool (a.toList == b.toList))
  | .neq => some (.bool !(a.toList == b.toList))
  | .lss => some (.bool (Op.bytesLess a.toList b.toList))
  | .leq => some (.bool (Op.bytesLess a.toList b.toList || a.toList == b.toList))
  | .gtr => some (.bool !(Op.bytesLess a.toList b.toList || a.toList == b.toList))
  | .geq => some (.bool !(Op.bytesLess a.toList b.toList))
  | _ => none

def binV (op : BinOp) (x y : Value) : Option Value :=
  match x, y with
  | .int k a, .int k' b =>
    match op with
    | .shl => if b < 0 then none else wrapOp k (a * 2 ^ (min b.toNat k.bits))
    | .shr => if b < 0 then none else some (.int k (a.fdiv (2 ^ (min b.toNat k.bits))))
    | _ => if k = k' then binI op k a b else none
  | .string a, .string b => binS op a b
  | _, _ => none

def unV (op : UnOp) (x : Value) : Option Value :=
  match op, x with
  | .neg, .int k n => wrapOp k (0 - n)
  | .xor, .int k n => bitsOp k (· ^^^ ·) (if k.signed then -1 else k.max) n
  | .not, .bool b => some (.bool !b)
  | _, _ => none

/-- the kinds of cells that are compared -/
inductive SK where
  | int (k : IntKind)
  | bool
  | str
  deriving DecidableEq

def SK.eq : SK → Option Value → Option Value → Option Bool
  | .int k, some (.int k1 a), some (.int k2 b) => if k1 = k ∧ k2 = k then some (a == b) else none
  | .bool, some (.bool a), some (.bool b) => some (a == b)
  | .str, some (.string a), some (.string b) => some (a.toList == b.toList)
  | _, _, _ => none

def eqFlat : List (Nat × SK) → List Value → List Value → Option Bool
  | [], _, _ => some true
  | (o, k) :: r, xs, ys => match k.eq xs[o]? ys[o]?, eqFlat r xs ys with
    | some p, some q => some (p && q)
    | _, _ => none

inductive AOp where
  | mov (x : Opd)
  | pick (c a b : Opd)
  | allocL (z : List Value)
  | allocH (ty : Nat) (z : List Value)
  | boxL (n : Nat) (x : Opd)
  | boxH (ty n : Nat) (x : Opd)
  | build (z : List Value) (ps : List (Nat × Nat × Opd))
  | buildSl (ty sz n : Nat) (z : List Value) (ps : List (Nat × Nat × Opd))
  | load (agg : Bool) (n : Nat) (p : Opd)
  | store (n : Nat) (p x : Opd)
  | nilChk (x : Opd)
  | bin (op : BinOp) (x y : Opd)
  | eqS (neq : Bool) (n : Nat) (sh : List (Nat × SK)) (x y : Opd)
  | eqB (neq : Bool) (x y : Opd)
  | eqNil (neq : Bool) (k : Nat) (x : Opd)
  | un (op : UnOp) (x : Opd)
  | convI (k : IntKind) (x : Opd)
  | convS (x : Opd)
  | convBS (x : Opd)
  | convSB (ty : Nat) (x : Opd)
  | convIS (x : Opd)
  | mkFunc (fn : Fn) (first captured : List Opd)
  | makeSl (ty sz bytes : Nat) (z : List Value) (len cap : Opd)
  | slStr (x : Opd) (lo hi : Option Opd)
  | slSl (sz : Nat) (x : Opd) (lo hi : Option Opd)
  | fieldA (off : Nat) (x : Opd)
  | field (agg : Bool) (off n : Nat) (x : Opd)
  | indexA (sz : Nat) (x i : Opd)
  | indexP (len sz : Nat) (x i : Opd)
  | indexStr (x i : Opd)
  | indexArr (agg : Bool) (len sz : Nat) (x i : Opd)
  | extract (x : Opd) (i : Nat)
  | len (str : Bool) (x : Opd)
  | cap (x : Opd)
  | append (ty sz bytes : Nat) (s x : Opd)
  | copy (sz : Nat) (d x : Opd)
  | mx (x y : Opd)
  | mn (x y : Opd)
  | call (f : Nat) (args : List Opd)
  | callV (fv : Opd) (args : List Opd)
  | stuck
  | mkMap
  | look (kd : SK) (ok : Bool) (z : Value) (m k : Opd)
  | mapUp (kd : SK) (m k x : Opd)
  | lenM (x : Opd)

structure AOper where
  dst : Option Nat
  op : AOp
  guard : Option (Nat × Bool)
  w : Bool := false
  loc : Option Nat := none
  lz : Nat := 0

inductive ACode where
  | skip
  | reg (ops : List AOper)
  | regD (ops : List AOper)
  | seq (a b : ACode)
  | cond (c : Opd) (a b : ACode)
  | block (id : Nat) (b : ACode)
  | loop (keep : List Nat) (b : ACode)
  | exit (id : Nat)
  | ret
  | scope (b : ACode)
  | stuckC
  | seqj (keep : List Nat) (a b : ACode)

inductive ARes where
  | tmp (t : Nat)
  | cell (t : Nat) (agg : Bool) (n : Nat)

structure AFunc where
  np : Nat
  nt : Nat
  res : List ARes
  body : ACode

/-- parts put into an aggregate's cells -/
def fillA (cells : List Value) : List (Nat × Nat × Value) → Option (List Value)
  | [] => some cells
  | (off, n, v) :: r => match cellsV v with
    | some cs => if cs.length = n ∧ off + n ≤ cells.length then fillA (splice cells off cs) r else none
    | none => none

def evPs (fr : Fr) : List (Nat × Nat × Opd) → Option (List (Nat × Nat × Value))
  | [] => some []
  | (o, n, x) :: r => match evV fr x, evPs fr r with | some v, some l => some ((o, n, v) :: l) | _, _ => none

def idx (i : Int) (n : Nat) : Option Nat := if 0 ≤ i ∧ i < n then some i.toNat else none

def hiB (fr : Fr) (len cap : Nat) : Option Opd → Option Nat
  | none => some len
  | some o => match evV fr o with
    | some (.int _ i) => if 0 ≤ i ∧ i ≤ cap then some i.toNat else none
    | _ => none

def loB (fr : Fr) (h : Nat) : Option Opd → Option Nat
  | none => some 0
  | some o => match evV fr o with
    | some (.int _ i) => if 0 ≤ i ∧ i ≤ h then some i.toNat else none
    | _ => none

/-- bounds of a slice expression: low, high -/
def bnds (fr : Fr) (len cap : Nat) (lo hi : Option Opd) : Option (Nat × Nat) :=
  match hiB fr len cap hi with
  | none => none
  | some h => match loB fr h lo with
    | none => none
    | some l => some (l, h)

def bytesOf (cs : List Value) : Option (List UInt8) :=
  match cs with
  | [] => some []
  | .int .u8 n :: r => match bytesOf r with | some l => some (UInt8.ofNat n.toNat :: l) | none => none
  | _ => none

/-- keys that are compared: numbers, strings -/
def keyEq : Value → Value → Option Bool
  | .int k a, .int l b => if k = l then some (a == b) else none
  | .string a, .string b => some (a.toList == b.toList)
  | _, _ => none

def findA (k : Value) : List (Value × Value) → Nat → Option (Option (Nat × Value))
  | [], _ => some none
  | (k', v) :: r, i => match keyEq k k' with
    | some true => some (some (i, v))
    | some false => findA k r (i + 1)
    | none => none

def keyOk : SK → Value → Bool
  | .int k, .int l _ => decide (k = l)
  | .str, .string _ => true
  | _, _ => false

def resV (z : Value) : Option (Nat × Value) → Value
  | some (_, v) => v
  | none => z

def mapOf (H : Heap) : Value → Option (List (Value × Value))
  | .map none => some []
  | .map (some f) => match H[f]? with | some (.amap es) => some es | _ => none
  | _ => none

/-- a value's being nil: a pointer, a slice, a map -/
def nilOf (k : Nat) (v : Value) : Option Bool := match v with
  | .pointer p => if k = 0 then some p.isNone else none
  | .slice p _ _ => if k = 1 then some p.isNone else none
  | .map p => if k = 2 then some p.isNone else none
  | _ => none

abbrev Callee := Nat → List Value → Heap → Option (Value × Heap)

/-- a function value called with arguments: the function and all arguments -/
def fnOf : Value → List Value → Option (Nat × List Value)
  | .func (.func f) first captured, args => some (f, first.toList ++ args ++ captured.toList)
  | _, _ => none

def one (v : Option (SC × Heap)) (fr : Fr) : Option (SC × Fr × Heap) := match v with | some (x, H) => some (x, fr, H) | none => none

def stepA (C : Callee) (fr : Fr) (H : Heap) : AOp → Option (SC × Fr × Heap)
  | .mov x => match evO fr x with | some y => some (y.sc, fr, H) | none => none
  | .pick c a b => match evV fr c with
    | some (.bool t) => match (if t then evO fr a else evO fr b) with | some y => some (y.sc, fr, H) | none => none
    | _ => none
  | .allocL z => some (.loc z, fr, H)
  | .allocH ty z => some (.v (.pointer (some ⟨H.length, 0, some 0⟩)), fr, H ++ [.cells ty 1 z 0 0 0 false])
  | .boxL n x => match evV fr x with
    | some v => match cellsV v with
      | some cs => if cs.length = n then some (.loc cs, fr, H) else none
      | none => none
    | none => none
  | .boxH ty n x => match evV fr x with
    | some v => match cellsV v with
      | some cs => if cs.length = n then some (.v (.pointer (some ⟨H.length, 0, some 0⟩)), fr, H ++ [.cells ty 1 cs 0 0 0 false]) else none
      | none => none
    | none => none
  | .build z ps => match evPs fr ps with
    | some l => match fillA z l with | some cs => some (.v (.agg cs.toArray), fr, H) | none => none
    | none => none
  | .buildSl ty sz n z ps => match evPs fr ps with
    | some l => match fillA z l with | some cs => some (.v (.slice (some ⟨H.length, 0, some 0⟩) n n), fr, H ++ [.cells ty sz cs 0 0 0 false]) | none => none
    | none => none
  | .load agg n p => match evO fr p with
    | some a => match rd fr H a n with
      | some cs => match mkV agg cs with | some v => some (.v v, fr, H) | none => none
      | none => none
    | none => none
  | .store n p x => match evO fr p, evV fr x with
    | some a, some v => match cellsV v with
      | some cs => if cs.length = n then match wr fr H a cs with | some (fr', H') => some (.v undef, fr', H') | none => none else none
      | none => none
    | _, _ => none
  | .nilChk x => match evO fr x with
    | some (.v (.pointer (some a))) => some (.v (.pointer (some a)), fr, H)
    | some (.lp s o) => some (.lp s o, fr, H)
    | some (.hp f o c n) => some (.hp f o c n, fr, H)
    | _ => none
  | .bin op x y => match evV fr x, evV fr y with
    | some a, some b => match binV op a b with | some v => some (.v v, fr, H) | none => none
    | _, _ => none
  | .eqS neq n sh x y => match evV fr x, evV fr y with
    | some (.agg a), some (.agg b) => if a.size = n ∧ b.size = n then match eqFlat sh a.toList b.toList with | some r => some (.v (.bool (if neq then !r else r)), fr, H) | none => none else none
    | _, _ => none
  | .eqB neq x y => match evV fr x, evV fr y with
    | some (.bool a), some (.bool b) => some (.v (.bool (if neq then !(a == b) else a == b)), fr, H)
    | _, _ => none
  | .eqNil neq k x => match evV fr x with
    | some v => match nilOf k v with | some b => some (.v (.bool (if neq then !b else b)), fr, H) | none => none
    | none => none
  | .un op x => match evV fr x with
    | some a => match unV op a with | some v => some (.v v, fr, H) | none => none
    | none => none
  | .convI k x => match evV fr x with
    | some (.int _ n) => some (.v (.int k (k.wrap n)), fr, H)
    | _ => none
  | .convS x => match evV fr x with
    | some (.string s) => some (.v (.string s), fr, H)
    | _ => none
  | .convBS x => match evV fr x with
    | some s => match rdSl H 1 s with
      | some cs => match bytesOf cs with | some l => some (.v (.string ⟨l.toArray⟩), fr, H) | none => none
      | none => none
    | none => none
  | .convSB ty x => match evV fr x with
    | some (.string s) => some (.v (.slice (some ⟨H.length, 0, some 0⟩) s.size s.size), fr, H ++ [.cells ty 1 (s.data.toList.map fun b => Value.int .u8 b.toNat) 0 0 0 false])
    | _ => none
  | .convIS x => match evV fr x with
    | some (.int _ n) => some (.v (.string (Utf8.encode n)), fr, H)
    | _ => none
  | .mkFunc fn a b => match evVs fr a, evVs fr b with
    | some xs, some ys => some (.v (.func fn xs.toArray ys.toArray), fr, H)
    | _, _ => none
  | .makeSl ty sz bytes z len cap => match evV fr len, evV fr cap with
    | some (.int _ l), some (.int _ c) =>
      if 0 ≤ l ∧ l ≤ c ∧ c * bytes ≤ 140737488355328 ∧ c ≤ 140737488355328 then
        some (.v (.slice (some ⟨H.length, 0, some 0⟩) l.toNat c.toNat), fr, H ++ [.cells ty sz (List.replicate c.toNat z).flatten 0 0 0 false])
      else none
    | _, _ => none
  | .slStr x lo hi => match evV fr x with
    | some (.string s) => match bnds fr s.size s.size lo hi with
      | some (l, h) => some (.v (.string (s.extract l h)), fr, H)
      | none => none
    | _ => none
  | .slSl sz x lo hi => match evV fr x with
    | some (.slice none 0 0) => match bnds fr 0 0 lo hi with
      | some _ => some (.v (.slice none 0 0), fr, H)
      | none => none
    | some (.slice (some ⟨f, off, some c⟩) len cap) => match bnds fr len cap lo hi with
      | some (l, h) => match H[f]? with
        | some (.cells _ sz' _ cur minv _ _) => if sz' = sz ∧ minv ≤ c ∧ c ≤ cur then some (.v (.slice (some ⟨f, off + l * sz, some c⟩) (h - l) (cap - l)), fr, H) else none
        | _ => none
      | none => none
    | _ => none
  | .fieldA off x => match evO fr x with
    | some (.v (.pointer (some ⟨f, o, some 0⟩))) => some (.v (.pointer (some ⟨f, o + off, some 0⟩)), fr, H)
    | some (.lp s o) => some (.lp s (o + off), fr, H)
    | some (.hp f o c n) => if off ≤ n then some (.hp f (o + off) c (n - off), fr, H) else none
    | _ => none
  | .field agg off n x => match evV fr x with
    | some (.agg cs) => if off + n ≤ cs.size then match mkV agg (cut cs.toList off n) with | some v => some (.v v, fr, H) | none => none else none
    | _ => none
  | .indexA sz x i => match evV fr x, evV fr i with
    | some (.slice (some ⟨f, off, some c⟩) len _), some (.int _ i) => match idx i len with
      | some k => match H[f]? with
        | some (.cells _ sz' _ cur minv _ _) => if sz' = sz ∧ minv ≤ c ∧ c ≤ cur then some (.hp f (off + k * sz) c sz, fr, H) else none
        | _ => none
      | none => none
    | _, _ => none
  | .indexP len sz x i => match evO fr x, evV fr i with
    | some a, some (.int _ i) => match idx i len with
      | some k => match a with
        | .v (.pointer (some ⟨f, o, some 0⟩)) => some (.v (.pointer (some ⟨f, o + k * sz, some 0⟩)), fr, H)
        | .lp s o => some (.lp s (o + k * sz), fr, H)
        | .hp f o c n => if k * sz ≤ n then some (.hp f (o + k * sz) c (n - k * sz), fr, H) else none
        | _ => none
      | none => none
    | _, _ => none
  | .indexStr x i => match evV fr x, evV fr i with
    | some (.string s), some (.int _ i) => match (if 0 ≤ i then s[i.toNat]? else none) with
      | some b => some (.v (.int .u8 b.toNat), fr, H)
      | none => none
    | _, _ => none
  | .indexArr agg len sz x i => match evV fr x, evV fr i with
    | some (.agg cs), some (.int _ i) => match idx i len with
      | some k => if k * sz + sz ≤ cs.size then match mkV agg (cut cs.toList (k * sz) sz) with | some v => some (.v v, fr, H) | none => none else none
      | none => none
    | _, _ => none
  | .extract x i => match evV fr x with
    | some (.tuple vs) => match vs[i]? with | some v => some (.v v, fr, H) | none => none
    | _ => none
  | .len str x => match evV fr x with
    | some (.string s) => if str then some (.v (.int .i64 s.size), fr, H) else none
    | some (.slice _ n _) => if str then none else some (.v (.int .i64 n), fr, H)
    | _ => none
  | .cap x => match evV fr x with
    | some (.slice none 0 0) => some (.v (.int .i64 0), fr, H)
    | _ => none
  | .append ty sz bytes s x => match evV fr s, evV fr x with
    | some a, some (.string b) => if sz = 1 then one ((appendV H ty sz bytes a (b.data.toList.map fun b => Value.int .u8 b.toNat) b.size).map fun r => (.v r.1, r.2)) fr else none
    | some a, some b => match rdSl H sz b, slLen b with
      | some ns, some n => one ((appendV H ty sz bytes a ns n).map fun r => (.v r.1, r.2)) fr
      | _, _ => none
    | _, _ => none
  | .copy sz a x => match evV fr a, evV fr x with
    | some (.slice none 0 0), some b => match rdSl H sz b with
      | some _ => some (.v (.int .i64 0), fr, H)
      | none => none
    | some (.slice (some ⟨f, off, some c⟩) len _), some b => match rdSl H sz b, slLen b, H[f]? with
      | some ns, some n, some (.cells ty sz' vals cur _ frz false) =>
        if sz' = sz ∧ c = cur ∧ frz ≤ off then
          some (.v (.int .i64 (min n len : Nat)), fr, H.set f (.cells ty sz (splice vals off (ns.take (min n len * sz))) cur cur frz false))
        else none
      | _, _, _ => none
    | _, _ => none
  | .mx x y => match evV fr x, evV fr y with
    | some (.int k a), some (.int _ b) => some (.v (.int k (if b > a then b else a)), fr, H)
    | _, _ => none
  | .mn x y => match evV fr x, evV fr y with
    | some (.int k a), some (.int _ b) => some (.v (.int k (if b < a then b else a)), fr, H)
    | _, _ => none
  | .call f args => match evVs fr args with
    | some xs => match C f xs H with | some (v, H') => some (.v v, fr, H') | none => none
    | none => none
  | .callV fv args => match evV fr fv, evVs fr args with
    | some g, some xs => match fnOf g xs with
      | some (f, ys) => match C f ys H with | some (v, H') => some (.v v, fr, H') | none => none
      | none => none
    | _, _ => none
  | .stuck => none
  | .mkMap => some (.v (.map (some H.length)), fr, H ++ [.amap []])
  | .look kd ok z m k => match evV fr m, evV fr k with
    | some mv, some kv => match mapOf H mv with
      | some es => match keyOk kd kv, findA kv es 0 with
        | true, some r => some (.v (if ok then .tuple #[resV z r, .bool r.isSome] else resV z r), fr, H)
        | _, _ => none
      | none => none
    | _, _ => none
  | .mapUp kd m k x => match evV fr m, evV fr k, evV fr x with
    | some (.map (some f)), some kv, some v => match H[f]? with
      | some (.amap es) => match keyOk kd kv, findA kv es 0 with
        | true, some (some (i, _)) => some (.v undef, fr, H.set f (.amap (es.set i (kv, v))))
        | true, some none => some (.v undef, fr, H.set f (.amap (es ++ [(kv, v)])))
        | _, _ => none
      | _ => none
    | _, _, _ => none
  | .lenM x => match evV fr x with
    | some mv => match mapOf H mv with | some es => some (.v (.int .i64 es.length), fr, H) | none => none
    | none => none

/-- one operation with its guard -/
def operA (C : Callee) (fr : Fr) (H : Heap) (o : AOper) : Option (Fr × Heap) :=
  let go := match stepA C fr H o.op with
    | some (x, fr', H') => some (putO fr' o.dst x, H')
    | none => none
  match o.guard with
  | none => go
  | some (s, want) => match evV fr (.t s) with
    | some (.bool b) => if b = want then go else some (putO fr o.dst (.v undef), H)
    | some _ => some (putO fr o.dst (.v undef), H)
    | none => none

def runOps (C : Callee) : List AOper → Fr → Heap → Option (Fr × Heap)
  | [], fr, H => some (fr, H)
  | o :: r, fr, H => match operA C fr H o with
    | some (fr', H') => runOps C r fr' H'
    | none => none

def locOk (fr : Fr) (o : AOper) : Bool := match o.op with
  | .load _ _ p => (match evO fr p with | some (.lp s _) => decide (o.loc = some s) | _ => decide (o.loc = none))
  | .store _ p _ => (match evO fr p with | some (.lp s _) => decide (o.loc = some s) | _ => decide (o.loc = none))
  | _ => true

def AOp.isCall : AOp → Bool
  | .call _ _ | .callV _ _ => true
  | _ => false

def storesAt (o : AOper) : Option Nat := match o.op with
  | .store _ _ _ => o.loc
  | _ => none

def dstU (d : Option Nat) (c : SC) : List (Nat × SC) := match d with | some d => [(d, c)] | none => []
def locU (d : Option Nat) (fr : Fr) : List (Nat × SC) := match d with | some s => [(s, fr.getD s .no)] | none => []

def goA (C : Callee) (hs : Heap → Heap → Bool) (fr : Fr) (H : Heap) (o : AOper) : Option (List (Nat × SC) × Heap) :=
  if locOk fr o then match stepA C fr H o.op with
    | some (c, fr1, H1) => if o.w || (!o.op.isCall || hs H H1) then some (locU (storesAt o) fr1 ++ dstU o.dst c, H1) else none
    | none => none
  else none

/-- an operation of a region that draws its order: the slots that it turns, and the heap -/
def effA (C : Callee) (hs : Heap → Heap → Bool) (fr : Fr) (H : Heap) (o : AOper) : Option (List (Nat × SC) × Heap) :=
  match o.guard with
  | none => goA C hs fr H o
  | some (s, want) => match evV fr (.t s) with
    | some (.bool b) => if b = want then goA C hs fr H o else some (dstU o.dst (.v undef), H)
    | some _ => some (dstU o.dst (.v undef), H)
    | none => none

def applyU (fr : Fr) (us : List (Nat × SC)) : Fr := us.foldl (fun f p => f.set p.1 p.2) fr

/-- slots' contents, told apart by what tells heaps apart -/
def scH : SC → Heap
  | .no => []
  | .v x => [.cells 0 0 [x] 0 0 0 false]
  | .lp s o => [.cells 0 1 [] s o 0 false]
  | .hp f o c n => [.cells 0 2 [] f o c false, .cells 0 n [] 0 0 0 false]
  | .loc cs => [.cells 0 3 cs 0 0 0 false]

def eqU (hs : Heap → Heap → Bool) : List (Nat × SC) → List (Nat × SC) → Bool
  | [], [] => true
  | (d, c) :: r, (e, k) :: l => d == e && (hs (scH c) (scH k) && eqU hs r l)
  | _, _ => false

/-- an operation that is asked again over the heaps that later ones leave: where it stood, its frame, what it came to -/
structure Pend where
  fr : Fr
  o : AOper
  us : List (Nat × SC)

def Pend.again (C : Callee) (hs : Heap → Heap → Bool) (H : Heap) (p : Pend) : Bool :=
  match effA C hs p.fr H p.o with
  | some (us, _) => eqU hs us p.us
  | none => false

def runD (C : Callee) (hs : Heap → Heap → Bool) : List AOper → Nat → List Pend → Fr → Heap → Option (Fr × Heap)
  | [], _, _, fr, H => some (fr, H)
  | o :: r, i, ps, fr, H => match effA C hs fr H o with
    | some (us, H') => if !o.w || ps.all (fun p => decide (p.o.lz ≤ i) || p.again C hs H') then
        runD C hs r (i + 1) (if o.lz = 0 then ps else ⟨fr, o, us⟩ :: ps) (applyU fr us) H' else none
    | none => none

inductive AExit where
  | nrm
  | ex (id : Nat)
  | ret

def forget (keep : List Nat) (fr : Fr) : Fr := (fr.zipIdx).map fun (c, i) => if keep.contains i then c else .no

def iter (body : Fr → Heap → Option (AExit × Fr × Heap)) (keep : List Nat) : Nat → Fr → Heap → Option (AExit × Fr × Heap)
  | 0, _, _ => none
  | n + 1, fr, H => match body (forget keep fr) H with
    | some (.nrm, fr', H') => iter body keep n fr' H'
    | r => r

def runC (C : Callee) (hs : Heap → Heap → Bool) (n : Nat) : ACode → Fr → Heap → Option (AExit × Fr × Heap)
  | .skip, fr, H => some (.nrm, fr, H)
  | .reg ops, fr, H => match runOps C ops fr H with | some (fr', H') => some (.nrm, fr', H') | none => none
  | .regD ops, fr, H => match runD C hs ops 0 [] fr H with | some (fr', H') => some (.nrm, fr', H') | none => none
  | .seq a b, fr, H => match runC C hs n a fr H with
    | some (.nrm, fr', H') => runC C hs n b fr' H'
    | r => r
  | .cond c a b, fr, H => match evV fr c with
    | some (.bool t) => if t then runC C hs n a fr H else runC C hs n b fr H
    | _ => none
  | .block id b, fr, H => match runC C hs n b fr H with
    | some (.ex i, fr', H') => if i = id then some (.nrm, fr', H') else some (.ex i, fr', H')
    | r => r
  | .loop keep b, fr, H => iter (runC C hs n b) keep n fr H
  | .exit id, fr, H => some (.ex id, fr, H)
  | .ret, fr, H => some (.ret, fr, H)
  | .scope b, fr, H => runC C hs n b fr H
  | .stuckC, _, _ => none
  | .seqj keep a b, fr, H => match runC C hs n a fr H with
    | some (.nrm, fr', H') => runC C hs n b (forget keep fr') H'
    | r => r

def resA (fr : Fr) (H : Heap) : ARes → Option Value
  | .tmp t => evV fr (.t t)
  | .cell t agg n => match evO fr (.t t) with
    | some a => match rd fr H a n with | some cs => mkV agg cs | none => none
    | none => none

def ressA (fr : Fr) (H : Heap) : List ARes → Option (List Value)
  | [] => some []
  | r :: l => match resA fr H r, ressA fr H l with | some x, some xs => some (x :: xs) | _, _ => none

def runF (C : Callee) (hs : Heap → Heap → Bool) (n : Nat) (af : AFunc) (args : List Value) (H : Heap) : Option (Value × Heap) :=
  if args.length = af.np then
    match runC C hs n af.body (args.map .v ++ List.replicate (af.nt - af.np) .no) H with
    | some (.nrm, fr, H') | some (.ret, fr, H') => match ressA fr H' af.res with
      | some [v] => some (v, H')
      | some vs => some (.tuple vs.toArray, H')
      | none => none
    | _ => none
  else none

inductive AFn where
  | code (af : AFunc)
  | ext (g : List Value → Heap → Option (Value × Heap))

def callN (T : Nat → Option AFn) (hs : Heap → Heap → Bool) : Nat → Callee
  | 0, _, _, _ => none
  | k + 1, f, args, H => match T f with
    | some (.code af) => runF (callN T hs k) hs k af args H
    | some (.ext g) => g args H
    | none => none

end Go.AM
