/- Small words for the shallow forms. No condition. -/
import Derived.Test.YtknogapmjleliaaDoorAmCb
namespace Go.AM
open Go

def andI (k : IntKind) (a b : Int) : Int := k.wrap ((BitVec.ofInt k.bits a &&& BitVec.ofInt k.bits b).toNat : Nat)
def orI (k : IntKind) (a b : Int) : Int := k.wrap ((BitVec.ofInt k.bits a ||| BitVec.ofInt k.bits b).toNat : Nat)
def xorI (k : IntKind) (a b : Int) : Int := k.wrap ((BitVec.ofInt k.bits a ^^^ BitVec.ofInt k.bits b).toNat : Nat)
def andNotI (k : IntKind) (a b : Int) : Int := k.wrap ((BitVec.ofInt k.bits a &&& ~~~ BitVec.ofInt k.bits b).toNat : Nat)
def notI (k : IntKind) (a : Int) : Int := k.wrap ((BitVec.ofInt k.bits (if k.signed then -1 else k.max) ^^^ BitVec.ofInt k.bits a).toNat : Nat)
def shlI (k : IntKind) (a b : Int) : Int := k.wrap (a * 2 ^ (min b.toNat k.bits))
def shrI (k : IntKind) (a b : Int) : Int := a.fdiv (2 ^ (min b.toNat k.bits))
def quoI (k : IntKind) (a b : Int) : Int := k.wrap (a.tdiv b)
def remI (_k : IntKind) (a b : Int) : Int := a.tmod b
def atS (s : ByteArray) (i : Int) : Option UInt8 := if 0 ≤ i then s[i.toNat]? else none
def mkF (n : Nat) (l : List (Nat × SC)) : Fr := l.foldl (fun f p => f.set p.1 p.2) (List.replicate n .no)

section
variable {R : Type} {r : R} {T : Nat → Option AFn} {hs : Heap → Heap → Bool}

/-- a loop's round -/
noncomputable def loopB (T : Nat → Option AFn) (hs : Heap → Heap → Bool) (tys : List VT) (keep : List Nat) (b : ACode) (fr : Fr) (H : Heap) (K : Kont R) : Option R :=
  fF (forget keep fr) fun fr => runK T hs tys b fr H { K with nrm := fun fr H => fF (forget keep fr) fun fr => loopK T hs keep b fr H K }

theorem loopB_ok {tys : List VT} {keep : List Nat} {b : ACode} {fr : Fr} {H : Heap} {K : Kont R} (h : loopB T hs tys keep b fr H K = some r) : loopK T hs keep b fr H K = some r := loop_intro h

end
end Go.AM
