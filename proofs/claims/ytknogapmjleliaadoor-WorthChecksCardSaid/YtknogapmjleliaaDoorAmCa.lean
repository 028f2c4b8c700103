/- The abstract machine run with continuations, slots cast to their types: what it comes to, the plain run comes to. No condition. -/
import Derived.Test.YtknogapmjleliaaDoorAmY
namespace Go.AM
open Go

/-- the types of cells; of values; of results -/
inductive CTy where
  | int (k : IntKind)
  | bool
  | str
  | sl
  | ptr
  | mp
  | any

inductive VT2 where
  | one (c : CTy)
  | agg (l : List CTy)

inductive VT where
  | v (t : VT2)
  | tup (l : List VT2)

section
variable {R : Type}

def ifInt (k : IntKind) (v : Value) (f : Int → Option R) : Option R := match v with
  | .int k' a => if k' = k then f a else none
  | _ => none
def ifBool (v : Value) (f : Bool → Option R) : Option R := match v with | .bool b => f b | _ => none
def ifStr (v : Value) (f : ByteArray → Option R) : Option R := match v with | .string b => f b | _ => none
def ifSl (v : Value) (f : Option Addr → Nat → Nat → Option R) : Option R := match v with | .slice a n c => f a n c | _ => none
def ifPtr (v : Value) (f : Option Addr → Option R) : Option R := match v with | .pointer a => f a | _ => none
def ifMap (v : Value) (f : Option Nat → Option R) : Option R := match v with | .map a => f a | _ => none
def ifAgg (v : Value) (f : List Value → Option R) : Option R := match v with | .agg cs => f cs.toList | _ => none
def ifTup (v : Value) (f : List Value → Option R) : Option R := match v with | .tuple cs => f cs.toList | _ => none
def ifCons (l : List Value) (f : Value → List Value → Option R) : Option R := match l with | v :: r => f v r | [] => none
def ifNil (l : List Value) (k : Option R) : Option R := match l with | [] => k | _ :: _ => none

def castC (t : CTy) (v : Value) (k : Value → Option R) : Option R := match t with
  | .int i => ifInt i v fun a => k (.int i a)
  | .bool => ifBool v fun b => k (.bool b)
  | .str => ifStr v fun s => k (.string s)
  | .sl => ifSl v fun a n c => k (.slice a n c)
  | .ptr => ifPtr v fun a => k (.pointer a)
  | .mp => ifMap v fun a => k (.map a)
  | .any => k v
def castCs : List CTy → List Value → (List Value → Option R) → Option R
  | [], l, k => ifNil l (k [])
  | t :: ts, l, k => ifCons l fun v r => castC t v fun v' => castCs ts r fun r' => k (v' :: r')
def cast2 (t : VT2) (v : Value) (k : Value → Option R) : Option R := match t with
  | .one c => castC c v k
  | .agg l => ifAgg v fun cs => castCs l cs fun cs' => k (.agg cs'.toArray)
def cast2s : List VT2 → List Value → (List Value → Option R) → Option R
  | [], l, k => ifNil l (k [])
  | t :: ts, l, k => ifCons l fun v r => cast2 t v fun v' => cast2s ts r fun r' => k (v' :: r')
def castV (t : VT) (v : Value) (k : Value → Option R) : Option R := match t with
  | .v t => cast2 t v k
  | .tup l => ifTup v fun cs => cast2s l cs fun cs' => k (.tuple cs'.toArray)
def castS (t : VT) (c : SC) (k : SC → Option R) : Option R := match c with
  | .v v => castV t v fun v' => k (.v v')
  | c => k c

variable {r : R}

theorem castC_ok {t : CTy} {v : Value} {k : Value → Option R} (h : castC t v k = some r) : k v = some r := by
  cases t <;> simp only [castC] at h
  case int i =>
    cases v <;> simp only [ifInt] at h <;> try (simp at h; done)
    split at h
    · rename_i e; subst e; exact h
    · simp at h
  case any => exact h
  all_goals cases v <;> simp only [ifBool, ifStr, ifSl, ifPtr, ifMap] at h <;> first | exact h | (simp at h; done)

theorem castCs_ok : ∀ {ts : List CTy} {l : List Value} {k : List Value → Option R}, castCs ts l k = some r → k l = some r
  | [], [], k, h => h
  | [], _ :: _, k, h => by simp [castCs, ifNil] at h
  | t :: ts, [], k, h => by simp [castCs, ifCons] at h
  | t :: ts, v :: l, k, h => by
    simp only [castCs, ifCons] at h
    exact castCs_ok (k := fun r' => k (v :: r')) (castC_ok h)

theorem cast2_ok {t : VT2} {v : Value} {k : Value → Option R} (h : cast2 t v k = some r) : k v = some r := by
  cases t <;> simp only [cast2] at h
  · exact castC_ok h
  · cases v <;> simp only [ifAgg] at h <;> try (simp at h; done)
    have := castCs_ok h; simpa using this

theorem cast2s_ok : ∀ {ts : List VT2} {l : List Value} {k : List Value → Option R}, cast2s ts l k = some r → k l = some r
  | [], [], k, h => h
  | [], _ :: _, k, h => by simp [cast2s, ifNil] at h
  | t :: ts, [], k, h => by simp [cast2s, ifCons] at h
  | t :: ts, v :: l, k, h => by
    simp only [cast2s, ifCons] at h
    exact cast2s_ok (k := fun r' => k (v :: r')) (cast2_ok h)

theorem castV_ok {t : VT} {v : Value} {k : Value → Option R} (h : castV t v k = some r) : k v = some r := by
  cases t <;> simp only [castV] at h
  · exact cast2_ok h
  · cases v <;> simp only [ifTup] at h <;> try (simp at h; done)
    have := cast2s_ok h; simpa using this

theorem castS_ok {t : VT} {c : SC} {k : SC → Option R} (h : castS t c k = some r) : k c = some r := by
  cases c <;> simp only [castS] at h <;> first | exact h | exact castV_ok h

/-! what looks at the heap -/

def rdHp (H : Heap) (f off c m n : Nat) : Option (List Value) := match H[f]? with
  | some (.cells _ _ vals cur minv _ _) => if n ≤ m ∧ minv ≤ c ∧ c ≤ cur then some (cut vals off n) else none
  | _ => none
def rdLo (cs : List Value) (off n : Nat) : Option (List Value) := if off + n ≤ cs.length then some (cut cs off n) else none
def wrLo (cs : List Value) (off : Nat) (xs : List Value) : Option (List Value) := if off + xs.length ≤ cs.length then some (splice cs off xs) else none
def wrV (H : Heap) (y : Value) (xs : List Value) : Option Heap := match y with
  | .pointer (some ⟨f, off, some 0⟩) => match H[f]? with
    | some (.cells ty sz vals 0 _ frz false) => if off + xs.length ≤ vals.length ∧ frz ≤ off then some (H.set f (.cells ty sz (splice vals off xs) 0 0 frz false)) else none
    | _ => none
  | _ => none
def wrHp (H : Heap) (f off c m : Nat) (xs : List Value) : Option Heap := match H[f]? with
  | some (.cells ty sz vals cur _ frz false) => if xs.length ≤ m ∧ c = cur ∧ frz ≤ off then some (H.set f (.cells ty sz (splice vals off xs) cur cur frz false)) else none
  | _ => none

def hiI (len cap : Nat) : Option Int → Option Nat
  | none => some len
  | some i => if 0 ≤ i ∧ i ≤ cap then some i.toNat else none
def loI (h : Nat) : Option Int → Option Nat
  | none => some 0
  | some i => if 0 ≤ i ∧ i ≤ h then some i.toNat else none
def bndI (len cap : Nat) (lo hi : Option Int) : Option (Nat × Nat) := (hiI len cap hi).bind fun h => (loI h lo).bind fun l => some (l, h)

def optI (fr : Fr) : Option Opd → Option (Option Int)
  | none => some none
  | some o => match evV fr o with | some (.int _ i) => some (some i) | _ => none

theorem hiB_ok {fr : Fr} {len cap : Nat} {o : Option Opd} {i : Option Int} (h : optI fr o = some i) : hiB fr len cap o = hiI len cap i := by
  unfold optI at h
  split at h
  · simp at h; subst h; rfl
  · split at h
    · rename_i hv; simp at h; subst h; simp [hiB, hiI, hv]
    · simp at h
theorem loB_ok {fr : Fr} {n : Nat} {o : Option Opd} {i : Option Int} (h : optI fr o = some i) : loB fr n o = loI n i := by
  unfold optI at h
  split at h
  · simp at h; subst h; rfl
  · split at h
    · rename_i hv; simp at h; subst h; simp [loB, loI, hv]
    · simp at h
theorem bnds_ok {fr : Fr} {len cap : Nat} {lo hi : Option Opd} {l h : Option Int} (hl : optI fr lo = some l) (hh : optI fr hi = some h) : bnds fr len cap lo hi = bndI len cap l h := by
  unfold bnds bndI
  rw [hiB_ok hh]
  cases hiI len cap h with
  | none => rfl
  | some q =>
    simp only [Option.bind_some]
    rw [loB_ok hl]
    cases loI q l <;> rfl

def ssA (s : ByteArray) (lo hi : Option Int) : Option ByteArray := (bndI s.size s.size lo hi).bind fun p => some (s.extract p.1 p.2)
def slA (H : Heap) (sz : Nat) (v : Value) (lo hi : Option Int) : Option Value := match v with
  | .slice none 0 0 => (bndI 0 0 lo hi).bind fun _ => some (.slice none 0 0)
  | .slice (some ⟨f, off, some c⟩) len cap => (bndI len cap lo hi).bind fun p => match H[f]? with
    | some (.cells _ sz' _ cur minv _ _) => if sz' = sz ∧ minv ≤ c ∧ c ≤ cur then some (.slice (some ⟨f, off + p.1 * sz, some c⟩) (p.2 - p.1) (cap - p.1)) else none
    | _ => none
  | _ => none
def ixA (H : Heap) (sz : Nat) (v : Value) (i : Int) : Option (Nat × Nat × Nat) := match v with
  | .slice (some ⟨f, off, some c⟩) len _ => (idx i len).bind fun k => match H[f]? with
    | some (.cells _ sz' _ cur minv _ _) => if sz' = sz ∧ minv ≤ c ∧ c ≤ cur then some (f, off + k * sz, c) else none
    | _ => none
  | _ => none
def apA (H : Heap) (ty sz bytes : Nat) (a b : Value) : Option (Value × Heap) := match b with
  | .string b => if sz = 1 then appendV H ty sz bytes a (b.data.toList.map fun b => Value.int .u8 b.toNat) b.size else none
  | b => (rdSl H sz b).bind fun ns => (slLen b).bind fun n => appendV H ty sz bytes a ns n
def cpA (H : Heap) (sz : Nat) (a b : Value) : Option (Int × Heap) := match a with
  | .slice none 0 0 => (rdSl H sz b).bind fun _ => some (0, H)
  | .slice (some ⟨f, off, some c⟩) len _ => (rdSl H sz b).bind fun ns => (slLen b).bind fun n => match H[f]? with
    | some (.cells ty sz' vals cur _ frz false) => if sz' = sz ∧ c = cur ∧ frz ≤ off then some ((min n len : Nat), H.set f (.cells ty sz (splice vals off (ns.take (min n len * sz))) cur cur frz false)) else none
    | _ => none
  | _ => none
def mkA (H : Heap) (ty sz bytes : Nat) (z : List Value) (l c : Int) : Option (Value × Heap) :=
  if 0 ≤ l ∧ l ≤ c ∧ c * bytes ≤ 140737488355328 ∧ c ≤ 140737488355328 then
    some (.slice (some ⟨H.length, 0, some 0⟩) l.toNat c.toNat, H ++ [.cells ty sz (List.replicate c.toNat z).flatten 0 0 0 false]) else none
def lkA (H : Heap) (kd : SK) (ok : Bool) (z m k : Value) : Option Value := (mapOf H m).bind fun es => if keyOk kd k then (findA k es 0).bind fun r => some (if ok then .tuple #[resV z r, .bool r.isSome] else resV z r) else none
def muA (H : Heap) (kd : SK) (m k v : Value) : Option Heap := match m with
  | .map (some f) => match H[f]? with
    | some (.amap es) => if keyOk kd k then (findA k es 0).bind fun r => match r with
      | some (i, _) => some (H.set f (.amap (es.set i (k, v))))
      | none => some (H.set f (.amap (es ++ [(k, v)]))) else none
    | _ => none
  | _ => none
def nilA : Option Addr → Option (Nat × Nat)
  | some ⟨f, o, some 0⟩ => some (f, o)
  | _ => none

def ldK (agg : Bool) (cs : List Value) (k : Value → Option R) : Option R := if agg then k (.agg cs.toArray) else ifCons cs fun v r => ifNil r (k v)

theorem ldK_ok {agg : Bool} {cs : List Value} {k : Value → Option R} (h : ldK agg cs k = some r) : ∃ v, mkV agg cs = some v ∧ k v = some r := by
  unfold ldK at h
  split at h
  · rename_i e; subst e; exact ⟨_, rfl, h⟩
  · rename_i e
    have e' : agg = false := by simpa using e
    subst e'
    match cs, h with
    | [v], h => exact ⟨v, rfl, h⟩
    | [], h => simp [ifCons] at h
    | _ :: _ :: _, h => simp [ifCons, ifNil] at h

/-- one operation, with a continuation -/
def stepK (C : Callee) (op : AOp) (fr : Fr) (H : Heap) (K : SC → Fr → Heap → Option R) : Option R := match op with
  | .load agg n p => match evO fr p with
    | some (.lp s off) => match fr.getD s .no with
      | .loc cs => (rdLo cs off n).bind fun cs => ldK agg cs fun v => K (.v v) fr H
      | _ => none
    | some (.v y) => (rdV H y n).bind fun cs => ldK agg cs fun v => K (.v v) fr H
    | some (.hp f o c m) => (rdHp H f o c m n).bind fun cs => ldK agg cs fun v => K (.v v) fr H
    | none => none
  | .store n p x => match evO fr p, evV fr x with
    | some a, some v => match cellsV v with
      | some cs => if cs.length = n then match a with
          | .lp s off => match fr.getD s .no with
            | .loc zs => (wrLo zs off cs).bind fun zs => K (.v undef) (fr.set s (.loc zs)) H
            | _ => none
          | .v y => (wrV H y cs).bind fun H => K (.v undef) fr H
          | .hp f o c m => (wrHp H f o c m cs).bind fun H => K (.v undef) fr H
        else none
      | none => none
    | _, _ => none
  | .nilChk x => match evO fr x with
    | some (.v (.pointer a)) => (nilA a).bind fun q => K (.v (.pointer (some ⟨q.1, q.2, some 0⟩))) fr H
    | some (.lp s o) => K (.lp s o) fr H
    | some (.hp f o c n) => K (.hp f o c n) fr H
    | _ => none
  | .bin op x y => match evV fr x, evV fr y with
    | some a, some b => (binV op a b).bind fun v => K (.v v) fr H
    | _, _ => none
  | .convBS x => match evV fr x with
    | some s => (rdSl H 1 s).bind fun cs => (bytesOf cs).bind fun l => K (.v (.string ⟨l.toArray⟩)) fr H
    | none => none
  | .makeSl ty sz bytes z len cap => match evV fr len, evV fr cap with
    | some (.int _ l), some (.int _ c) => (mkA H ty sz bytes z l c).bind fun p => K (.v p.1) fr p.2
    | _, _ => none
  | .slStr x lo hi => match evV fr x, optI fr lo, optI fr hi with
    | some (.string s), some l, some h => (ssA s l h).bind fun s => K (.v (.string s)) fr H
    | _, _, _ => none
  | .slSl sz x lo hi => match evV fr x, optI fr lo, optI fr hi with
    | some v, some l, some h => (slA H sz v l h).bind fun v => K (.v v) fr H
    | _, _, _ => none
  | .indexA sz x i => match evV fr x, evV fr i with
    | some v, some (.int _ i) => (ixA H sz v i).bind fun q => K (.hp q.1 q.2.1 q.2.2 sz) fr H
    | _, _ => none
  | .indexP len sz x i => match evO fr x, evV fr i with
    | some a, some (.int _ i) => (idx i len).bind fun k => match a with
      | .v (.pointer (some ⟨f, o, some 0⟩)) => K (.v (.pointer (some ⟨f, o + k * sz, some 0⟩))) fr H
      | .lp s o => K (.lp s (o + k * sz)) fr H
      | .hp f o c n => if k * sz ≤ n then K (.hp f (o + k * sz) c (n - k * sz)) fr H else none
      | _ => none
    | _, _ => none
  | .indexStr x i => match evV fr x, evV fr i with
    | some (.string s), some (.int _ i) => (if 0 ≤ i then s[i.toNat]? else none).bind fun b => K (.v (.int .u8 b.toNat)) fr H
    | _, _ => none
  | .indexArr agg len sz x i => match evV fr x, evV fr i with
    | some (.agg cs), some (.int _ i) => (idx i len).bind fun k => (rdLo cs.toList (k * sz) sz).bind fun cs => ldK agg cs fun v => K (.v v) fr H
    | _, _ => none
  | .append ty sz bytes s x => match evV fr s, evV fr x with
    | some a, some b => (apA H ty sz bytes a b).bind fun p => K (.v p.1) fr p.2
    | _, _ => none
  | .copy sz a x => match evV fr a, evV fr x with
    | some a, some b => (cpA H sz a b).bind fun p => K (.v (.int .i64 p.1)) fr p.2
    | _, _ => none
  | .call f args => match evVs fr args with
    | some xs => (C f xs H).bind fun p => K (.v p.1) fr p.2
    | none => none
  | .callV fv args => match evV fr fv, evVs fr args with
    | some g, some xs => (fnOf g xs).bind fun q => (C q.1 q.2 H).bind fun p => K (.v p.1) fr p.2
    | _, _ => none
  | .look kd ok z m k => match evV fr m, evV fr k with
    | some m, some k => (lkA H kd ok z m k).bind fun v => K (.v v) fr H
    | _, _ => none
  | .mapUp kd m k x => match evV fr m, evV fr k, evV fr x with
    | some m, some k, some v => (muA H kd m k v).bind fun H => K (.v undef) fr H
    | _, _, _ => none
  | .lenM x => match evV fr x with
    | some m => (mapOf H m).bind fun es => K (.v (.int .i64 es.length)) fr H
    | none => none
  | op => match stepA C fr H op with
    | some (c, fr, H) => K c fr H
    | none => none

theorem bind_some' {α β : Type} {x : Option α} {f : α → Option β} {r : β} (h : x.bind f = some r) : ∃ a, x = some a ∧ f a = some r := by
  cases x with
  | none => simp at h
  | some a => exact ⟨a, rfl, h⟩

theorem stepK_ok {C : Callee} {op : AOp} {fr : Fr} {H : Heap} {K : SC → Fr → Heap → Option R} (h : stepK C op fr H K = some r) : ∃ c fr' H', stepA C fr H op = some (c, fr', H') ∧ K c fr' H' = some r := by
  cases op with
  | load agg n p =>
    simp only [stepK] at h
    split at h
    · rename_i s off hp
      split at h
      · rename_i cs hcs
        obtain ⟨cs', h1, h2⟩ := bind_some' h
        obtain ⟨v, h3, h4⟩ := ldK_ok h2
        unfold rdLo at h1
        split at h1
        · rename_i hle
          simp at h1; subst h1
          exact ⟨_, _, _, by simp only [stepA, hp, rd, hcs, if_pos hle, h3], h4⟩
        · simp at h1
      · simp at h
    · rename_i y hp
      obtain ⟨cs', h1, h2⟩ := bind_some' h
      obtain ⟨v, h3, h4⟩ := ldK_ok h2
      exact ⟨_, _, _, by simp only [stepA, hp, rd, h1, h3], h4⟩
    · rename_i f o c m hp
      obtain ⟨cs', h1, h2⟩ := bind_some' h
      obtain ⟨v, h3, h4⟩ := ldK_ok h2
      have h1' : rd fr H (.hp f o c m) n = some cs' := h1
      exact ⟨_, _, _, by simp only [stepA, hp, h1', h3], h4⟩
    · simp at h
  | store n p x =>
    simp only [stepK] at h
    split at h
    · rename_i a v hp hx
      split at h
      · rename_i cs hcs
        split at h
        · rename_i hn
          split at h
          · rename_i s off
            split at h
            · rename_i zs hzs
              obtain ⟨zs', h1, h2⟩ := bind_some' h
              unfold wrLo at h1
              split at h1
              · rename_i hle
                simp at h1; subst h1
                exact ⟨_, _, _, by simp only [stepA, hp, hx, hcs, if_pos hn, wr, hzs, if_pos hle], h2⟩
              · simp at h1
            · simp at h
          · rename_i y
            obtain ⟨H', h1, h2⟩ := bind_some' h
            refine ⟨.v undef, fr, H', ?_, h2⟩
            unfold wrV at h1
            split at h1
            · split at h1
              · rename_i hH
                split at h1
                · rename_i hle
                  simp at h1; subst h1
                  simp only [stepA, hp, hx, hcs, if_pos hn, wr, hH, if_pos hle]
                · simp at h1
              · simp at h1
            · simp at h1
          · rename_i f o c m
            obtain ⟨H', h1, h2⟩ := bind_some' h
            refine ⟨.v undef, fr, H', ?_, h2⟩
            unfold wrHp at h1
            split at h1
            · rename_i hH
              split at h1
              · rename_i hle
                simp at h1; subst h1
                simp only [stepA, hp, hx, hcs, if_pos hn, wr, hH, if_pos hle]
              · simp at h1
            · simp at h1
        · simp at h
      · simp at h
    · simp at h
  | nilChk x =>
    simp only [stepK] at h
    split at h
    · rename_i a hx
      obtain ⟨q, h1, h2⟩ := bind_some' h
      unfold nilA at h1
      split at h1
      · simp at h1; subst h1
        exact ⟨_, _, _, by simp only [stepA, hx], h2⟩
      · simp at h1
    · rename_i hx; exact ⟨_, _, _, by simp only [stepA, hx], h⟩
    · rename_i hx; exact ⟨_, _, _, by simp only [stepA, hx], h⟩
    · simp at h
  | bin op x y =>
    simp only [stepK] at h
    split at h
    · rename_i hx hy
      obtain ⟨v, h1, h2⟩ := bind_some' h
      exact ⟨_, _, _, by simp only [stepA, hx, hy, h1], h2⟩
    · simp at h
  | convBS x =>
    simp only [stepK] at h
    split at h
    · rename_i hx
      obtain ⟨cs, h1, h2⟩ := bind_some' h
      obtain ⟨l, h3, h4⟩ := bind_some' h2
      exact ⟨_, _, _, by simp only [stepA, hx, h1, h3], h4⟩
    · simp at h
  | makeSl ty sz bytes z len cap =>
    simp only [stepK] at h
    split at h
    · rename_i hl hc
      obtain ⟨p, h1, h2⟩ := bind_some' h
      unfold mkA at h1
      split at h1
      · rename_i hle
        simp only [Option.some.injEq] at h1; subst h1
        exact ⟨_, _, _, by simp only [stepA, hl, hc, if_pos hle], h2⟩
      · simp at h1
    · simp at h
  | slStr x lo hi =>
    simp only [stepK] at h
    split at h
    · rename_i hx hl hh
      obtain ⟨s', h1, h2⟩ := bind_some' h
      unfold ssA at h1
      obtain ⟨p, h3, h4⟩ := bind_some' h1
      simp at h4; subst h4
      exact ⟨_, _, _, by simp only [stepA, hx, bnds_ok hl hh, h3], h2⟩
    · simp at h
  | slSl sz x lo hi =>
    simp only [stepK] at h
    split at h
    · rename_i hx hl hh
      obtain ⟨u, h1, h2⟩ := bind_some' h
      refine ⟨_, _, _, ?_, h2⟩
      unfold slA at h1
      split at h1
      · obtain ⟨p, h3, h4⟩ := bind_some' h1
        simp at h4; subst h4
        simp only [stepA, hx, bnds_ok hl hh, h3]
      · obtain ⟨p, h3, h4⟩ := bind_some' h1
        split at h4
        · rename_i hH
          split at h4
          · rename_i hle
            simp at h4; subst h4
            simp only [stepA, hx, bnds_ok hl hh, h3, hH, if_pos hle]
          · simp at h4
        · simp at h4
      · simp at h1
    · simp at h
  | indexA sz x i =>
    simp only [stepK] at h
    split at h
    · rename_i hx hi
      obtain ⟨q, h1, h2⟩ := bind_some' h
      refine ⟨_, _, _, ?_, h2⟩
      unfold ixA at h1
      split at h1
      · obtain ⟨p, h3, h4⟩ := bind_some' h1
        split at h4
        · rename_i hH
          split at h4
          · rename_i hle
            simp at h4; subst h4
            simp only [stepA, hx, hi, h3, hH, if_pos hle]
          · simp at h4
        · simp at h4
      · simp at h1
    · simp at h
  | indexP len sz x i =>
    simp only [stepK] at h
    split at h
    · rename_i hx hi
      obtain ⟨k, h1, h2⟩ := bind_some' h
      split at h2
      · exact ⟨_, _, _, by simp only [stepA, hx, hi, h1], h2⟩
      · exact ⟨_, _, _, by simp only [stepA, hx, hi, h1], h2⟩
      · split at h2
        · rename_i hle
          exact ⟨_, _, _, by simp only [stepA, hx, hi, h1, if_pos hle], h2⟩
        · simp at h2
      · simp at h2
    · simp at h
  | indexStr x i =>
    simp only [stepK] at h
    split at h
    · rename_i hx hi
      obtain ⟨b, h1, h2⟩ := bind_some' h
      exact ⟨_, _, _, by simp only [stepA, hx, hi, h1], h2⟩
    · simp at h
  | indexArr agg len sz x i =>
    simp only [stepK] at h
    split at h
    · rename_i cs _ i hx hi
      obtain ⟨k, h1, h2⟩ := bind_some' h
      obtain ⟨cs', h3, h4⟩ := bind_some' h2
      obtain ⟨v, h5, h6⟩ := ldK_ok h4
      unfold rdLo at h3
      split at h3
      · rename_i hle
        simp at h3; subst h3
        have hle' : k * sz + sz ≤ cs.size := by simpa using hle
        exact ⟨_, _, _, by simp only [stepA, hx, hi, h1, if_pos hle', h5], h6⟩
      · simp at h3
    · simp at h
  | append ty sz bytes s x =>
    simp only [stepK] at h
    split at h
    · rename_i hs hx
      obtain ⟨p, h1, h2⟩ := bind_some' h
      refine ⟨_, _, _, ?_, h2⟩
      unfold apA at h1
      split at h1
      · split at h1
        · rename_i e; subst e
          simp only [stepA, hs, hx, if_true, h1, one, Option.map]
        · simp at h1
      · rename_i b hb
        obtain ⟨ns, h3, h4⟩ := bind_some' h1
        obtain ⟨n, h5, h6⟩ := bind_some' h4
        simp only [stepA, hs, hx, h3, h5, h6, one, Option.map]
    · simp at h
  | copy sz a x =>
    simp only [stepK] at h
    split at h
    · rename_i hs hx
      obtain ⟨p, h1, h2⟩ := bind_some' h
      refine ⟨_, _, _, ?_, h2⟩
      unfold cpA at h1
      split at h1
      · obtain ⟨ns, h3, h4⟩ := bind_some' h1
        simp at h4; subst h4
        simp only [stepA, hs, hx, h3]
      · obtain ⟨ns, h3, h4⟩ := bind_some' h1
        obtain ⟨n, h5, h6⟩ := bind_some' h4
        split at h6
        · rename_i hH
          split at h6
          · rename_i hle
            simp only [Option.some.injEq] at h6; subst h6
            simp only [stepA, hs, hx, h3, h5, hH, if_pos hle]
          · simp at h6
        · simp at h6
      · simp at h1
    · simp at h
  | call f args =>
    simp only [stepK] at h
    split at h
    · rename_i hx
      obtain ⟨p, h1, h2⟩ := bind_some' h
      exact ⟨_, _, _, by simp only [stepA, hx, h1], h2⟩
    · simp at h
  | callV f args =>
    simp only [stepK] at h
    split at h
    · rename_i hf hx
      obtain ⟨q, h1, h2⟩ := bind_some' h
      obtain ⟨p, h3, h4⟩ := bind_some' h2
      exact ⟨_, _, _, by simp only [stepA, hf, hx, h1, h3], h4⟩
    · simp at h
  | look kd ok z m k =>
    simp only [stepK] at h
    split at h
    · rename_i hm hk
      obtain ⟨v, h1, h2⟩ := bind_some' h
      refine ⟨_, _, _, ?_, h2⟩
      unfold lkA at h1
      obtain ⟨es, h3, h4⟩ := bind_some' h1
      split at h4
      · rename_i hko
        obtain ⟨q, h5, h6⟩ := bind_some' h4
        simp only [Option.some.injEq] at h6; subst h6
        simp only [stepA, hm, hk, h3, hko, h5]
      · simp at h4
    · simp at h
  | mapUp kd m k x =>
    simp only [stepK] at h
    split at h
    · rename_i hm hk hx
      obtain ⟨H', h1, h2⟩ := bind_some' h
      refine ⟨_, _, _, ?_, h2⟩
      unfold muA at h1
      split at h1
      · split at h1
        · rename_i hH
          split at h1
          · rename_i hko
            obtain ⟨q, h5, h6⟩ := bind_some' h1
            split at h6
            · simp only [Option.some.injEq] at h6; subst h6
              simp only [stepA, hm, hk, hx, hH, hko, h5]
            · simp only [Option.some.injEq] at h6; subst h6
              simp only [stepA, hm, hk, hx, hH, hko, h5]
          · simp at h1
        · simp at h1
      · simp at h1
    · simp at h
  | lenM x =>
    simp only [stepK] at h
    split at h
    · rename_i hx
      obtain ⟨es, h1, h2⟩ := bind_some' h
      exact ⟨_, _, _, by simp only [stepA, hx, h1], h2⟩
    · simp at h
  | _ =>
    simp only [stepK] at h
    split at h
    · rename_i hst; exact ⟨_, _, _, hst, h⟩
    · simp at h

end
end Go.AM
