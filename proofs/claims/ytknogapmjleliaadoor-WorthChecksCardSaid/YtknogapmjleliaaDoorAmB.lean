/- What the abstract machine's values, rows and frames say of a world. No condition. -/
import Derived.Test.YtknogapmjleliaaDoorAmA
namespace Go.AM
open Go

/-- where a copy of a row lies: its block, the place of its first cell, behind its last cell, the block's size, an element's cells, whether it is only read -/
structure Loc where
  B : Nat
  lo : Nat
  ext : Nat
  size : Nat
  sz : Nat
  ro : Bool
  gap : Nat

abbrev Locs := Nat → Nat → Option Loc

def one1 : Value → Prop
  | .agg _ => False
  | .tuple _ => False
  | _ => True

def fnOk : Fn → Prop
  | .yield _ => False
  | _ => True

inductive VR (L : Locs) : Value → Value → Prop
  | bool (b : Bool) : VR L (.bool b) (.bool b)
  | int (k : IntKind) (n : Int) : VR L (.int k n) (.int k n)
  | str (s : ByteArray) : VR L (.string s) (.string s)
  | pnil : VR L (.pointer none) (.pointer none)
  | ptr (f off : Nat) (l : Loc) (h : L f 0 = some l) (h0 : l.lo + l.gap = 0) : VR L (.pointer (some ⟨f, off, some 0⟩)) (.pointer (some ⟨l.B, off, none⟩))
  | snil : VR L (.slice none 0 0) (.slice none 0 0)
  | sl (f off c len cap cap' : Nat) (l : Loc) (h : L f c = some l) (h1 : l.lo + l.gap ≤ off) (h2 : off + cap * l.sz ≤ l.ext) (h3 : len ≤ cap) (h4 : cap ≤ cap')
      (h5 : off - l.lo + cap' * l.sz ≤ l.size) : VR L (.slice (some ⟨f, off, some c⟩) len cap) (.slice (some ⟨l.B, off - l.lo, none⟩) len cap')
  | sl0 (f off c : Nat) (b : Addr) (l : Loc) (h : L f c = some l) (h1 : l.lo + l.gap ≤ off) (h2 : off ≤ l.ext) : VR L (.slice (some ⟨f, off, some c⟩) 0 0) (.slice (some b) 0 0)
  | fn (fn : Fn) (a a' b b' : Array Value) (h : fnOk fn) (ha : a.size = a'.size) (hb : b.size = b'.size)
      (h1 : ∀ i (p : i < a.size) (q : i < a'.size), VR L a[i] a'[i]) (h2 : ∀ i (p : i < b.size) (q : i < b'.size), VR L b[i] b'[i]) : VR L (.func fn a b) (.func fn a' b')
  | mnil : VR L (.map none) (.map none)
  | map (f : Nat) (l : Loc) (h : L f 0 = some l) (h0 : l.ro = false) : VR L (.map (some f)) (.map (some l.B))
  | fnil : VR L .nilFunc .nilFunc
  | ifnil : VR L .nilIface .nilIface
  | iface (t : TypeId) (v v' : Value) (h : VR L v v') : VR L (.iface t v) (.iface t v')
  | agg (a a' : Array Value) (ha : a.size = a'.size) (h1 : ∀ i (p : i < a.size) (q : i < a'.size), VR L a[i] a'[i]) (h2 : ∀ i (p : i < a.size), one1 a[i]) : VR L (.agg a) (.agg a')
  | tup (a a' : Array Value) (ha : a.size = a'.size) (h1 : ∀ i (p : i < a.size) (q : i < a'.size), VR L a[i] a'[i]) : VR L (.tuple a) (.tuple a')

def Locs.le (L L' : Locs) : Prop := ∀ f c l, L f c = some l → L' f c = some l
theorem Locs.le.refl (L : Locs) : L.le L := fun _ _ _ h => h
theorem Locs.le.trans {A B C : Locs} (h : A.le B) (h' : B.le C) : A.le C := fun f c l q => h' f c l (h f c l q)

theorem VR.mono {L L' : Locs} (hl : L.le L') {v x : Value} (h : VR L v x) : VR L' v x := by
  induction h with
  | bool b => exact .bool b
  | int k n => exact .int k n
  | str s => exact .str s
  | pnil => exact .pnil
  | ptr f off l h h0 => exact .ptr f off l (hl _ _ _ h) h0
  | snil => exact .snil
  | sl f off c len cap cap' l h h1 h2 h3 h4 h5 => exact .sl f off c len cap cap' l (hl _ _ _ h) h1 h2 h3 h4 h5
  | sl0 f off c b l h h1 h2 => exact .sl0 f off c b l (hl _ _ _ h) h1 h2
  | fn fn a a' b b' h ha hb _ _ i1 i2 => exact .fn fn a a' b b' h ha hb i1 i2
  | mnil => exact .mnil
  | map f l h h0 => exact .map f l (hl _ _ _ h) h0
  | fnil => exact .fnil
  | ifnil => exact .ifnil
  | iface t v v' _ i => exact .iface t v v' i
  | agg a a' ha _ h2 i1 => exact .agg a a' ha i1 h2
  | tup a a' ha _ i1 => exact .tup a a' ha i1

theorem VR.one {L : Locs} {v x : Value} (h : VR L v x) (h1 : one1 v) : x.oneCell' = true := by
  cases h <;> first | rfl | exact h1.elim

theorem VR.undef (L : Locs) : VR L undef undef := .tup _ _ rfl (fun i p _ => absurd p (by simp))

/-- lists of cells -/
def CR (L : Locs) (cs xs : List Value) : Prop := cs.length = xs.length ∧ ∀ (i : Nat) (v : Value), cs[i]? = some v → one1 v ∧ ∃ x : Value, xs[i]? = some x ∧ VR L v x

theorem CR.mono {L L' : Locs} (hl : L.le L') {cs xs : List Value} (h : CR L cs xs) : CR L' cs xs :=
  ⟨h.1, fun i v q => let ⟨o, x, hx, r⟩ := h.2 i v q; ⟨o, x, hx, r.mono hl⟩⟩

theorem CR.nil (L : Locs) : CR L [] [] := ⟨rfl, fun i v h => by simp at h⟩

theorem CR.cons {L : Locs} {v x : Value} {cs xs : List Value} (h1 : one1 v) (h : VR L v x) (h' : CR L cs xs) : CR L (v :: cs) (x :: xs) := by
  refine ⟨by simp [h'.1], fun i u q => ?_⟩
  cases i with
  | zero => simp at q; subst q; exact ⟨h1, x, rfl, h⟩
  | succ i => simpa using h'.2 i u (by simpa using q)

theorem CR.append {L : Locs} {a b x y : List Value} (h : CR L a x) (h' : CR L b y) : CR L (a ++ b) (x ++ y) := by
  refine ⟨by simp [h.1, h'.1], fun i v q => ?_⟩
  rcases Nat.lt_or_ge i a.length with hi | hi
  · rw [List.getElem?_append_left hi] at q
    obtain ⟨o, u, hu, r⟩ := h.2 i v q
    exact ⟨o, u, by rw [List.getElem?_append_left (by rw [← h.1]; exact hi)]; exact hu, r⟩
  · rw [List.getElem?_append_right hi] at q
    obtain ⟨o, u, hu, r⟩ := h'.2 _ v q
    exact ⟨o, u, by rw [List.getElem?_append_right (by rw [← h.1]; exact hi), ← h.1]; exact hu, r⟩

theorem CR.drop {L : Locs} {a x : List Value} (h : CR L a x) (n : Nat) : CR L (a.drop n) (x.drop n) := by
  refine ⟨by simp [h.1], fun i v q => ?_⟩
  rw [List.getElem?_drop] at q ⊢
  exact h.2 _ v q

theorem CR.take {L : Locs} {a x : List Value} (h : CR L a x) (n : Nat) : CR L (a.take n) (x.take n) := by
  refine ⟨by simp [h.1], fun i v q => ?_⟩
  rw [List.getElem?_take] at q ⊢
  split at q
  · rename_i hi; rw [if_pos hi]; exact h.2 _ v q
  · simp at q

theorem CR.cut {L : Locs} {a x : List Value} (h : CR L a x) (o n : Nat) : CR L (cut a o n) (AM.cut x o n) := (h.drop o).take n

theorem CR.splice {L : Locs} {a x b y : List Value} (h : CR L a x) (h' : CR L b y) (o : Nat) : CR L (splice a o b) (AM.splice x o y) := by
  unfold AM.splice
  rw [h'.1]
  exact ((h.take o).append h').append (h.drop _)

theorem VR.agg_iff {L : Locs} {cs : List Value} {x : Value} (h : VR L (.agg cs.toArray) x) : ∃ xs : List Value, x = .agg xs.toArray ∧ CR L cs xs := by
  cases h with
  | agg _ a' ha h1 h2 =>
    refine ⟨a'.toList, by simp, by simpa using ha, fun i v q => ?_⟩
    obtain ⟨hi, rfl⟩ := List.getElem?_eq_some_iff.1 q
    have hi' : i < a'.size := by simpa [← ha] using hi
    exact ⟨h2 i (by simpa using hi), a'[i], by simp [hi'], h1 i (by simpa using hi) hi'⟩

theorem VR.of_agg {L : Locs} {cs xs : List Value} (h : CR L cs xs) : VR L (.agg cs.toArray) (.agg xs.toArray) := by
  refine .agg _ _ (by simpa using h.1) (fun i p q => ?_) (fun i p => ?_)
  · obtain ⟨_, x, hx, r⟩ := h.2 i cs[i] (by simp [show i < cs.length by simpa using p])
    obtain ⟨_, rfl⟩ := List.getElem?_eq_some_iff.1 hx
    simpa using r
  · obtain ⟨o, _⟩ := h.2 i cs[i] (by simp [show i < cs.length by simpa using p])
    simpa using o

theorem VR.cellsV {L : Locs} {v x : Value} (h : VR L v x) {cs : List Value} (hc : cellsV v = some cs) : CR L cs x.cells.toList := by
  cases h with
  | agg a a' ha h1 h2 =>
    simp only [AM.cellsV, Option.some.injEq] at hc; subst hc
    obtain ⟨xs, he, r⟩ := VR.agg_iff (cs := a.toList) (x := .agg a') (by simpa using VR.agg a a' ha h1 h2)
    simp at he; subst he; simpa [Value.cells] using r
  | tup a a' ha h1 => simp [AM.cellsV] at hc
  | _ =>
    simp only [AM.cellsV, Option.some.injEq] at hc; subst hc
    exact CR.cons trivial (by constructor <;> assumption) (CR.nil _)

/-- a row in the world -/
def ObjR (L : Locs) (w : World) (f : Nat) : AObj → Prop
  | .cells ty sz vals cur minv frz ro => minv ≤ cur ∧ 0 < sz ∧ (∀ v ∈ vals, one1 v) ∧
      ∀ c, minv ≤ c → c ≤ cur → ∃ l, L f c = some l ∧ l.sz = sz ∧ l.ro = ro ∧ l.lo ≤ l.ext ∧ l.ext ≤ vals.length ∧ (c = cur → l.ext = vals.length) ∧ l.ext - l.lo ≤ l.size ∧ (c = 0 → l.lo = 0) ∧
        ∃ cs T a b, w.heap[l.B]? = some (.cells cs T (a, b)) ∧ (T = ty ∧ ∀ k, frz - l.lo ≤ k → k < l.size → ¬ (a ≤ k ∧ k < b)) ∧ cs.size = l.size ∧
          ∀ p : Nat, l.lo + l.gap ≤ p → p < l.ext → ∃ v x : Value, vals[p]? = some v ∧ cs[p - l.lo]? = some x ∧ VR L v x
  | .amap es => ∃ l es' clk, L f 0 = some l ∧ l.ro = false ∧ w.heap[l.B]? = some (.map es' clk) ∧ es'.size = es.length ∧
      ∀ (i : Nat) (k v : Value), es[i]? = some (k, v) → ∃ e : MapEntry, es'[i]? = some e ∧ e.key = k ∧ VR L v e.val
  | .dead => True

structure HR (L : Locs) (H : Heap) (w : World) : Prop where
  obj : ∀ f o, H[f]? = some o → ObjR L w f o
  dom : ∀ f c l, L f c = some l → f < H.length ∧ l.B < w.heap.size
  dis : ∀ f c l f' c' l', L f c = some l → L f' c' = some l' → l.ro = false → l.B = l'.B → f = f'
  cub : ∀ f c l ty sz vals cur minv frz ro, L f c = some l → H[f]? = some (.cells ty sz vals cur minv frz ro) → c ≤ cur
  los : ∀ f c c' l l', L f c = some l → L f c' = some l' → l.B = l'.B → l.lo = l'.lo ∧ l.size = l'.size ∧ l.ro = l'.ro

def SR (L : Locs) (lam : Nat → Nat) (w : World) (s : Nat) (x : Value) : SC → Prop
  | .no => True
  | .v y => VR L y x
  | .lp s' off => x = .pointer (some ⟨lam s', off, none⟩)
  | .hp f off c n => ∃ l, L f c = some l ∧ l.lo + l.gap ≤ off ∧ off + n ≤ l.ext ∧ x = .pointer (some ⟨l.B, off - l.lo, none⟩)
  | .loc cs => x = .pointer (some ⟨lam s, 0, none⟩) ∧ ∃ xs T, w.heap[lam s]? = some (.cells xs T (0, 0)) ∧ CR L cs xs.toList

structure Rel (L : Locs) (lam : Nat → Nat) (fr : Fr) (H : Heap) (a : Act) (w : World) : Prop where
  len : a.tmps.size = fr.length
  dfr : a.defers = []
  slot : ∀ s c, fr[s]? = some c → SR L lam w s (a.tmps.getD s undef) c
  heap : HR L H w
  own : ∀ s cs, fr[s]? = some (.loc cs) → ∀ f c l, L f c = some l → l.B ≠ lam s
  inj : ∀ s cs s' cs', fr[s]? = some (.loc cs) → fr[s']? = some (.loc cs') → lam s = lam s' → s = s'

/-- what a piece of a run keeps of the world -/
structure Keep (L0 : Locs) (w0 : World) (L : Locs) (w : World) : Prop where
  size : w0.heap.size ≤ w.heap.size
  os : w.os = w0.os
  out : w.output = w0.output
  old : ∀ B, B < w0.heap.size → (∀ f c l, L0 f c = some l → l.ro = false → l.B ≠ B) → w.heap[B]? = w0.heap[B]?
  le : L0.le L
  new : ∀ f c l, L f c = some l → L0 f c = some l ∨ w0.heap.size ≤ l.B ∨ ∃ c' l', L0 f c' = some l' ∧ l'.B = l.B ∧ l'.ro = l.ro

theorem Keep.refl (L : Locs) (w : World) : Keep L w L w := ⟨Nat.le_refl _, rfl, rfl, fun _ _ _ => rfl, Locs.le.refl L, fun _ _ _ h => .inl h⟩

theorem Keep.trans {L0 L1 L2 : Locs} {w0 w1 w2 : World} (h : Keep L0 w0 L1 w1) (k : Keep L1 w1 L2 w2) : Keep L0 w0 L2 w2 where
  size := Nat.le_trans h.size k.size
  os := k.os.trans h.os
  out := k.out.trans h.out
  old B hB hn := by
    rw [k.old B (Nat.lt_of_lt_of_le hB h.size) ?_, h.old B hB hn]
    intro f c l hl hr he
    rcases h.new f c l hl with q | q | ⟨c', l', q, e1, e2⟩
    · exact hn f c l q hr he
    · omega
    · exact hn f c' l' q (by rw [e2]; exact hr) (by rw [e1]; exact he)
  le := h.le.trans k.le
  new f c l hl := by
    rcases k.new f c l hl with q | q | ⟨c', l', q, e1, e2⟩
    · exact h.new f c l q
    · exact .inr (.inl (Nat.le_trans h.size q))
    · rcases h.new f c' l' q with r | r | ⟨c2, l2, r, e3, e4⟩
      · exact .inr (.inr ⟨c', l', r, e1, e2⟩)
      · exact .inr (.inl (by omega))
      · exact .inr (.inr ⟨c2, l2, r, e3.trans e1, e4.trans e2⟩)

end Go.AM
