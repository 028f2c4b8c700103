/- Words for contracts of shallow forms: what returns; slices that show rows; slices of one's own; what keeps. No condition. -/
import Derived.Test.YtknogapmjleliaaDoorAmCc
namespace Go.AM
open Go

def Ret (m : Option (Value × Heap)) (Q : Value → Heap → Prop) : Prop := ∃ v H', m = some (v, H') ∧ Q v H'

section
variable {m m' x y : Option (Value × Heap)} {Q Q' : Value → Heap → Prop} {v : Value} {H : Heap} {b : Bool}

theorem Ret.one (h : Q v H) : Ret (some (v, H)) Q := ⟨v, H, rfl, h⟩
theorem Ret.mono (h : Ret m Q) (hq : ∀ v H, Q v H → Q' v H) : Ret m Q' := by
  obtain ⟨v, H', e, q⟩ := h
  exact ⟨v, H', e, hq _ _ q⟩
theorem Ret.via (h : Ret m Q) (hm : ∀ r, m = some r → m' = some r) : Ret m' Q := by
  obtain ⟨v, H', e, q⟩ := h
  exact ⟨v, H', hm _ e, q⟩
theorem Ret.call {k : Value × Heap → Option (Value × Heap)} (h : Ret m Q) (hk : ∀ v H', Q v H' → Ret (k (v, H')) Q') : Ret (m.bind k) Q' := by
  obtain ⟨v, H', rfl, q⟩ := h
  exact hk v H' q
theorem Ret.cond (ht : b = true → Ret x Q) (hf : b = false → Ret y Q) : Ret (cond b x y) Q := by
  cases b
  · exact hf rfl
  · exact ht rfl
theorem Ret.is {H' : Heap} (h : Ret m fun w K => w = v ∧ K = H') : m = some (v, H') := by
  obtain ⟨_, _, e, rfl, rfl⟩ := h
  exact e
theorem Ret.get (h : Ret m Q) : ∃ v H', m = some (v, H') ∧ Q v H' := h
end

section
variable {R : Type}
theorem aInt (k : IntKind) (a : Int) (f : Int → Option R) : ifInt k (.int k a) f = f a := by simp [ifInt]
theorem aBool (b : Bool) (f : Bool → Option R) : ifBool (.bool b) f = f b := rfl
theorem aStr (b : ByteArray) (f : ByteArray → Option R) : ifStr (.string b) f = f b := rfl
theorem aSl (a : Option Addr) (n c : Nat) (f : Option Addr → Nat → Nat → Option R) : ifSl (.slice a n c) f = f a n c := rfl
theorem aPtr (a : Option Addr) (f : Option Addr → Option R) : ifPtr (.pointer a) f = f a := rfl
theorem aMap (a : Option Nat) (f : Option Nat → Option R) : ifMap (.map a) f = f a := rfl
theorem aAgg (a : List Value) (f : List Value → Option R) : ifAgg (.agg a.toArray) f = f a := rfl
theorem aTup (a : List Value) (f : List Value → Option R) : ifTup (.tuple a.toArray) f = f a := rfl
theorem aCons (v : Value) (r : List Value) (f : Value → List Value → Option R) : ifCons (v :: r) f = f v r := rfl
theorem aNil (k : Option R) : ifNil [] k = k := rfl
theorem aBind {α : Type} (a : α) (f : α → Option R) : (some a).bind f = f a := rfl
theorem aT {α : Type} (x y : α) : cond true x y = x := rfl
theorem aF {α : Type} (x y : α) : cond false x y = y := rfl
end

/-- all rows are as they were; there may be more -/
def Pre (H H' : Heap) : Prop := ∀ g, g < H.length → H'[g]? = H[g]?

theorem Pre.refl (H : Heap) : Pre H H := fun _ _ => rfl
theorem Pre.len {H H' : Heap} (h : Pre H H') : H.length ≤ H'.length := by
  rcases Nat.lt_or_ge H'.length H.length with q | q
  · have := h H'.length q
    rw [List.getElem?_eq_none (Nat.le_refl _), List.getElem?_eq_getElem q] at this
    simp at this
  · exact q
theorem Pre.trans {A B C : Heap} (h : Pre A B) (k : Pre B C) : Pre A C := fun g hg => (k g (Nat.lt_of_lt_of_le hg h.len)).trans (h g hg)
theorem Pre.app (H X : Heap) : Pre H (H ++ X) := fun _ hg => List.getElem?_append_left hg
theorem Pre.at {H H' : Heap} (h : Pre H H') {g : Nat} {o : AObj} (q : H[g]? = some o) : H'[g]? = some o := by
  rw [h g (List.getElem?_eq_some_iff.1 q).1, q]

/-- a slice that shows rows of sz cells -/
def Sl (H : Heap) (sz : Nat) (a : Option Addr) (n c : Nat) (xs : List (List Value)) : Prop :=
  n = xs.length ∧ n ≤ c ∧ (∀ x ∈ xs, x.length = sz) ∧
    ((a = none ∧ n = 0 ∧ c = 0) ∨ ∃ f off k ty vals cur minv frz ro, a = some ⟨f, off, some k⟩ ∧ H[f]? = some (.cells ty sz vals cur minv frz ro) ∧ minv ≤ k ∧ k ≤ cur ∧ cut vals off (n * sz) = xs.flatten ∧ off + n * sz ≤ vals.length)

theorem Sl.mono {H H' : Heap} {sz n c : Nat} {a : Option Addr} {xs : List (List Value)} (h : Sl H sz a n c xs) (p : Pre H H') : Sl H' sz a n c xs := by
  obtain ⟨h1, h2, h3, h4⟩ := h
  refine ⟨h1, h2, h3, ?_⟩
  rcases h4 with h4 | ⟨f, off, k, ty, vals, cur, minv, frz, ro, e, q, r⟩
  · exact .inl h4
  · exact .inr ⟨f, off, k, ty, vals, cur, minv, frz, ro, e, p.at q, r⟩

theorem flatten_len {sz : Nat} : ∀ {xs : List (List Value)}, (∀ x ∈ xs, x.length = sz) → xs.flatten.length = xs.length * sz
  | [], _ => by simp
  | x :: xs, h => by
    rw [List.flatten_cons, List.length_append, flatten_len (fun y hy => h y (List.mem_cons_of_mem _ hy)), h x (List.mem_cons_self ..), List.length_cons, Nat.succ_mul, Nat.add_comm]

theorem flatten_cut {sz : Nat} : ∀ {xs : List (List Value)} {j : Nat} {x : List Value} {d k : Nat}, (∀ x ∈ xs, x.length = sz) → xs[j]? = some x → d + k ≤ sz → cut xs.flatten (j * sz + d) k = cut x d k
  | [], j, x, d, k, _, hj, _ => by simp at hj
  | y :: xs, 0, x, d, k, h, hj, hd => by
    simp at hj; subst hj
    have hy := h y (List.mem_cons_self ..)
    simp only [cut, List.flatten_cons, Nat.zero_mul, Nat.zero_add]
    rw [List.drop_append_of_le_length (by omega), List.take_append_of_le_length (by simp; omega)]
  | y :: xs, j + 1, x, d, k, h, hj, hd => by
    have hy := h y (List.mem_cons_self ..)
    have := flatten_cut (fun z hz => h z (List.mem_cons_of_mem _ hz)) (show xs[j]? = some x by simpa using hj) hd
    rw [← this]
    simp only [cut, List.flatten_cons]
    rw [List.drop_append, hy, show (j + 1) * sz + d - sz = j * sz + d by rw [Nat.succ_mul]; omega, List.drop_of_length_le (by rw [hy, Nat.succ_mul]; omega)]
    simp

theorem cut_cut {vs : List Value} {o n d k : Nat} (h : d + k ≤ n) : cut (cut vs o n) d k = cut vs (o + d) k := by
  simp only [cut, List.drop_take, List.drop_drop, List.take_take]
  congr 1
  omega

theorem Sl.ix {H : Heap} {sz n c : Nat} {a : Option Addr} {xs : List (List Value)} (h : Sl H sz a n c xs) {i : Int} {j : Nat} (hi : i = j) {x : List Value} (hj : xs[j]? = some x) :
    ∃ f o k, ixA H sz (.slice a n c) i = some (f, o, k) ∧ ∀ d m kk, kk ≤ m → d + kk ≤ sz → rdHp H f (o + d) k m kk = some (cut x d kk) := by
  obtain ⟨h1, h2, h3, h4⟩ := h
  have hjn : j < n := by rw [h1]; exact (List.getElem?_eq_some_iff.1 hj).1
  rcases h4 with ⟨_, h4, _⟩ | ⟨f, off, k, ty, vals, cur, minv, frz, ro, rfl, q, r1, r2, r3, r4⟩
  · omega
  · refine ⟨f, off + j * sz, k, ?_, ?_⟩
    · have : idx i n = some j := by simp [idx, hi, hjn]
      simp [ixA, this, q, r1, r2]
    · intro d m kk hm hd
      simp only [rdHp, q, hm, r1, r2, and_self, if_true, Option.some.injEq]
      have hle : j * sz + sz ≤ n * sz := by
        have := Nat.mul_le_mul_right sz (show j + 1 ≤ n by omega)
        rw [Nat.succ_mul] at this; exact this
      rw [← flatten_cut h3 hj hd, ← r3, cut_cut (by omega)]
      congr 1; omega

section
variable {R : Type}

/-- an element is read -/
theorem Sl.get {H : Heap} {sz n c : Nat} {a : Option Addr} {xs : List (List Value)} (h : Sl H sz a n c xs) {i : Int} {j : Nat} (hi : i = j) {x : List Value} (hj : xs[j]? = some x) {d m k : Nat} (hm : k ≤ m) (hd : d + k ≤ sz) (g : List Value → Option R) :
    ((ixA H sz (.slice a n c) i).bind fun q => (rdHp H q.1 (q.2.1 + d) q.2.2 m k).bind g) = g (cut x d k) := by
  obtain ⟨f, o, kk, e, r⟩ := h.ix hi hj
  rw [e]
  simp only [Option.bind_some]
  rw [r d m k hm hd]
  rfl

theorem Sl.get0 {H : Heap} {sz n c : Nat} {a : Option Addr} {xs : List (List Value)} (h : Sl H sz a n c xs) {i : Int} {j : Nat} (hi : i = j) {x : List Value} (hj : xs[j]? = some x) {m k : Nat} (hm : k ≤ m) (hd : k ≤ sz) (g : List Value → Option R) :
    ((ixA H sz (.slice a n c) i).bind fun q => (rdHp H q.1 q.2.1 q.2.2 m k).bind g) = g (x.take k) := by
  have := h.get hi hj (d := 0) hm (by omega) g
  simpa [cut] using this
end

theorem cut_take {vs : List Value} {o n k : Nat} (h : k ≤ n) : cut vs o k = (cut vs o n).take k := by
  simp only [cut, List.take_take]; congr 1; omega

theorem flatten_take {sz : Nat} : ∀ {xs : List (List Value)} {j : Nat}, (∀ x ∈ xs, x.length = sz) → (xs.take j).flatten = xs.flatten.take (j * sz)
  | [], j, _ => by simp
  | y :: xs, 0, _ => by simp
  | y :: xs, j + 1, h => by
    have hy := h y (List.mem_cons_self ..)
    rw [List.take_succ_cons, List.flatten_cons, List.flatten_cons, flatten_take (fun z hz => h z (List.mem_cons_of_mem _ hz)), List.take_append, hy, List.take_of_length_le (l := y) (by rw [hy, Nat.succ_mul]; omega)]
    congr 2
    rw [Nat.succ_mul]; omega

theorem flatten_drop {sz : Nat} : ∀ {xs : List (List Value)} {j : Nat}, (∀ x ∈ xs, x.length = sz) → (xs.drop j).flatten = xs.flatten.drop (j * sz)
  | [], j, _ => by simp
  | y :: xs, 0, _ => by simp
  | y :: xs, j + 1, h => by
    have hy := h y (List.mem_cons_self ..)
    rw [List.drop_succ_cons, List.flatten_cons, flatten_drop (fun z hz => h z (List.mem_cons_of_mem _ hz)), List.drop_append, hy, List.drop_of_length_le (l := y) (by rw [hy, Nat.succ_mul]; omega)]
    rw [List.nil_append]; congr 1
    rw [Nat.succ_mul]; omega

/-- xs[:i] -/
theorem Sl.upto {H : Heap} {sz n c : Nat} {a : Option Addr} {xs : List (List Value)} (h : Sl H sz a n c xs) {i : Int} {j : Nat} (hi : i = j) (hj : j ≤ n) :
    slA H sz (.slice a n c) none (some i) = some (.slice a j c) ∧ Sl H sz a j c (xs.take j) := by
  obtain ⟨h1, h2, h3, h4⟩ := h
  subst hi
  have hx : ∀ x ∈ xs.take j, x.length = sz := fun x hx => h3 x (List.mem_of_mem_take hx)
  rcases h4 with ⟨rfl, rfl, rfl⟩ | ⟨f, off, k, ty, vals, cur, minv, frz, ro, rfl, q, r1, r2, r3, r4⟩
  · obtain rfl : j = 0 := by omega
    refine ⟨by simp [slA, bndI, hiI, loI], by simp, by omega, hx, .inl ⟨rfl, rfl, rfl⟩⟩
  · have hm : j * sz ≤ n * sz := Nat.mul_le_mul_right _ hj
    refine ⟨?_, by simp; omega, by omega, hx, .inr ⟨f, off, k, ty, vals, cur, minv, frz, ro, rfl, q, r1, r2, ?_, by omega⟩⟩
    · have : ((j : Int) ≤ (c : Int)) := by omega
      simp [slA, bndI, hiI, loI, q, r1, r2, this]
    · rw [flatten_take h3, ← r3, cut_take hm]

/-- xs[i:] -/
theorem Sl.from {H : Heap} {sz n c : Nat} {a : Option Addr} {xs : List (List Value)} (h : Sl H sz a n c xs) {i : Int} {j : Nat} (hi : i = j) (hj : j ≤ n) :
    ∃ b, slA H sz (.slice a n c) (some i) none = some (.slice b (n - j) (c - j)) ∧ Sl H sz b (n - j) (c - j) (xs.drop j) := by
  obtain ⟨h1, h2, h3, h4⟩ := h
  subst hi
  have hx : ∀ x ∈ xs.drop j, x.length = sz := fun x hx => h3 x (List.mem_of_mem_drop hx)
  rcases h4 with ⟨rfl, rfl, rfl⟩ | ⟨f, off, k, ty, vals, cur, minv, frz, ro, rfl, q, r1, r2, r3, r4⟩
  · obtain rfl : j = 0 := by omega
    exact ⟨none, by simp [slA, bndI, hiI, loI], by simp; omega, by omega, hx, .inl ⟨rfl, rfl, rfl⟩⟩
  · have hm : j * sz ≤ n * sz := Nat.mul_le_mul_right _ hj
    have hd : (n - j) * sz = n * sz - j * sz := Nat.sub_mul _ _ _
    refine ⟨some ⟨f, off + j * sz, some k⟩, ?_, by simp; omega, by omega, hx, .inr ⟨f, _, k, ty, vals, cur, minv, frz, ro, rfl, q, r1, r2, ?_, by omega⟩⟩
    · simp [slA, bndI, hiI, loI, q, r1, r2, hj]
    · rw [flatten_drop h3, ← r3, hd]
      simp only [cut, List.drop_take, List.drop_drop]

def rowOf : Option Addr → Option Nat
  | some ⟨f, _, _⟩ => some f
  | none => none

def offOf : Option Addr → Nat
  | some ⟨_, o, _⟩ => o
  | none => 0

/-- a slice whose row is one's own: it may be written and appended to -/
def Own (B : Nat) (H : Heap) (ty sz : Nat) (a : Option Addr) (n c : Nat) (xs : List (List Value)) : Prop :=
  n = xs.length ∧ n ≤ c ∧ (∀ x ∈ xs, x.length = sz) ∧
    ((a = none ∧ n = 0 ∧ c = 0) ∨ ∃ f off k vals minv frz, a = some ⟨f, off, some k⟩ ∧ B ≤ f ∧ H[f]? = some (.cells ty sz vals k minv frz false) ∧ minv ≤ k ∧ frz ≤ off ∧ cut vals off (n * sz) = xs.flatten ∧ off + n * sz ≤ vals.length)

theorem Own.sl {B : Nat} {H : Heap} {ty sz n c : Nat} {a : Option Addr} {xs : List (List Value)} (h : Own B H ty sz a n c xs) : Sl H sz a n c xs := by
  obtain ⟨h1, h2, h3, h4⟩ := h
  refine ⟨h1, h2, h3, ?_⟩
  rcases h4 with h4 | ⟨f, off, k, vals, minv, frz, e, _, q, r1, _, r3, r4⟩
  · exact .inl h4
  · exact .inr ⟨f, off, k, ty, vals, k, minv, frz, false, e, q, r1, Nat.le_refl _, r3, r4⟩

theorem Own.nil (B : Nat) (H : Heap) (ty sz : Nat) : Own B H ty sz none 0 0 [] := ⟨rfl, Nat.le_refl _, by simp, .inl ⟨rfl, rfl, rfl⟩⟩

/-- what keeps all rows but those of a -/
structure Chd (a a' : Option Addr) (H H' : Heap) : Prop where
  len : H.length ≤ H'.length
  old : ∀ g, g < H.length → rowOf a ≠ some g → H'[g]? = H[g]?
  row : rowOf a' = rowOf a ∨ ∃ g, rowOf a' = some g ∧ H.length ≤ g ∧ g < H'.length
  off : offOf a = 0 → offOf a' = 0

end Go.AM
