/- A strings.Builder of one's own: what it holds, how its rows turn. No condition. -/
import Derived.Test.YtknogapmjleliaaDoorAmSc
import Derived.Test.YtknogapmjleliaaDoorAmEx
namespace Go.AM
open Go

def u8c (b : UInt8) : List Value := [.int .u8 b.toNat]

/-- a builder in row f that holds the bytes l; its buffer: a -/
def Bld (B : Nat) (H : Heap) (tb tu f : Nat) (a : Option Addr) (l : List UInt8) : Prop :=
  B ≤ f ∧ rowOf a ≠ some f ∧ offOf a = 0 ∧ ∃ p n c, H[f]? = some (.cells tb 1 [p, .slice a n c] 0 0 0 false) ∧ (p = .pointer none ∨ p = .pointer (some ⟨f, 0, some 0⟩)) ∧ Own B H tu 1 a n c (l.map u8c)

/-- all rows but the builder's two are as they were -/
structure ChB (f : Nat) (a a' : Option Addr) (H H' : Heap) : Prop where
  len : H.length ≤ H'.length
  old : ∀ g, g < H.length → g ≠ f → rowOf a ≠ some g → H'[g]? = H[g]?
  row : rowOf a' = rowOf a ∨ ∃ g, rowOf a' = some g ∧ H.length ≤ g ∧ g < H'.length

variable {B : Nat} {H H' : Heap} {tb tu f : Nat} {a a' : Option Addr} {l : List UInt8}

theorem ChB.refl (f : Nat) (a : Option Addr) (H : Heap) : ChB f a a H H := ⟨Nat.le_refl _, fun _ _ _ _ => rfl, .inl rfl⟩

theorem ChB.trans {b c : Option Addr} {H1 H2 H3 : Heap} (h : ChB f a b H1 H2) (k : ChB f b c H2 H3) : ChB f a c H1 H3 where
  len := Nat.le_trans h.len k.len
  old g hg hf hr := by
    rw [k.old g (Nat.lt_of_lt_of_le hg h.len) hf ?_, h.old g hg hf hr]
    intro e
    rcases h.row with r | ⟨g', r, r1, r2⟩
    · rw [r] at e; exact hr e
    · rw [r] at e; simp at e; omega
  row := by
    rcases k.row with r | ⟨g, r, r1, r2⟩
    · rcases h.row with q | ⟨g, q, q1, q2⟩
      · exact .inl (r.trans q)
      · exact .inr ⟨g, r.trans q, q1, Nat.lt_of_lt_of_le q2 k.len⟩
    · exact .inr ⟨g, r, Nat.le_trans h.len r1, r2⟩

theorem Bld.lt (h : Bld B H tb tu f a l) : f < H.length := by
  obtain ⟨_, _, _, p, n, c, q, _⟩ := h
  exact (List.getElem?_eq_some_iff.1 q).1

theorem Bld.base (h : Bld B H tb tu f a l) : ∀ g, rowOf a = some g → B ≤ g ∧ g < H.length := by
  obtain ⟨_, _, _, p, n, c, q, _, o⟩ := h
  exact o.base

theorem Bld.pre {H0 : Heap} (h : Bld B H tb tu f a l) (hB : H0.length ≤ B) (p : Pre H0 H) (k : ChB f a a' H H') : Pre H0 H' := fun g hg => by
  rw [k.old g (Nat.lt_of_lt_of_le hg p.len) (by have := h.1; omega) (fun e => by have := (h.base g e).1; omega), p g hg]

theorem Sl.keepB {b : Option Addr} {sz m d : Nat} {ys : List (List Value)} (h : Sl H sz b m d ys) (k : ChB f a a' H H') (h1 : rowOf b ≠ some f) (h2 : ∀ g, rowOf b = some g → rowOf a ≠ some g) : Sl H' sz b m d ys := by
  obtain ⟨e1, e2, e3, e4⟩ := h
  refine ⟨e1, e2, e3, ?_⟩
  rcases e4 with e4 | ⟨g, off, kk, ty, vals, cur, minv, frz, ro, rfl, q, r⟩
  · exact .inl e4
  · exact .inr ⟨g, off, kk, ty, vals, cur, minv, frz, ro, rfl, by rw [k.old g (List.getElem?_eq_some_iff.1 q).1 (fun e => h1 (by rw [← e]; rfl)) (h2 g rfl)]; exact q, r⟩

theorem Own.keepB {b : Option Addr} {ty sz m d : Nat} {ys : List (List Value)} (h : Own B H ty sz b m d ys) (k : ChB f a a' H H') (h1 : rowOf b ≠ some f) (h2 : ∀ g, rowOf b = some g → rowOf a ≠ some g) : Own B H' ty sz b m d ys := by
  obtain ⟨e1, e2, e3, e4⟩ := h
  refine ⟨e1, e2, e3, ?_⟩
  rcases e4 with e4 | ⟨g, off, kk, vals, minv, frz, rfl, hB, q, r⟩
  · exact .inl e4
  · exact .inr ⟨g, off, kk, vals, minv, frz, rfl, hB, by rw [k.old g (List.getElem?_eq_some_iff.1 q).1 (fun e => h1 (by rw [← e]; rfl)) (h2 g rfl)]; exact q, r⟩

/-- a builder keeps where another row is turned -/
theorem Bld.keep {b b' : Option Addr} (h : Bld B H tb tu f a l) (k : Chd b b' H H') (h1 : rowOf b ≠ some f) (h2 : ∀ g, rowOf a = some g → rowOf b ≠ some g) : Bld B H' tb tu f a l := by
  obtain ⟨hB, hr, ho, p, n, c, q, hp, o⟩ := h
  exact ⟨hB, hr, ho, p, n, c, by rw [k.old f (List.getElem?_eq_some_iff.1 q).1 h1]; exact q, hp, o.keep k h2⟩

theorem Bld.mono (h : Bld B H tb tu f a l) (k : Pre H H') : Bld B H' tb tu f a l := by
  obtain ⟨hB, hr, ho, p, n, c, q, hp, o⟩ := h
  exact ⟨hB, hr, ho, p, n, c, k.at q, hp, o.mono k⟩

theorem Bld.new (hB : B ≤ H.length) : Bld B (H ++ [.cells tb 1 [.pointer none, .slice none 0 0] 0 0 0 false]) tb tu H.length none [] :=
  ⟨hB, by simp [rowOf], rfl, .pointer none, 0, 0, List.getElem?_concat_length, .inl rfl, Own.nil _ _ _ _⟩

/-- the buffer is another one now -/
theorem Bld.step {H1 H2 : Heap} {p : Value} {n c n' c' : Nat} {l' : List UInt8} (hB : B ≤ f) (hf : f < H.length) (hp : p = .pointer none ∨ p = .pointer (some ⟨f, 0, some 0⟩)) (h1 : H1[f]? = some (.cells tb 1 [p, .slice a n c] 0 0 0 false))
    (hl : H.length ≤ H1.length) (ho : ∀ g, g < H.length → g ≠ f → H1[g]? = H[g]?) (har : rowOf a ≠ some f) (ha : ∀ g, rowOf a = some g → g < H.length)
    (k : Chd a a' H1 H2) (o : Own B H2 tu 1 a' n' c' (l'.map u8c)) (h0 : offOf a = 0) :
    wrV H2 (.pointer (some ⟨f, 0 + 1, some 0⟩)) [.slice a' n' c'] = some (H2.set f (.cells tb 1 [p, .slice a' n' c'] 0 0 0 false)) ∧ Bld B (H2.set f (.cells tb 1 [p, .slice a' n' c'] 0 0 0 false)) tb tu f a' l' ∧
      ChB f a a' H (H2.set f (.cells tb 1 [p, .slice a' n' c'] 0 0 0 false)) := by
  have hf1 : f < H1.length := by omega
  have hf2 : f < H2.length := by have := k.len; omega
  have q2 : H2[f]? = some (.cells tb 1 [p, .slice a n c] 0 0 0 false) := by rw [k.old f hf1 har, h1]
  have hne : rowOf a' ≠ some f := by
    rcases k.row with r | ⟨g, r, r1, _⟩
    · rw [r]; exact har
    · rw [r]; intro e; simp at e; omega
  refine ⟨?_, ⟨hB, hne, k.off h0, p, n', c', by rw [List.getElem?_set_self hf2], hp, ?_⟩, ?_, ?_, ?_⟩
  · simp [wrV, q2, splice]
  · obtain ⟨e1, e2, e3, e4⟩ := o
    refine ⟨e1, e2, e3, ?_⟩
    rcases e4 with e4 | ⟨g, off, kk, vals, minv, frz, rfl, hB', q, r⟩
    · exact .inl e4
    · refine .inr ⟨g, off, kk, vals, minv, frz, rfl, hB', ?_, r⟩
      rw [List.getElem?_set_ne]; exact q
      intro e; exact hne (by rw [e]; rfl)
  · have := k.len; simp; omega
  · intro g hg hgf hr
    rw [List.getElem?_set_ne (fun e => hgf e.symm), k.old g (by omega) hr, ho g hg hgf]
  · rcases k.row with r | ⟨g, r, r1, r2⟩
    · exact .inl r
    · exact .inr ⟨g, r, by omega, by simpa using r2⟩

/-- copyCheck -/
theorem Bld.check (h : Bld B H tb tu f a l) : ∃ H1 n c, gCopy tb [.pointer (some ⟨f, 0, some 0⟩)] H = some (.tuple #[], H1) ∧ H1[f]? = some (.cells tb 1 [.pointer (some ⟨f, 0, some 0⟩), .slice a n c] 0 0 0 false) ∧ H1.length = H.length ∧
    (∀ g, g ≠ f → H1[g]? = H[g]?) ∧ Own B H1 tu 1 a n c (l.map u8c) := by
  obtain ⟨hB, hr, ho, p, n, c, q, hp, o⟩ := h
  have hf := (List.getElem?_eq_some_iff.1 q).1
  rcases hp with rfl | rfl
  · refine ⟨H.set f (.cells tb 1 [.pointer (some ⟨f, 0, some 0⟩), .slice a n c] 0 0 0 false), n, c, ?_, by rw [List.getElem?_set_self hf], by simp, fun g hg => List.getElem?_set_ne (fun e => hg e.symm), ?_⟩
    · simp [gCopy, q]
    · obtain ⟨e1, e2, e3, e4⟩ := o
      refine ⟨e1, e2, e3, ?_⟩
      rcases e4 with e4 | ⟨g, off, kk, vals, minv, frz, rfl, hB', q, r⟩
      · exact .inl e4
      · refine .inr ⟨g, off, kk, vals, minv, frz, rfl, hB', ?_, r⟩
        rw [List.getElem?_set_ne]; exact q
        intro e; exact hr (by rw [e]; rfl)
  · exact ⟨H, n, c, by simp [gCopy, q], q, rfl, fun _ _ => rfl, o⟩

theorem bytesIs_map : ∀ l : List UInt8, bytesIs (l.map fun b => Value.int .u8 b.toNat) = some l
  | [] => rfl
  | b :: l => by
    have hb : b.toNat < 256 := b.toNat_lt
    simp only [List.map_cons, bytesIs]
    rw [if_pos ⟨by omega, by omega⟩, bytesIs_map l]
    simp

theorem u8_flat (l : List UInt8) : (l.map u8c).flatten = l.map fun b => Value.int .u8 b.toNat := by
  induction l with
  | nil => rfl
  | cons b l ih => simp only [List.map_cons, List.flatten_cons, ih]; rfl

/-- String -/
theorem Bld.str (h : Bld B H tb tu f a l) (hl : l ≠ []) (hb : l.length ≤ 1099511627776) : ∃ H', gStr tb tu [.pointer (some ⟨f, 0, some 0⟩)] H = some (.string (bs l), H') ∧ H.length ≤ H'.length ∧ ∀ g, rowOf a ≠ some g → H'[g]? = H[g]? := by
  obtain ⟨hB, hr, ho, p, n, c, q, hp, o⟩ := h
  obtain ⟨e1, e2, e3, e4⟩ := o
  simp only [List.length_map] at e1
  have hn : n ≠ 0 := by
    have := List.length_pos_iff.2 hl; omega
  rcases e4 with ⟨_, e4, _⟩ | ⟨g, off, k, vals, minv, frz, rfl, hB', q2, r0, r1, r3, r4⟩
  · exact (hn e4).elim
  · simp only [offOf] at ho; subst ho
    have hgf : g ≠ f := by intro e; exact hr (by rw [e]; rfl)
    refine ⟨H.set g .dead, ?_, by simp, fun g' hg' => List.getElem?_set_ne (fun e => hg' (by rw [← e]; rfl))⟩
    have hv : vals.take n = l.map fun b => Value.int .u8 b.toNat := by
      rw [u8_flat, Nat.mul_one] at r3
      simpa [cut] using r3
    have hnv : n ≤ vals.length := by omega
    simp only [gStr, q, if_true, q2]
    rw [if_pos ⟨trivial, r0, Nat.le_refl _, hn, hnv, by omega, hgf⟩, hv, bytesIs_map]
    rfl

end Go.AM
