/- How the relation of frame, rows and world is kept by each kind of change. No condition. -/
import Derived.Test.YtknogapmjleliaaDoorAmB
namespace Go.AM
open Go

def AVR (L : Locs) (lam : Nat → Nat) (x : Value) : AV → Prop
  | .v y => VR L y x
  | .lp s off => x = .pointer (some ⟨lam s, off, none⟩)
  | .hp f off c n => ∃ l, L f c = some l ∧ l.lo + l.gap ≤ off ∧ off + n ≤ l.ext ∧ x = .pointer (some ⟨l.B, off - l.lo, none⟩)

theorem AVR.sr {L : Locs} {lam : Nat → Nat} {x : Value} {av : AV} (h : AVR L lam x av) (w : World) (s : Nat) : SR L lam w s x av.sc := by
  cases av <;> exact h

structure Inv (L0 : Locs) (w0 : World) (L : Locs) (lam : Nat → Nat) (fr : Fr) (H : Heap) (a : Act) (w : World) : Prop where
  rel : Rel L lam fr H a w
  keep : Keep L0 w0 L w
  low : ∀ s cs, fr[s]? = some (.loc cs) → w0.heap.size ≤ lam s

theorem getD_set (t : Array Value) (d s : Nat) (v : Value) : (t.setIfInBounds d v).getD s undef = if d = s ∧ d < t.size then v else t.getD s undef := by
  simp only [Array.getD_eq_getD_getElem?, Array.getElem?_setIfInBounds]
  by_cases h : d = s
  · subst h
    by_cases h2 : d < t.size
    · simp [h2]
    · simp [h2]
  · simp [h]

def SC.isLoc : SC → Prop
  | .loc _ => True
  | _ => False

theorem unlp_loc {d : Nat} {c : SC} {cs : List Value} : SC.unlp d c = .loc cs ↔ c = .loc cs := by
  cases c <;> simp [SC.unlp]
  split <;> simp

theorem SR.unlp {L : Locs} {lam : Nat → Nat} {w : World} {s d : Nat} {x : Value} {c : SC} (h : SR L lam w s x c) : SR L lam w s x (c.unlp d) := by
  cases c <;> try exact h
  rename_i s' o
  simp only [SC.unlp]
  split
  · trivial
  · exact h

/-- a slot of a frame behind a put -/
theorem set_get (fr : Fr) (d : Nat) (x : SC) (s : Nat) (c : SC) (h : (fr.set d x)[s]? = some c) : (d = s ∧ d < fr.length ∧ c = x) ∨ (¬ (d = s ∧ d < fr.length) ∧ fr[s]? = some c) := by
  rw [List.getElem?_set] at h
  by_cases hd : d = s
  · subst hd
    by_cases hl : d < fr.length
    · simp [hl] at h; exact .inl ⟨rfl, hl, h.symm⟩
    · simp [hl] at h
  · simp [hd] at h; exact .inr ⟨fun q => hd q.1, h⟩

theorem putS_val {fr : Fr} {d : Nat} {x : SC} (h : ¬ x.isLoc) : putS fr d x = fr.set d x := by
  cases x <;> first | rfl | exact (h trivial).elim

theorem putS_length (fr : Fr) (d : Nat) (x : SC) : (putS fr d x).length = fr.length := by
  unfold putS; split <;> simp

theorem Inv.put {L0 L : Locs} {w0 w : World} {lam : Nat → Nat} {fr : Fr} {H : Heap} {a : Act} (h : Inv L0 w0 L lam fr H a w) (dst : Option Nat) (c : SC) (x : Value)
    (hc : ∀ d, dst = some d → SR L lam w d x c) (hl : ¬ c.isLoc) : Inv L0 w0 L lam (putO fr dst c) H (a.put dst x) w := by
  cases dst with
  | none => exact h
  | some d =>
    simp only [putO, putS_val hl]
    have hloc : ∀ (s : Nat) (cs : List Value), (fr.set d c)[s]? = some (SC.loc cs) → fr[s]? = some (SC.loc cs) := by
      intro s cs q
      rcases set_get fr d c s _ q with ⟨_, _, e⟩ | ⟨_, h0⟩
      · subst e; exact (hl trivial).elim
      · exact h0
    refine ⟨⟨?_, h.rel.dfr, ?_, h.rel.heap, ?_, ?_⟩, h.keep, ?_⟩
    · simp [Act.put, h.rel.len]
    · intro s c' q
      simp only [Act.put]
      rw [getD_set]
      rcases set_get fr d c s _ q with ⟨e1, e2, rfl⟩ | ⟨e1, h0⟩
      · subst e1; rw [if_pos ⟨rfl, by rw [h.rel.len]; exact e2⟩]; exact hc _ rfl
      · rw [if_neg (by rw [h.rel.len]; exact e1)]
        exact h.rel.slot _ _ h0
    · exact fun s cs q => h.rel.own s cs (hloc s cs q)
    · exact fun s cs s' cs' q q' => h.rel.inj s cs s' cs' (hloc s cs q) (hloc s' cs' q')
    · exact fun s cs q => h.low s cs (hloc s cs q)

theorem Inv.putV {L0 L : Locs} {w0 w : World} {lam : Nat → Nat} {fr : Fr} {H : Heap} {a : Act} (h : Inv L0 w0 L lam fr H a w) (dst : Option Nat) {av : AV} {x : Value}
    (hc : AVR L lam x av) : Inv L0 w0 L lam (putO fr dst av.sc) H (a.put dst x) w :=
  h.put dst _ x (fun d _ => hc.sr w d) (by cases av <;> exact fun q => q.elim)

/-- a world with other blocks and counts than the heap's old ones: what was there stands -/
structure Same (w w' : World) : Prop where
  size : w.heap.size ≤ w'.heap.size
  os : w'.os = w.os
  out : w'.output = w.output
  old : ∀ B, B < w.heap.size → w'.heap[B]? = w.heap[B]?

theorem Same.refl (w : World) : Same w w := ⟨Nat.le_refl _, rfl, rfl, fun _ _ => rfl⟩
theorem Same.drew (w : World) : Same w w.drew := ⟨Nat.le_refl _, rfl, rfl, fun _ _ => rfl⟩
theorem Same.drewd (w : World) (n : Nat) : Same w { w with drawn := n } := ⟨Nat.le_refl _, rfl, rfl, fun _ _ => rfl⟩
theorem alloc_old (w : World) (o : Obj) {B : Nat} (hB : B < w.heap.size) : (w.alloc o).heap[B]? = w.heap[B]? := by
  show (w.heap.push o)[B]? = _; rw [Array.getElem?_push, if_neg (Nat.ne_of_lt hB)]
theorem alloc_new (w : World) (o : Obj) : (w.alloc o).heap[w.heap.size]? = some o := by
  show (w.heap.push o)[w.heap.size]? = _; simp
theorem Same.alloc (w : World) (o : Obj) : Same w (w.alloc o) := ⟨by simp, rfl, rfl, fun _ hB => alloc_old w o hB⟩
theorem Same.trans {a b c : World} (h : Same a b) (k : Same b c) : Same a c :=
  ⟨Nat.le_trans h.size k.size, k.os.trans h.os, k.out.trans h.out, fun B hB => (k.old B (Nat.lt_of_lt_of_le hB h.size)).trans (h.old B hB)⟩

theorem ObjR.world {L : Locs} {H : Heap} {w w' : World} (hd : ∀ f c l, L f c = some l → f < H.length ∧ l.B < w.heap.size) (hs : ∀ B, B < w.heap.size → w'.heap[B]? = w.heap[B]?) {f : Nat} {o : AObj} (h : ObjR L w f o) : ObjR L w' f o := by
  cases o with
  | dead => trivial
  | amap es =>
    obtain ⟨l, es', clk, q, h0, hb, r⟩ := h
    exact ⟨l, es', clk, q, h0, by rw [hs _ (hd _ _ _ q).2]; exact hb, r⟩
  | cells sz vals cur minv frz ro =>
    refine ⟨h.1, h.2.1, h.2.2.1, fun c h1 h2 => ?_⟩
    obtain ⟨l, q, e1, e2, e3, e4, e5, e6, e7, cs, T, x, y, hb, r⟩ := h.2.2.2 c h1 h2
    exact ⟨l, q, e1, e2, e3, e4, e5, e6, e7, cs, T, x, y, by rw [hs _ (hd _ _ _ q).2]; exact hb, r⟩

theorem HR.same {L : Locs} {H : Heap} {w w' : World} (h : HR L H w) (s : Same w w') : HR L H w' :=
  ⟨fun f o q => (h.obj f o q).world h.dom s.old, fun f c l q => ⟨(h.dom f c l q).1, Nat.lt_of_lt_of_le (h.dom f c l q).2 s.size⟩, h.dis, h.cub, h.los⟩

theorem Keep.same {L0 L : Locs} {w0 w w' : World} (h : Keep L0 w0 L w) (s : Same w w') : Keep L0 w0 L w' :=
  ⟨Nat.le_trans h.size s.size, s.os.trans h.os, s.out.trans h.out, fun B hB hn => (s.old B (Nat.lt_of_lt_of_le hB h.size)).trans (h.old B hB hn), h.le, h.new⟩

theorem SR.same {L : Locs} {lam : Nat → Nat} {w w' : World} (s : Same w w') {n : Nat} {x : Value} {c : SC} (h : SR L lam w n x c) : SR L lam w' n x c := by
  cases c <;> try exact h
  obtain ⟨e, xs, T, hb, r⟩ := h
  exact ⟨e, xs, T, by rw [s.old _ (by rw [Array.getElem?_eq_some_iff] at hb; exact hb.1)]; exact hb, r⟩

theorem Inv.same {L0 L : Locs} {w0 w w' : World} {lam : Nat → Nat} {fr : Fr} {H : Heap} {a : Act} (h : Inv L0 w0 L lam fr H a w) (s : Same w w') : Inv L0 w0 L lam fr H a w' :=
  ⟨⟨h.rel.len, h.rel.dfr, fun n c q => (h.rel.slot n c q).same s, h.rel.heap.same s, h.rel.own, h.rel.inj⟩, h.keep.same s, h.low⟩

/-- a frame's own variable, newly made -/
theorem Inv.putLoc {L0 L : Locs} {w0 w : World} {lam : Nat → Nat} {fr : Fr} {H : Heap} {a : Act} (h : Inv L0 w0 L lam fr H a w) (d : Nat) (cs : List Value) (xs : Array Value) (T : TypeId)
    (hc : CR L cs xs.toList) :
    Inv L0 w0 L (fun s => if s = d then w.heap.size else lam s) (putS fr d (.loc cs)) H (a.put (some d) (.pointer (some ⟨w.heap.size, 0, none⟩))) (w.alloc (.cells xs T)) := by
  have h' := h.same (Same.alloc w (.cells xs T))
  have hlt : ∀ s cs', fr[s]? = some (.loc cs') → lam s < w.heap.size := by
    intro s cs' q
    obtain ⟨_, ys, T', hb, _⟩ := h.rel.slot s _ q
    rw [Array.getElem?_eq_some_iff] at hb; exact hb.1
  have get : ∀ (s : Nat) (c : SC), (putS fr d (.loc cs))[s]? = some c → (d = s ∧ d < fr.length ∧ c = .loc cs) ∨ (d ≠ s ∧ ∃ c0, fr[s]? = some c0 ∧ c = c0.unlp d) := by
    intro s c q
    rcases set_get _ d _ s c q with ⟨e1, e2, e3⟩ | ⟨e1, h0⟩
    · exact .inl ⟨e1, by simpa using e2, e3⟩
    · simp only [List.getElem?_map, Option.map_eq_some_iff] at h0
      obtain ⟨c0, h0, rfl⟩ := h0
      refine .inr ⟨fun e => ?_, c0, h0, rfl⟩
      subst e
      exact e1 ⟨rfl, by simpa using (List.getElem?_eq_some_iff.1 h0).1⟩
  have key : ∀ (s : Nat) (cs' : List Value), (putS fr d (.loc cs))[s]? = some (SC.loc cs') → (d = s ∧ d < fr.length ∧ cs' = cs) ∨ (d ≠ s ∧ fr[s]? = some (SC.loc cs')) := by
    intro s cs' q
    rcases get s _ q with ⟨e1, e2, e3⟩ | ⟨e1, c0, h0, e⟩
    · exact .inl ⟨e1, e2, by simpa using e3⟩
    · exact .inr ⟨e1, by rw [h0, unlp_loc.1 e.symm]⟩
  refine ⟨⟨?_, h.rel.dfr, ?_, h'.rel.heap, ?_, ?_⟩, h'.keep, ?_⟩
  · simp [Act.put, putS_length, h.rel.len]
  · intro s c' q
    simp only [Act.put]
    rw [getD_set]
    rcases get s _ q with ⟨e1, e2, rfl⟩ | ⟨e1, c0, h0, rfl⟩
    · subst e1
      rw [if_pos ⟨rfl, by rw [h.rel.len]; exact e2⟩]
      exact ⟨by simp, xs, T, by simp only [if_true]; exact alloc_new w _, hc⟩
    · rw [if_neg (fun q => e1 q.1)]
      have hs0 := h'.rel.slot _ _ h0
      cases c0 with
      | lp s' o =>
        simp only [SC.unlp]
        split
        · trivial
        · rename_i e4
          have hs1 : a.tmps.getD s Go.undef = .pointer (some ⟨lam s', o, none⟩) := hs0
          show a.tmps.getD s Go.undef = .pointer (some ⟨if s' = d then w.heap.size else lam s', o, none⟩)
          rw [if_neg e4]; exact hs1
      | loc zs =>
        obtain ⟨g1, ys, T', g2, g3⟩ := hs0
        have e9 : (if s = d then w.heap.size else lam s) = lam s := if_neg (Ne.symm e1)
        exact ⟨by show _ = Value.pointer (some ⟨if s = d then w.heap.size else lam s, 0, none⟩); rw [e9]; exact g1, ys, T', by show (w.alloc _).heap[if s = d then w.heap.size else lam s]? = _; rw [e9]; exact g2, g3⟩
      | no => trivial
      | v y => exact hs0
      | hp f o c n => exact hs0
  · intro s cs' q f c l hl
    rcases key s cs' q with ⟨e1, _, _⟩ | ⟨e1, h1⟩
    · subst e1; simp; exact Nat.ne_of_lt (h.rel.heap.dom f c l hl).2
    · simp [Ne.symm e1]; exact h.rel.own s cs' h1 f c l hl
  · intro s cs1 s' cs2 q q' he
    rcases key s cs1 q with ⟨e1, _, _⟩ | ⟨e1, h1⟩ <;> rcases key s' cs2 q' with ⟨e2, _, _⟩ | ⟨e2, h2⟩
    · rw [← e1, ← e2]
    · subst e1; simp [Ne.symm e2] at he; have := hlt _ _ h2; omega
    · subst e2; simp [Ne.symm e1] at he; have := hlt _ _ h1; omega
    · simp [Ne.symm e1, Ne.symm e2] at he; exact h.rel.inj _ _ _ _ h1 h2 he
  · intro s cs' q
    rcases key s cs' q with ⟨e1, _, _⟩ | ⟨e1, h1⟩
    · subst e1; simp; exact h.keep.size
    · simp [Ne.symm e1]; exact h.low s cs' h1

end Go.AM
