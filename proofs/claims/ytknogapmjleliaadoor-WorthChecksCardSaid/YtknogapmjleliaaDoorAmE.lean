/- A row changed, a frame's own variable changed: the relation is kept. No condition. -/
import Derived.Test.YtknogapmjleliaaDoorAmD
namespace Go.AM
open Go

/-- a world that differs in old blocks at most where the row f lies -/
structure Chg (L : Locs) (f : Nat) (w w' : World) : Prop where
  size : w.heap.size ≤ w'.heap.size
  os : w'.os = w.os
  out : w'.output = w.output
  old : ∀ B, B < w.heap.size → (∀ c l, L f c = some l → l.ro = false → l.B ≠ B) → w'.heap[B]? = w.heap[B]?

theorem ObjR.world2 {L : Locs} {w w' : World} {f : Nat} {o : AObj} (h : ObjR L w f o) (hs : ∀ c l, L f c = some l → w'.heap[l.B]? = w.heap[l.B]?) : ObjR L w' f o := by
  cases o with
  | dead => trivial
  | amap es =>
    obtain ⟨l, es', clk, q, h0, hb, r⟩ := h
    exact ⟨l, es', clk, q, h0, by rw [hs _ _ q]; exact hb, r⟩
  | cells sz vals cur minv frz ro =>
    refine ⟨h.1, h.2.1, h.2.2.1, fun c h1 h2 => ?_⟩
    obtain ⟨l, q, e1, e2, e3, e4, e5, e6, e7, cs, T, x, y, hb, r⟩ := h.2.2.2 c h1 h2
    exact ⟨l, q, e1, e2, e3, e4, e5, e6, e7, cs, T, x, y, by rw [hs _ _ q]; exact hb, r⟩

theorem Inv.loc_lt {L0 L : Locs} {w0 w : World} {lam : Nat → Nat} {fr : Fr} {H : Heap} {a : Act} (h : Inv L0 w0 L lam fr H a w) {s : Nat} {ys : List Value} (q : fr[s]? = some (.loc ys)) : lam s < w.heap.size := by
  rcases h.locs s with h1 | h1
  · exact h1
  · exact (h1 ys q).elim

theorem Inv.keepChg {L0 L : Locs} {w0 w w' : World} {lam : Nat → Nat} {fr : Fr} {H : Heap} {a : Act} (h : Inv L0 w0 L lam fr H a w) {f : Nat} (k : Chg L f w w') : Keep L0 w0 L w' := by
  refine ⟨Nat.le_trans h.keep.size k.size, k.os.trans h.keep.os, k.out.trans h.keep.out, ?_, h.keep.le, h.keep.new⟩
  intro B hB hn
  rw [k.old B (Nat.lt_of_lt_of_le hB h.keep.size) ?_, h.keep.old B hB hn]
  intro c l ql hr he
  rcases h.keep.new f c l ql with q | q | ⟨c', l', q, e1, e2⟩
  · exact hn f c l q hr he
  · omega
  · exact hn f c' l' q (by rw [e2]; exact hr) (by rw [e1]; exact he)

/-- the row f is another one now -/
theorem Inv.setObj {L0 L : Locs} {w0 w w' : World} {lam : Nat → Nat} {fr : Fr} {H : Heap} {a : Act} (h : Inv L0 w0 L lam fr H a w) {f : Nat} (k : Chg L f w w') (o' : AObj) (ho : ObjR L w' f o') (hcu : ∀ ty sz vals cur minv frz ro, o' = .cells ty sz vals cur minv frz ro → ∀ c l, L f c = some l → c ≤ cur) :
    Inv L0 w0 L lam fr (H.set f o') a w' := by
  refine ⟨⟨h.rel.len, h.rel.dfr, ?_, ⟨?_, ?_, h.rel.heap.dis, ?_, h.rel.heap.los⟩, h.rel.own, h.rel.inj⟩, h.keepChg k, h.low⟩
  · intro n c q
    have hs := h.rel.slot n c q
    cases c <;> try exact hs
    obtain ⟨e, xs, T, hb, r⟩ := hs
    exact ⟨e, xs, T, by rw [k.old _ (h.loc_lt q) (fun c l ql _ => h.rel.own _ _ q _ _ _ ql)]; exact hb, r⟩
  · intro g o q
    rw [List.getElem?_set] at q
    by_cases e : f = g
    · subst e
      simp at q
      obtain ⟨_, rfl⟩ := q
      exact ho
    · simp [e] at q
      refine (h.rel.heap.obj g o q).world2 fun c l ql => k.old _ (h.rel.heap.dom _ _ _ ql).2 ?_
      intro c' l' q' hr he
      exact e (h.rel.heap.dis _ _ _ _ _ _ q' ql hr he)
  · intro g c l q
    exact ⟨by simpa using (h.rel.heap.dom g c l q).1, Nat.lt_of_lt_of_le (h.rel.heap.dom g c l q).2 k.size⟩
  · intro g c l ty sz vals cur minv frz ro ql q
    rw [List.getElem?_set] at q
    by_cases e : f = g
    · subst e
      simp at q
      exact hcu _ _ _ _ _ _ _ q.2 c l ql
    · simp [e] at q
      exact h.rel.heap.cub _ _ _ _ _ _ _ _ _ _ ql q

/-- the row f is another one now, with a copy more -/
theorem Inv.setObjPut {L0 L : Locs} {w0 w w' : World} {lam : Nat → Nat} {fr : Fr} {H : Heap} {a : Act} (h : Inv L0 w0 L lam fr H a w) {f : Nat} (k : Chg L f w w') (hf : f < H.length) (c : Nat) (l : Loc) (hn : L f c = none)
    (hr : l.ro = false) (hB : l.B < w'.heap.size) (hl : w.heap.size ≤ l.B ∨ ∃ c0 l0, L f c0 = some l0 ∧ l0.B = l.B ∧ l0.ro = l.ro ∧ l0.lo = l.lo ∧ l0.size = l.size)
    (o' : AObj) (ho : ObjR (L.put f c l) w' f o') (hcu : ∀ ty sz vals cur minv frz ro, o' = .cells ty sz vals cur minv frz ro → c ≤ cur ∧ ∀ c l, L f c = some l → c ≤ cur) :
    Inv L0 w0 (L.put f c l) lam fr (H.set f o') a w' ∧ L.le (L.put f c l) := by
  have hle := Locs.le_put l hn
  -- another row's copy lies elsewhere
  have hdis : ∀ g c' l', L g c' = some l' → l'.B = l.B → g = f := by
    intro g c' l' q e
    rcases hl with h1 | ⟨c0, l0, q0, e0, r0, _⟩
    · have := (h.rel.heap.dom _ _ _ q).2; omega
    · exact (h.rel.heap.dis _ _ _ _ _ _ q0 q (by rw [r0]; exact hr) (by rw [e0, e])).symm
  refine ⟨⟨⟨h.rel.len, h.rel.dfr, ?_, ⟨?_, ?_, ?_, ?_, ?_⟩, ?_, h.rel.inj⟩, ?_, h.low⟩, hle⟩
  · intro n c q
    have hs := (h.rel.slot n c q).mono hle
    cases c <;> try exact hs
    obtain ⟨e, xs, T, hb, r⟩ := hs
    exact ⟨e, xs, T, by rw [k.old _ (h.loc_lt q) (fun c l ql _ => h.rel.own _ _ q _ _ _ ql)]; exact hb, r⟩
  · intro g o q
    rw [List.getElem?_set] at q
    by_cases e : f = g
    · subst e
      simp at q
      obtain ⟨_, rfl⟩ := q
      exact ho
    · simp [e] at q
      refine ((h.rel.heap.obj g o q).world2 fun c l ql => k.old _ (h.rel.heap.dom _ _ _ ql).2 ?_).mono hle
      intro c' l' q' hr he
      exact e (h.rel.heap.dis _ _ _ _ _ _ q' ql hr he)
  · intro g c' l' q
    rcases Locs.put_some q with ⟨rfl, rfl, rfl⟩ | ⟨_, q⟩
    · exact ⟨by simpa using hf, hB⟩
    · exact ⟨by simpa using (h.rel.heap.dom _ _ _ q).1, Nat.lt_of_lt_of_le (h.rel.heap.dom _ _ _ q).2 k.size⟩
  · intro g c1 l1 g' c2 l2 q q' r1 he
    rcases Locs.put_some q with ⟨rfl, rfl, rfl⟩ | ⟨_, qq⟩ <;> rcases Locs.put_some q' with ⟨e1, rfl, rfl⟩ | ⟨_, qq'⟩
    · exact e1.symm
    · exact (hdis _ _ _ qq' he.symm).symm
    · rw [e1]; exact hdis _ _ _ qq he
    · exact h.rel.heap.dis _ _ _ _ _ _ qq qq' r1 he
  · intro g c1 l1 ty sz vals cur minv frz ro ql q
    rw [List.getElem?_set] at q
    by_cases e : f = g
    · subst e
      simp at q
      have := hcu _ _ _ _ _ _ _ q.2
      rcases Locs.put_some ql with ⟨_, rfl, rfl⟩ | ⟨_, qq⟩
      · exact this.1
      · exact this.2 _ _ qq
    · simp [e] at q
      rcases Locs.put_some ql with ⟨e1, _, _⟩ | ⟨_, qq⟩
      · exact (e e1.symm).elim
      · exact h.rel.heap.cub _ _ _ _ _ _ _ _ _ _ qq q
  · intro g c1 c2 l1 l2 q q' he
    have sub : ∀ c' l', L f c' = some l' → l'.B = l.B → l'.lo = l.lo ∧ l'.size = l.size ∧ l'.ro = l.ro := by
      intro c' l' q e
      rcases hl with h1 | ⟨c0, l0, q0, e0, r0, e2, e3⟩
      · have := (h.rel.heap.dom _ _ _ q).2; omega
      · have := h.rel.heap.los _ _ _ _ _ q q0 (by rw [e, e0]); exact ⟨by rw [this.1, e2], by rw [this.2.1, e3], by rw [this.2.2, r0]⟩
    rcases Locs.put_some q with ⟨rfl, rfl, rfl⟩ | ⟨_, qq⟩ <;> rcases Locs.put_some q' with ⟨e1, rfl, rfl⟩ | ⟨_, qq'⟩
    · exact ⟨rfl, rfl, rfl⟩
    · have := sub _ _ qq' he.symm; exact ⟨this.1.symm, this.2.1.symm, this.2.2.symm⟩
    · subst e1; exact sub _ _ qq he
    · exact h.rel.heap.los _ _ _ _ _ qq qq' he
  · intro n ys q g c' l' q'
    rcases Locs.put_some q' with ⟨rfl, rfl, rfl⟩ | ⟨_, q'⟩
    · rcases hl with h1 | ⟨c0, l0, q0, e0, _⟩
      · have := h.loc_lt q; omega
      · rw [← e0]; exact h.rel.own n ys q _ _ _ q0
    · exact h.rel.own n ys q _ _ _ q'
  · have kk := h.keepChg k
    refine ⟨kk.size, kk.os, kk.out, kk.old, kk.le.trans hle, ?_⟩
    intro g c' l' q
    rcases Locs.put_some q with ⟨rfl, rfl, rfl⟩ | ⟨_, q⟩
    · rcases hl with h1 | ⟨c0, l0, q0, e0, r0, _⟩
      · exact .inr (.inl (Nat.le_trans h.keep.size h1))
      · rcases h.keep.new _ _ _ q0 with r | r | ⟨c3, l3, r, e3, e4⟩
        · exact .inr (.inr ⟨c0, l0, r, e0, r0⟩)
        · exact .inr (.inl (by omega))
        · exact .inr (.inr ⟨c3, l3, r, by rw [e3, e0], by rw [e4, r0]⟩)
    · exact h.keep.new _ _ _ q

theorem setRow_size (w : World) (g : Nat) (c : Array Value) : (w.setRow g c).heap.size = w.heap.size := by simp [World.setRow]
theorem setRow_other (w : World) (g B : Nat) (c : Array Value) (h : g ≠ B) : (w.setRow g c).heap[B]? = w.heap[B]? := by
  simp [World.setRow, Array.getElem?_modify, h]

theorem splice_length {cs : List Value} {o : Nat} {xs : List Value} (h : o + xs.length ≤ cs.length) : (splice cs o xs).length = cs.length := by
  unfold splice; simp; omega

theorem splice_get {cs : List Value} {o : Nat} {xs : List Value} (h : o + xs.length ≤ cs.length) (p : Nat) : (splice cs o xs)[p]? = if o ≤ p ∧ p < o + xs.length then xs[p - o]? else cs[p]? := by
  unfold splice
  by_cases h1 : p < o
  · rw [List.append_assoc, List.getElem?_append_left (by simp; omega), List.getElem?_take, if_pos h1, if_neg (by omega)]
  · by_cases h2 : p < o + xs.length
    · rw [List.getElem?_append_left (by simp; omega), List.getElem?_append_right (by simp; omega), if_pos (by omega)]
      congr 1; simp; omega
    · rw [List.getElem?_append_right (by simp; omega), List.getElem?_drop, if_neg (by omega)]
      congr 1; simp; omega

/-- a store into a frame's own variable -/
theorem Inv.storeLoc {L0 L : Locs} {w0 w : World} {lam : Nat → Nat} {fr : Fr} {H : Heap} {a : Act} (h : Inv L0 w0 L lam fr H a w) {s : Nat} {cs : List Value} (q : fr[s]? = some (.loc cs)) (cs' : List Value) (xs : Array Value) (T : TypeId)
    (hb : w.heap[lam s]? = some (.cells xs T (0, 0))) (xs' : Array Value) (hc : CR L cs' xs'.toList) :
    Inv L0 w0 L lam (fr.set s (.loc cs')) H a (w.setRow (lam s) xs') := by
  have hlt : s < fr.length := (List.getElem?_eq_some_iff.1 q).1
  have hkey : ∀ (n : Nat) (ys : List Value), (fr.set s (.loc cs'))[n]? = some (SC.loc ys) → ∃ zs, fr[n]? = some (.loc zs) := by
    intro n ys hq
    rcases set_get fr s _ n _ hq with ⟨rfl, _, _⟩ | ⟨_, h0⟩
    · exact ⟨cs, q⟩
    · exact ⟨ys, h0⟩
  refine ⟨⟨by simp [h.rel.len], h.rel.dfr, ?_, ⟨?_, ?_, h.rel.heap.dis, h.rel.heap.cub, h.rel.heap.los⟩, ?_, ?_⟩, ?_, ?_⟩
  · intro n c hq
    rcases set_get fr s _ n _ hq with ⟨rfl, _, rfl⟩ | ⟨hne, h0⟩
    · exact ⟨(h.rel.slot _ _ q).1, xs', T, setRow_heap w _ _ _ _ _ hb, hc⟩
    · have hs := h.rel.slot n c h0
      cases c <;> try exact hs
      rename_i zs
      obtain ⟨e, ys, T', hb', r⟩ := hs
      by_cases e1 : s = n
      · subst e1
        have := h0.symm.trans q
        simp at this; subst this
        exact (hne ⟨rfl, hlt⟩).elim
      · refine ⟨e, ys, T', ?_, r⟩
        rw [setRow_other _ _ _ _ (fun e2 => e1 (h.rel.inj _ _ _ _ q h0 e2))]; exact hb'
  · intro f o hf
    refine (h.rel.heap.obj f o hf).world2 fun c l ql => setRow_other _ _ _ _ (fun e => h.rel.own _ _ q _ _ _ ql e.symm)
  · intro f c l ql
    exact ⟨(h.rel.heap.dom f c l ql).1, by rw [setRow_size]; exact (h.rel.heap.dom f c l ql).2⟩
  · intro n ys hq f c l ql
    obtain ⟨zs, h0⟩ := hkey n ys hq
    exact h.rel.own n zs h0 f c l ql
  · intro n ys n' ys' hq hq' e
    obtain ⟨zs, h0⟩ := hkey n ys hq
    obtain ⟨zs', h0'⟩ := hkey n' ys' hq'
    exact h.rel.inj _ _ _ _ h0 h0' e
  · refine ⟨by rw [setRow_size]; exact h.keep.size, h.keep.os, h.keep.out, ?_, h.keep.le, h.keep.new⟩
    intro B hB hn
    rw [setRow_other _ _ _ _ (by have := h.low s cs q; omega)]
    exact h.keep.old B hB hn
  · intro n ys hq
    obtain ⟨zs, h0⟩ := hkey n ys hq
    exact h.low n zs h0

/-- a store into a row, by its newest copy -/
theorem Inv.storeObj {L0 L : Locs} {w0 w : World} {lam : Nat → Nat} {fr : Fr} {H : Heap} {a : Act} (h : Inv L0 w0 L lam fr H a w) {f ty sz cur minv frz : Nat} {vals : List Value} (hf : H[f]? = some (.cells ty sz vals cur minv frz false))
    {l : Loc} (hl : L f cur = some l) {xs : Array Value} {T : TypeId} {x y : Nat} (hb : w.heap[l.B]? = some (.cells xs T (x, y))) (off : Nat) (vs ys : List Value) (hc : CR L vs ys) (h1 : l.lo ≤ off) (h2 : off + vs.length ≤ vals.length) :
    Inv L0 w0 L lam fr (H.set f (.cells ty sz (splice vals off vs) cur cur frz false)) a (w.setRow l.B (splice xs.toList (off - l.lo) ys).toArray) := by
  obtain ⟨g1, g2, g3, g4⟩ := h.rel.heap.obj f _ hf
  obtain ⟨l', ql, e1, e2, e3, e4, e5, e6, e7, cs, T', x', y', hb', hz, hs, r⟩ := g4 cur g1 (Nat.le_refl _)
  rw [hl] at ql; simp at ql; subst ql
  rw [hb] at hb'; simp at hb'; obtain ⟨rfl, rfl, rfl, rfl⟩ := hb'
  have e5' := e5 rfl
  refine h.setObj (f := f) ⟨Nat.le_of_eq (setRow_size _ _ _).symm, rfl, rfl, fun B _ hn => setRow_other _ _ _ _ (hn cur l hl e2)⟩ _ ?_ (fun _ _ _ _ _ _ _ q c l ql => by simp at q; rw [← q.2.2.2.1]; exact h.rel.heap.cub _ _ _ _ _ _ _ _ _ _ ql hf)
  refine ⟨Nat.le_refl _, g2, ?_, ?_⟩
  · intro v hv
    unfold splice at hv
    simp only [List.mem_append] at hv
    rcases hv with (hv | hv) | hv
    · exact g3 v (List.mem_of_mem_take hv)
    · obtain ⟨i, hi, rfl⟩ := List.getElem_of_mem hv
      exact (hc.2 i _ (List.getElem?_eq_getElem hi)).1
    · exact g3 v (List.mem_of_mem_drop hv)
  · intro c c1 c2
    obtain rfl : c = cur := by omega
    have hlen : (splice vals off vs).length = vals.length := splice_length h2
    have hys : vs.length = ys.length := hc.1
    have hcs : off - l.lo + ys.length ≤ xs.toList.length := by simp; omega
    refine ⟨l, hl, e1, e2, e3, by rw [hlen]; exact e4, fun _ => by rw [hlen]; exact e5', e6, e7, (splice xs.toList (off - l.lo) ys).toArray, T, x, y, setRow_heap w _ _ _ _ _ hb, hz, ?_, ?_⟩
    · simp only [List.size_toArray]; rw [splice_length hcs]; simpa using hs
    · intro p p1 p2
      simp only [List.getElem?_toArray]
      rw [splice_get h2, splice_get hcs]
      by_cases hp : off ≤ p ∧ p < off + vs.length
      · rw [if_pos hp, if_pos (by omega)]
        obtain ⟨o, u, hu, r'⟩ := hc.2 (p - off) vs[p - off] (List.getElem?_eq_getElem (by omega))
        refine ⟨vs[p - off], u, List.getElem?_eq_getElem (by omega), ?_, r'⟩
        rw [← hu]; congr 1; omega
      · rw [if_neg hp, if_neg (by omega)]
        obtain ⟨v, u, r1, r2, r3⟩ := r p p1 p2
        exact ⟨v, u, r1, by simpa using r2, r3⟩

end Go.AM
