/- New rows, stores and appends: the relation is kept. No condition. -/
import Derived.Test.YtknogapmjleliaaDoorAmC
namespace Go.AM
open Go

def Locs.put (L : Locs) (f c : Nat) (l : Loc) : Locs := fun f' c' => if f' = f ∧ c' = c then some l else L f' c'

theorem Locs.put_same (L : Locs) (f c : Nat) (l : Loc) : L.put f c l f c = some l := by simp [Locs.put]
theorem Locs.put_some {L : Locs} {f c f' c' : Nat} {l l' : Loc} (h : L.put f c l f' c' = some l') : (f' = f ∧ c' = c ∧ l' = l) ∨ (¬ (f' = f ∧ c' = c) ∧ L f' c' = some l') := by
  unfold Locs.put at h
  split at h
  · rename_i e; simp at h; exact .inl ⟨e.1, e.2, h.symm⟩
  · rename_i e; exact .inr ⟨e, h⟩
theorem Locs.le_put {L : Locs} {f c : Nat} (l : Loc) (h : L f c = none) : L.le (L.put f c l) := by
  intro f' c' l' q
  unfold Locs.put
  split
  · rename_i e; rw [e.1, e.2, h] at q; simp at q
  · exact q

theorem ObjR.mono {L L' : Locs} (hl : L.le L') {w : World} {f : Nat} {o : AObj} (h : ObjR L w f o) : ObjR L' w f o := by
  cases o with
  | dead => trivial
  | amap es =>
    obtain ⟨l, es', clk, q, h0, hb, hn, r⟩ := h
    exact ⟨l, es', clk, hl _ _ _ q, h0, hb, hn, fun i k v g => let ⟨e, e1, e2, e3⟩ := r i k v g; ⟨e, e1, e2, e3.mono hl⟩⟩
  | cells sz vals cur minv frz ro =>
    refine ⟨h.1, h.2.1, h.2.2.1, fun c h1 h2 => ?_⟩
    obtain ⟨l, q, e1, e2, e3, e4, e5, e6, e7, cs, T, x, y, hb, hz, hs, r⟩ := h.2.2.2 c h1 h2
    exact ⟨l, hl _ _ _ q, e1, e2, e3, e4, e5, e6, e7, cs, T, x, y, hb, hz, hs, fun p p1 p2 => let ⟨v, u, r1, r2, r3⟩ := r p p1 p2; ⟨v, u, r1, r2, r3.mono hl⟩⟩

theorem SR.mono {L L' : Locs} (hl : L.le L') {lam : Nat → Nat} {w : World} {n : Nat} {x : Value} {c : SC} (h : SR L lam w n x c) : SR L' lam w n x c := by
  cases c with
  | no => trivial
  | v y => exact VR.mono hl h
  | lp s o => exact h
  | hp f o c n => obtain ⟨l, q, r⟩ := h; exact ⟨l, hl _ _ _ q, r⟩
  | loc cs => obtain ⟨e, xs, T, hb, r⟩ := h; exact ⟨e, xs, T, hb, r.mono hl⟩

/-- a new row -/
theorem Inv.push {L0 L : Locs} {w0 w w' : World} {lam : Nat → Nat} {fr : Fr} {H : Heap} {a : Act} (h : Inv L0 w0 L lam fr H a w) (s : Same w w') (B : Nat) (hB : w.heap.size ≤ B) (hB' : B < w'.heap.size)
    (vals : List Value) (cs : Array Value) (T : TypeId) (x y sz : Nat) (hsz : 0 < sz) (hb : w'.heap[B]? = some (.cells cs T (x, y))) (hz : ∀ k, k < cs.size → ¬ (x ≤ k ∧ k < y)) (hlen : vals.length ≤ cs.size)
    (hc : CR L vals (cs.toList.take vals.length)) (hloc : ∀ s, lam s < w.heap.size ∨ ∀ ys, fr[s]? ≠ some (.loc ys)) :
    ∃ L', Inv L0 w0 L' lam fr (H ++ [.cells T sz vals 0 0 0 false]) a w' ∧ L.le L' ∧ L' H.length 0 = some ⟨B, 0, vals.length, cs.size, sz, false, 0⟩ := by
  have hn : L H.length 0 = none := by
    cases hq : L H.length 0 with
    | none => rfl
    | some l => have := (h.rel.heap.dom _ _ _ hq).1; omega
  have hle := Locs.le_put (L := L) (f := H.length) (c := 0) ⟨B, 0, vals.length, cs.size, sz, false, 0⟩ hn
  have hi := h.same s
  refine ⟨L.put H.length 0 ⟨B, 0, vals.length, cs.size, sz, false, 0⟩, ⟨⟨hi.rel.len, hi.rel.dfr, fun n c q => (hi.rel.slot n c q).mono hle, ⟨?_, ?_, ?_, ?_, ?_⟩, ?_, hi.rel.inj⟩, ?_, hi.low⟩, hle, Locs.put_same _ _ _ _⟩
  · intro f o q
    rw [List.getElem?_append] at q
    split at q
    · exact (hi.rel.heap.obj f o q).mono hle
    · rename_i hf
      have : f = H.length := by
        rcases Nat.lt_or_ge (f - H.length) 1 with h1 | h1
        · omega
        · rw [List.getElem?_eq_none (by simpa using h1)] at q; simp at q
      subst this
      simp at q
      subst q
      refine ⟨Nat.le_refl _, hsz, ?_, ?_⟩
      · intro v hv
        obtain ⟨i, hi, rfl⟩ := List.getElem_of_mem hv
        exact (hc.2 i _ (List.getElem?_eq_getElem hi)).1
      · intro c _ h2
        obtain rfl : c = 0 := by omega
        refine ⟨_, Locs.put_same _ _ _ _, rfl, rfl, Nat.zero_le _, Nat.le_refl _, fun _ => rfl, by simpa using hlen, fun _ => rfl, cs, T, x, y, hb, ?_, rfl, ?_⟩
        · exact ⟨rfl, fun k _ hk => hz k hk⟩
        · intro p _ hp
          obtain ⟨o, u, hu, r⟩ := hc.2 p vals[p] (List.getElem?_eq_getElem hp)
          refine ⟨vals[p], u, List.getElem?_eq_getElem hp, ?_, r.mono hle⟩
          rw [List.getElem?_take, if_pos hp] at hu
          simpa using hu
  · intro f c l q
    rcases Locs.put_some q with ⟨rfl, rfl, rfl⟩ | ⟨_, q⟩
    · exact ⟨by simp, hB'⟩
    · exact ⟨by have := (hi.rel.heap.dom _ _ _ q).1; simp; omega, (hi.rel.heap.dom _ _ _ q).2⟩
  · intro f c l f' c' l' q q' hr he
    rcases Locs.put_some q with ⟨rfl, rfl, rfl⟩ | ⟨_, q⟩ <;> rcases Locs.put_some q' with ⟨rfl, rfl, rfl⟩ | ⟨_, q'⟩
    · rfl
    · have := (h.rel.heap.dom _ _ _ q').2; simp at he; omega
    · have := (h.rel.heap.dom _ _ _ q).2; simp at he; omega
    · exact h.rel.heap.dis _ _ _ _ _ _ q q' hr he
  · intro f c l ty' sz' vals' cur minv frz ro q ho
    rcases Locs.put_some q with ⟨rfl, rfl, rfl⟩ | ⟨_, q⟩
    · exact Nat.zero_le _
    · rw [List.getElem?_append_left (hi.rel.heap.dom _ _ _ q).1] at ho
      exact h.rel.heap.cub _ _ _ _ _ _ _ _ _ _ q ho
  · intro f c c' l l' q q' he
    rcases Locs.put_some q with ⟨rfl, rfl, rfl⟩ | ⟨_, q⟩ <;> rcases Locs.put_some q' with ⟨e1, rfl, rfl⟩ | ⟨_, q'⟩
    · exact ⟨rfl, rfl, rfl⟩
    · have := (h.rel.heap.dom _ _ _ q').2; simp at he; omega
    · have := (h.rel.heap.dom _ _ _ q).2; simp at he; omega
    · exact h.rel.heap.los _ _ _ _ _ q q' he
  · intro n ys q f c l ql
    rcases Locs.put_some ql with ⟨rfl, rfl, rfl⟩ | ⟨_, ql⟩
    · rcases hloc n with h1 | h1
      · simp; omega
      · exact (h1 ys q).elim
    · exact h.rel.own n ys q _ _ _ ql
  · refine ⟨hi.keep.size, hi.keep.os, hi.keep.out, hi.keep.old, hi.keep.le.trans hle, ?_⟩
    intro f c l q
    rcases Locs.put_some q with ⟨rfl, rfl, rfl⟩ | ⟨_, q⟩
    · exact .inr (.inl (Nat.le_trans h.keep.size hB))
    · exact hi.keep.new _ _ _ q

theorem Inv.locs {L0 L : Locs} {w0 w : World} {lam : Nat → Nat} {fr : Fr} {H : Heap} {a : Act} (h : Inv L0 w0 L lam fr H a w) (s : Nat) : lam s < w.heap.size ∨ ∀ ys, fr[s]? ≠ some (.loc ys) := by
  by_cases q : ∃ ys, fr[s]? = some (.loc ys)
  · obtain ⟨ys, q⟩ := q
    obtain ⟨_, xs, T, hb, _⟩ := h.rel.slot s _ q
    rw [Array.getElem?_eq_some_iff] at hb
    exact .inl hb.1
  · exact .inr fun ys q' => q ⟨ys, q'⟩

/-- cells stored one behind the other into a row, none of them frozen -/
theorem run_stores (P : Program) (g o : Nat) (t : TypeId) (fz : Nat × Nat) : ∀ (vs : List Value) (i : Nat) (cur : Array Value) (w : World), w.heap[g]? = some (.cells cur t fz) →
    (∀ k, o + i ≤ k → k < o + i + vs.length → ¬ (fz.1 ≤ k ∧ k < fz.2)) → o + i + vs.length ≤ cur.size → (∀ v ∈ vs, v.oneCell' = true) →
    (storeCells ⟨g, o, none⟩ vs i).run P w = .ok () (w.setRow g (splice cur.toList (o + i) vs).toArray)
  | [], i, cur, w, hg, _, _, _ => by
    simp only [storeCells, splice, List.append_nil, List.length_nil, Nat.add_zero, List.take_append_drop, Array.toArray_toList]
    rw [setRow_self w g cur t fz hg]
    rfl
  | v :: rest, i, cur, w, hg, hfz, hl, h1 => by
    have hi : o + i < cur.size := by simp at hl; omega
    have hadd : (⟨g, o, none⟩ : Addr).add i = ⟨g, o + i, none⟩ := by unfold Addr.add; split <;> simp_all
    have hcell : w.cell? ⟨g, o + i, none⟩ = some cur[o + i] := by simp [World.cell?, hg, hi]
    have hfro : w.frozen? ⟨g, o + i, none⟩ = false := by
      have := hfz (o + i) (Nat.le_refl _) (by simp)
      obtain ⟨lo, hi'⟩ := fz
      simp only [World.frozen?, hg, Bool.and_eq_false_iff, decide_eq_false_iff_not]
      simp only at this
      omega
    have hst : (store ((⟨g, o, none⟩ : Addr).add i) v).run P w = .ok () (w.setRow g (cur.setIfInBounds (o + i) v)) := by
      rw [hadd, run_store P w _ v _ (h1 v (by simp)), hcell]
      simp [hfro, setCell_eq_setRow w g (o + i) cur t fz v hg]
    have ih := run_stores P g o t fz rest (i + 1) (cur.setIfInBounds (o + i) v) (w.setRow g (cur.setIfInBounds (o + i) v)) (setRow_heap w g cur _ t _ hg)
      (fun k k1 k2 => hfz k (by omega) (by simp at k2 ⊢; omega)) (by simp at hl ⊢; omega) (fun x hx => h1 x (by simp [hx]))
    simp only [storeCells, Sem.run_bind, hst, Result.andThen_ok, ih, setRow_setRow]
    congr 3
    have e := list_seg_step cur.toList (o + i) v rest (by simp at hl ⊢; omega)
    simpa [splice, Array.toList_setIfInBounds, Nat.add_assoc] using e

end Go.AM
