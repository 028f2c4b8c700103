/- Reads and writes of the abstract machine are the model's. No condition. -/
import Derived.Test.YtknogapmjleliaaDoorAmE
namespace Go.AM
open Go

theorem cut_get (cs : List Value) (o n p : Nat) : (cut cs o n)[p]? = if p < n then cs[o + p]? else none := by
  unfold cut; rw [List.getElem?_take, List.getElem?_drop]

theorem cut_length {cs : List Value} {o n : Nat} (h : o + n ≤ cs.length) : (cut cs o n).length = n := by
  unfold cut; simp; omega

theorem run_cut (P : Program) (w : World) (B o n : Nat) (xs : Array Value) (T : TypeId) (fz : Nat × Nat) (hb : w.heap[B]? = some (.cells xs T fz)) (h : o + n ≤ xs.size) :
    (loadCells ⟨B, o, none⟩ n).run P w = .ok (cut xs.toList o n).toArray w := by
  have hl : (cut xs.toList o n).length = n := cut_length (by simpa using h)
  have := run_loadCells_list (P := P) w ⟨B, o, none⟩ (cut xs.toList o n) (fun j v q => by
    rw [cut_get] at q
    split at q
    · have hadd : (⟨B, o, none⟩ : Addr).add j = ⟨B, o + j, none⟩ := by unfold Addr.add; split <;> simp_all
      rw [hadd]
      simp only [World.cell?, hb]
      simpa using q
    · simp at q)
  rw [hl] at this
  exact this

theorem cell_cut (w : World) (B o n : Nat) (xs : Array Value) (T : TypeId) (fz : Nat × Nat) (hb : w.heap[B]? = some (.cells xs T fz)) :
    ∀ (j : Nat) (v : Value), (cut xs.toList o n)[j]? = some v → w.cell? ((⟨B, o, none⟩ : Addr).add j) = some v := by
  intro j v q
  rw [cut_get] at q
  split at q
  · have hadd : (⟨B, o, none⟩ : Addr).add j = ⟨B, o + j, none⟩ := by unfold Addr.add; split <;> simp_all
    rw [hadd]
    simp only [World.cell?, hb]
    simpa using q
  · simp at q

theorem CR.of_row {L : Locs} {vals xs : List Value} {lo g ext off n : Nat} (h1 : ∀ v ∈ vals, one1 v) (hr : ∀ p : Nat, lo + g ≤ p → p < ext → ∃ v x : Value, vals[p]? = some v ∧ xs[p - lo]? = some x ∧ VR L v x)
    (a1 : lo + g ≤ off) (a2 : off + n ≤ ext) (a3 : ext ≤ vals.length) (a4 : ext - lo ≤ xs.length) : CR L (AM.cut vals off n) (AM.cut xs (off - lo) n) := by
  refine ⟨by rw [cut_length (by omega), cut_length (by omega)], fun i v q => ?_⟩
  rw [cut_get] at q
  split at q
  · rename_i hi
    obtain ⟨v', x, e1, e2, e3⟩ := hr (off + i) (by omega) (by omega)
    rw [q] at e1; simp at e1; subst e1
    refine ⟨h1 v (List.mem_of_getElem? q), x, ?_, e3⟩
    rw [cut_get, if_pos hi, ← e2]; congr 1; omega
  · simp at q

/-- a copy of a row -/
theorem HR.copy {L : Locs} {H : Heap} {w : World} (h : HR L H w) {f ty sz cur minv frz c : Nat} {vals : List Value} {ro : Bool} (hf : H[f]? = some (.cells ty sz vals cur minv frz ro)) {l : Loc} (hl : L f c = some l) (h1 : minv ≤ c) (h2 : c ≤ cur) :
    l.sz = sz ∧ l.ro = ro ∧ l.lo ≤ l.ext ∧ l.ext ≤ vals.length ∧ (c = cur → l.ext = vals.length) ∧ l.ext - l.lo ≤ l.size ∧ (c = 0 → l.lo = 0) ∧ (∀ v ∈ vals, one1 v) ∧ 0 < sz ∧
        ∃ cs T a b, w.heap[l.B]? = some (.cells cs T (a, b)) ∧ (T = ty ∧ ∀ k, frz - l.lo ≤ k → k < l.size → ¬ (a ≤ k ∧ k < b)) ∧ cs.size = l.size ∧
          ∀ p : Nat, l.lo + l.gap ≤ p → p < l.ext → ∃ v x : Value, vals[p]? = some v ∧ cs[p - l.lo]? = some x ∧ VR L v x := by
  obtain ⟨_, g2, g3, g4⟩ := h.obj f _ hf
  obtain ⟨l', ql, e1, e2, e3, e4, e5, e6, e7, r⟩ := g4 c h1 h2
  rw [hl] at ql; simp at ql; subst ql
  exact ⟨e1, e2, e3, e4, e5, e6, e7, g3, g2, r⟩

theorem Inv.slotLoc {L0 L : Locs} {w0 w : World} {lam : Nat → Nat} {fr : Fr} {H : Heap} {a : Act} (_ : Inv L0 w0 L lam fr H a w) {s : Nat} {cs : List Value} (q : fr.getD s .no = .loc cs) : fr[s]? = some (.loc cs) := by
  rw [List.getD_eq_getElem?_getD] at q
  cases hq : fr[s]? with
  | none => rw [hq] at q; simp at q
  | some c => rw [hq] at q; simp at q; rw [q]

theorem rd_sound {L0 L : Locs} {w0 w : World} {lam : Nat → Nat} {fr : Fr} {H : Heap} {a : Act} (h : Inv L0 w0 L lam fr H a w) {x : Value} {av : AV} (hx : AVR L lam x av) {n : Nat} {cs : List Value} (hr : rd fr H av n = some cs) :
    ∃ b ys, x = .pointer (some b) ∧ CR L cs ys ∧ ys.length = n ∧ ∀ (j : Nat) (y : Value), ys[j]? = some y → w.cell? (b.add j) = some y := by
  unfold rd at hr
  split at hr
  · rename_i s off
    split at hr
    · rename_i zs hz
      split at hr
      · rename_i hlen
        simp at hr; subst hr
        obtain ⟨_, xs, T, hb, hc⟩ := h.rel.slot s _ (h.slotLoc hz)
        have hle : off + n ≤ xs.size := by have := hc.1; simp at this; omega
        exact ⟨_, cut xs.toList off n, hx, hc.cut off n, cut_length (by simpa using hle), cell_cut w _ _ _ xs T _ hb⟩
      · simp at hr
    · simp at hr
  · rename_i y
    unfold rdV at hr
    split at hr
    · rename_i f off
      split at hr
      · rename_i sz vals minv frz ro hf
        split at hr
        · rename_i hlen
          simp at hr; subst hr
          cases hx with
          | ptr _ _ l hl h0 =>
            have hm : minv ≤ 0 := (h.rel.heap.obj f _ hf).1
            obtain ⟨e1, e2, e3, e4, e5, e6, e7, g3, g2, ys, T, x, y, hb, hz, hs, r⟩ := h.rel.heap.copy hf hl hm (Nat.le_refl _)
            have e5' := e5 rfl
            have hle : off + n ≤ ys.size := by omega
            have hc := CR.of_row (L := L) (vals := vals) (xs := ys.toList) (lo := l.lo) (g := l.gap) (ext := l.ext) (off := off) (n := n) g3 (by simpa using r) (by omega) (by omega) e4 (by simp; omega)
            rw [show l.lo = 0 by omega, Nat.sub_zero] at hc
            exact ⟨_, cut ys.toList off n, rfl, hc, cut_length (by simpa using hle), cell_cut w _ _ _ ys T _ hb⟩
        · simp at hr
      · simp at hr
    · simp at hr
  · rename_i f off c m
    split at hr
    · rename_i sz vals cur minv frz ro hf
      split at hr
      · rename_i hc
        simp at hr; subst hr
        obtain ⟨l, hl, a1, a2, rfl⟩ := hx
        obtain ⟨e1, e2, e3, e4, e5, e6, e7, g3, g2, ys, T, x, y, hb, hz, hs, r⟩ := h.rel.heap.copy hf hl hc.2.1 hc.2.2
        have hle : off - l.lo + n ≤ ys.size := by omega
        have hcr := CR.of_row (L := L) (vals := vals) (xs := ys.toList) (lo := l.lo) (g := l.gap) (ext := l.ext) (off := off) (n := n) g3 (by simpa using r) a1 (by omega) e4 (by simp; omega)
        exact ⟨_, cut ys.toList (off - l.lo) n, rfl, hcr, cut_length (by simpa using hle), cell_cut w _ _ _ ys T _ hb⟩
      · simp at hr
    · simp at hr

theorem CR.ones {L : Locs} {vs ys : List Value} (h : CR L vs ys) : ∀ y ∈ ys, y.oneCell' = true := by
  intro y hy
  obtain ⟨i, hi, rfl⟩ := List.getElem_of_mem hy
  have hi' : i < vs.length := by rw [h.1]; exact hi
  obtain ⟨o, x, hx, r⟩ := h.2 i vs[i] (List.getElem?_eq_getElem hi')
  rw [List.getElem?_eq_getElem hi] at hx; simp at hx; subst hx
  exact r.one o

theorem wr_sound {L0 L : Locs} {w0 w : World} {lam : Nat → Nat} {fr fr' : Fr} {H H' : Heap} {a : Act} (P : Program) (h : Inv L0 w0 L lam fr H a w) {x : Value} {av : AV} (hx : AVR L lam x av) {vs ys : List Value} (hc : CR L vs ys)
    (hr : wr fr H av vs = some (fr', H')) : ∃ b w', x = .pointer (some b) ∧ (storeCells b ys).run P w = .ok () w' ∧ Inv L0 w0 L lam fr' H' a w' := by
  unfold wr at hr
  split at hr
  · rename_i s off
    split at hr
    · rename_i zs hz
      split at hr
      · rename_i hlen
        simp at hr; obtain ⟨rfl, rfl⟩ := hr
        obtain ⟨_, xs, T, hb, hcz⟩ := h.rel.slot s _ (h.slotLoc hz)
        have hle : off + ys.length ≤ xs.size := by have e1 := hcz.1; have e2 := hc.1; simp at e1; omega
        refine ⟨_, _, hx, run_stores P (lam s) off T (0, 0) ys 0 xs w hb (fun k _ _ => by simp) (by simpa using hle) hc.ones, ?_⟩
        exact h.storeLoc (h.slotLoc hz) _ xs T hb _ (by simpa using hcz.splice hc off)
      · simp at hr
    · simp at hr
  · rename_i f off
    split at hr
    · rename_i sz vals minv frz hf
      split at hr
      · rename_i hlen
        simp at hr; obtain ⟨rfl, rfl⟩ := hr
        cases hx with
        | ptr _ _ l hl h0 =>
          have hm : minv ≤ 0 := (h.rel.heap.obj f _ hf).1
          obtain ⟨e1, e2, e3, e4, e5, e6, e7, g3, g2, xs, T, x, y, hb, hz, hs, r⟩ := h.rel.heap.copy hf hl hm (Nat.le_refl _)
          have e5' := e5 rfl
          have hys := hc.1
          have := h.storeObj hf hl hb off vs ys hc (by omega) hlen.1
          rw [show l.lo = 0 by omega, Nat.sub_zero] at this
          refine ⟨_, _, rfl, run_stores P l.B off T (x, y) ys 0 xs w hb (fun k k1 k2 => hz.2 k (by omega) (by omega)) (by omega) hc.ones, by simpa using this⟩
      · simp at hr
    · simp at hr
  · rename_i f off c m
    split at hr
    · rename_i sz vals cur minv frz hf
      split at hr
      · rename_i hlen
        simp at hr; obtain ⟨rfl, rfl⟩ := hr
        obtain ⟨l, hl, a1, a2, rfl⟩ := hx
        obtain ⟨b1, rfl, b3⟩ := hlen
        have hm : minv ≤ c := (h.rel.heap.obj f _ hf).1
        obtain ⟨e1, e2, e3, e4, e5, e6, e7, g3, g2, xs, T, x, y, hb, hz, hs, r⟩ := h.rel.heap.copy hf hl hm (Nat.le_refl _)
        have e5' := e5 rfl
        have hys := hc.1
        have := h.storeObj hf hl hb off vs ys hc (by omega) (by omega)
        refine ⟨_, _, rfl, run_stores P l.B (off - l.lo) T (x, y) ys 0 xs w hb (fun k k1 k2 => hz.2 k (by omega) (by omega)) (by omega) hc.ones, by simpa using this⟩
      · simp at hr
    · simp at hr
  · simp at hr

/-- a slice that is read -/
theorem rdSl_sound {L : Locs} {H : Heap} {w : World} (h : HR L H w) {s x : Value} (hx : VR L s x) {sz : Nat} {cs : List Value} (hr : rdSl H sz s = some cs) {n : Nat} (hn : slLen s = some n) :
    ∃ ys, CR L cs ys ∧ ys.length = n * sz ∧ Builtin.lenOf x = pure n ∧ (∀ P m (w' : World), w'.heap = w.heap → m ≤ n → (Builtin.firstCells sz m x).run P w' = .ok (ys.take (m * sz)).toArray w') ∧
      ((∃ cap, x = .slice none n cap ∧ n = 0) ∨ ∃ b cap, x = .slice (some b) n cap ∧ ∀ P m, m ≤ n * sz → (loadCells b m).run P w = .ok (ys.take m).toArray w) := by
  unfold rdSl at hr
  split at hr
  · simp at hr; subst hr
    cases hx with
    | snil =>
      simp [slLen] at hn; subst hn
      refine ⟨[], CR.nil _, by simp, rfl, fun P m w' _ hm => ?_, .inl ⟨0, rfl, rfl⟩⟩
      simp [Builtin.firstCells]
  · rename_i f off c len cap
    split at hr
    · rename_i sz' vals cur minv frz ro hf
      split at hr
      · rename_i hc
        obtain ⟨rfl, c1, c2⟩ := hc
        simp at hr; subst hr
        simp [slLen] at hn; subst hn
        cases hx with
        | sl _ _ _ _ _ cap' l hl h1 h2 h3 h4 h5 =>
          obtain ⟨e1, e2, e3, e4, e5, e6, e7, g3, g2, xs, T, x, y, hb, hz, hs, r⟩ := h.copy hf hl c1 c2
          rw [e1] at h2 h5
          have hmul : len * sz' ≤ cap * sz' := Nat.mul_le_mul_right _ h3
          have hle : off - l.lo + len * sz' ≤ xs.size := by omega
          have hcr := CR.of_row (L := L) (vals := vals) (xs := xs.toList) (lo := l.lo) (g := l.gap) (ext := l.ext) (off := off) (n := len * sz') g3 (by simpa using r) h1 (by omega) e4 (by simp; omega)
          have hload : ∀ P m (w' : World), w'.heap = w.heap → m ≤ len * sz' → (loadCells ⟨l.B, off - l.lo, none⟩ m).run P w' = .ok ((cut xs.toList (off - l.lo) (len * sz')).take m).toArray w' := by
            intro P m w' hw hm
            rw [run_cut P w' _ _ m xs T _ (by rw [hw]; exact hb) (by omega)]
            congr 2
            unfold AM.cut
            rw [List.take_take, Nat.min_eq_left hm]
          refine ⟨_, hcr, cut_length (by simpa using hle), rfl, fun P m w' hw hm => ?_, .inr ⟨_, cap', rfl, fun P m hm => hload P m w rfl hm⟩⟩
          simp only [Builtin.firstCells]
          exact hload P _ w' hw (Nat.mul_le_mul_right _ hm)
        | sl0 _ _ _ b l hl h1 h2 =>
          refine ⟨[], by simp [AM.cut]; exact CR.nil _, by simp, rfl, fun P m w' _ hm => ?_, .inr ⟨b, 0, rfl, fun P m hm => ?_⟩⟩
          · obtain rfl : m = 0 := by omega
            simp [Builtin.firstCells, loadCells, loadCellsFrom]
          · obtain rfl : m = 0 := by omega
            simp [loadCells, loadCellsFrom]
      · simp at hr
    · simp at hr
  · simp at hr

end Go.AM
