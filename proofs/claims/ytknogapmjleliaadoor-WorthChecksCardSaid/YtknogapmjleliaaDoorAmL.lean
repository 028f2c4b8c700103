/- One operation: append, copy, make, literals, conversions that make a row. No condition. -/
import Derived.Test.YtknogapmjleliaaDoorAmK
import Derived.Laws.Append
import Derived.Laws.BytesString
import Derived.Lib.ConvBytes
namespace Go.AM
open Go

variable {P : Program} {L0 L : Locs} {w0 w : World} {lam : Nat → Nat} {fr fr' : Fr} {H H' : Heap} {a : Act}

def notInt (d : TypeDesc) : Prop := d = .string ∨ ∃ e, d = .slice e

theorem append_grow_run (t u ty e : TypeId) (i : TypeInfo) (z : Value) (d : TypeDesc) (ht : P.underlying t = some (.slice e)) (hu : P.underlying u = some d) (hd : notInt d) (hi : P.info? e = some i) (hz : i.zero = some z)
    (base : Option Addr) (sLen sCap n : Nat) (x : Value) (olds ys : List Value) (hlen : Builtin.lenOf x = pure n) (hx : (Builtin.firstCells i.size n x).run P w.drew = .ok ys.toArray w.drew)
    (hold : (Builtin.firstCells i.size sLen (.slice base sLen sCap)).run P w.drew = .ok olds.toArray w.drew)
    (hg : sCap < sLen + n) (h63 : ((sLen + n : Nat) : Int) ≤ 9223372036854775807) (hfit : Builtin.nextslicecap (sLen + n) sCap * i.bytes ≤ 281474976710656) :
    (Builtin.append_ #[t, u] ty #[.slice base sLen sCap, x]).run P w =
      .ok (.slice (some ⟨w.heap.size, 0, none⟩) (sLen + n) (grownCap w (sLen + n) sCap e))
        (w.drew.alloc (.cells (olds.toArray ++ ys.toArray ++ Builtin.zeroCells z.cells (grownCap w (sLen + n) sCap e - (sLen + n))) e)) := by
  have hn : ¬ (sLen + n ≤ sCap) := by omega
  have h63' : ¬ (9223372036854775807 < ((sLen : Int) + (n : Int))) := by omega
  have h48' : ¬ (281474976710656 < Builtin.nextslicecap (sLen + n) sCap * i.bytes) := by omega
  rcases hd with rfl | ⟨e', rfl⟩ <;> (simp [Builtin.append_, run_underlying ht, run_underlying hu, sizeOf, typeInfo, zeroValue, hi, hz, hlen, hn, h63', h48', Question.forced, hx, hold, newRow, grownCap]; congr 2; apply Array.ext'; simp [List.append_assoc])

theorem append_room_run (t u ty e : TypeId) (i : TypeInfo) (d : TypeDesc) (ht : P.underlying t = some (.slice e)) (hu : P.underlying u = some d) (hd : notInt d) (hi : P.info? e = some i)
    (b : Addr) (sLen sCap n : Nat) (x : Value) (ys : List Value) (hlen : Builtin.lenOf x = pure n) (hx : (Builtin.firstCells i.size n x).run P w = .ok ys.toArray w) {w' : World}
    (hst : (storeCells (b.add (sLen * i.size)) ys).run P w = .ok () w') (hg : sLen + n ≤ sCap) :
    (Builtin.append_ #[t, u] ty #[.slice (some b) sLen sCap, x]).run P w = .ok (.slice (some b) (sLen + n) sCap) w' := by
  rcases hd with rfl | ⟨e', rfl⟩ <;> (simp [Builtin.append_, run_underlying ht, run_underlying hu, sizeOf, typeInfo, hi, hlen, hg, hx, hst])

theorem append_nothing_run (t u ty e : TypeId) (i : TypeInfo) (d : TypeDesc) (ht : P.underlying t = some (.slice e)) (hu : P.underlying u = some d) (hd : notInt d) (hi : P.info? e = some i)
    (b : Option Addr) (sLen sCap : Nat) (x : Value) (hlen : Builtin.lenOf x = pure 0) (hx : (Builtin.firstCells i.size 0 x).run P w = .ok #[] w) (hg : sLen ≤ sCap) :
    (Builtin.append_ #[t, u] ty #[.slice b sLen sCap, x]).run P w = .ok (.slice b sLen sCap) w := by
  cases b <;> rcases hd with rfl | ⟨e', rfl⟩ <;> (simp [Builtin.append_, run_underlying ht, run_underlying hu, sizeOf, typeInfo, hi, hlen, hg, hx, storeCells])

/-- what an append needs to know of its types -/
def chkAp (P : Program) (ts : Array TypeId) (ty sz bytes : Nat) : Bool := match ts[0]?, ts[1]? with
  | some t, some u => (match P.underlying t with
    | some (.slice e) => (match P.info? e with | some i => decide (e = ty) && (i.size == sz && (i.bytes == bytes && (decide (0 < sz) && (decide (0 < bytes) && (match i.zero with | some z => z.cells.size == sz | none => false))))) | none => false)
    | _ => false) && ((match P.underlying u with | some .string => true | some (.slice _) => true | _ => false) && decide (ts.size = 2))
  | _, _ => false

theorem chkAp_ok {ts : Array TypeId} {ty sz bytes : Nat} (h : chkAp P ts ty sz bytes = true) : ∃ t u e i z d, e = ty ∧ ts = #[t, u] ∧ P.underlying t = some (.slice e) ∧ P.underlying u = some d ∧ notInt d ∧ P.info? e = some i ∧ i.zero = some z ∧ z.cells.size = sz ∧ i.size = sz ∧ i.bytes = bytes ∧ 0 < sz ∧ 0 < bytes := by
  unfold chkAp at h
  split at h
  · rename_i t u h0 h1
    simp only [Bool.and_eq_true, decide_eq_true_eq] at h
    obtain ⟨h2, h3, h4⟩ := h
    split at h2
    · rename_i e he
      split at h2
      · rename_i i hi
        simp only [Bool.and_eq_true, beq_iff_eq, decide_eq_true_eq] at h2
        obtain ⟨a0, a1, a2, a3, a4, a5⟩ := h2
        obtain ⟨z, hz, hzs⟩ : ∃ z, i.zero = some z ∧ z.cells.size = sz := by
          split at a5
          · rename_i z hz; exact ⟨z, hz, by simpa using a5⟩
          · simp at a5
        have hts : ts = #[t, u] := by
          obtain ⟨l⟩ := ts
          match l, h4, h0, h1 with
          | [p, q], _, h0, h1 => simp at h0 h1; subst h0; subst h1; rfl
        split at h3
        · rename_i hu; exact ⟨t, u, e, i, z, _, a0, hts, he, hu, .inl rfl, hi, hz, hzs, a1, a2, a3, a4⟩
        · rename_i d hu; exact ⟨t, u, e, i, z, _, a0, hts, he, hu, .inr ⟨_, rfl⟩, hi, hz, hzs, a1, a2, a3, a4⟩
        · simp at h3
      · simp at h2
    · simp at h2
  · simp at h

/-- a row appended to, in its place -/
theorem Inv.appendIn (h : Inv L0 w0 L lam fr H a w) {f ty sz cur minv frz n : Nat} {vals : List Value} (hf : H[f]? = some (.cells ty sz vals cur minv frz false)) {l : Loc} (hl : L f cur = some l) {xs : Array Value} {T : TypeId} {x y : Nat}
    (hb : w.heap[l.B]? = some (.cells xs T (x, y))) (q : Nat) (ns ys : List Value) (hc : CR L ns ys) (hn : ns.length = n * sz) (h1 : l.lo ≤ q) (h2 : q ≤ vals.length) (h3 : q - l.lo + n * sz ≤ l.size) :
    Inv L0 w0 (L.put f (cur + 1) ⟨l.B, l.lo, q + n * sz, l.size, sz, false, l.gap⟩) lam fr (H.set f (.cells ty sz (vals.take q ++ ns) (cur + 1) (if q = vals.length then minv else cur + 1) frz false)) a (w.setRow l.B (splice xs.toList (q - l.lo) ys).toArray) ∧
      L.le (L.put f (cur + 1) ⟨l.B, l.lo, q + n * sz, l.size, sz, false, l.gap⟩) := by
  have hm : minv ≤ cur := (h.rel.heap.obj f _ hf).1
  obtain ⟨e1, e2, e3, e4, e5, e6, e7, g3, g2, cs, T', x', y', hb', hz, hs, r⟩ := h.rel.heap.copy hf hl hm (Nat.le_refl _)
  rw [hb] at hb'; simp at hb'; obtain ⟨rfl, rfl, rfl, rfl⟩ := hb'
  have e5' := e5 rfl
  have hnone : L f (cur + 1) = none := by
    cases hq : L f (cur + 1) with
    | none => rfl
    | some l' => have := h.rel.heap.cub _ _ _ _ _ _ _ _ _ _ hq hf; omega
  have hle := Locs.le_put ⟨l.B, l.lo, q + n * sz, l.size, sz, false, l.gap⟩ hnone
  have hys : ys.length = n * sz := by rw [← hc.1, hn]
  have hspl : q - l.lo + ys.length ≤ xs.toList.length := by simp; omega
  have hflt : f < H.length := (h.rel.heap.dom _ _ _ hl).1
  refine h.setObjPut (w' := w.setRow l.B (splice xs.toList (q - l.lo) ys).toArray) (f := f) ⟨Nat.le_of_eq (setRow_size _ _ _).symm, rfl, rfl, fun B _ hne => setRow_other _ _ _ _ (hne cur l hl e2)⟩ hflt (cur + 1) ⟨l.B, l.lo, q + n * sz, l.size, sz, false, l.gap⟩ hnone rfl (by rw [setRow_size]; exact (h.rel.heap.dom _ _ _ hl).2)
    (.inr ⟨cur, l, hl, rfl, by rw [e2], rfl, rfl⟩) _ ?_ ?_
  · refine ⟨by split <;> omega, g2, ?_, ?_⟩
    · intro v hv
      rw [List.mem_append] at hv
      rcases hv with hv | hv
      · exact g3 v (List.mem_of_mem_take hv)
      · obtain ⟨i, hi, rfl⟩ := List.getElem_of_mem hv
        exact (hc.2 i _ (List.getElem?_eq_getElem hi)).1
    · intro c c1 c2
      have hlen : (vals.take q ++ ns).length = q + n * sz := by simp [hn]; omega
      by_cases hcc : c = cur + 1
      · subst hcc
        refine ⟨_, Locs.put_same _ _ _ _, rfl, rfl, by simp; omega, by rw [hlen]; simp, fun _ => by rw [hlen], by simp; omega, by omega, (splice xs.toList (q - l.lo) ys).toArray, T, x, y, setRow_heap w _ _ _ _ _ hb, hz, ?_, ?_⟩
        · simp only [List.size_toArray]; rw [splice_length hspl]; simpa using hs
        · intro p p1 p2
          simp only at p1 p2
          simp only [List.getElem?_toArray]
          rw [splice_get hspl]
          by_cases hp : p < q
          · rw [if_neg (by omega)]
            obtain ⟨v, u, r1, r2, r3⟩ := r p p1 (by omega)
            refine ⟨v, u, ?_, by simpa using r2, r3.mono hle⟩
            rw [List.getElem?_append_left (by simp; omega), List.getElem?_take, if_pos hp, r1]
          · rw [if_pos (by omega)]
            have hlt : p - q < ns.length := by omega
            obtain ⟨o, u, hu, r'⟩ := hc.2 (p - q) ns[p - q] (List.getElem?_eq_getElem hlt)
            refine ⟨ns[p - q], u, ?_, ?_, r'.mono hle⟩
            · rw [List.getElem?_append_right (by simp; omega)]
              rw [show p - (vals.take q).length = p - q by simp; omega]
              exact List.getElem?_eq_getElem hlt
            · rw [← hu]; congr 1; omega
      · have hq : q = vals.length := by
          split at c1
          · assumption
          · omega
        rw [if_pos hq] at c1
        have hc2 : c ≤ cur := by omega
        obtain ⟨lc, ql, a1, a2, a3, a4, a5, a6, a7, cs, T2, x2, y2, b1, b2, b3, b4⟩ := (h.rel.heap.obj f _ hf).2.2.2 c c1 hc2
        refine ⟨lc, hle _ _ _ ql, a1, a2, a3, by rw [hlen]; omega, fun e => (hcc e).elim, a6, a7, ?_⟩
        have hget : ∀ p : Nat, p < lc.ext → (vals.take q ++ ns)[p]? = vals[p]? := by
          intro p hp
          rw [List.getElem?_append_left (by simp; omega), List.getElem?_take, if_pos (by omega)]
        by_cases hB : lc.B = l.B
        · obtain ⟨s1, s2, _⟩ := h.rel.heap.los _ _ _ _ _ ql hl hB
          rw [hB, hb] at b1; simp at b1; obtain ⟨rfl, rfl, rfl, rfl⟩ := b1
          refine ⟨(splice xs.toList (q - l.lo) ys).toArray, T, x, y, by rw [hB]; exact setRow_heap w _ _ _ _ _ hb, b2, ?_, ?_⟩
          · simp only [List.size_toArray]; rw [splice_length hspl]; simpa using b3
          · intro p p1 p2
            obtain ⟨v, u, r1, r2, r3⟩ := b4 p p1 p2
            refine ⟨v, u, by rw [hget p p2]; exact r1, ?_, r3.mono hle⟩
            simp only [List.getElem?_toArray]
            rw [splice_get hspl, if_neg (by omega)]; simpa using r2
        · refine ⟨cs, T2, x2, y2, by rw [setRow_other _ _ _ _ (Ne.symm hB)]; exact b1, b2, b3, ?_⟩
          intro p p1 p2
          obtain ⟨v, u, r1, r2, r3⟩ := b4 p p1 p2
          exact ⟨v, u, by rw [hget p p2]; exact r1, r2, r3.mono hle⟩
  · intro _ _ _ _ _ _ _ e
    simp at e
    obtain ⟨_, _, _, rfl, _⟩ := e
    exact ⟨Nat.le_refl _, fun c l ql => by have := h.rel.heap.cub _ _ _ _ _ _ _ _ _ _ ql hf; omega⟩

/-- a row appended to, in a new place -/
theorem Inv.appendNew (h : Inv L0 w0 L lam fr H a w) {f ty sz cur minv frz n k : Nat} {vals : List Value} (hf : H[f]? = some (.cells ty sz vals cur minv frz false)) {w' : World} (s : Same w w') (B : Nat) (hB : w.heap.size ≤ B) (hB' : B < w'.heap.size)
    (xs : Array Value) (T : TypeId) (hT : T = ty) (hb : w'.heap[B]? = some (.cells xs T (0, 0))) (off : Nat) (ns olds ys rest : List Value) (hc : CR L ns ys) (hn : ns.length = n * sz) (ho : CR L (cut vals off k) olds) (h2 : off + k ≤ vals.length)
    (hxs : xs.toList = olds ++ ys ++ rest) (size : Nat) (hsize : xs.size = size) :
    Inv L0 w0 (L.put f (cur + 1) ⟨B, off, off + k + n * sz, size, sz, false, 0⟩) lam fr (H.set f (.cells ty sz (vals.take (off + k) ++ ns) (cur + 1) (if off + k = vals.length then minv else cur + 1) frz false)) a w' ∧
      L.le (L.put f (cur + 1) ⟨B, off, off + k + n * sz, size, sz, false, 0⟩) := by
  obtain ⟨g1, g2, g3, g4⟩ := h.rel.heap.obj f _ hf
  have hnone : L f (cur + 1) = none := by
    cases hq : L f (cur + 1) with
    | none => rfl
    | some l' => have := h.rel.heap.cub _ _ _ _ _ _ _ _ _ _ hq hf; omega
  have hle := Locs.le_put ⟨B, off, off + k + n * sz, size, sz, false, 0⟩ hnone
  have hys : ys.length = n * sz := by rw [← hc.1, hn]
  have hk : olds.length = k := by rw [← ho.1, cut_length h2]
  have hflt : f < H.length := (List.getElem?_eq_some_iff.1 hf).1
  have hxl : k + n * sz ≤ size := by
    have := congrArg List.length hxs; simp at this; omega
  refine h.setObjPut (f := f) ⟨s.size, s.os, s.out, fun B hB _ => s.old B hB⟩ hflt (cur + 1) _ hnone rfl hB' (.inl hB) _ ?_ ?_
  · refine ⟨by split <;> omega, g2, ?_, ?_⟩
    · intro v hv
      rw [List.mem_append] at hv
      rcases hv with hv | hv
      · exact g3 v (List.mem_of_mem_take hv)
      · obtain ⟨i, hi, rfl⟩ := List.getElem_of_mem hv
        exact (hc.2 i _ (List.getElem?_eq_getElem hi)).1
    · intro c c1 c2
      have hlen : (vals.take (off + k) ++ ns).length = off + k + n * sz := by simp [hn]; omega
      by_cases hcc : c = cur + 1
      · subst hcc
        refine ⟨_, Locs.put_same _ _ _ _, rfl, rfl, by simp; omega, by rw [hlen]; simp, fun _ => by rw [hlen], by simp; omega, by omega, xs, T, 0, 0, hb, ⟨hT, fun _ _ _ => by omega⟩, hsize, ?_⟩
        intro p p1 p2
        simp only at p1 p2 ⊢
        rw [show xs[p - off]? = xs.toList[p - off]? by simp, hxs]
        by_cases hp : p < off + k
        · obtain ⟨o, u, hu, r'⟩ := ho.2 (p - off) vals[p] (by rw [cut_get, if_pos (by omega), show off + (p - off) = p by omega]; exact List.getElem?_eq_getElem (by omega))
          refine ⟨vals[p], u, ?_, ?_, r'.mono hle⟩
          · rw [List.getElem?_append_left (by simp; omega), List.getElem?_take, if_pos hp]; exact List.getElem?_eq_getElem (by omega)
          · rw [List.append_assoc, List.getElem?_append_left (by omega)]; exact hu
        · have hlt : p - (off + k) < ns.length := by omega
          obtain ⟨o, u, hu, r'⟩ := hc.2 (p - (off + k)) ns[p - (off + k)] (List.getElem?_eq_getElem hlt)
          refine ⟨ns[p - (off + k)], u, ?_, ?_, r'.mono hle⟩
          · rw [List.getElem?_append_right (by simp; omega)]
            rw [show p - (vals.take (off + k)).length = p - (off + k) by simp; omega]
            exact List.getElem?_eq_getElem hlt
          · rw [List.append_assoc, List.getElem?_append_right (by omega), List.getElem?_append_left (by omega), ← hu]; congr 1; omega
      · have hq : off + k = vals.length := by
          split at c1
          · assumption
          · omega
        rw [if_pos hq] at c1
        have hc2 : c ≤ cur := by omega
        obtain ⟨lc, ql, a1, a2, a3, a4, a5, a6, a7, cs, T2, x2, y2, b1, b2, b3, b4⟩ := g4 c c1 hc2
        refine ⟨lc, hle _ _ _ ql, a1, a2, a3, by rw [hlen]; omega, fun e => (hcc e).elim, a6, a7, cs, T2, x2, y2, by rw [s.old _ (h.rel.heap.dom _ _ _ ql).2]; exact b1, b2, b3, ?_⟩
        intro p p1 p2
        obtain ⟨v, u, r1, r2, r3⟩ := b4 p p1 p2
        exact ⟨v, u, by rw [List.getElem?_append_left (by simp; omega), List.getElem?_take, if_pos (by omega)]; exact r1, r2, r3.mono hle⟩
  · intro _ _ _ _ _ _ _ e
    simp at e
    obtain ⟨_, _, _, rfl, _⟩ := e
    exact ⟨Nat.le_refl _, fun c l ql => by have := h.rel.heap.cub _ _ _ _ _ _ _ _ _ _ ql hf; omega⟩

theorem VR.sl' {L : Locs} {f off c len cap cap' B lo ext size sz gap : Nat} {ro : Bool} (h : L f c = some ⟨B, lo, ext, size, sz, ro, gap⟩) (h1 : lo + gap ≤ off) (h2 : off + cap * sz ≤ ext) (h3 : len ≤ cap) (h4 : cap ≤ cap') (h5 : off - lo + cap' * sz ≤ size) :
    VR L (.slice (some ⟨f, off, some c⟩) len cap) (.slice (some ⟨B, off - lo, none⟩) len cap') := .sl f off c len cap cap' _ h h1 h2 h3 h4 h5

/-- what is appended: n elements, their cells -/
structure Src (P : Program) (L : Locs) (w : World) (sz n : Nat) (x : Value) (ns ys : List Value) : Prop where
  cr : CR L ns ys
  len : ys.length = n * sz
  lenOf : Builtin.lenOf x = pure n
  first : (Builtin.firstCells sz n x).run P w = .ok ys.toArray w
  drew : (Builtin.firstCells sz n x).run P w.drew = .ok ys.toArray w.drew

theorem Src.zero {sz : Nat} {x : Value} {ns ys : List Value} (s : Src P L w sz 0 x ns ys) : (Builtin.firstCells sz 0 x).run P w = .ok #[] w := by
  have h0 : ys = [] := List.eq_nil_of_length_eq_zero (by simpa using s.len)
  rw [s.first, h0]

theorem appendV_ok {o : Oper} {Q : Exit → Act → World → Prop} {ty sz bytes n : Nat} {s x sv v : Value} {ns ys : List Value} {ts : Array TypeId} (h : Inv L0 w0 L lam fr H a w) (hk : chkAp P ts ty sz bytes = true) (hs : VR L sv s) (src : Src P L w sz n x ns ys)
    (hap : appendV H ty sz bytes sv ns n = some (v, H')) (hrun : ∀ ty r w', (Builtin.append_ ts ty #[s, x]).run P w = .ok r w' → ty = o.type → (execOp a.eval o).run P w = .ok (.value r) w') : Done P L0 w0 o a w Q (.v v) fr H' := by
  obtain ⟨t, u, e, i, z, d, hety, rfl, ht, hu, hd, hi, hz, hzs, rfl, rfl, hsz, hby⟩ := chkAp_ok hk
  subst hety
  unfold appendV at hap
  split at hap
  · -- onto nil
    cases hs
    split at hap
    · rename_i hn
      simp at hap; obtain ⟨rfl, rfl⟩ := hap
      subst hn
      exact done_v h (hrun o.type _ w (append_nothing_run t u o.type e i d ht hu hd hi none 0 0 x src.lenOf src.zero (Nat.le_refl _)) rfl) .snil
    · rename_i hn
      split at hap
      · rename_i hb
        simp at hap; obtain ⟨rfl, rfl⟩ := hap
        have hn1 : 1 ≤ n := by omega
        have hnb : n ≤ 1099511627776 := by
          have : n * 1 ≤ n * i.bytes := Nat.mul_le_mul_left _ hby
          omega
        have hr := append_grow_run (w := w) t u o.type e i z d ht hu hd hi hz none 0 0 n x [] ys src.lenOf src.drew (by simp [Builtin.firstCells]) (by omega) (by omega)
          (by rw [Nat.zero_add, nextslicecap_zero (by omega)]; omega)
        simp only [Nat.zero_add] at hr
        have hcap : n ≤ grownCap w n 0 e := by unfold grownCap; simp [Question.cut]
        have hcl := src.cr.1
        have hlen := src.len
        refine done_push h (hrun o.type _ _ hr rfl) ((Same.drew w).trans (Same.alloc _ _)) w.heap.size (Nat.le_refl _) (by simp) ns _ e 0 0 i.size hsz (alloc_new w.drew _) (fun k _ q => by omega) ?_ ?_ ?_
        · simp; omega
        · simp only [Array.toList_append, List.nil_append]
          rw [List.take_append_of_le_length (by simpa using Nat.le_of_eq hcl)]
          rw [hcl]; simpa using src.cr
        · intro L' _ q
          have hsz1 : ns.length = n * i.size := by omega
          refine .sl _ _ _ _ _ _ _ q (Nat.zero_le _) ?_ (Nat.le_refl _) hcap ?_
          · simp [hsz1]
          · simp only [Nat.sub_zero, Nat.zero_add]
            have e1 : (grownCap w n 0 e - n) * i.size + n * i.size = grownCap w n 0 e * i.size := by rw [← Nat.add_mul]; congr 1; omega
            simp [Builtin.zeroCells, hlen, hzs]; omega
      · simp at hap
  · rename_i f off c' len cap
    split at hap
    · rename_i hn
      simp at hap; obtain ⟨rfl, rfl⟩ := hap
      subst hn
      obtain ⟨b, cap', rfl⟩ := hs.sl_inv
      have hle : len ≤ cap' := by
        cases hs with
        | sl _ _ _ _ _ _ l hl g1 g2 g3 g4 g5 => omega
        | sl0 => exact Nat.le_refl _
      exact done_v h (hrun o.type _ w (append_nothing_run t u o.type e i d ht hu hd hi b len cap' x src.lenOf src.zero hle) rfl) hs
    · rename_i hn
      split at hap
      · rename_i ty' sz' vals cur minv frz hf
        split at hap
        · rename_i hcond
          obtain ⟨⟨hte, rfl⟩, rfl, hfz, hbd⟩ := hcond
          replace hte := hte.symm
          subst hte
          simp at hap; obtain ⟨rfl, rfl⟩ := hap
          have hn1 : 1 ≤ n := by omega
          have hlenb : len + n ≤ 1099511627776 := by
            have : (len + n) * 1 ≤ (len + n) * i.bytes := Nat.mul_le_mul_left _ hby
            omega
          have hylen := src.len
          have hnl : ns.length = n * i.size := by rw [src.cr.1]; exact hylen
          -- a new place
          have fresh : ∀ (b : Option Addr) (cap' : Nat) (olds : List Value), s = .slice b len cap' → cap' < len + n → CR L (cut vals off (len * i.size)) olds → off + len * i.size ≤ vals.length →
              (∀ w', w' = w.drew → (Builtin.firstCells i.size len (.slice b len cap')).run P w' = .ok olds.toArray w') →
              Done P L0 w0 o a w Q (.v (.slice (some ⟨f, off, some (c' + 1)⟩) (len + n) (len + n))) fr (H.set f (.cells e i.size (vals.take (off + len * i.size) ++ ns) (c' + 1) (if off + len * i.size = vals.length then minv else c' + 1) frz false)) := by
            intro b cap' olds hsv hlt hcr hoff hold
            have hol : olds.length = len * i.size := by rw [← hcr.1, cut_length hoff]
            have hr := append_grow_run (w := w) t u o.type e i z d ht hu hd hi hz b len cap' n x olds ys src.lenOf src.drew (hold _ rfl) (by omega) (by omega) (by exact growslice_fits (by omega) (by omega))
            have hcap : len + n ≤ grownCap w (len + n) cap' e := by unfold grownCap; simp [Question.cut]
            have e1 : (grownCap w (len + n) cap' e - (len + n)) * i.size + (len + n) * i.size = grownCap w (len + n) cap' e * i.size := by rw [← Nat.add_mul]; congr 1; omega
            have e2 : (len + n) * i.size = len * i.size + n * i.size := Nat.add_mul _ _ _
            obtain ⟨hi', hle⟩ := h.appendNew hf ((Same.drew w).trans (Same.alloc _ _)) w.heap.size (Nat.le_refl _) (by simp) (olds.toArray ++ ys.toArray ++ Builtin.zeroCells z.cells (grownCap w (len + n) cap' e - (len + n))) e rfl (alloc_new w.drew _) off ns olds ys (Builtin.zeroCells z.cells (grownCap w (len + n) cap' e - (len + n))).toList src.cr hnl hcr hoff
              (by simp) (grownCap w (len + n) cap' e * i.size) (by simp [Builtin.zeroCells, hzs, hol, hylen]; omega)
            refine wp_value (hrun o.type _ _ (by rw [hsv]; exact hr) rfl) ⟨_, lam, hi'.putV (av := .v _) o.dst ?_⟩
            have hq := Locs.put_same L f (c' + 1) ⟨w.heap.size, off, off + len * i.size + n * i.size, grownCap w (len + n) cap' e * i.size, i.size, false, 0⟩
            have := VR.sl' (off := off) (len := len + n) (cap := len + n) (cap' := grownCap w (len + n) cap' e) hq (Nat.le_refl _) (by omega) (Nat.le_refl _) hcap (by omega)
            rw [Nat.sub_self] at this
            exact this
          cases hs with
          | sl _ _ _ _ _ cap' l hl a1 a2 a3 a4 a5 =>
            have hm : minv ≤ c' := (h.rel.heap.obj f _ hf).1
            obtain ⟨e1, e2, e3, e4, e5, e6, e7, g3, g2, xs, T, x', y', hb, hz', hss, r⟩ := h.rel.heap.copy hf hl hm (Nat.le_refl _)
            have e5' := e5 rfl
            rw [e1] at a2 a5
            have hmul : len * i.size ≤ cap * i.size := Nat.mul_le_mul_right _ a3
            have hmul2 : cap * i.size ≤ cap' * i.size := Nat.mul_le_mul_right _ a4
            by_cases hroom : len + n ≤ cap'
            · have hmul3 : (len + n) * i.size ≤ cap' * i.size := Nat.mul_le_mul_right _ hroom
              have e2' : (len + n) * i.size = len * i.size + n * i.size := Nat.add_mul _ _ _
              have hst := run_stores P l.B (off - l.lo + len * i.size) T (x', y') ys 0 xs w hb (fun k k1 k2 => hz'.2 k (by omega) (by omega)) (by omega) src.cr.ones
              have hq : off - l.lo + len * i.size = off + len * i.size - l.lo := by omega
              obtain ⟨hi', hle⟩ := h.appendIn (n := n) hf hl hb (off + len * i.size) ns ys src.cr hnl (by omega) (by omega) (by omega)
              rw [Nat.add_zero, hq] at hst
              refine wp_value (hrun o.type _ _ (append_room_run t u o.type e i d ht hu hd hi ⟨l.B, off - l.lo, none⟩ len cap' n x ys src.lenOf src.first (by rw [add_off, hq]; exact hst) hroom) rfl) ⟨_, lam, hi'.putV (av := .v _) o.dst ?_⟩
              have hq2 := Locs.put_same L f (c' + 1) ⟨l.B, l.lo, off + len * i.size + n * i.size, l.size, i.size, false, l.gap⟩
              exact VR.sl' (off := off) (len := len + n) (cap := len + n) (cap' := cap') hq2 a1 (by omega) (Nat.le_refl _) hroom (by omega)
            · have hcr := CR.of_row (L := L) (vals := vals) (xs := xs.toList) (lo := l.lo) (g := l.gap) (ext := l.ext) (off := off) (n := len * i.size) g3 (by simpa using r) a1 (by omega) e4 (by simp; omega)
              refine fresh _ cap' _ rfl (by omega) hcr (by omega) ?_
              rintro w' rfl
              simp only [Builtin.firstCells]
              exact run_cut P w.drew l.B (off - l.lo) (len * i.size) xs T (x', y') hb (by omega)
          | sl0 _ _ _ b l hl a1 a2 =>
            have hm : minv ≤ c' := (h.rel.heap.obj f _ hf).1
            obtain ⟨e1, e2, e3, e4, _⟩ := h.rel.heap.copy hf hl hm (Nat.le_refl _)
            refine fresh _ 0 [] rfl (by omega) (by simp [AM.cut]; exact CR.nil _) (by omega) ?_
            rintro w' rfl
            simp [Builtin.firstCells, loadCells, loadCellsFrom]
        · simp at hap
      · simp at hap
  · simp at hap

end Go.AM
