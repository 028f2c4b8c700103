/- What comes in: slices of plain cells as rows that are only read; what a call keeps of the world. No condition. -/
import Derived.Test.YtknogapmjleliaaDoorAmSd
import Derived.Below
import Derived.ChangeArms
import Derived.Carry
namespace Go.AM
open Go

/-- plain cells: numbers, truths, texts -/
def plain1 : Value → Bool
  | .int _ _ => true
  | .bool _ => true
  | .string _ => true
  | _ => false

theorem VR.plain {L : Locs} {v : Value} (h : plain1 v = true) : VR L v v := by
  cases v <;> simp [plain1] at h
  · exact .bool _
  · exact .int _ _
  · exact .str _

theorem one_plain {v : Value} (h : plain1 v = true) : one1 v := by
  cases v <;> simp [plain1] at h <;> trivial

/-- all rows are only read -/
def Ro (L : Locs) : Prop := ∀ f c l, L f c = some l → l.ro = true

def noLocs : Locs := fun _ _ => none

theorem HR.no (w : World) : HR noLocs [] w where
  obj f o h := by simp at h
  dom f c l h := by simp [noLocs] at h
  dis f c l f' c' l' h := by simp [noLocs] at h
  cub f c l ty sz vals cur minv frz ro h := by simp [noLocs] at h
  los f c c' l l' h := by simp [noLocs] at h

theorem Ro.no : Ro noLocs := fun f c l h => by simp [noLocs] at h

/-- a row more, only read -/
theorem HR.row {L : Locs} {H : Heap} {w : World} (h : HR L H w) (hr : Ro L) {B T x y off sz : Nat} {cs : Array Value} (hb : w.heap[B]? = some (.cells cs T (x, y))) (hsz : 0 < sz) (ws : List Value) (hp : ∀ v ∈ ws, plain1 v = true)
    (hw : ∀ j v, ws[j]? = some v → cs[off + j]? = some v) (hle : off + ws.length ≤ cs.size) :
    ∃ L', HR L' (H ++ [.cells T sz (List.replicate off (.bool false) ++ ws) 0 0 cs.size true]) w ∧ Ro L' ∧ L.le L' ∧ L' H.length 0 = some ⟨B, 0, off + ws.length, cs.size, sz, true, off⟩ := by
  have hn : L H.length 0 = none := by
    cases hq : L H.length 0 with
    | none => rfl
    | some l => have := (h.dom _ _ _ hq).1; omega
  have hB : B < w.heap.size := by
    rcases Nat.lt_or_ge B w.heap.size with q | q
    · exact q
    · simp [Array.getElem?_eq_none q] at hb
  have hle' := Locs.le_put (L := L) (f := H.length) (c := 0) ⟨B, 0, off + ws.length, cs.size, sz, true, off⟩ hn
  refine ⟨L.put H.length 0 ⟨B, 0, off + ws.length, cs.size, sz, true, off⟩, ⟨?_, ?_, ?_, ?_, ?_⟩, ?_, hle', Locs.put_same _ _ _ _⟩
  · intro f o q
    rw [List.getElem?_append] at q
    split at q
    · exact (h.obj f o q).mono hle'
    · rename_i hf
      have : f = H.length := by
        rcases Nat.lt_or_ge (f - H.length) 1 with h1 | h1
        · omega
        · rw [List.getElem?_eq_none (by simpa using h1)] at q; simp at q
      subst this
      simp at q
      subst q
      refine ⟨Nat.le_refl _, hsz, ?_, ?_⟩
      · intro v hv
        rcases List.mem_append.1 hv with hv | hv
        · rw [List.eq_of_mem_replicate hv]; trivial
        · exact one_plain (hp v hv)
      · intro c _ h2
        obtain rfl : c = 0 := by omega
        refine ⟨_, Locs.put_same _ _ _ _, rfl, rfl, Nat.zero_le _, by simp, fun _ => by simp, by simpa using hle, fun _ => rfl, cs, T, x, y, hb, ⟨rfl, ?_⟩, rfl, ?_⟩
        · intro k hk1 hk2
          simp only at hk1 hk2; omega
        · intro p p1 p2
          simp only [Nat.zero_add] at p1
          simp only at p2
          have hj : p - off < ws.length := by omega
          refine ⟨ws[p - off], ws[p - off], ?_, ?_, VR.plain (hp _ (List.getElem_mem hj))⟩
          · rw [List.getElem?_append_right (by simp; omega)]; simp
          · have := hw (p - off) _ (List.getElem?_eq_getElem hj)
            rw [show off + (p - off) = p by omega] at this
            simpa using this
  · intro f c l q
    rcases Locs.put_some q with ⟨rfl, rfl, rfl⟩ | ⟨_, q⟩
    · exact ⟨by simp, hB⟩
    · exact ⟨by have := (h.dom _ _ _ q).1; simp; omega, (h.dom _ _ _ q).2⟩
  · intro f c l f' c' l' q q' hro
    rcases Locs.put_some q with ⟨rfl, rfl, rfl⟩ | ⟨_, q⟩
    · simp at hro
    · rw [hr _ _ _ q] at hro; simp at hro
  · intro f c l ty' sz' vals' cur minv frz ro q ho
    rcases Locs.put_some q with ⟨rfl, rfl, rfl⟩ | ⟨_, q⟩
    · exact Nat.zero_le _
    · rw [List.getElem?_append_left (h.dom _ _ _ q).1] at ho
      exact h.cub _ _ _ _ _ _ _ _ _ _ q ho
  · intro f c c' l l' q q' he
    rcases Locs.put_some q with ⟨rfl, rfl, rfl⟩ | ⟨_, qq⟩ <;> rcases Locs.put_some q' with ⟨e1, rfl, rfl⟩ | ⟨_, qq'⟩
    · exact ⟨rfl, rfl, rfl⟩
    · have := (h.dom _ _ _ qq').1; omega
    · have := (h.dom _ _ _ qq).1; omega
    · exact h.los _ _ _ _ _ qq qq' he
  · intro f c l q
    rcases Locs.put_some q with ⟨rfl, rfl, rfl⟩ | ⟨_, q⟩
    · rfl
    · exact hr _ _ _ q

theorem cells_get {w : World} {base : Nat} {a : Addr} {n : Nat} {cs : List Value} (h : w.cells? base a n = some cs) : cs.length = n ∧ ∀ i, i < n → w.cell? (a.add i) = cs[i]? := by
  unfold World.cells? at h
  split at h
  · refine ⟨by simpa using mapM_some_length h, fun i hi => ?_⟩
    exact mapM_some_get h i i (by simp [hi])
  · simp at h

theorem add_add (a : Addr) (m j : Nat) : (a.add m).add j = a.add (m + j) := by
  unfold Addr.add
  by_cases hm : m = 0
  · subst hm; simp
  · by_cases hj : j = 0
    · subst hj; simp [hm]
    · have : m + j ≠ 0 := by omega
      simp [hm, hj, this]; omega

/-- a slice of plain cells that came in -/
theorem HR.slice {L : Locs} {H : Heap} {w : World} (h : HR L H w) (hr : Ro L) {a : Addr} {len cap sz : Nat} (hsz : 0 < sz) {xs : List (List Value)} (hl : len ≤ cap) (hc : xs.length = cap) (hx : ∀ x ∈ xs, x.length = sz ∧ ∀ v ∈ x, plain1 v = true)
    (hcell : ∀ i x, xs[i]? = some x → w.cells? 0 (a.add (i * sz)) sz = some x) (hblk : ∃ (B : Nat) (cs : Array Value) (T : TypeId) (fz : Nat × Nat), w.heap[B]? = some (Obj.cells cs T fz)) :
    ∃ L' H' a', HR L' H' w ∧ Ro L' ∧ L.le L' ∧ Pre H H' ∧ VR L' (.slice a' len cap) (.slice (some a) len cap) ∧ Sl H' sz a' len cap (xs.take len) := by
  by_cases h0 : cap = 0
  · subst h0
    obtain rfl : len = 0 := by omega
    have : xs = [] := List.eq_nil_of_length_eq_zero hc
    subst this
    obtain ⟨B, cs, T, ⟨x, y⟩, hb⟩ := hblk
    obtain ⟨L', h', hr', hle, hl'⟩ := h.row hr hb (off := 0) hsz [] (by simp) (by simp) (by simp)
    refine ⟨L', _, some ⟨H.length, 0, some 0⟩, h', hr', hle, Pre.app _ _, .sl0 _ _ _ _ _ hl' (Nat.le_refl _) (Nat.le_refl _), rfl, Nat.le_refl _, by simp, .inr ⟨H.length, 0, 0, T, _, 0, 0, cs.size, true, rfl, List.getElem?_concat_length, Nat.le_refl _, Nat.le_refl _, by simp [cut], by simp⟩⟩
  · have hall : ∀ x ∈ xs, x.length = sz := fun x q => (hx x q).1
    have hfl := flatten_len hall
    rw [hc] at hfl
    -- the first cell
    have hpos : 0 < cap * sz := Nat.mul_pos (by omega) hsz
    have get : ∀ j v, xs.flatten[j]? = some v → w.cell? (a.add j) = some v := by
      intro j v hv
      have hj : j < cap * sz := by rw [← hfl]; exact (List.getElem?_eq_some_iff.1 hv).1
      have hi : j / sz < cap := by
        rw [Nat.div_lt_iff_lt_mul hsz]; exact hj
      have hxi : xs[j / sz]? = some xs[j / sz] := List.getElem?_eq_getElem (by omega)
      have hm : j % sz < sz := Nat.mod_lt _ hsz
      have hcl := (cells_get (hcell _ _ hxi)).2 (j % sz) hm
      rw [add_add, Nat.mul_comm, Nat.div_add_mod] at hcl
      rw [hcl]
      have := flatten_cut hall hxi (d := j % sz) (k := 1) (by omega)
      rw [Nat.mul_comm, Nat.div_add_mod] at this
      have e1 : (cut xs.flatten j 1)[0]? = some v := by simp [cut, hv]
      rw [this] at e1
      simpa [cut] using e1
    have h00 : 0 < xs.flatten.length := by omega
    have c0 := get 0 _ (List.getElem?_eq_getElem h00)
    have ha0 : a.add 0 = a := by simp [Addr.add]
    rw [ha0] at c0
    obtain ⟨B, off, spot⟩ := a
    have hsp : spot = none := by
      unfold World.cell? at c0
      split at c0
      · cases spot with
        | none => rfl
        | some s => simp at c0
      · simp at c0
    subst hsp
    obtain ⟨cs, T, fz, hb⟩ : ∃ cs T fz, w.heap[B]? = some (.cells cs T fz) := by
      unfold World.cell? at c0
      split at c0
      · rename_i cs T fz hb; exact ⟨cs, T, fz, hb⟩
      · simp at c0
    obtain ⟨x, y⟩ := fz
    have hw : ∀ j v, xs.flatten[j]? = some v → cs[off + j]? = some v := by
      intro j v hv
      have := get j v hv
      have e : (⟨B, off, none⟩ : Addr).add j = ⟨B, off + j, none⟩ := by
        unfold Addr.add; split
        · rename_i q; subst q; rfl
        · rfl
      rw [e] at this
      simpa [World.cell?, hb] using this
    have hle : off + xs.flatten.length ≤ cs.size := by
      have hlast : xs.flatten.length - 1 < xs.flatten.length := by omega
      have := hw _ _ (List.getElem?_eq_getElem hlast)
      have := (Array.getElem?_eq_some_iff.1 this).1
      omega
    obtain ⟨L', h', hr', hle', hl'⟩ := h.row hr hb hsz xs.flatten (fun v hv => by
      obtain ⟨z, hz, hv⟩ := List.mem_flatten.1 hv
      exact (hx z hz).2 v hv) hw hle
    have hm : len * sz ≤ cap * sz := Nat.mul_le_mul_right _ hl
    refine ⟨L', _, some ⟨H.length, off, some 0⟩, h', hr', hle', Pre.app _ _, ?_, by simp; omega, hl, fun z hz => hall z (List.mem_of_mem_take hz), .inr ⟨H.length, off, 0, T, _, 0, 0, cs.size, true, rfl, List.getElem?_concat_length, Nat.le_refl _, Nat.le_refl _, ?_, by rw [List.length_append, List.length_replicate, hfl]; omega⟩⟩
    · have := VR.sl H.length off 0 len cap cap ⟨B, 0, off + xs.flatten.length, cs.size, sz, true, off⟩ hl' (by simp) (by simp only; omega) hl (Nat.le_refl _) (by simp only; omega)
      simpa using this
    · rw [flatten_take hall]
      simp only [cut]
      rw [List.drop_append_of_le_length (by simp)]
      simp

/-- what a call over rows that are only read keeps: all old blocks -/
structure Old (w w' : World) : Prop where
  os : w'.os = w.os
  out : w'.output = w.output
  size : w.heap.size ≤ w'.heap.size
  block : ∀ k, k < w.heap.size → w'.heap[k]? = w.heap[k]?

theorem Keep.oldAll {L L' : Locs} {w w' : World} (k : Keep L w L' w') (hr : Ro L) : Old w w' :=
  ⟨k.os, k.out, k.size, fun B hB => k.old B hB (fun f c l hl hro => by rw [hr f c l hl] at hro; simp at hro)⟩

theorem Old.frame {W w' : World} (h : Old W w') (may : MemPlace → Prop) : W.keptBut w' may := by
  refine ⟨h.os, h.out, fun i hi => ?_⟩
  rw [h.block i hi]
  split <;> simp_all

theorem Old.same {W w' : World} (h : Old W w') {p : MemPlace} (hp : p.block < W.heap.size) : W.sameAt w' p := by
  cases p with
  | cell b o => exact World.cell?_of_block (w := W) (h.block b hp)
  | map b => exact h.block b hp

theorem Old.trod {H : Type} {enc : TypeId × Value → H} {P : Program} {t : TypeId} (hl : laidOutB P = true) (hr : P.readableRec t = true) (hrow : t < P.types.size) {W W' : World} {v : Value} {d : DataW H} {ps : List MemPlace}
    (h : DataW.Trod enc P W 0 (fun _ => true) true t v d ps) (hb : Old W W') (hlt : ∀ x ∈ ps, x.block < W.heap.size) :
    DataW.Trod enc P W' 0 (fun b => decide (b < W.heap.size)) true t v d ps :=
  WideElems.Trod_stays hl hr hrow h (fun x hx => hb.same (hlt x hx)) (fun x hx => by simpa using hlt x hx)

end Go.AM
