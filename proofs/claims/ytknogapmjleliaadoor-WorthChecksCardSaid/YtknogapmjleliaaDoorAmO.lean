/- One operation: aggregates, comparisons of aggregates, nil. No condition. -/
import Derived.Test.YtknogapmjleliaaDoorAmN
namespace Go.AM
open Go

variable {P : Program} {L0 L : Locs} {w0 w : World} {lam : Nat → Nat} {fr fr' : Fr} {H H' : Heap} {a : Act}

theorem fold_set (off : Nat) : ∀ (vs : List Value) (k : Nat) (cells : Array Value), off + k + vs.length ≤ cells.size →
    ((vs.zipIdx k).foldl (fun cs (p : Value × Nat) => cs.setIfInBounds (off + p.2) p.1) cells).toList = splice cells.toList (off + k) vs
  | [], k, cells, _ => by simp [splice]
  | v :: r, k, cells, h => by
    simp only [List.zipIdx_cons, List.foldl_cons]
    rw [fold_set off r (k + 1) _ (by simp at h ⊢; omega)]
    have e := list_seg_step cells.toList (off + k) v r (by simp at h ⊢; omega)
    simpa [splice, Array.toList_setIfInBounds, Nat.add_assoc] using e

def chkParts (place : Nat → Option (Nat × Nat)) : List (Nat × Operand) → List (Nat × Nat × Opd) → Bool
  | [], [] => true
  | (i, o) :: r, (off, n, x) :: l => decide (place i = some (off, n)) && (chkOpd o x && chkParts place r l)
  | _, _ => false

theorem fill_ok (h : Inv L0 w0 L lam fr H a w) (place : Nat → Option (Nat × Nat)) : ∀ (ps : List (Nat × Operand)) (qs : List (Nat × Nat × Opd)) (l : List (Nat × Nat × Value)) (cells cs : List Value) (ys : Array Value), chkParts place ps qs = true → evPs fr qs = some l →
    fillA cells l = some cs → CR L cells ys.toList → ∃ ys' : Array Value, Instr.fill place ys (ps.map fun x => (x.1, a.eval x.2)) = some ys' ∧ CR L cs ys'.toList
  | [], [], l, cells, cs, ys, _, hl, hf, hc => by
    simp [evPs] at hl; subst hl
    simp [fillA] at hf; subst hf
    exact ⟨ys, by simp [Instr.fill], hc⟩
  | (i, o) :: r, (off, n, x) :: q, l, cells, cs, ys, hk, hl, hf, hc => by
    simp only [chkParts, Bool.and_eq_true, decide_eq_true_eq] at hk
    simp only [evPs] at hl
    split at hl
    · rename_i v l' hv hl'
      simp at hl; subst hl
      simp only [fillA] at hf
      split at hf
      · rename_i vs hvs
        split at hf
        · rename_i hcond
          have hcv := (evV_ok h hk.2.1 hv).cellsV hvs
          have hvl : (a.eval o).cells.size = n := by have := hcv.1; simp at this; omega
          have hyl : off + (a.eval o).cells.toList.length ≤ ys.size := by have := hc.1; simp at this ⊢; omega
          have hfold := fold_set off (a.eval o).cells.toList 0 ys (by simpa using hyl)
          have hcr : CR L (splice cells off vs) (splice ys.toList off (a.eval o).cells.toList) := hc.splice hcv off
          rw [Nat.add_zero] at hfold
          rw [← hfold] at hcr
          obtain ⟨ys', h1, h2⟩ := fill_ok h place r q l' _ cs _ hk.2.2 hl' hf hcr
          refine ⟨ys', ?_, h2⟩
          rw [← h1]
          simp only [List.map_cons, Instr.fill, hk.1]
          rw [if_neg (by simp [hvl]; simp at hyl; omega)]
          congr 1
          rw [← Array.foldl_toList]
          simp
        · simp at hf
      · simp at hf
    · simp at hl
  | [], _ :: _, _, _, _, _, hk, _, _, _ => by simp [chkParts] at hk
  | _ :: _, [], _, _, _, _, hk, _, _, _ => by simp [chkParts] at hk

def chkBuild (P : Program) (o : Op) (z : List Value) (ps : List (Nat × Nat × Opd)) : Bool := match o with
  | .build t parts => zeroIs P t z && (match P.underlying t with
      | some (.struct fields) => (match fields.toList.mapM (fun f => (P.info? f.type).map fun i => (f.offset, i.size)) with
        | some places => chkParts (places.toArray[·]?) parts.toList ps
        | none => false)
      | some (.array _ e) => (match P.info? e with | some ie => chkParts (fun i => some (i * ie.size, ie.size)) parts.toList ps | none => false)
      | _ => false)
  | _ => false

theorem zeroIs_info {t : TypeId} {z : List Value} (h : zeroIs P t z = true) : ∃ i v, P.info? t = some i ∧ i.zero = some v ∧ ∀ L, CR L z v.cells.toList := by
  unfold zeroIs at h
  split at h
  · rename_i i hi
    split at h
    · rename_i v hv; exact ⟨i, v, hi, hv, fun L => cellsC_ok L h⟩
    · simp at h
  · simp at h

theorem step_build {o : Oper} {Q : Exit → Act → World → Prop} {z : List Value} {ps : List (Nat × Nat × Opd)} {c : SC} (h : Inv L0 w0 L lam fr H a w) (hk : chkBuild P o.op z ps = true) {C : Callee} (hs : stepA C fr H (.build z ps) = some (c, fr', H')) : Done P L0 w0 o a w Q c fr' H' := by
  unfold chkBuild at hk
  split at hk
  · rename_i t parts hop
    simp only [Bool.and_eq_true] at hk
    obtain ⟨hz, hk⟩ := hk
    obtain ⟨it, zv, hit, hzv, hzc⟩ := zeroIs_info hz
    simp only [stepA] at hs
    split at hs
    · rename_i l hl
      split at hs
      · rename_i cs hcs
        simp at hs; obtain ⟨rfl, rfl, rfl⟩ := hs
        have fin : ∀ place : Nat → Option (Nat × Nat), chkParts place parts.toList ps = true → (∀ ys', Instr.fill place zv.cells (parts.toList.map fun x => (x.1, a.eval x.2)) = some ys' → P.built t (parts.toList.map fun x => (x.1, a.eval x.2)) = some ys') → Done P L0 w0 o a w Q (.v (.agg cs.toArray)) fr H := by
          intro place hp hb
          obtain ⟨ys', h1, h2⟩ := fill_ok h place _ _ l z cs zv.cells hp hl hcs (hzc L)
          have hr := run_build (P := P) w t (parts.map fun x => (x.1, a.eval x.2)) ys' (by simpa using hb ys' h1)
          refine done_v (x := .agg ys') h (by simp [execOp, hop, hr]) ?_
          have := VR.of_agg h2
          simpa using this
        split at hk
        · rename_i fields hu
          split at hk
          · rename_i places hpl
            refine fin _ hk fun ys' hf => ?_
            simpa [Program.built, hit, hu, hzv, hpl] using hf
          · simp at hk
        · rename_i n e hu
          split at hk
          · rename_i ie hie
            refine fin _ hk fun ys' hf => ?_
            simp [Program.built, hit, hu, hzv, hie, hf]
          · simp at hk
        · simp at hk
      · simp at hs
    · simp at hs
  · simp at hk

def chkBuildSl (P : Program) (o : Op) (ty sz n : Nat) (z : List Value) (ps : List (Nat × Nat × Opd)) : Bool := match o with
  | .buildSlice t len parts => decide (len = n) && (match P.underlying t with
      | some (.slice e) => decide (e = ty) && szIs P e sz && (decide (0 < sz) && (decide (0 < n) && (decide (n * sz ≤ 16777216) && (match P.info? e with
          | some i => (match i.zero with | some v => v.cells.size == sz && cellsC z ((Array.range (n * sz)).map (v.cells[· % v.cells.size]!)).toList | none => false)
          | none => false)))) && chkParts (fun i => some (i * sz, sz)) parts.toList ps
      | _ => false)
  | _ => false

theorem step_buildSl {o : Oper} {Q : Exit → Act → World → Prop} {ty sz n : Nat} {z : List Value} {ps : List (Nat × Nat × Opd)} {c : SC} (h : Inv L0 w0 L lam fr H a w) (hk : chkBuildSl P o.op ty sz n z ps = true) {C : Callee} (hs : stepA C fr H (.buildSl ty sz n z ps) = some (c, fr', H')) : Done P L0 w0 o a w Q c fr' H' := by
  unfold chkBuildSl at hk
  split at hk
  · rename_i t len parts hop
    simp only [Bool.and_eq_true, decide_eq_true_eq] at hk
    obtain ⟨rfl, hk⟩ := hk
    split at hk
    · rename_i e hu
      simp only [Bool.and_eq_true, decide_eq_true_eq] at hk
      obtain ⟨⟨⟨rfl, hsz⟩, hpos, hn, hbig, hk⟩, hp⟩ := hk
      have hszr := szIs_run hsz w
      split at hk
      · rename_i i hi
        split at hk
        · rename_i v hv
          simp only [Bool.and_eq_true, beq_iff_eq] at hk
          obtain ⟨hvs, hzc⟩ := hk
          simp only [stepA] at hs
          split at hs
          · rename_i l hl
            split at hs
            · rename_i cs hcs
              simp at hs; obtain ⟨rfl, rfl, rfl⟩ := hs
              obtain ⟨ys', h1, h2⟩ := fill_ok h _ _ _ l z cs ((Array.range (len * sz)).map (v.cells[· % v.cells.size]!)) hp hl hcs (cellsC_ok L hzc)
              have hzr : (zeroValue e).run P w = .ok v w := by
                simp only [zeroValue, Sem.run_bind, run_typeInfo w hi, Result.andThen_ok, hv]; rfl
              have hne : ¬ len * sz = 0 := by
                have : 0 < len * sz := Nat.mul_pos hn hpos
                omega
              have hbig' : ¬ (len * sz > 2 ^ 24) := by omega
              have hrun : (execOp a.eval o).run P w = .ok (.value (.slice (some ⟨w.heap.size, 0, none⟩) len len)) (w.alloc (.cells ys' e)) := by
                have hm : (parts.map fun x => (x.1, a.eval x.2)).toList = parts.toList.map fun x => (x.1, a.eval x.2) := by simp
                simp only [execOp, hop, Instr.buildSlice, Sem.run_bind, run_underlying hu, Result.andThen_ok, hszr, if_neg hbig', if_neg hne, hzr, Sem.run_pure, hm, h1, newRow, run_newObj_alloc]
              have hl2 := h2.1
              have hsize : cs.length = len * sz := by
                have e1 := (cellsC_ok L hzc).1
                have : ∀ (l : List (Nat × Nat × Value)) (c d : List Value), fillA c l = some d → d.length = c.length := by
                  intro l
                  induction l with
                  | nil => intro c d q; simp [fillA] at q; subst q; rfl
                  | cons p l ih =>
                    intro c d q
                    obtain ⟨o1, n1, v1⟩ := p
                    simp only [fillA] at q
                    split at q
                    · rename_i vs _
                      split at q
                      · rename_i hq
                        rw [ih _ _ q, splice_length (by omega)]
                      · simp at q
                    · simp at q
                rw [this l z cs hcs, e1]; simp
              have hys : ys'.size = len * sz := by rw [← hsize, hl2]; simp
              refine done_push h hrun (Same.alloc _ _) w.heap.size (Nat.le_refl _) (alloc_lt _ _) cs ys' e 0 0 sz hpos (alloc_new _ _) (fun k _ q => by omega) (by simpa using Nat.le_of_eq hl2) (by rw [hl2, List.take_length]; exact h2) ?_
              intro L' _ q
              exact VR.sl' (B := w.heap.size) (lo := 0) (off := 0) q (Nat.le_refl _) (by omega) (Nat.le_refl _) (Nat.le_refl _) (by omega)
            · simp at hs
          · simp at hs
        · simp at hk
      · simp at hk
    · simp at hk
  · simp at hk


end Go.AM
