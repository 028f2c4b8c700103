/- One operation: append, copy, make, literals, comparisons. No condition. -/
import Derived.Test.YtknogapmjleliaaDoorAmL
import Derived.Laws.StructEq
namespace Go.AM
open Go

variable {P : Program} {L0 L : Locs} {w0 w : World} {lam : Nat → Nat} {fr fr' : Fr} {H H' : Heap} {a : Act}

def chkAppend (P : Program) (o : Op) (ty sz bytes : Nat) (s x : Opd) : Bool := match o with
  | .call ⟨.builtin .append, args, ts⟩ => chkOpds args.toList [s, x] && chkAp P ts ty sz bytes
  | _ => false

theorem strCR (L : Locs) (b : ByteArray) : CR L (b.data.toList.map fun b => Value.int .u8 b.toNat) (b.data.toList.map fun b => Value.int .u8 b.toNat) := by
  refine ⟨rfl, fun i v q => ?_⟩
  have : ∃ n : Int, v = .int .u8 n := by
    rw [List.getElem?_map] at q
    cases h : b.data.toList[i]? with
    | none => rw [h] at q; simp at q
    | some u => rw [h] at q; simp at q; exact ⟨_, q.symm⟩
  obtain ⟨n, rfl⟩ := this
  exact ⟨trivial, _, q, .int _ _⟩

theorem step_append {o : Oper} {Q : Exit → Act → World → Prop} {ty sz bytes : Nat} {s x : Opd} {c : SC} (h : Inv L0 w0 L lam fr H a w) (hk : chkAppend P o.op ty sz bytes s x = true) {C : Callee} (hs : stepA C fr H (.append ty sz bytes s x) = some (c, fr', H')) : Done P L0 w0 o a w Q c fr' H' := by
  unfold chkAppend at hk
  split at hk
  · rename_i args ts hop
    simp only [Bool.and_eq_true] at hk
    obtain ⟨hx, hap⟩ := hk
    obtain ⟨s', x', rfl, hs', hx'⟩ := opds2 hx
    simp only [stepA] at hs
    split at hs
    · rename_i sv b hsv hxv
      split at hs
      · rename_i hsz
        subst hsz
        obtain ⟨u, hv, rfl, rfl⟩ := one_append_def hs
        have e := (evV_ok h hx' hxv).str_inv
        have hfc : ∀ w : World, (Builtin.firstCells 1 b.size (.string b)).run P w = .ok (b.data.toList.map fun b => Value.int .u8 b.toNat).toArray w := by
          intro w
          have : b.extract 0 b.size = b := by
            have := ByteArray.extract_zero_size (b := b); exact this
          simp only [Builtin.firstCells, this, Sem.run_pure]
          congr 1; apply Array.ext'; simp
        refine appendV_ok (s := a.eval s') (x := .string b) h hap (evV_ok h hs' hsv) (⟨strCR L b, by simp, rfl, hfc w, hfc w.drew⟩) hv ?_
        rintro ty r w' hr rfl
        simp [execOp, hop, resolve, invoke, builtin, e, hr]
      · simp at hs
    · rename_i sv xv _ hsv hxv
      split at hs
      · rename_i ns n hns hn
        obtain ⟨u, hv, rfl, rfl⟩ := one_append_def hs
        have r := evV_ok h hx' hxv
        obtain ⟨ys, c1, c2, c3, c4, _⟩ := rdSl_sound h.rel.heap r hns hn
        have e1 := c4 P n w rfl (Nat.le_refl _)
        have e2 := c4 P n w.drew rfl (Nat.le_refl _)
        rw [← c2, List.take_length] at e1 e2
        refine appendV_ok (s := a.eval s') (x := a.eval x') h hap (evV_ok h hs' hsv) ⟨c1, c2, c3, e1, e2⟩ hv ?_
        rintro ty r w' hr rfl
        simp [execOp, hop, resolve, invoke, builtin, hr]
      · simp at hs
    · simp at hs
  · simp at hk


def chkCopy (P : Program) (o : Op) (sz : Nat) (d x : Opd) : Bool := match o with
  | .call ⟨.builtin .copy, args, ts⟩ => chkOpds args.toList [d, x] && (match ts[0]? with | some t => slIs P t sz | none => false) && decide (0 < ts.size)
  | _ => false

theorem step_copy {o : Oper} {Q : Exit → Act → World → Prop} {sz : Nat} {d x : Opd} {c : SC} (h : Inv L0 w0 L lam fr H a w) (hk : chkCopy P o.op sz d x = true) {C : Callee} (hs : stepA C fr H (.copy sz d x) = some (c, fr', H')) : Done P L0 w0 o a w Q c fr' H' := by
  unfold chkCopy at hk
  split at hk
  · rename_i args ts hop
    simp only [Bool.and_eq_true] at hk
    obtain ⟨⟨hx, ht⟩, _⟩ := hk
    obtain ⟨d', x', rfl, hd', hx'⟩ := opds2 hx
    split at ht
    · rename_i t hts
      obtain ⟨e, hu, hsz, hpos⟩ := slIs_und ht
      have hszr := szIs_run hsz w
      simp only [stepA] at hs
      split at hs
      · rename_i b hdv hbv
        split at hs
        · rename_i ns hns
          simp at hs; obtain ⟨rfl, rfl, rfl⟩ := hs
          have r := evV_ok h hx' hbv
          have rd := evV_ok h hd' hdv
          obtain ⟨n, hn⟩ : ∃ n, slLen b = some n := by
            unfold rdSl at hns; split at hns
            · exact ⟨0, rfl⟩
            · exact ⟨_, rfl⟩
            · simp at hns
          obtain ⟨ys, c1, c2, c3, c4, _⟩ := rdSl_sound h.rel.heap r hns hn
          have e1 := c4 P 0 w rfl (Nat.zero_le _)
          simp at e1
          generalize he : a.eval d' = z at rd
          cases rd
          refine done_v h ?_ (.int _ _)
          simp [execOp, hop, resolve, invoke, builtin, Builtin.copy_, hts, run_underlying hu, he, c3, hszr, e1, goInt]
        · simp at hs
      · rename_i f off c' len cap b hdv hbv
        split at hs
        · rename_i ns n ty' sz' vals cur minv frz hns hn hf
          split at hs
          · rename_i hcond
            obtain ⟨rfl, rfl, hfz⟩ := hcond
            simp at hs; obtain ⟨rfl, rfl, rfl⟩ := hs
            have r := evV_ok h hx' hbv
            have rd := evV_ok h hd' hdv
            obtain ⟨ys, c1, c2, c3, c4, _⟩ := rdSl_sound h.rel.heap r hns hn
            have e1 := c4 P (min n len) w rfl (Nat.min_le_left _ _)
            generalize he : a.eval d' = z at rd
            have hm : minv ≤ c' := (h.rel.heap.obj f _ hf).1
            have hcm : CR L (ns.take (min n len * sz')) (ys.take (min n len * sz')) := c1.take _
            have hmn : min n len * sz' ≤ n * sz' := Nat.mul_le_mul_right _ (Nat.min_le_left _ _)
            have hml : min n len * sz' ≤ len * sz' := Nat.mul_le_mul_right _ (Nat.min_le_right _ _)
            have hyl : (ys.take (min n len * sz')).length = min n len * sz' := by simp; omega
            have hnl : (ns.take (min n len * sz')).length = min n len * sz' := by rw [hcm.1, hyl]
            cases rd with
            | sl _ _ _ _ _ cap' l hl g1 g2 g3 g4 g5 =>
              obtain ⟨a1, a2, a3, a4, a5, a6, a7, b3, b2, xs, T, x1, y1, hb, hz', hss, rr⟩ := h.rel.heap.copy hf hl hm (Nat.le_refl _)
              have a5' := a5 rfl
              rw [a1] at g2 g5
              have hmul : len * sz' ≤ cap * sz' := Nat.mul_le_mul_right _ g3
              have hst := run_stores P l.B (off - l.lo) T (x1, y1) (ys.take (min n len * sz')) 0 xs w hb (fun k k1 k2 => hz'.2 k (by omega) (by omega)) (by omega) hcm.ones
              have hi := h.storeObj hf hl hb off _ _ hcm (by omega) (by omega)
              refine wp_value (x := .int .i64 (min n len : Nat)) ?_ ⟨L, lam, hi.putV (av := .v _) o.dst (.int _ _)⟩
              rw [Nat.add_zero] at hst
              have hmin : Nat.min n len = min n len := rfl
              simp only [execOp, hop, resolve, invoke, builtin, Builtin.copy_]
              simp [hts, run_underlying hu, he, c3, hszr, goInt, hmin, e1, hst]
            | sl0 _ _ _ b0 l hl g1 g2 =>
              have h0 : min n 0 = 0 := Nat.min_zero _
              obtain ⟨a1, a2, a3, a4, a5, a6, a7, b3, b2, xs, T, x1, y1, hb, hz', hss, rr⟩ := h.rel.heap.copy hf hl hm (Nat.le_refl _)
              have hi := h.storeObj hf hl hb off [] [] (CR.nil _) (by omega) (by simp; have := a5 rfl; omega)
              rw [h0] at e1
              simp at e1
              have hself : w.setRow l.B (splice xs.toList (off - l.lo) []).toArray = w := by
                have : (splice xs.toList (off - l.lo) []).toArray = xs := by apply Array.ext'; simp [splice]
                rw [this]; exact setRow_self w _ _ _ _ hb
              rw [hself] at hi
              refine wp_value (x := .int .i64 0) (w' := w) ?_ ⟨L, lam, ?_⟩
              · simp only [execOp, hop, resolve, invoke, builtin, Builtin.copy_]
                simp [hts, run_underlying hu, he, c3, hszr, goInt, e1, storeCells]
              · have := hi.putV (av := .v (.int .i64 0)) o.dst (.int _ _)
                simpa [h0, AV.sc] using this
          · simp at hs
        · simp at hs
      · simp at hs
    · simp at ht
  · simp at hk

end Go.AM
