/- One operation: slices, aggregates, comparisons, calls. No condition. -/
import Derived.Test.YtknogapmjleliaaDoorAmJ
namespace Go.AM
open Go

variable {P : Program} {L0 L : Locs} {w0 w : World} {lam : Nat → Nat} {fr fr' : Fr} {H H' : Heap} {a : Act}

def chkOptO : Option Operand → Option Opd → Bool
  | none, none => true
  | some o, some x => chkOpd o x
  | _, _ => false

theorem hiB_run {o2 : Option Operand} {hi : Option Opd} (h : Inv L0 w0 L lam fr H a w) (h2 : chkOptO o2 hi = true) {len cap m : Nat} (isSl : Bool) (cap' : Nat) (hcap : cap ≤ cap') (hb : hiB fr len cap hi = some m) :
    (match o2.map a.eval with
      | some v => Instr.sliceBound v cap' (if isSl then .sliceAcap else .sliceAlen)
      | none => pure len : Sem Nat).run P w = .ok m w ∧ (m = len ∨ m ≤ cap) := by
  cases hi with
  | none =>
    cases o2 with
    | some o => simp [chkOptO] at h2
    | none => simp [hiB] at hb; subst hb; exact ⟨by simp, .inl rfl⟩
  | some x =>
    cases o2 with
    | none => simp [chkOptO] at h2
    | some o =>
      simp only [chkOptO] at h2
      simp only [hiB] at hb
      split at hb
      · rename_i k i hv
        split at hb
        · rename_i hc
          simp at hb; subst hb
          have e := (evV_ok h h2 hv).int_inv
          have : 0 ≤ i ∧ i ≤ (cap' : Int) := ⟨hc.1, by omega⟩
          exact ⟨by simp [e, Instr.sliceBound, asIntOf, this], .inr (by omega)⟩
        · simp at hb
      · simp at hb

theorem loB_run {o1 : Option Operand} {lo : Option Opd} (h : Inv L0 w0 L lam fr H a w) (h1 : chkOptO o1 lo = true) {m l : Nat} (hb : loB fr m lo = some l) :
    (match o1.map a.eval with
      | some v => Instr.sliceBound v m .sliceB
      | none => pure 0 : Sem Nat).run P w = .ok l w ∧ l ≤ m := by
  cases lo with
  | none =>
    cases o1 with
    | some o => simp [chkOptO] at h1
    | none => simp [loB] at hb; subst hb; exact ⟨by simp, Nat.zero_le _⟩
  | some x =>
    cases o1 with
    | none => simp [chkOptO] at h1
    | some o =>
      simp only [chkOptO] at h1
      simp only [loB] at hb
      split at hb
      · rename_i k i hv
        split at hb
        · rename_i hc
          simp at hb; subst hb
          have e := (evV_ok h h1 hv).int_inv
          exact ⟨by simp [e, Instr.sliceBound, asIntOf, hc], by omega⟩
        · simp at hb
      · simp at hb

/-- the model's bounds are the machine's -/
theorem bnds_run {o1 o2 : Option Operand} {lo hi : Option Opd} (h : Inv L0 w0 L lam fr H a w) (h1 : chkOptO o1 lo = true) (h2 : chkOptO o2 hi = true) {len cap l m : Nat} (isSl : Bool) (cap' : Nat) (hcap : cap ≤ cap')
    (hb : bnds fr len cap lo hi = some (l, m)) : (Instr.sliceBounds isSl len cap' (o1.map a.eval) (o2.map a.eval) none).run P w = .ok (l, m, cap') w ∧ l ≤ m ∧ (m = len ∨ m ≤ cap) := by
  unfold bnds at hb
  split at hb
  · simp at hb
  · rename_i m' hm
    split at hb
    · simp at hb
    · rename_i l' hl
      simp at hb; obtain ⟨rfl, rfl⟩ := hb
      obtain ⟨r1, e1⟩ := hiB_run (P := P) h h2 isSl cap' hcap hm
      obtain ⟨r2, e2⟩ := loB_run (P := P) h h1 hl
      refine ⟨?_, e2, e1⟩
      unfold Instr.sliceBounds
      cases o1 <;> cases o2 <;> simp_all

def chkSlStr (P : Program) (o : Op) (x : Opd) (lo hi : Option Opd) : Bool := match o with
  | .slice t y o1 o2 none => chkOpd y x && (chkOptO o1 lo && (chkOptO o2 hi && strIs P t))
  | _ => false

theorem step_slStr {o : Oper} {Q : Exit → Act → World → Prop} {x : Opd} {lo hi : Option Opd} {c : SC} (h : Inv L0 w0 L lam fr H a w) (hk : chkSlStr P o.op x lo hi = true) {C : Callee} (hs : stepA C fr H (.slStr x lo hi) = some (c, fr', H')) : Done P L0 w0 o a w Q c fr' H' := by
  unfold chkSlStr at hk
  split at hk
  · rename_i t y o1 o2 hop
    simp only [Bool.and_eq_true] at hk
    obtain ⟨hx, h1, h2, ht⟩ := hk
    have hu := strIs_und ht
    simp only [stepA] at hs
    split at hs
    · rename_i s hv
      split at hs
      · rename_i l m hb
        simp at hs; obtain ⟨rfl, rfl, rfl⟩ := hs
        have e := (evV_ok h hx hv).str_inv
        obtain ⟨hr, _⟩ := bnds_run (P := P) h h1 h2 false s.size (Nat.le_refl _) hb
        refine done_v h ?_ (.str _)
        simp [execOp, hop, e, Instr.sliceAt, Instr.slice, run_underlying hu, hr]
      · simp at hs
    · simp at hs
  · simp at hk

def chkSlSl (P : Program) (o : Op) (sz : Nat) (x : Opd) (lo hi : Option Opd) : Bool := match o with
  | .slice t y o1 o2 none => chkOpd y x && (chkOptO o1 lo && (chkOptO o2 hi && slIs P t sz))
  | _ => false

theorem step_slSl {o : Oper} {Q : Exit → Act → World → Prop} {sz : Nat} {x : Opd} {lo hi : Option Opd} {c : SC} (h : Inv L0 w0 L lam fr H a w) (hk : chkSlSl P o.op sz x lo hi = true) {C : Callee} (hs : stepA C fr H (.slSl sz x lo hi) = some (c, fr', H')) : Done P L0 w0 o a w Q c fr' H' := by
  unfold chkSlSl at hk
  split at hk
  · rename_i t y o1 o2 hop
    simp only [Bool.and_eq_true] at hk
    obtain ⟨hx, h1, h2, ht⟩ := hk
    obtain ⟨e, hu, hsz, hpos⟩ := slIs_und ht
    have hszr := szIs_run hsz w
    simp only [stepA] at hs
    split at hs
    · rename_i hv
      split at hs
      · rename_i p hb
        simp at hs; obtain ⟨rfl, rfl, rfl⟩ := hs
        have r := evV_ok h hx hv
        generalize he : a.eval y = z at r
        cases r with
        | snil =>
          obtain ⟨hr, q1, q2⟩ := bnds_run (P := P) h h1 h2 true 0 (Nat.le_refl _) (l := p.1) (m := p.2) (by simpa using hb)
          have e1 : p.2 = 0 := by omega
          have e2 : p.1 = 0 := by omega
          rw [e1, e2] at hr
          refine done_v (x := .slice none 0 0) h ?_ .snil
          simp [execOp, hop, he, Instr.sliceAt, Instr.slice, run_underlying hu, hr, hszr]
      · simp at hs
    · rename_i f off c' len cap hv
      split at hs
      · rename_i l m hb
        split at hs
        · rename_i sz' vals cur minv frz ro hf
          split at hs
          · rename_i hcond
            obtain ⟨rfl, c1, c2⟩ := hcond
            simp at hs; obtain ⟨rfl, rfl, rfl⟩ := hs
            have r := evV_ok h hx hv
            generalize he : a.eval y = z at r
            cases r with
            | sl _ _ _ _ _ cap' lc hl g1 g2 g3 g4 g5 =>
              obtain ⟨e1, _⟩ := h.rel.heap.copy hf hl c1 c2
              obtain ⟨hr, q1, q2⟩ := bnds_run (P := P) h h1 h2 true cap' g4 hb
              have q3 : m ≤ cap := by omega
              have key : off + l * sz' + (cap - l) * sz' ≤ lc.ext := by
                rw [e1] at g2
                have : l * sz' + (cap - l) * sz' = cap * sz' := by rw [← Nat.add_mul]; congr 1; omega
                omega
              by_cases hc : cap' = l
              · have hm : m = l := by omega
                have hcl : cap - l = 0 := by omega
                refine done_v (x := .slice (some ⟨lc.B, off - lc.lo, none⟩) 0 0) h ?_ ?_
                · subst hc; subst hm
                  simp [execOp, hop, he, Instr.sliceAt, Instr.slice, run_underlying hu, hr, hszr]
                · rw [hm, hcl, Nat.sub_self]
                  exact .sl0 _ _ _ _ lc hl (by omega) (by rw [hcl] at key; omega)
              · refine done_v (x := .slice (some ⟨lc.B, off - lc.lo + l * sz', none⟩) (m - l) (cap' - l)) h ?_ ?_
                · simp [execOp, hop, he, Instr.sliceAt, Instr.slice, run_underlying hu, hr, hszr, hc, add_off]
                · have e2 : off - lc.lo + l * sz' = off + l * sz' - lc.lo := by omega
                  rw [e2]
                  refine .sl _ _ _ _ _ _ lc hl (by omega) (by rw [e1]; exact key) (by omega) (by omega) ?_
                  rw [e1] at g5 ⊢
                  have : l * sz' + (cap' - l) * sz' = cap' * sz' := by rw [← Nat.add_mul]; congr 1; omega
                  omega
            | sl0 _ _ _ b lc hl g1 g2 =>
              obtain ⟨hr, q1, q2⟩ := bnds_run (P := P) h h1 h2 true 0 (Nat.le_refl _) hb
              have e1 : m = 0 := by omega
              have e2 : l = 0 := by omega
              subst e1; subst e2
              refine done_v (x := .slice (some b) 0 0) h ?_ ?_
              · simp [execOp, hop, he, Instr.sliceAt, Instr.slice, run_underlying hu, hr, hszr]
              · simp; exact .sl0 _ _ _ b lc hl g1 g2
          · simp at hs
        · simp at hs
      · simp at hs
    · simp at hs
  · simp at hk

theorem one_append_def {v : Option (Value × Heap)} {fr fr' : Fr} {c : SC} {H' : Heap} (h : one (v.map fun r => (SC.v r.1, r.2)) fr = some (c, fr', H')) : ∃ u, v = some (u, H') ∧ c = .v u ∧ fr' = fr := by
  unfold one at h
  cases v with
  | none => simp at h
  | some r => simp at h; obtain ⟨rfl, rfl, rfl⟩ := h; exact ⟨r.1, rfl, rfl, rfl⟩

/-- calls -/
def chkCall (P : Program) (o : Op) (f : Nat) (args : List Opd) : Bool := match o with
  | .call ⟨.value (.func g), as, _⟩ => g == f && (chkOpds as.toList args && (match P.funcs[f]? with | some fn => fn.body.isSome && !(fn.name == "runtime.NumGoroutine") | none => false))
  | _ => false

theorem step_call {C : Callee} (hC : CalleeOk P C) {o : Oper} {Q : Exit → Act → World → Prop} {f : Nat} {args : List Opd} {c : SC} (h : Inv L0 w0 L lam fr H a w) (hk : chkCall P o.op f args = true) (hs : stepA C fr H (.call f args) = some (c, fr', H')) : Done P L0 w0 o a w Q c fr' H' := by
  unfold chkCall at hk
  split at hk
  · rename_i g as ts hop
    simp only [Bool.and_eq_true, beq_iff_eq] at hk
    obtain ⟨rfl, hx, hf⟩ := hk
    split at hf
    · rename_i fn hfn
      simp only [Bool.and_eq_true, Bool.not_eq_true'] at hf
      simp only [stepA] at hs
      split at hs
      · rename_i xs hxs
        split at hs
        · rename_i v H1 hcv
          simp at hs; obtain ⟨rfl, rfl, rfl⟩ := hs
          have hcall := hC _ _ _ _ _ hcv L w _ h.rel.heap (evVs_ok h hx hxs)
          have he : (execOp a.eval o).run P w = .ok (.enter g (as.map a.eval)) w := by
            have hb : ¬ fn.body = none := by intro q; simp [q] at hf
            have hn : ¬ fn.name = "runtime.NumGoroutine" := by simpa using hf.2
            simp [execOp, hop, resolve, Act.eval, Deferred.ofValue, invoke, callFunc, hfn, hb, hn]
          unfold Done Oper.wp
          rw [he]
          simp only [Oper.upon]
          have e : as.map a.eval = (as.toList.map a.eval).toArray := Array.ext' (by simp)
          rw [e]
          refine hcall.mono ?_
          rintro e w' ⟨x, L', rfl, hv, hr, hk⟩
          exact ⟨L', lam, (h.after hr hk).putV (av := .v v) o.dst hv⟩
        · simp at hs
      · simp at hs
    · simp at hf
  · simp at hk

def chkCallV (o : Op) (fv : Opd) (args : List Opd) : Bool := match o with
  | .call ⟨.value g, as, _⟩ => chkOpd g fv && chkOpds as.toList args
  | _ => false

end Go.AM
