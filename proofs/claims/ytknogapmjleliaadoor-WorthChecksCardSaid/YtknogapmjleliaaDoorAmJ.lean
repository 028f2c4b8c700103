/- One operation: variables, fields, elements. No condition. -/
import Derived.Test.YtknogapmjleliaaDoorAmI
namespace Go.AM
open Go

variable {P : Program} {L0 L : Locs} {w0 w : World} {lam : Nat → Nat} {fr fr' : Fr} {H H' : Heap} {a : Act}

theorem alloc_lt (w : World) (o : Obj) : w.heap.size < (w.alloc o).heap.size := by simp

def chkAlloc (P : Program) (o : Op) (z : List Value) : Bool := match o with
  | .alloc t => zeroIs P t z
  | _ => false

theorem step_allocL {o : Oper} {Q : Exit → Act → World → Prop} {z : List Value} {c : SC} (h : Inv L0 w0 L lam fr H a w) (hk : chkAlloc P o.op z = true) {C : Callee} (hs : stepA C fr H (.allocL z) = some (c, fr', H')) : Done P L0 w0 o a w Q c fr' H' := by
  unfold chkAlloc at hk
  split at hk
  · rename_i t hop
    simp [stepA] at hs; obtain ⟨rfl, rfl, rfl⟩ := hs
    obtain ⟨v, hz, hc⟩ := zeroIs_run hk w
    refine wp_value (x := .pointer (some ⟨w.heap.size, 0, none⟩)) (w' := w.alloc (.cells v.cells t)) (by simp [execOp, hop, Instr.alloc, hz, newVar, newRow]) ?_
    cases hd : o.dst with
    | none => exact ⟨L, lam, by simpa [putO, Act.put] using h.same (Same.alloc _ _)⟩
    | some d => exact ⟨L, _, h.putLoc d z v.cells t (hc L)⟩
  · simp at hk

def chkAllocH (P : Program) (o : Op) (ty : Nat) (z : List Value) : Bool := match o with
  | .alloc t => decide (t = ty) && zeroIs P t z
  | _ => false

theorem step_allocH {o : Oper} {Q : Exit → Act → World → Prop} {ty : Nat} {z : List Value} {c : SC} (h : Inv L0 w0 L lam fr H a w) (hk : chkAllocH P o.op ty z = true) {C : Callee} (hs : stepA C fr H (.allocH ty z) = some (c, fr', H')) : Done P L0 w0 o a w Q c fr' H' := by
  unfold chkAllocH at hk
  split at hk
  · rename_i t hop
    simp only [Bool.and_eq_true, decide_eq_true_eq] at hk
    obtain ⟨rfl, hk⟩ := hk
    simp [stepA] at hs; obtain ⟨rfl, rfl, rfl⟩ := hs
    obtain ⟨v, hz, hc⟩ := zeroIs_run hk w
    have hl := (hc L).1
    refine done_push h (w' := w.alloc (.cells v.cells t)) (x := .pointer (some ⟨w.heap.size, 0, none⟩)) (by simp [execOp, hop, Instr.alloc, hz, newVar, newRow]) (Same.alloc _ _) w.heap.size (Nat.le_refl _) (alloc_lt _ _) z v.cells t 0 0 1 (by omega)
      (alloc_new _ _) (fun k _ q => by omega) (by simpa using Nat.le_of_eq hl) (by rw [hl, List.take_length]; exact hc L) (fun L' _ q => .ptr _ _ _ q rfl)
  · simp at hk

def chkBox (o : Op) (x : Opd) : Bool := match o with
  | .box _ y => chkOpd y x
  | _ => false

theorem step_boxL {o : Oper} {Q : Exit → Act → World → Prop} {n : Nat} {x : Opd} {c : SC} (h : Inv L0 w0 L lam fr H a w) (hk : chkBox o.op x = true) {C : Callee} (hs : stepA C fr H (.boxL n x) = some (c, fr', H')) : Done P L0 w0 o a w Q c fr' H' := by
  unfold chkBox at hk
  split at hk
  · rename_i t y hop
    simp only [stepA] at hs
    split at hs
    · rename_i v hv
      split at hs
      · rename_i cs hcs
        split at hs
        · simp at hs; obtain ⟨rfl, rfl, rfl⟩ := hs
          have hc := (evV_ok h hk hv).cellsV hcs
          refine wp_value (x := .pointer (some ⟨w.heap.size, 0, none⟩)) (w' := w.alloc (.cells (a.eval y).cells t)) (by simp [execOp, hop, Instr.box, newVar, newRow]) ?_
          cases hd : o.dst with
          | none => exact ⟨L, lam, by simpa [putO, Act.put] using h.same (Same.alloc _ _)⟩
          | some d => exact ⟨L, _, h.putLoc d cs _ t hc⟩
        · simp at hs
      · simp at hs
    · simp at hs
  · simp at hk

def chkBoxH (o : Op) (ty : Nat) (x : Opd) : Bool := match o with
  | .box t y => decide (t = ty) && chkOpd y x
  | _ => false

theorem step_boxH {o : Oper} {Q : Exit → Act → World → Prop} {ty n : Nat} {x : Opd} {c : SC} (h : Inv L0 w0 L lam fr H a w) (hk : chkBoxH o.op ty x = true) {C : Callee} (hs : stepA C fr H (.boxH ty n x) = some (c, fr', H')) : Done P L0 w0 o a w Q c fr' H' := by
  unfold chkBoxH at hk
  split at hk
  · rename_i t y hop
    simp only [Bool.and_eq_true, decide_eq_true_eq] at hk
    obtain ⟨rfl, hk⟩ := hk
    simp only [stepA] at hs
    split at hs
    · rename_i v hv
      split at hs
      · rename_i cs hcs
        split at hs
        · simp at hs; obtain ⟨rfl, rfl, rfl⟩ := hs
          have hc := (evV_ok h hk hv).cellsV hcs
          have hl := hc.1
          refine done_push h (w' := w.alloc (.cells (a.eval y).cells t)) (x := .pointer (some ⟨w.heap.size, 0, none⟩)) (by simp [execOp, hop, Instr.box, newVar, newRow]) (Same.alloc _ _) w.heap.size (Nat.le_refl _) (alloc_lt _ _) cs _ t 0 0 1 (by omega)
            (alloc_new _ _) (fun k _ q => by omega) (by simpa using Nat.le_of_eq hl) (by rw [hl, List.take_length]; exact hc) (fun L' _ q => .ptr _ _ _ q rfl)
        · simp at hs
      · simp at hs
    · simp at hs
  · simp at hk

def chkFieldA (P : Program) (o : Op) (off : Nat) (x : Opd) : Bool := match o with
  | .fieldAddr t y j => chkOpd y x && (match P.underlying t with
      | some (.struct fs) => (match fs[j]? with | some f => f.offset == off && (match P.info? f.type with | some i => decide (i.size ≠ 0) | none => false) | none => false)
      | _ => false)
  | _ => false

theorem add_off (B o n : Nat) : (⟨B, o, none⟩ : Addr).add n = ⟨B, o + n, none⟩ := by unfold Addr.add; split <;> simp_all

theorem step_fieldA {o : Oper} {Q : Exit → Act → World → Prop} {off : Nat} {x : Opd} {c : SC} (h : Inv L0 w0 L lam fr H a w) (hk : chkFieldA P o.op off x = true) {C : Callee} (hs : stepA C fr H (.fieldA off x) = some (c, fr', H')) : Done P L0 w0 o a w Q c fr' H' := by
  unfold chkFieldA at hk
  split at hk
  · rename_i t y j hop
    simp only [Bool.and_eq_true] at hk
    obtain ⟨hx, hk⟩ := hk
    split at hk
    · rename_i fs hu
      split at hk
      · rename_i f hf
        simp only [Bool.and_eq_true, beq_iff_eq] at hk
        obtain ⟨rfl, hk⟩ := hk
        split at hk
        · rename_i i hi
          simp only [decide_eq_true_eq] at hk
          have hsz : (sizeOf f.type).run P w = .ok i.size w := by rw [run_sizeOf w hi]; simp [Program.cellsOf, hi]
          have run : ∀ B o' : Nat, a.eval y = .pointer (some ⟨B, o', none⟩) → (execOp a.eval o).run P w = .ok (.value (.pointer (some ⟨B, o' + f.offset, none⟩))) w := by
            intro B o' he
            simp [execOp, hop, he, Instr.fieldAt, run_underlying hu, hf, Instr.sureAddr, fieldPlace, hsz, hk, add_off]
          simp only [stepA] at hs
          split at hs
          · rename_i g o' hav
            simp at hs; obtain ⟨rfl, rfl, rfl⟩ := hs
            have r : VR L _ (a.eval y) := evO_ok h hx hav
            generalize he : a.eval y = z at r
            cases r with
            | ptr _ _ l hl h0 => exact done_v h (run _ _ he) (.ptr _ _ l hl h0)
          · rename_i s o' hav
            simp at hs; obtain ⟨rfl, rfl, rfl⟩ := hs
            have r : a.eval y = .pointer (some ⟨lam s, o', none⟩) := evO_ok h hx hav
            exact done_av (av := .lp s (o' + f.offset)) h (run _ _ r) rfl
          · rename_i g o' c' n hav
            split at hs
            · rename_i hn
              simp at hs; obtain ⟨rfl, rfl, rfl⟩ := hs
              obtain ⟨l, h1, h2, h3, he⟩ := evO_ok h hx hav
              refine done_av (av := .hp g (o' + f.offset) c' (n - f.offset)) h (run _ _ he) ⟨l, h1, by omega, by omega, ?_⟩
              congr 3; omega
            · simp at hs
          · simp at hs
        · simp at hk
      · simp at hk
    · simp at hk
  · simp at hk


def chkField (P : Program) (o : Op) (agg : Bool) (off n : Nat) (x : Opd) : Bool := match o with
  | .field t y j => chkOpd y x && (match P.underlying t with
      | some (.struct fs) => (match fs[j]? with | some f => f.offset == off && chkLoad P f.type agg n | none => false)
      | _ => false)
  | _ => false

/-- a part of an aggregate -/
theorem part_run {t : TypeId} {agg : Bool} {n off : Nat} (hk : chkLoad P t agg n = true) {cs ys : List Value} (hc : CR L cs ys) (hlen : off + n ≤ cs.length) {v : Value} (hv : mkV agg (cut cs off n) = some v) :
    ∃ x, (part t ys.toArray off).run P w = .ok x w ∧ VR L v x := by
  simp only [chkLoad, Bool.and_eq_true] at hk
  have hs := szIs_run hk.1 w
  have ha := aggIs_run hk.2.1 w
  rcases mkV_ok (hc.cut off n) hv with ⟨rfl, r⟩ | ⟨rfl, y, hy, r⟩
  · refine ⟨_, ?_, r⟩
    simp [part, ha, hs, AM.cut, List.take_drop, Nat.add_comm]
  · refine ⟨y, ?_, r⟩
    have hn : n = 1 := by simpa using hk.2.2
    subst hn
    have h0 : (AM.cut ys off 1)[0]? = some y := by rw [hy]; rfl
    rw [cut_get] at h0
    simp at h0
    simp [part, ha, h0]

theorem VR.agg_inv {cs : Array Value} {x : Value} (h : VR L (.agg cs) x) : ∃ ys : List Value, x = .agg ys.toArray ∧ CR L cs.toList ys := by
  have : VR L (.agg cs.toList.toArray) x := by simpa using h
  exact VR.agg_iff this

theorem step_field {o : Oper} {Q : Exit → Act → World → Prop} {agg : Bool} {off n : Nat} {x : Opd} {c : SC} (h : Inv L0 w0 L lam fr H a w) (hk : chkField P o.op agg off n x = true) {C : Callee} (hs : stepA C fr H (.field agg off n x) = some (c, fr', H')) : Done P L0 w0 o a w Q c fr' H' := by
  unfold chkField at hk
  split at hk
  · rename_i t y j hop
    simp only [Bool.and_eq_true] at hk
    obtain ⟨hx, hk⟩ := hk
    split at hk
    · rename_i fs hu
      split at hk
      · rename_i f hf
        simp only [Bool.and_eq_true, beq_iff_eq] at hk
        obtain ⟨rfl, hk⟩ := hk
        simp only [stepA] at hs
        split at hs
        · rename_i cs hcs
          split at hs
          · rename_i hlen
            split at hs
            · rename_i v hv
              simp at hs; obtain ⟨rfl, rfl, rfl⟩ := hs
              obtain ⟨ys, he, hc⟩ := (evV_ok h hx hcs).agg_inv
              obtain ⟨z, hz, r⟩ := part_run (w := w) hk hc (by simpa using hlen) hv
              refine done_v h ?_ r
              simp [execOp, hop, he, Instr.field, run_underlying hu, hf, asAgg, hz]
            · simp at hs
          · simp at hs
        · simp at hs
      · simp at hk
    · simp at hk
  · simp at hk

theorem idx_some {i : Int} {n k : Nat} (h : idx i n = some k) : 0 ≤ i ∧ i < n ∧ i = k ∧ k < n := by
  unfold idx at h; split at h
  · simp at h; omega
  · simp at h

def chkIndexA (P : Program) (o : Op) (sz : Nat) (x i : Opd) : Bool := match o with
  | .indexAddr t y j => chkOpd y x && (chkOpd j i && slIs P t sz)
  | _ => false

theorem slIs_und {t : TypeId} {sz : Nat} (h : slIs P t sz = true) : ∃ e, P.underlying t = some (.slice e) ∧ szIs P e sz = true ∧ 0 < sz := by
  unfold slIs slOf at h
  split at h
  · rename_i e he
    simp at h
    split at he
    · rename_i e' hu
      simp at he; subst he
      exact ⟨_, hu, h.1, h.2⟩
    · simp at he
  · simp at h

theorem step_indexA {o : Oper} {Q : Exit → Act → World → Prop} {sz : Nat} {x i : Opd} {c : SC} (h : Inv L0 w0 L lam fr H a w) (hk : chkIndexA P o.op sz x i = true) {C : Callee} (hs : stepA C fr H (.indexA sz x i) = some (c, fr', H')) : Done P L0 w0 o a w Q c fr' H' := by
  unfold chkIndexA at hk
  split at hk
  · rename_i t y j hop
    simp only [Bool.and_eq_true] at hk
    obtain ⟨hx, hj, ht⟩ := hk
    obtain ⟨e, hu, hsz, hpos⟩ := slIs_und ht
    have hszr := szIs_run hsz w
    simp only [stepA] at hs
    split at hs
    · rename_i f off c' len cap k i' hv hi
      split at hs
      · rename_i m hm
        split at hs
        · rename_i sz' vals cur minv frz ro hf
          split at hs
          · rename_i hcond
            obtain ⟨rfl, c1, c2⟩ := hcond
            simp at hs; obtain ⟨rfl, rfl, rfl⟩ := hs
            obtain ⟨i0, i1, i2, i3⟩ := idx_some hm
            have r := evV_ok h hx hv
            have ei := (evV_ok h hj hi).int_inv
            generalize he : a.eval y = z at r
            cases r with
            | sl _ _ _ _ _ cap' l hl h1 h2 h3 h4 h5 =>
              obtain ⟨e1, _⟩ := h.rel.heap.copy hf hl c1 c2
              rw [e1] at h2
              have hmul : m * sz' + sz' ≤ len * sz' := by rw [← Nat.succ_mul]; exact Nat.mul_le_mul_right _ i3
              have hmul2 : len * sz' ≤ cap * sz' := Nat.mul_le_mul_right _ h3
              refine done_av (av := .hp f (off + m * sz') c' sz') (x := .pointer (some ⟨l.B, off - l.lo + m * sz', none⟩)) h ?_ ⟨l, hl, by omega, by omega, ?_⟩
              · have hni : i'.toNat = m := by omega
                simp [execOp, hop, he, ei, Instr.indexAt, asIntOf, run_underlying hu, hszr, i0, i1, add_off, hni]
              · congr 3; omega
            | sl0 => omega
          · simp at hs
        · simp at hs
      · simp at hs
    · simp at hs
  · simp at hk

def arrIs (P : Program) (t : TypeId) (len sz : Nat) : Bool := match P.underlying t with
  | some (.array n e) => n == len && szIs P e sz
  | _ => false

theorem arrIs_und {t : TypeId} {len sz : Nat} (h : arrIs P t len sz = true) : ∃ e, P.underlying t = some (.array len e) ∧ szIs P e sz = true := by
  unfold arrIs at h
  split at h
  · rename_i n e hu
    simp at h; obtain ⟨rfl, h2⟩ := h; exact ⟨e, hu, h2⟩
  · simp at h

def chkIndexP (P : Program) (o : Op) (len sz : Nat) (x i : Opd) : Bool := match o with
  | .indexAddr t y j => chkOpd y x && (chkOpd j i && arrIs P t len sz)
  | _ => false

theorem step_indexP {o : Oper} {Q : Exit → Act → World → Prop} {len sz : Nat} {x i : Opd} {c : SC} (h : Inv L0 w0 L lam fr H a w) (hk : chkIndexP P o.op len sz x i = true) {C : Callee} (hs : stepA C fr H (.indexP len sz x i) = some (c, fr', H')) : Done P L0 w0 o a w Q c fr' H' := by
  unfold chkIndexP at hk
  split at hk
  · rename_i t y j hop
    simp only [Bool.and_eq_true] at hk
    obtain ⟨hx, hj, ht⟩ := hk
    obtain ⟨e, hu, hsz⟩ := arrIs_und ht
    have hszr := szIs_run hsz w
    simp only [stepA] at hs
    split at hs
    · rename_i av k i' hav hi
      split at hs
      · rename_i m hm
        obtain ⟨i0, i1, i2, i3⟩ := idx_some hm
        have ei := (evV_ok h hj hi).int_inv
        have hni : i'.toNat = m := by omega
        have run : ∀ B o' : Nat, a.eval y = .pointer (some ⟨B, o', none⟩) → (execOp a.eval o).run P w = .ok (.value (.pointer (some ⟨B, o' + m * sz, none⟩))) w := by
          intro B o' he
          simp [execOp, hop, he, ei, Instr.indexAt, asIntOf, run_underlying hu, Instr.sureAddr, hszr, i0, i1, add_off, hni]
        split at hs
        · rename_i g o'
          simp at hs; obtain ⟨rfl, rfl, rfl⟩ := hs
          have r : VR L _ (a.eval y) := evO_ok h hx hav
          generalize he : a.eval y = z at r
          cases r with
          | ptr _ _ l hl h0 => exact done_v h (run _ _ he) (.ptr _ _ l hl h0)
        · rename_i s o'
          simp at hs; obtain ⟨rfl, rfl, rfl⟩ := hs
          have r : a.eval y = .pointer (some ⟨lam s, o', none⟩) := evO_ok h hx hav
          exact done_av (av := .lp s (o' + m * sz)) h (run _ _ r) rfl
        · rename_i g o' c' n
          split at hs
          · rename_i hn
            simp at hs; obtain ⟨rfl, rfl, rfl⟩ := hs
            obtain ⟨l, h1, h2, h3, he⟩ := evO_ok h hx hav
            refine done_av (av := .hp g (o' + m * sz) c' (n - m * sz)) h (run _ _ he) ⟨l, h1, by omega, by omega, ?_⟩
            congr 3; omega
          · simp at hs
        · simp at hs
      · simp at hs
    · simp at hs
  · simp at hk

def chkIndexStr (P : Program) (o : Op) (x i : Opd) : Bool := match o with
  | .index t y j => chkOpd y x && (chkOpd j i && strIs P t)
  | _ => false

theorem step_indexStr {o : Oper} {Q : Exit → Act → World → Prop} {x i : Opd} {c : SC} (h : Inv L0 w0 L lam fr H a w) (hk : chkIndexStr P o.op x i = true) {C : Callee} (hs : stepA C fr H (.indexStr x i) = some (c, fr', H')) : Done P L0 w0 o a w Q c fr' H' := by
  unfold chkIndexStr at hk
  split at hk
  · rename_i t y j hop
    simp only [Bool.and_eq_true] at hk
    obtain ⟨hx, hj, ht⟩ := hk
    have hu := strIs_und ht
    simp only [stepA] at hs
    split at hs
    · rename_i s k i' hv hi
      split at hs
      · rename_i b hb
        simp at hs; obtain ⟨rfl, rfl, rfl⟩ := hs
        have es := (evV_ok h hx hv).str_inv
        have ei := (evV_ok h hj hi).int_inv
        refine done_v h ?_ (.int _ _)
        simp [execOp, hop, es, ei, Instr.index, asIntOf, run_underlying hu, hb]
      · simp at hs
    · simp at hs
  · simp at hk

def chkIndexArr (P : Program) (o : Op) (agg : Bool) (len sz : Nat) (x i : Opd) : Bool := match o with
  | .index t y j => chkOpd y x && (chkOpd j i && (match P.underlying t with | some (.array n e) => n == len && chkLoad P e agg sz | _ => false))
  | _ => false

theorem step_indexArr {o : Oper} {Q : Exit → Act → World → Prop} {agg : Bool} {len sz : Nat} {x i : Opd} {c : SC} (h : Inv L0 w0 L lam fr H a w) (hk : chkIndexArr P o.op agg len sz x i = true) {C : Callee} (hs : stepA C fr H (.indexArr agg len sz x i) = some (c, fr', H')) : Done P L0 w0 o a w Q c fr' H' := by
  unfold chkIndexArr at hk
  split at hk
  · rename_i t y j hop
    simp only [Bool.and_eq_true] at hk
    obtain ⟨hx, hj, ht⟩ := hk
    split at ht
    · rename_i n e hu
      simp only [Bool.and_eq_true, beq_iff_eq] at ht
      obtain ⟨rfl, hld⟩ := ht
      have hszr := szIs_run (by simp only [chkLoad, Bool.and_eq_true] at hld; exact hld.1 : szIs P e sz = true) w
      simp only [stepA] at hs
      split at hs
      · rename_i cs k i' hv hi
        split at hs
        · rename_i m hm
          split at hs
          · rename_i hlen
            split at hs
            · rename_i v hmk
              simp at hs; obtain ⟨rfl, rfl, rfl⟩ := hs
              obtain ⟨i0, i1, i2, i3⟩ := idx_some hm
              have ei := (evV_ok h hj hi).int_inv
              have hni : i'.toNat = m := by omega
              obtain ⟨ys, he, hc⟩ := (evV_ok h hx hv).agg_inv
              obtain ⟨z, hz, r⟩ := part_run (w := w) hld hc (by simpa using hlen) hmk
              refine done_v h ?_ r
              simp [execOp, hop, he, ei, Instr.index, asIntOf, run_underlying hu, hszr, i0, i1, hni, hz]
            · simp at hs
          · simp at hs
        · simp at hs
      · simp at hs
    · simp at ht
  · simp at hk

def chkLen (P : Program) (o : Op) (str : Bool) (x : Opd) : Bool := match o with
  | .call ⟨.builtin .len, args, ts⟩ => chkOpds args.toList [x] && (match ts[0]? with
      | some t => (match P.underlying t with | some .string => str | some (.slice _) => !str | _ => false) | none => false)
  | _ => false

theorem VR.sl_inv {ad : Option Addr} {n cap : Nat} {x : Value} (h : VR L (.slice ad n cap) x) : ∃ b cap', x = .slice b n cap' := by
  cases h <;> exact ⟨_, _, rfl⟩

theorem step_len {o : Oper} {Q : Exit → Act → World → Prop} {str : Bool} {x : Opd} {c : SC} (h : Inv L0 w0 L lam fr H a w) (hk : chkLen P o.op str x = true) {C : Callee} (hs : stepA C fr H (.len str x) = some (c, fr', H')) : Done P L0 w0 o a w Q c fr' H' := by
  unfold chkLen at hk
  split at hk
  · rename_i args ts hop
    simp only [Bool.and_eq_true] at hk
    obtain ⟨hx, ht⟩ := hk
    obtain ⟨y, rfl, hy⟩ := opds1 hx
    split at ht
    · rename_i t hts
      simp only [stepA] at hs
      split at hs
      · rename_i s hv
        split at hs
        · rename_i hst
          simp at hs; obtain ⟨rfl, rfl, rfl⟩ := hs
          have e := (evV_ok h hy hv).str_inv
          split at ht
          · rename_i hu
            exact done_v h (by simp [execOp, hop, e, resolve, invoke, builtin, Builtin.len_, hts, run_underlying hu, goInt]) (.int _ _)
          · simp [hst] at ht
          · simp at ht
        · simp at hs
      · rename_i b n cap hv
        split at hs
        · simp at hs
        · rename_i hst
          simp at hs; obtain ⟨rfl, rfl, rfl⟩ := hs
          obtain ⟨b', cap', e⟩ := (evV_ok h hy hv).sl_inv
          split at ht
          · simp [hst] at ht
          · rename_i hu
            exact done_v h (by simp [execOp, hop, e, resolve, invoke, builtin, Builtin.len_, hts, run_underlying hu, goInt]) (.int _ _)
          · simp at ht
      · simp at hs
    · simp at ht
  · simp at hk

end Go.AM
