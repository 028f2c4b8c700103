/- One operation: the simple ones. No condition. -/
import Derived.Test.YtknogapmjleliaaDoorAmG
import Derived.Laws.MakeOwn
namespace Go.AM
open Go

variable {P : Program} {L0 L : Locs} {w0 w : World} {lam : Nat → Nat} {fr fr' : Fr} {H H' : Heap} {a : Act}

/-- what an operation comes to -/
def Done (P : Program) (L0 : Locs) (w0 : World) (o : Oper) (a : Act) (w : World) (Q : Exit → Act → World → Prop) (c : SC) (fr : Fr) (H : Heap) : Prop :=
  o.wp P a w (fun a' w' => ∃ L' lam', Inv L0 w0 L' lam' (putO fr o.dst c) H a' w') Q

theorem wp_value {o : Oper} {x : Value} {w' : World} {next : Act → World → Prop} {Q : Exit → Act → World → Prop} (h : (execOp a.eval o).run P w = .ok (.value x) w') (hn : next (a.put o.dst x) w') : o.wp P a w next Q := by
  unfold Oper.wp; rw [h]; exact hn

theorem wp_skip' {o : Oper} {w' : World} {next : Act → World → Prop} {Q : Exit → Act → World → Prop} (h : (execOp a.eval o).run P w = .ok .skip w') (hn : next (a.put o.dst undef) w') : o.wp P a w next Q := by
  unfold Oper.wp; rw [h]; exact hn

theorem done_av {o : Oper} {Q : Exit → Act → World → Prop} {x : Value} {av : AV} (h : Inv L0 w0 L lam fr H a w) (hr : (execOp a.eval o).run P w = .ok (.value x) w) (hx : AVR L lam x av) : Done P L0 w0 o a w Q av.sc fr H :=
  wp_value hr ⟨L, lam, h.putV o.dst hx⟩

theorem done_v {o : Oper} {Q : Exit → Act → World → Prop} {x v : Value} (h : Inv L0 w0 L lam fr H a w) (hr : (execOp a.eval o).run P w = .ok (.value x) w) (hx : VR L v x) : Done P L0 w0 o a w Q (.v v) fr H :=
  done_av (av := .v v) h hr hx

/-- a new row, and a value that shows it -/
theorem done_push {o : Oper} {Q : Exit → Act → World → Prop} {x v : Value} {w' : World} (h : Inv L0 w0 L lam fr H a w) (hr : (execOp a.eval o).run P w = .ok (.value x) w') (s : Same w w') (B : Nat) (hB : w.heap.size ≤ B) (hB' : B < w'.heap.size)
    (vals : List Value) (cs : Array Value) (T : TypeId) (x' y sz : Nat) (hsz : 0 < sz) (hb : w'.heap[B]? = some (.cells cs T (x', y))) (hz : ∀ k, k < cs.size → ¬ (x' ≤ k ∧ k < y)) (hlen : vals.length ≤ cs.size)
    (hc : CR L vals (cs.toList.take vals.length)) (hx : ∀ L', L'.le L' → L' H.length 0 = some ⟨B, 0, vals.length, cs.size, sz, false, 0⟩ → VR L' v x) : Done P L0 w0 o a w Q (.v v) fr (H ++ [.cells T sz vals 0 0 0 false]) := by
  obtain ⟨L', hi, _, hl⟩ := h.push s B hB hB' vals cs T x' y sz hsz hb hz hlen hc h.locs
  exact wp_value hr ⟨L', lam, hi.putV (av := .v v) o.dst (hx L' (Locs.le.refl _) hl)⟩

def chkLoad (P : Program) (t : TypeId) (agg : Bool) (n : Nat) : Bool := szIs P t n && (aggIs P t agg && (agg || n == 1))

theorem loadVar_run {t : TypeId} {agg : Bool} {n : Nat} (hk : chkLoad P t agg n = true) {b : Addr} {cs ys : List Value} (hn : ys.length = n) (hl : ∀ (j : Nat) (y : Value), ys[j]? = some y → w.cell? (b.add j) = some y) (hc : CR L cs ys) {v : Value} (hv : mkV agg cs = some v) :
    ∃ x, (loadVar t b).run P w = .ok x w ∧ VR L v x := by
  simp only [chkLoad, Bool.and_eq_true] at hk
  have hs := szIs_run hk.1 w
  have ha := aggIs_run hk.2.1 w
  rcases mkV_ok hc hv with ⟨rfl, r⟩ | ⟨rfl, y, rfl, r⟩
  · refine ⟨_, ?_, r⟩
    have := run_loadCells_list (P := P) w b ys hl
    rw [hn] at this
    simp [loadVar, Sem.run_bind, ha, hs, this]
  · refine ⟨y, ?_, r⟩
    have h0 := hl 0 y rfl
    have e0 : b.add 0 = b := by simp [Addr.add]
    rw [e0] at h0
    simp [loadVar, Sem.run_bind, ha, run_load, h0]

def chkLd (P : Program) (o : Op) (agg : Bool) (n : Nat) (p : Opd) : Bool := match o with
  | .load t x => chkOpd x p && chkLoad P t agg n
  | _ => false

theorem step_load {o : Oper} {Q : Exit → Act → World → Prop} {agg : Bool} {n : Nat} {p : Opd} {c : SC} (h : Inv L0 w0 L lam fr H a w) (hk : chkLd P o.op agg n p = true) {C : Callee} (hs : stepA C fr H (.load agg n p) = some (c, fr', H')) : Done P L0 w0 o a w Q c fr' H' := by
  unfold chkLd at hk
  split at hk
  · rename_i t x hop
    simp only [Bool.and_eq_true] at hk
    simp only [stepA] at hs
    split at hs
    · rename_i av hav
      split at hs
      · rename_i cs hcs
        split at hs
        · rename_i v hv
          simp at hs; obtain ⟨rfl, rfl, rfl⟩ := hs
          obtain ⟨b, ys, hx, hc, hn, hl⟩ := rd_sound h (evO_ok h hk.1 hav) hcs
          obtain ⟨y, hy, r⟩ := loadVar_run hk.2 hn hl hc hv
          refine done_v h ?_ r
          simp [execOp, hop, Instr.loadAt, Instr.sureAddr, hx, hy]
        · simp at hs
      · simp at hs
    · simp at hs
  · simp at hk

def chkSt (P : Program) (o : Op) (n : Nat) (p x : Opd) : Bool := match o with
  | .store t q y => chkOpd q p && (chkOpd y x && szIs P t n)
  | _ => false

theorem step_store {o : Oper} {Q : Exit → Act → World → Prop} {n : Nat} {p x : Opd} {c : SC} (h : Inv L0 w0 L lam fr H a w) (hk : chkSt P o.op n p x = true) {C : Callee} (hs : stepA C fr H (.store n p x) = some (c, fr', H')) : Done P L0 w0 o a w Q c fr' H' := by
  unfold chkSt at hk
  split at hk
  · rename_i t q y hop
    simp only [Bool.and_eq_true] at hk
    simp only [stepA] at hs
    split at hs
    · rename_i av v hav hv
      split at hs
      · rename_i cs hcs
        split at hs
        · rename_i hn
          split at hs
          · rename_i fr1 H1 hw
            simp at hs; obtain ⟨rfl, rfl, rfl⟩ := hs
            have hc := (evV_ok h hk.2.1 hv).cellsV hcs
            obtain ⟨b, w', hx, hst, hi⟩ := wr_sound P h (evO_ok h hk.1 hav) hc hw
            have hsz := szIs_run hk.2.2 w
            have hl : (a.eval y).cells.size = n := by have := hc.1; simp at this; omega
            refine wp_skip' (w' := w') ?_ ⟨L, lam, hi.putV (av := .v undef) o.dst (VR.undef L)⟩
            simp [execOp, hop, Instr.storeAt, Instr.sureAddr, hx, Sem.run_bind, storeVar, hsz, hl, hst]
          · simp at hs
        · simp at hs
      · simp at hs
    · simp at hs
  · simp at hk

def chkMov (o : Op) (x : Opd) : Bool := match o with
  | .move y => chkOpd y x
  | .assign y => chkOpd y x
  | _ => false

theorem step_mov {o : Oper} {Q : Exit → Act → World → Prop} {x : Opd} {c : SC} (h : Inv L0 w0 L lam fr H a w) (hk : chkMov o.op x = true) {C : Callee} (hs : stepA C fr H (.mov x) = some (c, fr', H')) : Done P L0 w0 o a w Q c fr' H' := by
  simp only [stepA] at hs
  split at hs
  · rename_i av hav
    simp at hs; obtain ⟨rfl, rfl, rfl⟩ := hs
    unfold chkMov at hk
    split at hk
    · rename_i y hop
      exact done_av h (by simp [execOp, hop]) (evO_ok h hk hav)
    · rename_i y hop
      exact done_av h (by simp [execOp, hop]) (evO_ok h hk hav)
    · simp at hk
  · simp at hs

def chkPick (o : Op) (c x y : Opd) : Bool := match o with
  | .pick c' x' y' => chkOpd c' c && (chkOpd x' x && chkOpd y' y)
  | _ => false

theorem VR.bool_inv {b : Bool} {x : Value} (h : VR L (.bool b) x) : x = .bool b := by cases h; rfl
theorem VR.int_inv {k : IntKind} {n : Int} {x : Value} (h : VR L (.int k n) x) : x = .int k n := by cases h; rfl
theorem VR.str_inv {s : ByteArray} {x : Value} (h : VR L (.string s) x) : x = .string s := by cases h; rfl

theorem step_pick {o : Oper} {Q : Exit → Act → World → Prop} {x y z : Opd} {c : SC} (h : Inv L0 w0 L lam fr H a w) (hk : chkPick o.op z x y = true) {C : Callee} (hs : stepA C fr H (.pick z x y) = some (c, fr', H')) : Done P L0 w0 o a w Q c fr' H' := by
  unfold chkPick at hk
  split at hk
  · rename_i z' x' y' hop
    simp only [Bool.and_eq_true] at hk
    simp only [stepA] at hs
    split at hs
    · rename_i t ht
      have hb := (evV_ok h hk.1 ht).bool_inv
      split at hs
      · rename_i av hav
        simp at hs; obtain ⟨rfl, rfl, rfl⟩ := hs
        cases t with
        | true => exact done_av h (by simp [execOp, hop, hb, asBool]) (evO_ok h hk.2.1 hav)
        | false => exact done_av h (by simp [execOp, hop, hb, asBool]) (evO_ok h hk.2.2 hav)
      · simp at hs
    · simp at hs
  · simp at hk

def chkNil (o : Op) (x : Opd) : Bool := match o with
  | .nilCheck y => chkOpd y x
  | _ => false

theorem step_nil {o : Oper} {Q : Exit → Act → World → Prop} {x : Opd} {c : SC} (h : Inv L0 w0 L lam fr H a w) (hk : chkNil o.op x = true) {C : Callee} (hs : stepA C fr H (.nilChk x) = some (c, fr', H')) : Done P L0 w0 o a w Q c fr' H' := by
  unfold chkNil at hk
  split at hk
  · rename_i y hop
    simp only [stepA] at hs
    split at hs
    · rename_i ad hav
      simp at hs; obtain ⟨rfl, rfl, rfl⟩ := hs
      have r := evO_ok h hk hav
      have r' : VR L (.pointer (some ad)) (a.eval y) := r
      generalize he : a.eval y = x at r r'
      cases r' with
      | ptr f off l hl h0 => exact done_v h (by simp [execOp, hop, he]) r
    · rename_i s o' hav
      simp at hs; obtain ⟨rfl, rfl, rfl⟩ := hs
      have r := evO_ok h hk hav
      have he : a.eval y = .pointer (some ⟨lam s, o', none⟩) := r
      exact done_av (av := .lp s o') h (by simp [execOp, hop, he]) rfl
    · rename_i f o' c' n hav
      simp at hs; obtain ⟨rfl, rfl, rfl⟩ := hs
      have r := evO_ok h hk hav
      obtain ⟨l, h1, h2, h3, he⟩ := id r
      exact done_av (av := .hp f o' c' n) h (by simp [execOp, hop, he]) ⟨l, h1, h2, h3, rfl⟩
    · simp at hs
  · simp at hk

end Go.AM
