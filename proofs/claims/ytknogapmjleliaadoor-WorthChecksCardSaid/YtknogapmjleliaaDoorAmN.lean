/- One operation: make, literals, conversions, comparisons, calls of function values. No condition. -/
import Derived.Test.YtknogapmjleliaaDoorAmM
namespace Go.AM
open Go

variable {P : Program} {L0 L : Locs} {w0 w : World} {lam : Nat → Nat} {fr fr' : Fr} {H H' : Heap} {a : Act}

def chkMake (P : Program) (o : Op) (ty sz bytes : Nat) (z : List Value) (l c : Opd) : Bool := match o with
  | .makeSlice t l' c' => chkOpd l' l && (chkOpd c' c && (match P.underlying t with
      | some (.slice e) => (match P.info? e with
        | some i => decide (e = ty) && (i.size == sz && (i.bytes == bytes && (decide (0 < sz) && (match i.zero with | some v => cellsC z v.cells.toList && v.cells.size == sz | none => false))))
        | none => false)
      | _ => false))
  | _ => false

theorem made_flat {z : Value} {zs : List Value} {sz n : Nat} (hc : CR L zs z.cells.toList) (hz : z.cells.size = sz) (hp : 0 < sz) : CR L (List.replicate n zs).flatten (madeCells z.cells (n * sz)).toList := by
  have hlen : ∀ n : Nat, (List.replicate n zs).flatten.length = n * sz := by
    intro n; simp [hc.1, hz]
  refine ⟨by rw [hlen]; simp [madeCells], fun i v q => ?_⟩
  have hi : i < n * sz := by
    have := (List.getElem?_eq_some_iff.1 q).1
    rw [hlen] at this; exact this
  have hget : ∀ (n i : Nat), i < n * sz → (List.replicate n zs).flatten[i]? = zs[i % sz]? := by
    intro n
    induction n with
    | zero => intro i hi; omega
    | succ n ih =>
      intro i hi
      have hzl : zs.length = sz := by rw [hc.1]; simpa using hz
      rw [List.replicate_succ, List.flatten_cons]
      by_cases h1 : i < sz
      · rw [List.getElem?_append_left (by omega), Nat.mod_eq_of_lt h1]
      · have e : (n + 1) * sz = n * sz + sz := Nat.succ_mul _ _
        rw [List.getElem?_append_right (by omega), hzl, ih (i - sz) (by omega)]
        congr 1
        rw [← Nat.mod_eq_sub_mod (by omega)]
  rw [hget n i hi] at q
  obtain ⟨o, x, hx, r⟩ := hc.2 (i % sz) v q
  refine ⟨o, x, ?_, r⟩
  have hlt : i % z.cells.size < z.cells.size := Nat.mod_lt _ (by omega)
  simp only [madeCells, Array.toList_map, Array.toList_range, List.getElem?_map, List.getElem?_range hi, Option.map_some]
  rw [getElem!_pos z.cells _ hlt]
  have hx' : z.cells[i % z.cells.size]? = some x := by rw [hz]; simpa using hx
  rw [Array.getElem?_eq_getElem hlt] at hx'
  exact hx'

theorem step_make {o : Oper} {Q : Exit → Act → World → Prop} {ty sz bytes : Nat} {z : List Value} {l cc : Opd} {c : SC} (h : Inv L0 w0 L lam fr H a w) (hk : chkMake P o.op ty sz bytes z l cc = true) {C : Callee} (hs : stepA C fr H (.makeSl ty sz bytes z l cc) = some (c, fr', H')) : Done P L0 w0 o a w Q c fr' H' := by
  unfold chkMake at hk
  split at hk
  · rename_i t l' c' hop
    simp only [Bool.and_eq_true] at hk
    obtain ⟨hl, hcc, hk⟩ := hk
    split at hk
    · rename_i e hu
      split at hk
      · rename_i i hi
        simp only [Bool.and_eq_true, beq_iff_eq, decide_eq_true_eq] at hk
        obtain ⟨rfl, rfl, rfl, hpos, hk⟩ := hk
        split at hk
        · rename_i zv hz
          simp only [Bool.and_eq_true, beq_iff_eq] at hk
          have hzc := cellsC_ok L hk.1
          simp only [stepA] at hs
          split at hs
          · rename_i kl lv kc cv hlv hcv
            split at hs
            · rename_i hb
              simp at hs; obtain ⟨rfl, rfl, rfl⟩ := hs
              have e1 := (evV_ok h hl hlv).int_inv
              have e2 := (evV_ok h hcc hcv).int_inv
              have hb3 := hb.2.2.1
              rw [Int.mul_comm] at hb3
              have hr := run_make (P := P) w t e i zv hu hi hz kl kc lv cv hb.1 hb.2.1 (by omega) (by omega)
              have hcr := made_flat (L := L) (n := cv.toNat) hzc hk.2 hpos
              have hcl := hcr.1
              refine done_push h (w' := w.alloc (.cells (madeCells zv.cells (cv.toNat * i.size)) e)) (x := .slice (some ⟨w.heap.size, 0, none⟩) lv.toNat cv.toNat) (by simp [execOp, hop, e1, e2, hr]) (Same.alloc _ _) w.heap.size (Nat.le_refl _) (alloc_lt _ _)
                (List.replicate cv.toNat z).flatten _ e 0 0 i.size hpos (alloc_new _ _) (fun k _ q => by omega) (by rw [hcl]; simp) (by rw [hcl, List.take_length]; exact hcr) ?_
              intro L' _ q
              have hsz : (List.replicate cv.toNat z).flatten.length = cv.toNat * i.size := by rw [hcl]; simp [madeCells]
              refine VR.sl' (B := w.heap.size) (lo := 0) (off := 0) q (Nat.le_refl _) (by rw [hsz]; omega) (by omega) (Nat.le_refl _) (by simp [madeCells])
            · simp at hs
          · simp at hs
        · simp at hk
      · simp at hk
    · simp at hk
  · simp at hk

def isByteSl (P : Program) (t : TypeId) : Bool := match P.underlying t with | some (.slice e) => intIs P e .u8 && szIs P e 1 | _ => false

theorem isByteSl_und {t : TypeId} (h : isByteSl P t = true) : ∃ e, P.underlying t = some (.slice e) ∧ P.underlying e = some (.int .u8) := by
  unfold isByteSl at h
  split at h
  · rename_i e hu
    simp only [Bool.and_eq_true] at h
    exact ⟨e, hu, intIs_und h.1⟩
  · simp at h

def chkConvSB (P : Program) (o : Op) (ty : Nat) (x : Opd) : Bool := match o with
  | .convert s d y => (match P.underlying d with | some (.slice e) => decide (e = ty) | _ => false) && (chkOpd y x && (strIs P s && isByteSl P d))
  | _ => false

theorem step_convSB {o : Oper} {Q : Exit → Act → World → Prop} {ty : Nat} {x : Opd} {c : SC} (h : Inv L0 w0 L lam fr H a w) (hk : chkConvSB P o.op ty x = true) {C : Callee} (hs : stepA C fr H (.convSB ty x) = some (c, fr', H')) : Done P L0 w0 o a w Q c fr' H' := by
  unfold chkConvSB at hk
  split at hk
  · rename_i s d y hop
    simp only [Bool.and_eq_true, decide_eq_true_eq] at hk
    obtain ⟨hty, hk⟩ := hk
    have hks := strIs_und hk.2.1
    obtain ⟨e, hd, he⟩ := isByteSl_und hk.2.2
    rw [hd] at hty
    obtain rfl : e = ty := by simpa using hty
    simp only [stepA] at hs
    split at hs
    · rename_i n hn
      simp at hs; obtain ⟨rfl, rfl, rfl⟩ := hs
      have ev := (evV_ok h hk.1 hn).str_inv
      have hr := Go.Lib.run_convert_string_bytes (P := P) w s d e n hks hd he
      have hcap : n.size ≤ grownCap w n.size 0 e := by unfold grownCap; simp [Question.cut]
      have hbl : (n.data.toList.map fun b => Value.int .u8 b.toNat).length = n.size := by simp
      have hbs : (Go.Lib.bytesCells w e n).toList = (n.data.toList.map fun b => Value.int .u8 b.toNat) ++ List.replicate (grownCap w n.size 0 e - n.size) (.int .u8 0) := by
        simp [Go.Lib.bytesCells]
      have hbz : (Go.Lib.bytesCells w e n).size = grownCap w n.size 0 e := by
        have := congrArg List.length hbs
        simp at this; omega
      have hsame : Same w (Go.Lib.bytesWorld w e n) := ⟨by simp [Go.Lib.bytesWorld, World.freeze, World.alloc, World.drew, -World.alloc_eq, -World.drew_eq], rfl, rfl, fun B hB => Go.Lib.bytesWorld_at_old w e n B hB⟩
      have hrun : (execOp a.eval o).run P w = .ok (.value (.slice (some ⟨w.heap.size, 0, none⟩) n.size (grownCap w n.size 0 e))) (Go.Lib.bytesWorld w e n) := by simp [execOp, hop, ev, hr]
      refine done_push h hrun hsame w.heap.size (Nat.le_refl _) ?_
        (n.data.toList.map fun b => Value.int .u8 b.toNat) _ e _ _ 1 (by omega) (Go.Lib.bytesWorld_at_new w e n) (fun k hk q => by omega) (by rw [hbl, hbz]; exact hcap) ?_ ?_
      · simp [Go.Lib.bytesWorld, World.freeze, World.alloc, World.drew, -World.alloc_eq, -World.drew_eq]
      · rw [hbs, List.take_left']
        · exact strCR L n
        · rfl
      · intro L' _ q
        exact VR.sl' (B := w.heap.size) (lo := 0) (off := 0) q (Nat.le_refl _) (by rw [hbl]; omega) (Nat.le_refl _) hcap (by rw [hbz]; omega)
    · simp at hs
  · simp at hk

def chkConvBS (P : Program) (o : Op) (x : Opd) : Bool := match o with
  | .convert s d y => chkOpd y x && (isByteSl P s && strIs P d)
  | _ => false

theorem bytesOf_ints : ∀ {cs : List Value} {l : List UInt8}, bytesOf cs = some l → ∃ ns : List Int, cs = ns.map (Value.int .u8) ∧ l = ns.map (fun n => UInt8.ofNat n.toNat)
  | [], l, h => by simp [bytesOf] at h; subst h; exact ⟨[], rfl, rfl⟩
  | v :: r, l, h => by
    unfold bytesOf at h
    split at h
    · rename_i heq; simp at heq
    · rename_i n r' heq
      simp at heq; obtain ⟨rfl, rfl⟩ := heq
      split at h
      · rename_i l' hl
        simp at h; subst h
        obtain ⟨ns, rfl, rfl⟩ := bytesOf_ints hl
        exact ⟨n :: ns, rfl, rfl⟩
      · simp at h
    · simp at h

theorem foldl_push (ns : List Int) : ∀ b : ByteArray, ns.foldl (fun r n => r.push (UInt8.ofNat n.toNat)) b = ⟨(b.data.toList ++ ns.map fun n => UInt8.ofNat n.toNat).toArray⟩ := by
  induction ns with
  | nil => intro b; simp
  | cons n ns ih => intro b; simp only [List.foldl_cons, ih]; congr 1; simp [ByteArray.push]

theorem CR.ints {ns : List Int} {ys : List Value} (h : CR L (ns.map (Value.int .u8)) ys) : ys = ns.map (Value.int .u8) := by
  apply List.ext_getElem?
  intro i
  cases hq : (ns.map (Value.int IntKind.u8))[i]? with
  | none => rw [List.getElem?_eq_none_iff] at hq ⊢; rw [← h.1]; exact hq
  | some v =>
    obtain ⟨_, x, hx, r⟩ := h.2 i v hq
    rw [hx]
    rw [List.getElem?_map] at hq
    cases hn : ns[i]? with
    | none => rw [hn] at hq; simp at hq
    | some n => rw [hn] at hq; simp at hq; subst hq; rw [r.int_inv]

theorem step_convBS {o : Oper} {Q : Exit → Act → World → Prop} {x : Opd} {c : SC} (h : Inv L0 w0 L lam fr H a w) (hk : chkConvBS P o.op x = true) {C : Callee} (hs : stepA C fr H (.convBS x) = some (c, fr', H')) : Done P L0 w0 o a w Q c fr' H' := by
  unfold chkConvBS at hk
  split at hk
  · rename_i s d y hop
    simp only [Bool.and_eq_true] at hk
    obtain ⟨e, hd, he⟩ := isByteSl_und hk.2.1
    have hkd := strIs_und hk.2.2
    simp only [stepA] at hs
    split at hs
    · rename_i sv hsv
      split at hs
      · rename_i cs hcs
        split at hs
        · rename_i l hl
          simp at hs; obtain ⟨rfl, rfl, rfl⟩ := hs
          obtain ⟨ns, rfl, rfl⟩ := bytesOf_ints hl
          have r := evV_ok h hk.1 hsv
          obtain ⟨n, hn⟩ : ∃ n, slLen sv = some n := by
            unfold rdSl at hcs; split at hcs
            · exact ⟨0, rfl⟩
            · exact ⟨_, rfl⟩
            · simp at hcs
          obtain ⟨ys, c1, c2, c3, c4, c5⟩ := rdSl_sound h.rel.heap r hcs hn
          have hys := c1.ints
          refine done_v (x := .string ⟨(ns.map fun n => UInt8.ofNat n.toNat).toArray⟩) h ?_ (.str _)
          rcases c5 with ⟨cap, hx, rfl⟩ | ⟨b, cap, hx, hload⟩
          · have : ns = [] := by
              have hl := c1.1; simp at hl; simp at c2; rw [c2] at hl; simpa using hl
            subst this
            simp [execOp, hop, hx, run_convert_bytes_string w s d e none 0 cap hd he hkd, Conv.bytesToString]
            rfl
          · have h1 := hload P n (by omega)
            rw [show ys.take n = ys by rw [List.take_of_length_le]; omega] at h1
            rw [hys] at h1
            have hr := run_bytesToString (P := P) w b n cap ns (by simpa using h1)
            rw [foldl_push] at hr
            simp [execOp, hop, hx, run_convert_bytes_string w s d e (some b) n cap hd he hkd, hr]
        · simp at hs
      · simp at hs
    · simp at hs
  · simp at hk

theorem step_callV {C : Callee} (hC : CalleeOk P C) {o : Oper} {Q : Exit → Act → World → Prop} {fv : Opd} {args : List Opd} {c : SC} (h : Inv L0 w0 L lam fr H a w) (hk : chkCallV o.op fv args = true)
    (hF : ∀ f xs H r, C f xs H = some r → ∃ fn, P.funcs[f]? = some fn ∧ ¬ fn.body = none ∧ ¬ fn.name = "runtime.NumGoroutine") (hs : stepA C fr H (.callV fv args) = some (c, fr', H')) : Done P L0 w0 o a w Q c fr' H' := by
  unfold chkCallV at hk
  split at hk
  · rename_i g as ts hop
    simp only [Bool.and_eq_true] at hk
    simp only [stepA] at hs
    split at hs
    · rename_i gv xs hg hxs
      split at hs
      · rename_i f ys hfn
        split at hs
        · rename_i v H1 hcv
          simp at hs; obtain ⟨rfl, rfl, rfl⟩ := hs
          unfold fnOf at hfn
          split at hfn
          · rename_i f' first captured
            simp at hfn; obtain ⟨rfl, rfl⟩ := hfn
            have r := evV_ok h hk.1 hg
            have rxs := evVs_ok h hk.2 hxs
            generalize he : a.eval g = z at r
            cases r with
            | fn _ _ a' _ b' hok ha hb h1 h2 =>
              have rall : AR L (first.toList ++ xs ++ captured.toList) (a'.toList ++ as.toList.map a.eval ++ b'.toList) := ((AR.of_arr ha h1).append rxs).append (AR.of_arr hb h2)
              rw [List.append_assoc] at rall
              have hcall := hC _ _ _ _ _ hcv L w _ h.rel.heap rall
              obtain ⟨fn, hfn, hb, hn⟩ := hF _ _ _ _ hcv
              have hex : (execOp a.eval o).run P w = .ok (.enter f' (a'.toList ++ as.toList.map a.eval ++ b'.toList).toArray) w := by
                have e : a' ++ (as.map a.eval ++ b') = (a'.toList ++ (as.toList.map a.eval ++ b'.toList)).toArray := Array.ext' (by simp)
                simp [execOp, hop, resolve, he, Deferred.ofValue, invoke, callFunc, hfn, hb, hn, e]
              unfold Done Oper.wp
              rw [hex]
              simp only [Oper.upon]
              refine hcall.mono ?_
              rintro e w' ⟨x, L', rfl, hv, hr, hk⟩
              exact ⟨L', lam, (h.after hr hk).putV (av := .v v) o.dst hv⟩
          · simp at hfn
        · simp at hs
      · simp at hs
    · simp at hs
  · simp at hk

end Go.AM
