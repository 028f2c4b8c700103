/- One operation: comparisons with nil, empty slice literals, maps. No condition. -/
import Derived.Test.YtknogapmjleliaaDoorAmP
import Derived.MapKept
import Derived.WalkSpells
import Derived.WideLaws
namespace Go.AM
open Go Go.MapKept

variable {P : Program} {L0 L : Locs} {w0 w : World} {lam : Nat → Nat} {fr fr' : Fr} {H H' : Heap} {a : Act}

def nilTy (P : Program) (t : TypeId) (k : Nat) (z : Value) : Bool := match P.underlying t with
  | some (.pointer _) => (match z with | .pointer none => k == 0 | _ => false)
  | some (.slice _) => (match z with | .slice none _ _ => k == 1 | _ => false)
  | some (.map _ _) => (match z with | .map none => k == 2 | _ => false)
  | _ => false

def chkEqNil (P : Program) (o : Op) (neq : Bool) (k : Nat) (x : Opd) : Bool := match o with
  | .binOp op t y (.const z) _ => decide (op = if neq then .neq else .eql) && (chkOpd y x && nilTy P t k z)
  | _ => false

theorem nil_run {t : TypeId} {k : Nat} {v x z : Value} {b : Bool} (hk : nilTy P t k z = true) (hx : VR L v x) (hv : nilOf k v = some b) :
    (binOp .eql t x z).run P w = .ok (.bool b) w ∧ (binOp .neq t x z).run P w = .ok (.bool !b) w ∧ ∀ op y1 y2, (eqGuard op t y1 y2 x z).run P w = .ok () w := by
  unfold nilTy at hk
  split at hk
  · rename_i e he
    split at hk
    · simp at hk; subst hk
      have hpe : P.underlying t = some (.pointer (P.pointee t)) := by simp [Program.pointee, he]
      cases hx <;> simp [nilOf] at hv <;> subst hv
      · exact ⟨run_eql_pointer_nil w t none hpe, run_neq_pointer_nil w t none hpe, fun op _ _ => by unfold eqGuard; cases op <;> rfl⟩
      · exact ⟨run_eql_pointer_nil w t (some _) hpe, run_neq_pointer_nil w t (some _) hpe, fun op _ _ => by unfold eqGuard; cases op <;> rfl⟩
    · simp at hk
  · rename_i e he
    split at hk
    · simp at hk; subst hk
      cases hx <;> simp [nilOf] at hv <;> subst hv <;> exact ⟨Lib.run_eql_slice_nil w t e _ _ _ _ _ he, run_neq_slice_nil_any w t e _ _ _ _ _ he, fun op _ _ => by unfold eqGuard; cases op <;> rfl⟩
    · simp at hk
  · rename_i k e he
    split at hk
    · simp at hk; subst hk
      cases hx <;> simp [nilOf] at hv <;> subst hv <;> exact ⟨run_eql_map_nil w t k e _ he, run_neq_map_nil w t k e _ he, fun op _ _ => by unfold eqGuard; cases op <;> rfl⟩
    · simp at hk
  · simp at hk

theorem step_eqNil {o : Oper} {Q : Exit → Act → World → Prop} {neq : Bool} {k : Nat} {x : Opd} {c : SC} (h : Inv L0 w0 L lam fr H a w) (hk : chkEqNil P o.op neq k x = true) {C : Callee} (hs : stepA C fr H (.eqNil neq k x) = some (c, fr', H')) : Done P L0 w0 o a w Q c fr' H' := by
  unfold chkEqNil at hk
  split at hk
  · rename_i op t y z t' hop
    simp only [Bool.and_eq_true, decide_eq_true_eq] at hk
    obtain ⟨hopk, hx, ht⟩ := hk
    simp only [stepA] at hs
    split at hs
    · rename_i v hv
      split at hs
      · rename_i b hb
        simp at hs; obtain ⟨rfl, rfl, rfl⟩ := hs
        obtain ⟨he, hne, hg⟩ := nil_run (w := w) ht (evV_ok h hx hv) hb
        have ez : a.eval (.const z) = z := rfl
        cases neq with
        | true =>
          simp at hopk; subst hopk
          exact done_v h (by simp [execOp, hop, hg, hne, ez]) (.bool _)
        | false =>
          simp at hopk; subst hopk
          exact done_v h (by simp [execOp, hop, hg, he, ez]) (.bool _)
      · simp at hs
    · simp at hs
  · simp at hk

def chkBuildSl0 (P : Program) (o : Op) (ty sz n : Nat) (z : List Value) (ps : List (Nat × Nat × Opd)) : Bool := match o with
  | .buildSlice t 0 parts => n == 0 && (parts.toList.isEmpty && (z.isEmpty && (ps.isEmpty && (decide (0 < sz) && (match P.underlying t with
      | some (.slice e) => decide (e = ty) && szIs P e sz
      | _ => false)))))
  | _ => false

theorem step_buildSl0 {o : Oper} {Q : Exit → Act → World → Prop} {ty sz n : Nat} {z : List Value} {ps : List (Nat × Nat × Opd)} {c : SC} (h : Inv L0 w0 L lam fr H a w) (hk : chkBuildSl0 P o.op ty sz n z ps = true) {C : Callee} (hs : stepA C fr H (.buildSl ty sz n z ps) = some (c, fr', H')) : Done P L0 w0 o a w Q c fr' H' := by
  unfold chkBuildSl0 at hk
  split at hk
  · rename_i t parts hop
    simp only [Bool.and_eq_true, decide_eq_true_eq, beq_iff_eq, List.isEmpty_iff] at hk
    obtain ⟨rfl, hp, rfl, rfl, hsz0, ht⟩ := hk
    split at ht
    · rename_i e hu
      simp only [Bool.and_eq_true, decide_eq_true_eq] at ht
      obtain ⟨rfl, ht⟩ := ht
      have hszr := szIs_run ht w
      simp [stepA, evPs, fillA] at hs
      obtain ⟨rfl, rfl, rfl⟩ := hs
      have hm : (parts.map fun x => (x.1, a.eval x.2)).toList = [] := by rw [Array.toList_map, hp]; rfl
      have hz0 : 0 * sz = 0 := by omega
      have hrun : (execOp a.eval o).run P w = .ok (.value (.slice (some ⟨w.heap.size, 0, none⟩) 0 0)) (w.alloc (.cells #[] e)) := by
        simp only [execOp, hop, Instr.buildSlice, Sem.run_bind, run_underlying hu, Result.andThen_ok, hszr, hz0, if_neg (show ¬ (0 > 2 ^ 24) by omega), if_true, Sem.run_pure, hm, Instr.fill, newRow, run_newObj_alloc]
        simp [show Array.range 0 = #[] from rfl]
      refine done_push h hrun (Same.alloc _ _) w.heap.size (Nat.le_refl _) (alloc_lt _ _) [] #[] e 0 0 sz hsz0 (alloc_new _ _) (fun k _ q => by omega) (Nat.le_refl _) (CR.nil _) ?_
      intro L' _ q
      exact VR.sl' (B := w.heap.size) (lo := 0) (off := 0) q (Nat.le_refl _) (by simp) (Nat.le_refl _) (Nat.le_refl _) (by simp)
    · simp at ht
  · simp at hk

/-- the kind of a type whose values are keys -/
def keyTy (P : Program) (t : TypeId) : Option SK := match P.underlying t with
  | some (.int k) => some (.int k)
  | some .string => some .str
  | _ => none

theorem key_is {t : TypeId} {kd : SK} {k : Value} (ht : keyTy P t = some kd) (hk : keyOk kd k = true) : ∃ d, P.underlying t = some d ∧ IsKey d k ∧ ∀ k' b, keyEq k k' = some b → Instr.sameNow d k k' = some b := by
  unfold keyTy at ht
  split at ht
  · rename_i i hu
    simp at ht; subst ht
    cases k <;> simp [keyOk] at hk
    rename_i j n
    subst hk
    refine ⟨_, hu, rfl, fun k' b h => ?_⟩
    cases k' <;> simp [keyEq] at h
    obtain ⟨rfl, h⟩ := h
    simp [Instr.sameNow, h]
  · rename_i hu
    simp at ht; subst ht
    cases k <;> simp [keyOk] at hk
    refine ⟨_, hu, trivial, fun k' b h => ?_⟩
    cases k' <;> simp [keyEq] at h
    simp [Instr.sameNow, beq_toListBytes, h]
  · simp at ht

theorem find_ok {L : Locs} {k : Value} {d : TypeDesc} (hd : ∀ k' b, keyEq k k' = some b → Instr.sameNow d k k' = some b) : ∀ (es : List (Value × Value)) (es' : List MapEntry) (i : Nat) (r : Option (Nat × Value)), es'.length = es.length → (∀ (j : Nat) (u v : Value), es[j]? = some (u, v) → ∃ e : MapEntry, es'[j]? = some e ∧ e.key = u ∧ VR L v e.val) → findA k es i = some r →
    (r = none ∧ Instr.findNow d k es' i = some none) ∨ ∃ j v e, r = some (i + j, v) ∧ Instr.findNow d k es' i = some (some (i + j, e.val)) ∧ es'[j]? = some e ∧ VR L v e.val ∧ j < es.length ∧ keyEq k e.key = some true
  | [], [], i, r, _, _, h => by simp [findA] at h; subst h; exact .inl ⟨rfl, rfl⟩
  | (u, v) :: es, e :: es', i, r, hl, hr, h => by
    obtain ⟨e0, q, hk, hv⟩ := hr 0 u v rfl
    simp at q; subst q; subst hk
    simp only [findA] at h
    split at h
    · rename_i hq
      simp at h; subst h
      exact .inr ⟨0, v, e, rfl, by simp [Instr.findNow, hd _ _ hq], rfl, hv, by simp, hq⟩
    · rename_i hq
      have ih := find_ok hd es es' (i + 1) r (by simpa using hl) (fun j u v g => hr (j + 1) u v (by simpa using g)) h
      rcases ih with ⟨rfl, h1⟩ | ⟨j, v', e', rfl, h1, h2, h3, h4, h5⟩
      · exact .inl ⟨rfl, by simp [Instr.findNow, hd _ _ hq, h1]⟩
      · exact .inr ⟨j + 1, v', e', by simp; omega, by simp [Instr.findNow, hd _ _ hq, h1]; omega, by simpa using h2, h3, by simpa using h4, h5⟩
    · simp at h
  | [], _ :: _, _, _, hl, _, _ => by simp at hl
  | _ :: _, [], _, _, hl, _, _ => by simp at hl

/-- a new object -/
theorem Inv.pushO {w' : World} (h : Inv L0 w0 L lam fr H a w) (s : Same w w') (l : Loc) (hB : w.heap.size ≤ l.B) (hB' : l.B < w'.heap.size) (ob : AObj) (hob : ∀ L' : Locs, L' H.length 0 = some l → ObjR L' w' H.length ob) :
    ∃ L', Inv L0 w0 L' lam fr (H ++ [ob]) a w' ∧ L.le L' ∧ L' H.length 0 = some l := by
  have hn : L H.length 0 = none := by
    cases hq : L H.length 0 with
    | none => rfl
    | some l => have := (h.rel.heap.dom _ _ _ hq).1; omega
  have hle := Locs.le_put (L := L) (f := H.length) (c := 0) l hn
  have hi := h.same s
  refine ⟨L.put H.length 0 l, ⟨⟨hi.rel.len, hi.rel.dfr, fun n c q => (hi.rel.slot n c q).mono hle, ⟨?_, ?_, ?_, ?_, ?_⟩, ?_, hi.rel.inj⟩, ?_, hi.low⟩, hle, Locs.put_same _ _ _ _⟩
  · intro f o q
    rw [List.getElem?_append] at q
    split at q
    · exact (hi.rel.heap.obj f o q).mono hle
    · rename_i hf
      have : f = H.length := by
        rcases Nat.lt_or_ge (f - H.length) 1 with h1 | h1
        · omega
        · rw [List.getElem?_eq_none (by simpa using h1)] at q; simp at q
      subst this
      simp at q
      subst q
      exact hob _ (Locs.put_same _ _ _ _)
  · intro f c l' q
    rcases Locs.put_some q with ⟨rfl, rfl, rfl⟩ | ⟨_, q⟩
    · exact ⟨by simp, hB'⟩
    · exact ⟨by have := (hi.rel.heap.dom _ _ _ q).1; simp; omega, (hi.rel.heap.dom _ _ _ q).2⟩
  · intro f c l1 f' c' l' q q' hr he
    rcases Locs.put_some q with ⟨rfl, rfl, rfl⟩ | ⟨_, qq⟩ <;> rcases Locs.put_some q' with ⟨e1, rfl, rfl⟩ | ⟨_, qq'⟩
    · exact e1.symm
    · have := (h.rel.heap.dom _ _ _ qq').2; omega
    · have := (h.rel.heap.dom _ _ _ qq).2; omega
    · exact h.rel.heap.dis _ _ _ _ _ _ qq qq' hr he
  · intro f c l' ty' sz' vals' cur minv frz ro q ho
    rcases Locs.put_some q with ⟨rfl, rfl, rfl⟩ | ⟨_, q⟩
    · exact Nat.zero_le _
    · rw [List.getElem?_append_left (hi.rel.heap.dom _ _ _ q).1] at ho
      exact h.rel.heap.cub _ _ _ _ _ _ _ _ _ _ q ho
  · intro f c c' l1 l' q q' he
    rcases Locs.put_some q with ⟨rfl, rfl, rfl⟩ | ⟨_, qq⟩ <;> rcases Locs.put_some q' with ⟨e1, rfl, rfl⟩ | ⟨_, qq'⟩
    · exact ⟨rfl, rfl, rfl⟩
    · have := (h.rel.heap.dom _ _ _ qq').2; omega
    · have := (h.rel.heap.dom _ _ _ qq).2; omega
    · exact h.rel.heap.los _ _ _ _ _ qq qq' he
  · intro n ys q f c l' ql
    rcases Locs.put_some ql with ⟨rfl, rfl, rfl⟩ | ⟨_, ql⟩
    · rcases h.locs n with h1 | h1
      · omega
      · exact (h1 ys q).elim
    · exact h.rel.own n ys q _ _ _ ql
  · refine ⟨hi.keep.size, hi.keep.os, hi.keep.out, hi.keep.old, hi.keep.le.trans hle, ?_⟩
    intro f c l' q
    rcases Locs.put_some q with ⟨rfl, rfl, rfl⟩ | ⟨_, q⟩
    · exact .inr (.inl (Nat.le_trans h.keep.size hB))
    · exact hi.keep.new _ _ _ q

def chkMkMap (o : Op) : Bool := match o with
  | .makeMap _ none => true
  | _ => false

theorem step_mkMap {o : Oper} {Q : Exit → Act → World → Prop} {c : SC} (h : Inv L0 w0 L lam fr H a w) (hk : chkMkMap o.op = true) {C : Callee} (hs : stepA C fr H .mkMap = some (c, fr', H')) : Done P L0 w0 o a w Q c fr' H' := by
  unfold chkMkMap at hk
  split at hk
  · rename_i t hop
    simp [stepA] at hs
    obtain ⟨rfl, rfl, rfl⟩ := hs
    obtain ⟨L', hi, _, hl⟩ := h.pushO (Same.alloc w (.map #[] 0)) ⟨w.heap.size, 0, 0, 0, 1, false, 0⟩ (Nat.le_refl _) (alloc_lt _ _) (.amap []) (fun L' q => ⟨_, #[], 0, q, rfl, alloc_new _ _, rfl, fun i k v g => by simp at g⟩)
    have hrun : (execOp a.eval o).run P w = .ok (.value (.map (some w.heap.size))) (w.alloc (.map #[] 0)) := by
      have : (Instr.makeMap t none).run P w = .ok (.map (some w.heap.size)) (w.alloc (.map #[] 0)) := rfl
      simp [execOp, hop, this]
    refine wp_value hrun ⟨L', lam, hi.putV (av := .v _) o.dst (VR.map H.length _ hl rfl)⟩
  · simp at hk

/-- a map's entries -/
def ER (L : Locs) (es : List (Value × Value)) (es' : Array MapEntry) : Prop := es'.size = es.length ∧ ∀ (i : Nat) (k v : Value), es[i]? = some (k, v) → ∃ e : MapEntry, es'[i]? = some e ∧ e.key = k ∧ VR L v e.val

theorem mapOf_ok (h : HR L H w) {mv x : Value} {es : List (Value × Value)} (hx : VR L mv x) (hm : mapOf H mv = some es) : (x = .map none ∧ es = []) ∨ ∃ f l es' clk, mv = .map (some f) ∧ x = .map (some l.B) ∧ L f 0 = some l ∧ l.ro = false ∧ H[f]? = some (.amap es) ∧ w.heap[l.B]? = some (.map es' clk) ∧ ER L es es' := by
  cases hx <;> simp [mapOf] at hm
  case mnil => exact .inl ⟨rfl, hm⟩
  case map f l hl h0 =>
    split at hm
    · rename_i es1 hf
      simp at hm; subst hm
      obtain ⟨l', es', clk, q, _, hb, hn, hr⟩ := h.obj f _ hf
      rw [hl] at q; simp at q; subst q
      exact .inr ⟨f, l, es', clk, rfl, rfl, hl, h0, hf, hb, hn, hr⟩
    · simp at hm

def chkLook (P : Program) (o : Op) (kd : SK) (ok : Bool) (z : Value) (m k : Opd) : Bool := match o with
  | .lookup t x i ok' => ok == ok' && (chkOpd x m && (chkOpd i k && (match P.underlying t with
      | some (.map kt e) => decide (keyTy P kt = some kd) && (match P.info? e with | some ie => (match ie.zero with | some v => sameC z v | none => false) | none => false)
      | _ => false)))
  | _ => false

theorem keyOk_inv {kd : SK} {kv x : Value} (hx : VR L kv x) (hk : keyOk kd kv = true) : x = kv := by
  cases hx <;> first | rfl | (cases kd <;> simp [keyOk] at hk)

theorem run_lookup {t kt e : TypeId} {zv x kv : Value} {ok : Bool} {l : Array MapEntry} {res : Option (Nat × Value)} (hu : P.underlying t = some (.map kt e)) (hz : (zeroValue e).run P w = .ok zv w)
    (hx : (x = .map none ∧ l = #[]) ∨ ∃ r clk, x = .map (some r) ∧ w.heap[r]? = some (.map l clk)) (hc : ∀ b, (Instr.checkKey b 10000 kt kv).run P w = .ok () w) (hf : (Instr.findKey kt kv l.toList).run P w = .ok res w) :
    (Instr.lookup t x kv ok).run P w = .ok (if ok then .tuple #[resV zv res, .bool res.isSome] else resV zv res) w := by
  rcases hx with ⟨rfl, rfl⟩ | ⟨r, clk, rfl, hb⟩
  · unfold Instr.lookup
    simp only [Sem.run_bind, run_underlying hu, Result.andThen_ok, Sem.run_pure, hc, hf]
    cases res with
    | none => cases ok <;> simp [hz, resV]
    | some p => cases ok <;> simp [resV]
  · unfold Instr.lookup
    simp only [Sem.run_bind, run_underlying hu, Result.andThen_ok, Sem.run_pure, MapKept.run_getObj_map hb, hc, hf]
    cases res with
    | none => cases ok <;> simp [hz, resV]
    | some p => cases ok <;> simp [resV]

theorem step_look {o : Oper} {Q : Exit → Act → World → Prop} {kd : SK} {ok : Bool} {z : Value} {m k : Opd} {c : SC} (h : Inv L0 w0 L lam fr H a w) (hk : chkLook P o.op kd ok z m k = true) {C : Callee} (hs : stepA C fr H (.look kd ok z m k) = some (c, fr', H')) : Done P L0 w0 o a w Q c fr' H' := by
  unfold chkLook at hk
  split at hk
  · rename_i t x i ok' hop
    simp only [Bool.and_eq_true] at hk
    obtain ⟨hok, hx, hi, ht⟩ := hk
    obtain rfl := eq_of_beq hok
    split at ht
    · rename_i kt e hu
      simp only [Bool.and_eq_true, decide_eq_true_eq] at ht
      obtain ⟨hkt, ht⟩ := ht
      split at ht
      · rename_i ie hie
        split at ht
        · rename_i zv hzv
          simp only [stepA] at hs
          split at hs
          · rename_i mv kv hm hkv
            split at hs
            · rename_i es hes
              split at hs
              · rename_i r hko hfi
                simp only [Option.some.injEq, Prod.mk.injEq] at hs; obtain ⟨rfl, rfl, rfl⟩ := hs
                have ek := keyOk_inv (evV_ok h hi hkv) hko
                obtain ⟨d, hud, hkey, hsame⟩ := key_is hkt hko
                have hzr : (zeroValue e).run P w = .ok zv w := by
                  simp only [zeroValue, Sem.run_bind, run_typeInfo w hie, Result.andThen_ok, hzv]; rfl
                have hchk : ∀ b, (Instr.checkKey b 10000 kt kv).run P w = .ok () w := fun b => run_checkKey hud hkey b 9999
                have fin : ∀ (l : Array MapEntry) (res : Option (Nat × Value)), ((a.eval x = .map none ∧ l = #[]) ∨ ∃ r clk, a.eval x = .map (some r) ∧ w.heap[r]? = some (.map l clk)) → (Instr.findKey kt kv l.toList).run P w = .ok res w →
                    res.isSome = r.isSome → VR L (resV z r) (resV zv res) → Done P L0 w0 o a w Q (.v (if ok then .tuple #[resV z r, .bool r.isSome] else resV z r)) fr H := by
                  intro l res h1 h2 h3 h4
                  refine done_v h (x := if ok then .tuple #[resV zv res, .bool res.isSome] else resV zv res) ?_ ?_
                  · simp [execOp, hop, ek, run_lookup (ok := ok) hu hzr h1 hchk h2]
                  · cases ok with
                    | false => exact h4
                    | true =>
                      refine VR.tup _ _ rfl (fun i p q => ?_)
                      have : i = 0 ∨ i = 1 := by simp at p; omega
                      rcases this with rfl | rfl
                      · exact h4
                      · simp only [h3]; exact VR.bool _
                rcases mapOf_ok h.rel.heap (evV_ok h hx hm) hes with ⟨e1, rfl⟩ | ⟨f, l, es', clk, _, e1, _, _, _, hb, hn, hr⟩
                · have : r = none := by simp [findA] at hfi; exact hfi.symm
                  subst this
                  exact fin #[] none (.inl ⟨e1, rfl⟩) (MapKept.run_findKey hud rfl) rfl (sameC_ok ht L)
                · rcases find_ok hsame es es'.toList 0 r (by simpa using hn) (fun j u v g => by simpa using hr j u v g) hfi with ⟨rfl, hf⟩ | ⟨j, v, e', rfl, hf, _, hv, _⟩
                  · exact fin es' none (.inr ⟨_, clk, e1, hb⟩) (MapKept.run_findKey hud hf) rfl (sameC_ok ht L)
                  · exact fin es' _ (.inr ⟨_, clk, e1, hb⟩) (MapKept.run_findKey hud hf) rfl hv
              · simp at hs
            · simp at hs
          · simp at hs
        · simp at ht
      · simp at ht
    · simp at ht
  · simp at hk

def chkMapUp (P : Program) (o : Op) (kd : SK) (m k x : Opd) : Bool := match o with
  | .mapUpdate t y i v => chkOpd y m && (chkOpd i k && (chkOpd v x && (match P.underlying t with
      | some (.map kt _) => decide (keyTy P kt = some kd)
      | _ => false)))
  | _ => false

/-- what a key is -/
theorem keyEq_inv {k v : Value} {b : Bool} (h : keyEq k v = some b) : (∃ i x y, k = .int i x ∧ v = .int i y ∧ b = (x == y)) ∨ ∃ x y, k = .string x ∧ v = .string y ∧ b = (x.toList == y.toList) := by
  unfold keyEq at h
  split at h
  · split at h
    · rename_i e; subst e; simp at h; exact .inl ⟨_, _, _, rfl, rfl, h.symm⟩
    · simp at h
  · simp at h; exact .inr ⟨_, _, rfl, rfl, h.symm⟩
  · simp at h

theorem sameBits_key {d : TypeDesc} {kd : SK} {k k' : Value} (hk : keyOk kd k = true) (h : keyEq k k' = some true) : Instr.sameBits 10000 k' k = true ∧ k' = k := by
  rcases keyEq_inv h with ⟨i, x, y, rfl, rfl, e⟩ | ⟨x, y, rfl, rfl, e⟩
  · have e' := eq_of_beq e.symm
    subst e'
    simp [Instr.sameBits]
  · have e' : x = y := (MapKept.bytes_beq x y).1 (by rw [beq_toListBytes]; exact e.symm)
    subst e'
    refine ⟨?_, rfl⟩
    simp [Instr.sameBits, beq_toListBytes]

theorem run_mapUpdate {t kt e : TypeId} {kv xv : Value} {r clk : Nat} {es : Array MapEntry} {res : Option (Nat × Value)} (hu : P.underlying t = some (.map kt e)) (hb : w.heap[r]? = some (.map es clk))
    (hc : ∀ b, (Instr.checkKey b 10000 kt kv).run P w = .ok () w) (hf : (Instr.findKey kt kv es.toList).run P w = .ok res w) (hs : ∀ i v, res = some (i, v) → ∃ e, es[i]? = some e ∧ Instr.sameBits 10000 e.key kv = true) :
    (Instr.mapUpdate t (.map (some r)) kv xv).run P w = .ok () { w with heap := w.heap.setIfInBounds r (match res with
      | some (i, _) => .map (es.modify i fun e => { e with key := kv, val := xv }) clk
      | none => .map (es.push { key := kv, val := xv, born := clk }) (clk + 1)) } := by
  unfold Instr.mapUpdate
  simp only [Sem.run_bind, run_underlying hu, Result.andThen_ok, Sem.run_pure, MapKept.run_getObj_map hb, hc, hf]
  cases res with
  | none => exact MapKept.run_setObj_map _ hb
  | some p =>
    obtain ⟨i, v⟩ := p
    obtain ⟨e, he, hbt⟩ := hs i v rfl
    have hkk : (Instr.keyThatStays (((es[i]?).map (·.key)).getD kv) kv).run P w = .ok kv w := by
      simp [Instr.keyThatStays, he, hbt]
    simp only [Sem.run_bind, hkk, Result.andThen_ok]
    exact MapKept.run_setObj_map _ hb

theorem step_mapUp {o : Oper} {Q : Exit → Act → World → Prop} {kd : SK} {m k x : Opd} {c : SC} (h : Inv L0 w0 L lam fr H a w) (hk : chkMapUp P o.op kd m k x = true) {C : Callee} (hs : stepA C fr H (.mapUp kd m k x) = some (c, fr', H')) : Done P L0 w0 o a w Q c fr' H' := by
  unfold chkMapUp at hk
  split at hk
  · rename_i t y i v hop
    simp only [Bool.and_eq_true] at hk
    obtain ⟨hm, hi, hx, ht⟩ := hk
    split at ht
    · rename_i kt e hu
      simp only [decide_eq_true_eq] at ht
      simp only [stepA] at hs
      split at hs
      · rename_i f kv xv hme hkv hxv
        split at hs
        · rename_i es hes
          have rm := evV_ok h hm hme
          obtain ⟨l, es', clk, hl, h0, hb, hn, hr⟩ := h.rel.heap.obj f _ hes
          have em : a.eval y = .map (some l.B) := by
            generalize a.eval y = u at rm
            cases rm with
            | map _ l' q _ => rw [hl] at q; simp at q; subst q; rfl
          have ex := evV_ok h hx hxv
          have lt : l.B < w.heap.size := (h.rel.heap.dom _ _ _ hl).2
          have chg : ∀ ob : Obj, Chg L f w { w with heap := w.heap.setIfInBounds l.B ob } := by
            intro ob
            refine ⟨by simp, rfl, rfl, fun B hB hne => ?_⟩
            have := hne 0 l hl h0
            simp [this]
          have got : ∀ ob : Obj, ({ w with heap := w.heap.setIfInBounds l.B ob } : World).heap[l.B]? = some ob := by
            intro ob; simp [lt]
          split at hs
          · rename_i j v0 hko hfi
            simp only [Option.some.injEq, Prod.mk.injEq] at hs; obtain ⟨rfl, rfl, rfl⟩ := hs
            have ek := keyOk_inv (evV_ok h hi hkv) hko
            obtain ⟨d, hud, hkey, hsame⟩ := key_is ht hko
            have hchk : ∀ b, (Instr.checkKey b 10000 kt kv).run P w = .ok () w := fun b => MapKept.run_checkKey hud hkey b 9999
            rcases find_ok hsame es es'.toList 0 _ (by simpa using hn) (fun j u v g => by simpa using hr j u v g) hfi with ⟨q, _⟩ | ⟨j', v', e', q, hf, hj, hv, hlt, hq⟩
            · simp at q
            · simp at q; obtain ⟨rfl, rfl⟩ := q
              simp only [Nat.zero_add] at hf
              obtain ⟨hbt, hke⟩ := sameBits_key (d := d) hko hq
              have hj' : es'[j]? = some e' := by simpa using hj
              have hrun := run_mapUpdate (xv := a.eval v) hu hb hchk (MapKept.run_findKey hud hf) (fun i v q => by simp at q; obtain ⟨rfl, rfl⟩ := q; exact ⟨e', hj', hbt⟩)
              refine wp_skip' (by simp only [execOp, hop, em, ek, Sem.run_bind, hrun]; rfl) ⟨L, lam, (h.setObj (chg _) _ ?_ (fun _ _ _ _ _ _ _ q => by simp at q)).putV (av := .v undef) o.dst (VR.undef L)⟩
              refine ⟨l, _, clk, hl, h0, got _, by simpa using hn, fun n u z g => ?_⟩
              rw [List.getElem?_set] at g
              by_cases en : j = n
              · subst en
                rw [if_pos rfl, if_pos (by simpa using hlt)] at g
                simp at g; obtain ⟨rfl, rfl⟩ := g
                exact ⟨{ e' with key := kv, val := a.eval v }, by simp [Array.getElem?_modify, hj'], rfl, ex⟩
              · rw [if_neg en] at g
                obtain ⟨e1, g1, g2, g3⟩ := hr n u z g
                exact ⟨e1, by simp [Array.getElem?_modify, en, g1], g2, g3⟩
          · rename_i hko hfi
            simp only [Option.some.injEq, Prod.mk.injEq] at hs; obtain ⟨rfl, rfl, rfl⟩ := hs
            have ek := keyOk_inv (evV_ok h hi hkv) hko
            obtain ⟨d, hud, hkey, hsame⟩ := key_is ht hko
            have hchk : ∀ b, (Instr.checkKey b 10000 kt kv).run P w = .ok () w := fun b => MapKept.run_checkKey hud hkey b 9999
            rcases find_ok hsame es es'.toList 0 _ (by simpa using hn) (fun j u v g => by simpa using hr j u v g) hfi with ⟨_, hf⟩ | ⟨j', v', e', q, _⟩
            · have hrun := run_mapUpdate (xv := a.eval v) hu hb hchk (MapKept.run_findKey hud hf) (fun i v q => by simp at q)
              refine wp_skip' (by simp only [execOp, hop, em, ek, Sem.run_bind, hrun]; rfl) ⟨L, lam, (h.setObj (chg _) _ ?_ (fun _ _ _ _ _ _ _ q => by simp at q)).putV (av := .v undef) o.dst (VR.undef L)⟩
              refine ⟨l, _, _, hl, h0, got _, by simp [hn], fun n u z g => ?_⟩
              rw [List.getElem?_append] at g
              split at g
              · rename_i hlt
                obtain ⟨e1, g1, g2, g3⟩ := hr n u z g
                exact ⟨e1, by rw [Array.getElem?_push, if_neg (by omega)]; exact g1, g2, g3⟩
              · rename_i hge
                have : n = es.length := by
                  rcases Nat.lt_or_ge (n - es.length) 1 with q | q
                  · omega
                  · rw [List.getElem?_eq_none (by simpa using q)] at g; simp at g
                subst this
                simp at g; obtain ⟨rfl, rfl⟩ := g
                exact ⟨{ key := kv, val := a.eval v, born := clk }, by simp [← hn], rfl, ex⟩
            · simp at q
          · simp at hs
        · simp at hs
      · simp at hs
    · simp at ht
  · simp at hk

def chkLenM (P : Program) (o : Op) (x : Opd) : Bool := match o with
  | .call ⟨.builtin .len, args, ts⟩ => chkOpds args.toList [x] && (match ts.toList with
      | [t] => (match P.underlying t with | some (.map _ _) => true | _ => false) | _ => false)
  | _ => false

theorem step_lenM {o : Oper} {Q : Exit → Act → World → Prop} {x : Opd} {c : SC} (h : Inv L0 w0 L lam fr H a w) (hk : chkLenM P o.op x = true) {C : Callee} (hs : stepA C fr H (.lenM x) = some (c, fr', H')) : Done P L0 w0 o a w Q c fr' H' := by
  unfold chkLenM at hk
  split at hk
  · rename_i args ts hop
    simp only [Bool.and_eq_true] at hk
    obtain ⟨hx, ht⟩ := hk
    obtain ⟨y, rfl, hy⟩ := opds1 hx
    split at ht
    · rename_i t hts
      have hts' : ts[0]? = some t := by rw [← Array.getElem?_toList, hts]; rfl
      split at ht
      · rename_i kt e hu
        simp only [stepA] at hs
        split at hs
        · rename_i mv hm
          split at hs
          · rename_i es hes
            simp at hs; obtain ⟨rfl, rfl, rfl⟩ := hs
            rcases mapOf_ok h.rel.heap (evV_ok h hy hm) hes with ⟨e1, rfl⟩ | ⟨f, l, es', clk, _, e1, _, _, _, hb, hn, hr⟩
            · exact done_v h (x := .int .i64 0) (by simp [execOp, hop, e1, resolve, invoke, builtin, Builtin.len_, hts', run_underlying hu, goInt]) (.int _ _)
            · refine done_v h (x := .int .i64 es.length) (by simp [execOp, hop, e1, resolve, invoke, builtin, Builtin.len_, hts', run_underlying hu, goInt, MapKept.run_getObj_map hb, hn]) (.int _ _)
          · simp at hs
        · simp at hs
      · simp at ht
    · simp at ht
  · simp at hk

end Go.AM
