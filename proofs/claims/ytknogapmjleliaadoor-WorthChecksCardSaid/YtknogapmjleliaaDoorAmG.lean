/- Operands, calls, and the check of an operation's copy. No condition. -/
import Derived.Test.YtknogapmjleliaaDoorAmF
import Derived.Laws.Tables
namespace Go.AM
open Go

def sameC1 : Value → Value → Bool
  | .bool a, .bool b => a == b
  | .int k n, .int k' m => decide (k = k') && decide (n = m)
  | .string a, .string b => a.data.toList == b.data.toList
  | .pointer none, .pointer none => true
  | .slice none 0 0, .slice none 0 0 => true
  | .map none, .map none => true
  | .nilFunc, .nilFunc => true
  | .nilIface, .nilIface => true
  | _, _ => false

def cellsC : List Value → List Value → Bool
  | [], [] => true
  | v :: r, x :: l => sameC1 v x && cellsC r l
  | _, _ => false

def sameC : Value → Value → Bool
  | .agg a, .agg b => cellsC a.toList b.toList
  | v, x => sameC1 v x

theorem sameC1_ok {v x : Value} (h : sameC1 v x = true) (L : Locs) : VR L v x ∧ one1 v := by
  unfold sameC1 at h
  split at h
  · simp at h; subst h; exact ⟨.bool _, trivial⟩
  · simp at h; obtain ⟨rfl, rfl⟩ := h; exact ⟨.int _ _, trivial⟩
  · rename_i a b
    have : a = b := by
      have := eq_of_beq h
      obtain ⟨⟨a⟩⟩ := a; obtain ⟨⟨b⟩⟩ := b
      simp at this; subst this; rfl
    subst this; exact ⟨.str _, trivial⟩
  · exact ⟨.pnil, trivial⟩
  · exact ⟨.snil, trivial⟩
  · exact ⟨.mnil, trivial⟩
  · exact ⟨.fnil, trivial⟩
  · exact ⟨.ifnil, trivial⟩
  · simp at h

theorem cellsC_ok (L : Locs) : ∀ {vs xs : List Value}, cellsC vs xs = true → CR L vs xs
  | [], [], _ => CR.nil _
  | v :: r, x :: l, h => by
    simp only [cellsC, Bool.and_eq_true] at h
    obtain ⟨r1, r2⟩ := sameC1_ok h.1 L
    exact CR.cons r2 r1 (cellsC_ok L h.2)
  | [], _ :: _, h => by simp [cellsC] at h
  | _ :: _, [], h => by simp [cellsC] at h

theorem sameC_ok {v x : Value} (h : sameC v x = true) (L : Locs) : VR L v x := by
  unfold sameC at h
  split at h
  · have := VR.of_agg (cellsC_ok L h); simpa using this
  · exact (sameC1_ok h L).1

def chkOpd : Operand → Opd → Bool
  | .tmp i, .t j => i == j
  | .const v, .c x => sameC x v
  | .func f, .f k => f == k
  | _, _ => false

def chkOpds : List Operand → List Opd → Bool
  | [], [] => true
  | o :: r, x :: l => chkOpd o x && chkOpds r l
  | _, _ => false

theorem evO_ok {L0 L : Locs} {w0 w : World} {lam : Nat → Nat} {fr : Fr} {H : Heap} {a : Act} (h : Inv L0 w0 L lam fr H a w) {o : Operand} {x : Opd} (hk : chkOpd o x = true) {av : AV} (he : evO fr x = some av) : AVR L lam (a.eval o) av := by
  unfold chkOpd at hk
  split at hk
  · rename_i i j
    simp at hk; subst hk
    simp only [evO] at he
    have hs : ∀ c, fr.getD i .no = c → c ≠ .no → SR L lam w i (a.tmps.getD i Go.undef) c := by
      intro c hc hn
      rw [List.getD_eq_getElem?_getD] at hc
      cases hq : fr[i]? with
      | none => rw [hq] at hc; simp at hc; exact (hn hc.symm).elim
      | some c' => rw [hq] at hc; simp at hc; subst hc; exact h.rel.slot _ _ hq
    simp only [Act.eval]
    split at he <;> rename_i hc
    · simp at he
    · simp at he; subst he; exact hs _ hc (by simp)
    · simp at he; subst he; exact hs _ hc (by simp)
    · simp at he; subst he; exact hs _ hc (by simp)
    · simp at he; subst he; exact (hs _ hc (by simp)).1
  · simp only [evO, Option.some.injEq] at he; subst he; exact sameC_ok hk L
  · simp at hk; subst hk
    simp only [evO, Option.some.injEq] at he; subst he
    exact .fn _ _ _ _ _ trivial rfl rfl (fun i p _ => absurd p (by simp)) (fun i p _ => absurd p (by simp))
  · simp at hk

theorem evV_ok {L0 L : Locs} {w0 w : World} {lam : Nat → Nat} {fr : Fr} {H : Heap} {a : Act} (h : Inv L0 w0 L lam fr H a w) {o : Operand} {x : Opd} (hk : chkOpd o x = true) {v : Value} (he : evV fr x = some v) : VR L v (a.eval o) := by
  unfold evV at he
  split at he
  · rename_i y hy; simp at he; subst he; exact evO_ok h hk hy
  · simp at he

/-- lists of values -/
def AR (L : Locs) (xs ys : List Value) : Prop := xs.length = ys.length ∧ ∀ (i : Nat) (v : Value), xs[i]? = some v → ∃ y : Value, ys[i]? = some y ∧ VR L v y

theorem AR.nil (L : Locs) : AR L [] [] := ⟨rfl, fun i v h => by simp at h⟩
theorem AR.cons {L : Locs} {v x : Value} {cs xs : List Value} (h : VR L v x) (h' : AR L cs xs) : AR L (v :: cs) (x :: xs) := by
  refine ⟨by simp [h'.1], fun i u q => ?_⟩
  cases i with
  | zero => simp at q; subst q; exact ⟨x, rfl, h⟩
  | succ i => simpa using h'.2 i u (by simpa using q)
theorem AR.append {L : Locs} {a b x y : List Value} (h : AR L a x) (h' : AR L b y) : AR L (a ++ b) (x ++ y) := by
  refine ⟨by simp [h.1, h'.1], fun i v q => ?_⟩
  rcases Nat.lt_or_ge i a.length with hi | hi
  · rw [List.getElem?_append_left hi] at q
    obtain ⟨u, hu, r⟩ := h.2 i v q
    exact ⟨u, by rw [List.getElem?_append_left (by rw [← h.1]; exact hi)]; exact hu, r⟩
  · rw [List.getElem?_append_right hi] at q
    obtain ⟨u, hu, r⟩ := h'.2 _ v q
    exact ⟨u, by rw [List.getElem?_append_right (by rw [← h.1]; exact hi), ← h.1]; exact hu, r⟩
theorem AR.of_arr {L : Locs} {a a' : Array Value} (ha : a.size = a'.size) (h1 : ∀ i (p : i < a.size) (q : i < a'.size), VR L a[i] a'[i]) : AR L a.toList a'.toList := by
  refine ⟨by simpa using ha, fun i v q => ?_⟩
  obtain ⟨hi, rfl⟩ := List.getElem?_eq_some_iff.1 q
  have hi1 : i < a.size := by simpa using hi
  exact ⟨a'[i]'(by omega), by simp [show i < a'.size by omega], by simpa using h1 i hi1 (by omega)⟩
theorem AR.arr {L : Locs} {xs ys : List Value} (h : AR L xs ys) : xs.toArray.size = ys.toArray.size ∧ ∀ i (p : i < xs.toArray.size) (q : i < ys.toArray.size), VR L xs.toArray[i] ys.toArray[i] := by
  refine ⟨by simpa using h.1, fun i p q => ?_⟩
  obtain ⟨y, hy, r⟩ := h.2 i xs[i] (List.getElem?_eq_getElem (by simpa using p))
  obtain ⟨_, rfl⟩ := List.getElem?_eq_some_iff.1 hy
  exact r

theorem evVs_ok {L0 L : Locs} {w0 w : World} {lam : Nat → Nat} {fr : Fr} {H : Heap} {a : Act} (h : Inv L0 w0 L lam fr H a w) : ∀ {os : List Operand} {xs : List Opd}, chkOpds os xs = true → ∀ {vs : List Value}, evVs fr xs = some vs → AR L vs (os.map a.eval)
  | [], [], _, vs, he => by simp only [evVs, Option.some.injEq] at he; subst he; exact AR.nil _
  | o :: r, x :: l, hk, vs, he => by
    simp only [chkOpds, Bool.and_eq_true] at hk
    simp only [evVs] at he
    split at he
    · rename_i v vs' h1 h2
      simp at he; subst he
      exact AR.cons (evV_ok h hk.1 h1) (evVs_ok h hk.2 h2)
    · simp at he
  | [], _ :: _, hk, _, _ => by simp [chkOpds] at hk
  | _ :: _, [], hk, _, _ => by simp [chkOpds] at hk

/-- a callee that does what it says -/
def CalleeOk (P : Program) (C : Callee) : Prop := ∀ f xs H v H', C f xs H = some (v, H') → ∀ L w ys, HR L H w → AR L xs ys →
  Calls P f ys.toArray w fun e w' => ∃ x L', e = .returned x ∧ VR L' v x ∧ HR L' H' w' ∧ Keep L w L' w'

theorem Inv.after {L0 L L' : Locs} {w0 w w' : World} {lam : Nat → Nat} {fr : Fr} {H H' : Heap} {a : Act} (h : Inv L0 w0 L lam fr H a w) (hr : HR L' H' w') (k : Keep L w L' w') : Inv L0 w0 L' lam fr H' a w' := by
  refine ⟨⟨h.rel.len, h.rel.dfr, ?_, hr, ?_, h.rel.inj⟩, h.keep.trans k, h.low⟩
  · intro n c q
    have hs := (h.rel.slot n c q).mono k.le
    cases c <;> try exact hs
    obtain ⟨e, xs, T, hb, r⟩ := hs
    exact ⟨e, xs, T, by rw [k.old _ (h.loc_lt q) (fun f c l ql _ => h.rel.own _ _ q _ _ _ ql)]; exact hb, r⟩
  · intro n ys q f c l ql
    rcases k.new f c l ql with r | r | ⟨c', l', r, e, _⟩
    · exact h.rel.own n ys q _ _ _ r
    · have := h.loc_lt q; omega
    · rw [← e]; exact h.rel.own n ys q _ _ _ r

/-- sizes and kinds of a type -/
def tyAgg (P : Program) (t : TypeId) : Option Bool := match P.underlying t with
  | some (.struct _) | some (.array _ _) => some true
  | some _ => some false
  | none => none

def szIs (P : Program) (t : TypeId) (n : Nat) : Bool := match P.info? t with | some i => i.size == n | none => false
def aggIs (P : Program) (t : TypeId) (b : Bool) : Bool := match tyAgg P t with | some c => c == b | none => false
def zeroIs (P : Program) (t : TypeId) (z : List Value) : Bool := match P.info? t with
  | some i => (match i.zero with | some v => cellsC z v.cells.toList | none => false) | none => false
def slOf (P : Program) (t : TypeId) : Option TypeId := match P.underlying t with | some (.slice e) => some e | _ => none
def slIs (P : Program) (t : TypeId) (sz : Nat) : Bool := match slOf P t with | some e => szIs P e sz && decide (0 < sz) | none => false
def fieldIs (P : Program) (t : TypeId) (j off n : Nat) : Bool := match P.underlying t with
  | some (.struct fs) => (match fs[j]? with | some f => f.offset == off && szIs P f.type n | none => false) | _ => false

theorem szIs_run {P : Program} {t : TypeId} {n : Nat} (h : szIs P t n = true) (w : World) : (sizeOf t).run P w = .ok n w := by
  unfold szIs at h
  split at h
  · rename_i i hi
    rw [run_sizeOf w hi]; simp [Program.cellsOf, hi]; exact eq_of_beq h
  · simp at h

theorem aggIs_run {P : Program} {t : TypeId} {b : Bool} (h : aggIs P t b = true) (w : World) : (isAgg t).run P w = .ok b w := by
  unfold aggIs tyAgg at h
  cases hu : P.underlying t with
  | none => simp [hu] at h
  | some d =>
    simp only [isAgg, Sem.run_bind, run_underlying hu, Result.andThen_ok]
    cases d <;> simp_all <;> rfl

theorem zeroIs_run {P : Program} {t : TypeId} {z : List Value} (h : zeroIs P t z = true) (w : World) : ∃ v, (zeroValue t).run P w = .ok v w ∧ ∀ L, CR L z v.cells.toList := by
  unfold zeroIs at h
  split at h
  · rename_i i hi
    split at h
    · rename_i v hv
      refine ⟨v, ?_, fun L => cellsC_ok L h⟩
      simp only [zeroValue, Sem.run_bind, run_typeInfo w hi, Result.andThen_ok, hv]
      rfl
    · simp at h
  · simp at h

theorem mkV_ok {agg : Bool} {L : Locs} {cs ys : List Value} (hc : CR L cs ys) {v : Value} (hv : mkV agg cs = some v) :
    (agg = true ∧ VR L v (.agg ys.toArray)) ∨ (agg = false ∧ ∃ y, ys = [y] ∧ VR L v y) := by
  unfold mkV at hv
  cases agg with
  | true => simp at hv; subst hv; exact .inl ⟨rfl, VR.of_agg hc⟩
  | false =>
    right
    refine ⟨rfl, ?_⟩
    simp at hv
    split at hv
    · rename_i u
      simp at hv; subst hv
      have hl := hc.1
      simp at hl
      obtain ⟨y, rfl⟩ : ∃ y, ys = [y] := by
        match ys, hl with
        | [y], _ => exact ⟨y, rfl⟩
      obtain ⟨_, x, hx, r⟩ := hc.2 0 u rfl
      simp at hx; subst hx
      exact ⟨y, rfl, r⟩
    · simp at hv

end Go.AM
