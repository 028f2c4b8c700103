/- Functions: what the abstract machine's call comes to, the model's call comes to. No condition. -/
import Derived.Test.YtknogapmjleliaaDoorAmX
namespace Go.AM
open Go

variable {P : Program} {L0 L : Locs} {w0 w : World} {lam : Nat → Nat} {fr fr' : Fr} {H H' : Heap} {a : Act}

def chkRes (P : Program) : ResultVar → ARes → Bool
  | .tmp t, .tmp s => t == s
  | .cell t ty, .cell s agg n => t == s && chkLoad P ty agg n
  | _, _ => false

def chkRess (P : Program) : List ResultVar → List ARes → Bool
  | [], [] => true
  | r :: l, x :: m => chkRes P r x && chkRess P l m
  | _, _ => false

def resOne (tmps : Array Value) : ResultVar → Sem Value
  | .tmp t => pure (tmps.getD t undef)
  | .cell a t => do loadVar t (← asAddr (tmps.getD a undef))

theorem res_ok (h : Inv L0 w0 L lam fr H a w) {r : ResultVar} {x : ARes} (hk : chkRes P r x = true) {v : Value} (hr : resA fr H x = some v) : ∃ y, (resOne a.tmps r).run P w = .ok y w ∧ VR L v y := by
  unfold chkRes at hk
  split at hk
  · rename_i t s
    simp at hk; subst hk
    simp only [resA] at hr
    have := evV_ok (o := .tmp t) h (by simp [chkOpd]) hr
    exact ⟨a.tmps.getD t undef, by simp only [resOne]; rfl, this⟩
  · rename_i t ty s agg n
    simp only [Bool.and_eq_true, beq_iff_eq] at hk
    obtain ⟨rfl, hk⟩ := hk
    simp only [resA] at hr
    split at hr
    · rename_i av hav
      split at hr
      · rename_i cs hcs
        obtain ⟨b, ys, hx, hc, hn, hl⟩ := rd_sound h (evO_ok (o := .tmp t) h (by simp [chkOpd]) hav) hcs
        obtain ⟨y, hy, r⟩ := loadVar_run hk hn hl hc hr
        refine ⟨y, ?_, r⟩
        have hx' : a.tmps.getD t undef = .pointer (some b) := hx
        simp only [resOne, hx', asAddr]
        simpa using hy
      · simp at hr
    · simp at hr
  · simp at hk

theorem ress_ok (h : Inv L0 w0 L lam fr H a w) : ∀ {rs : List ResultVar} {xs : List ARes}, chkRess P rs xs = true → ∀ {vs : List Value}, ressA fr H xs = some vs → ∃ ys, (rs.mapM (resOne a.tmps)).run P w = .ok ys w ∧ AR L vs ys
  | [], [], _, vs, hr => by simp [ressA] at hr; subst hr; exact ⟨[], by simp, AR.nil _⟩
  | r :: rs, x :: xs, hk, vs, hr => by
    simp only [chkRess, Bool.and_eq_true] at hk
    simp only [ressA] at hr
    split at hr
    · rename_i v vs' h1 h2
      simp at hr; subst hr
      obtain ⟨y, r1, r2⟩ := res_ok h hk.1 h1
      obtain ⟨ys, s1, s2⟩ := ress_ok h hk.2 h2
      exact ⟨y :: ys, by simp [List.mapM_cons, r1, s1], AR.cons r2 s2⟩
    · simp at hr
  | [], _ :: _, hk, _, _ => by simp [chkRess] at hk
  | _ :: _, [], hk, _, _ => by simp [chkRess] at hk

def chkFunc (P : Program) (f : Nat) (af : AFunc) : Bool := match P.funcs[f]? with
  | some fn => (match fn.body with
    | some c => fn.ntmps == af.nt && (decide (af.np ≤ af.nt) && (chkRess P fn.results.toList af.res && (!(fn.name == "runtime.NumGoroutine") && chkCode P c af.body)))
    | none => false)
  | none => false

theorem enter_inv {L : Locs} {H : Heap} {w : World} (hr : HR L H w) {xs ys : List Value} (ha : AR L xs ys) (n : Nat) : Inv L w L (fun _ => 0) (xs.map .v ++ List.replicate (n - xs.length) .no) H { tmps := ys.toArray ++ Array.replicate (n - ys.toArray.size) undef, defers := [] } w := by
  have nl : ∀ (s : Nat) (cs : List Value), (xs.map SC.v ++ List.replicate (n - xs.length) SC.no)[s]? ≠ some (.loc cs) := by
    intro s cs q
    rw [List.getElem?_append] at q
    split at q
    · rw [List.getElem?_map] at q
      cases hx : xs[s]? <;> rw [hx] at q <;> simp at q
    · rw [List.getElem?_replicate] at q
      split at q <;> simp at q
  refine ⟨⟨by simp [ha.1], rfl, ?_, hr, fun s cs q => (nl s cs q).elim, fun s cs _ _ q => (nl s cs q).elim⟩, Keep.refl L w, fun s cs q => (nl s cs q).elim⟩
  intro s c q
  rw [List.getElem?_append] at q
  split at q
  · rename_i hs
    simp at hs
    rw [List.getElem?_map] at q
    obtain ⟨v, hv, rfl⟩ := Option.map_eq_some_iff.1 q
    obtain ⟨y, hy, r⟩ := ha.2 s v hv
    have hlt : s < ys.length := by rw [← ha.1]; exact hs
    have : (ys.toArray ++ Array.replicate (n - ys.toArray.size) Go.undef).getD s Go.undef = y := by
      rw [Array.getD_eq_getD_getElem?, Array.getElem?_append_left (by simpa using hlt)]
      simp [hy]
    simp only
    rw [this]
    exact r
  · rw [List.getElem?_replicate] at q
    split at q
    · simp at q; subst q; trivial
    · simp at q

theorem func_ok {C : Callee} (hC : CalleeOk P C) (hB : Bodies P C) {hs : Heap → Heap → Bool} (hhs : ∀ A B, hs A B = true → A = B) (n : Nat) {f : Nat} {af : AFunc} (hk : chkFunc P f af = true) {xs : List Value} {H H' : Heap} {v : Value} (hr : runF C hs n af xs H = some (v, H')) {L : Locs} {w : World} {ys : List Value} (hH : HR L H w) (ha : AR L xs ys) :
    Calls P f ys.toArray w fun e w' => ∃ x L', e = .returned x ∧ VR L' v x ∧ HR L' H' w' ∧ Keep L w L' w' := by
  unfold chkFunc at hk
  split at hk
  · rename_i fn hfn
    split at hk
    · rename_i c hc
      simp only [Bool.and_eq_true, beq_iff_eq, decide_eq_true_eq] at hk
      obtain ⟨hnt, hnp, hres, _, hcode⟩ := hk
      unfold runF at hr
      split at hr
      · rename_i hlen
        have hi := enter_inv hH ha fn.ntmps
        have hnt' : af.nt - af.np = fn.ntmps - xs.length := by rw [hnt, hlen]
        rw [hnt'] at hr
        refine calls_of_wp hfn hc ?_
        have fin : ∀ (e : AExit) (fr1 : Fr) (H1 : Heap), runC C hs n af.body (xs.map SC.v ++ List.replicate (fn.ntmps - xs.length) SC.no) H = some (e, fr1, H1) → (e = .nrm ∨ e = .ret) →
            (match ressA fr1 H1 af.res with | some [v] => some (v, H1) | some vs => some (.tuple vs.toArray, H1) | none => none) = some (v, H') →
            c.wp P (bodyPost P fn fun e w' => ∃ x L', e = .returned x ∧ VR L' v x ∧ HR L' H' w' ∧ Keep L w L' w') { tmps := ys.toArray ++ Array.replicate (fn.ntmps - ys.toArray.size) undef, defers := [] } w := by
          intro e fr1 H1 hrun he hm
          refine wp_mono (code_ok hC hB hhs n af.body c hcode L _ _ fr1 H H1 e _ w hi hrun) ?_
          rintro ex a1 w1 ⟨hex, L1, lam1, hl⟩
          have hpost : a1.defers = [] ∧ ∃ u, (results fn a1.tmps).run P w1 = .ok u w1 ∧ ∃ x L', Ending.returned u = .returned x ∧ VR L' v x ∧ HR L' H' w1 ∧ Keep L w L' w1 := by
            refine ⟨hl.rel.dfr, ?_⟩
            cases hra : ressA fr1 H1 af.res with
            | none => rw [hra] at hm; simp at hm
            | some vs =>
              obtain ⟨us, hu, hua⟩ := ress_ok hl hres hra
              have hmap : (fn.results.mapM (resOne a1.tmps)).run P w1 = .ok us.toArray w1 := by
                rw [Array.mapM_eq_mapM_toList]; simp [hu]
              have hres2 : (results fn a1.tmps).run P w1 = .ok (if h : us.toArray.size = 1 then us.toArray[0] else .tuple us.toArray) w1 := by
                have e1 : (results fn a1.tmps) = (do let vs ← fn.results.mapM (resOne a1.tmps); pure (if h : vs.size = 1 then vs[0] else .tuple vs)) := by
                  unfold results; congr 1
                rw [e1]
                simp [hmap]
              rw [hra] at hm
              refine ⟨_, hres2, _, L1, rfl, ?_⟩
              have hul := hua.1
              match vs, hul, hua, hm with
              | [u], hul, hua, hm =>
                simp at hm; obtain ⟨rfl, rfl⟩ := hm
                obtain ⟨y, hy, r⟩ := hua.2 0 u rfl
                have hus : us = [y] := by
                  match us, hul, hy with
                  | [z], _, hy => simp at hy; subst hy; rfl
                subst hus
                exact ⟨by simpa using r, hl.rel.heap, hl.keep⟩
              | [], hul, hua, hm =>
                simp at hm; obtain ⟨rfl, rfl⟩ := hm
                have hus : us = [] := List.eq_nil_of_length_eq_zero hul.symm
                subst hus
                exact ⟨by simpa using VR.tup #[] #[] rfl (fun i p _ => absurd p (by simp)), hl.rel.heap, hl.keep⟩
              | u1 :: u2 :: r, hul, hua, hm =>
                simp at hm; obtain ⟨rfl, rfl⟩ := hm
                have hne : ¬ us.toArray.size = 1 := by simp at hul ⊢; omega
                rw [dif_neg hne]
                have := hua.arr
                exact ⟨by simpa using VR.tup _ _ this.1 this.2, hl.rel.heap, hl.keep⟩
          rcases he with rfl | rfl
          · cases ex <;> simp [ExR] at hex
            exact hpost
          · cases ex <;> simp [ExR] at hex
            exact hpost
        split at hr
        · rename_i fr1 H1 hrun
          exact fin _ fr1 H1 hrun (.inl rfl) hr
        · rename_i fr1 H1 hrun
          exact fin _ fr1 H1 hrun (.inr rfl) hr
        · simp at hr
      · simp at hr
    · simp at hk
  · simp at hk

/-- a function whose contract is given -/
def ExtOk (P : Program) (f : Nat) (g : List Value → Heap → Option (Value × Heap)) : Prop :=
  (∃ fn, P.funcs[f]? = some fn ∧ ¬ fn.body = none ∧ ¬ fn.name = "runtime.NumGoroutine") ∧
  ∀ xs H v H', g xs H = some (v, H') → ∀ L w ys, HR L H w → AR L xs ys → Calls P f ys.toArray w fun e w' => ∃ x L', e = .returned x ∧ VR L' v x ∧ HR L' H' w' ∧ Keep L w L' w'

/-- a table of functions that is the program's -/
structure TableOk (P : Program) (T : Nat → Option AFn) : Prop where
  code : ∀ f af, T f = some (.code af) → chkFunc P f af = true
  ext : ∀ f g, T f = some (.ext g) → ExtOk P f g

theorem callN_bodies {T : Nat → Option AFn} (hT : TableOk P T) (hs : Heap → Heap → Bool) : ∀ k, Bodies P (callN T hs k)
  | 0 => fun f xs H r h => by simp [callN] at h
  | k + 1 => fun f xs H r h => by
    simp only [callN] at h
    split at h
    · rename_i af haf
      have := hT.code f af haf
      unfold chkFunc at this
      split at this
      · rename_i fn hfn
        split at this
        · rename_i c hc
          simp only [Bool.and_eq_true, Bool.not_eq_true', beq_eq_false_iff_ne] at this
          exact ⟨fn, hfn, by rw [hc]; simp, this.2.2.2.1⟩
        · simp at this
      · simp at this
    · rename_i g hg
      exact (hT.ext f g hg).1
    · simp at h

theorem callN_ok {T : Nat → Option AFn} (hT : TableOk P T) {hs : Heap → Heap → Bool} (hhs : ∀ A B, hs A B = true → A = B) : ∀ k, CalleeOk P (callN T hs k)
  | 0 => fun f xs H v H' h => by simp [callN] at h
  | k + 1 => fun f xs H v H' h L w ys hH ha => by
    simp only [callN] at h
    split at h
    · rename_i af haf
      exact func_ok (callN_ok hT hhs k) (callN_bodies hT hs k) hhs k (hT.code f af haf) h hH ha
    · rename_i g hg
      exact (hT.ext f g hg).2 xs H v H' h L w ys hH ha
    · simp at h

end Go.AM
