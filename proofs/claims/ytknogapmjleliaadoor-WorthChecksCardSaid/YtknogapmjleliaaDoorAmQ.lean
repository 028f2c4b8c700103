/- Regions in the text's order, code, calls: what the abstract machine comes to, the model's call comes to. No condition. -/
import Derived.Test.YtknogapmjleliaaDoorAmZ
import Derived.Deep.LoopGhost
namespace Go.AM
open Go

variable {P : Program} {L0 L : Locs} {w0 w : World} {lam : Nat → Nat} {fr fr' : Fr} {H H' : Heap} {a : Act}

def chkOp (P : Program) (o : Op) : AOp → Bool
  | .mov x => chkMov o x
  | .pick c x y => chkPick o c x y
  | .allocL z => chkAlloc P o z
  | .allocH ty z => chkAllocH P o ty z
  | .boxL _ x => chkBox o x
  | .boxH ty _ x => chkBoxH o ty x
  | .build z ps => chkBuild P o z ps
  | .buildSl ty sz n z ps => chkBuildSl P o ty sz n z ps || chkBuildSl0 P o ty sz n z ps
  | .load agg n p => chkLd P o agg n p
  | .store n p x => chkSt P o n p x
  | .nilChk x => chkNil o x
  | .bin op x y => chkBin o op x y
  | .eqS neq n sh x y => chkEqS P o neq n sh x y
  | .eqB neq x y => chkEqB P o neq x y
  | .eqNil neq k x => chkEqNil P o neq k x
  | .un op x => chkUn o op x
  | .convI k x => chkConvI P o k x
  | .convS x => chkConvS P o x
  | .convBS x => chkConvBS P o x
  | .convSB ty x => chkConvSB P o ty x
  | .convIS x => chkConvIS P o x
  | .mkFunc fn x y => chkFn o fn x y
  | .makeSl ty sz bytes z l c => chkMake P o ty sz bytes z l c
  | .slStr x lo hi => chkSlStr P o x lo hi
  | .slSl sz x lo hi => chkSlSl P o sz x lo hi
  | .fieldA off x => chkFieldA P o off x
  | .field agg off n x => chkField P o agg off n x
  | .indexA sz x i => chkIndexA P o sz x i
  | .indexP len sz x i => chkIndexP P o len sz x i
  | .indexStr x i => chkIndexStr P o x i
  | .indexArr agg len sz x i => chkIndexArr P o agg len sz x i
  | .extract x i => chkExt o x i
  | .len str x => chkLen P o str x
  | .cap x => chkCap P o x
  | .append ty sz bytes s x => chkAppend P o ty sz bytes s x
  | .copy sz d x => chkCopy P o sz d x
  | .mx x y => chkMx .max o x y
  | .mn x y => chkMx .min o x y
  | .call f args => chkCall P o f args
  | .callV fv args => chkCallV o fv args
  | .stuck => true
  | .mkMap => chkMkMap o
  | .look kd ok z m k => chkLook P o kd ok z m k
  | .mapUp kd m k x => chkMapUp P o kd m k x
  | .lenM x => chkLenM P o x

/-- functions that the machine calls have bodies -/
def Bodies (P : Program) (C : Callee) : Prop := ∀ f xs H r, C f xs H = some r → ∃ fn, P.funcs[f]? = some fn ∧ ¬ fn.body = none ∧ ¬ fn.name = "runtime.NumGoroutine"

theorem step_ok {C : Callee} (hC : CalleeOk P C) (hB : Bodies P C) {o : Oper} {Q : Exit → Act → World → Prop} {ao : AOp} {c : SC} (h : Inv L0 w0 L lam fr H a w) (hk : chkOp P o.op ao = true) (hs : stepA C fr H ao = some (c, fr', H')) : Done P L0 w0 o a w Q c fr' H' := by
  cases ao with
  | mov x => exact step_mov h hk hs
  | pick c x y => exact step_pick h hk hs
  | allocL z => exact step_allocL h hk hs
  | allocH ty z => exact step_allocH h hk hs
  | boxL n x => exact step_boxL h hk hs
  | boxH ty n x => exact step_boxH h hk hs
  | build z ps => exact step_build h hk hs
  | buildSl ty sz n z ps =>
    simp only [chkOp, Bool.or_eq_true] at hk
    rcases hk with hk | hk
    · exact step_buildSl h hk hs
    · exact step_buildSl0 h hk hs
  | load agg n p => exact step_load h hk hs
  | store n p x => exact step_store h hk hs
  | nilChk x => exact step_nil h hk hs
  | bin op x y => exact step_bin h hk hs
  | eqS neq n sh x y => exact step_eqS h hk hs
  | eqB neq x y => exact step_eqB h hk hs
  | eqNil neq k x => exact step_eqNil h hk hs
  | un op x => exact step_un h hk hs
  | convI k x => exact step_convI h hk hs
  | convS x => exact step_convS h hk hs
  | convBS x => exact step_convBS h hk hs
  | convSB ty x => exact step_convSB h hk hs
  | convIS x => exact step_convIS h hk hs
  | mkFunc fn x y => exact step_fn h hk hs
  | makeSl ty sz bytes z l c => exact step_make h hk hs
  | slStr x lo hi => exact step_slStr h hk hs
  | slSl sz x lo hi => exact step_slSl h hk hs
  | fieldA off x => exact step_fieldA h hk hs
  | field agg off n x => exact step_field h hk hs
  | indexA sz x i => exact step_indexA h hk hs
  | indexP len sz x i => exact step_indexP h hk hs
  | indexStr x i => exact step_indexStr h hk hs
  | indexArr agg len sz x i => exact step_indexArr h hk hs
  | extract x i => exact step_ext h hk hs
  | len str x => exact step_len h hk hs
  | cap x => exact step_cap h hk hs
  | append ty sz bytes s x => exact step_append h hk hs
  | copy sz d x => exact step_copy h hk hs
  | mx x y => exact step_mx h hk hs
  | mn x y => exact step_mn h hk hs
  | call f args => exact step_call hC h hk hs
  | callV fv args => exact step_callV hC h hk hB hs
  | stuck => simp [stepA] at hs
  | mkMap => exact step_mkMap h hk hs
  | look kd ok z m k => exact step_look h hk hs
  | mapUp kd m k x => exact step_mapUp h hk hs
  | lenM x => exact step_lenM h hk hs

def chkGuard (ops : Array Oper) (o : Oper) (ao : AOper) : Bool := match o.guard, ao.guard with
  | none, none => true
  | some (j, w), some (s, w') => w == w' && decide ((ops[j]?).bind (·.dst) = some s)
  | _, _ => false

def chkOper (P : Program) (ops : Array Oper) (o : Oper) (ao : AOper) : Bool := decide (o.dst = ao.dst) && (chkGuard ops o ao && chkOp P o.op ao.op)

/-- the state that an operation leaves -/
def Left (L0 : Locs) (w0 : World) (fr : Fr) (H : Heap) (a : Act) (w : World) : Prop := ∃ L lam, Inv L0 w0 L lam fr H a w

theorem oper_ok {C : Callee} (hC : CalleeOk P C) (hB : Bodies P C) {ops : Array Oper} {o : Oper} {ao : AOper} {Q : Exit → Act → World → Prop} (h : Inv L0 w0 L lam fr H a w) (hk : chkOper P ops o ao = true) (hs : operA C fr H ao = some (fr', H'))
    {K : Act → World → Prop} (hK : ∀ a w, Left L0 w0 fr' H' a w → K a w) : if Region.wanted o (yielded ops a.tmps) then o.wp P a w K Q ∨ (o.asks P a w ∧ LetsOut Q) else K (a.put o.dst undef) w := by
  simp only [chkOper, Bool.and_eq_true, decide_eq_true_eq] at hk
  obtain ⟨hd, hg, ho⟩ := hk
  have run : ∀ {c fr1 H1}, stepA C fr H ao.op = some (c, fr1, H1) → (putO fr1 ao.dst c, H1) = (fr', H') → o.wp P a w K Q := by
    intro c fr1 H1 hst he
    simp only [Prod.mk.injEq] at he
    obtain ⟨rfl, rfl⟩ := he
    have := step_ok (Q := Q) hC hB h ho hst
    unfold Done at this
    rw [hd] at this
    exact Oper.wp_mono (fun a w r => hK a w r) this
  unfold operA at hs
  unfold chkGuard at hg
  split at hg
  · rename_i g1 g2
    rw [g2] at hs
    simp only [Region.wanted, g1, if_true]
    simp only at hs
    split at hs
    · rename_i c fr1 H1 hst
      exact .inl (run hst (by simpa using hs))
    · simp at hs
  · rename_i j wt s wt' g1 g2
    simp only [Bool.and_eq_true, beq_iff_eq, decide_eq_true_eq] at hg
    obtain ⟨rfl, hj⟩ := hg
    rw [g2] at hs
    simp only at hs
    have hy : ∀ v, evV fr (.t s) = some v → ∃ x, a.tmps[s]? = some x ∧ VR L v x := by
      intro v hv
      have r := evV_ok (o := .tmp s) h (by simp [chkOpd]) hv
      have hlt : s < fr.length := by
        simp only [evV, evO] at hv
        rcases Nat.lt_or_ge s fr.length with q | q
        · exact q
        · rw [List.getD_eq_getElem?_getD, List.getElem?_eq_none q] at hv; simp at hv
      refine ⟨a.tmps[s]'(by rw [h.rel.len]; exact hlt), by rw [Array.getElem?_eq_getElem], ?_⟩
      simpa [Act.eval, Array.getD_eq_getD_getElem?, Array.getElem?_eq_getElem (show s < a.tmps.size by rw [h.rel.len]; exact hlt)] using r
    have hyield : yielded ops a.tmps j = match a.tmps[s]? with | some (.bool b) => some b | _ => none := by
      unfold yielded; rw [hj]; rfl
    have hskip : ∀ fr2 H2, some (putO fr ao.dst (.v undef), H) = some (fr2, H2) → (fr2, H2) = (fr', H') → K (a.put o.dst undef) w := by
      intro fr2 H2 e1 e2
      simp at e1; obtain ⟨rfl, rfl⟩ := e1
      simp at e2; obtain ⟨rfl, rfl⟩ := e2
      rw [hd]
      exact hK _ _ ⟨L, lam, h.putV (av := .v undef) ao.dst (VR.undef L)⟩
    split at hs
    · rename_i b hb
      obtain ⟨x, hx, r⟩ := hy _ hb
      rw [r.bool_inv] at hx
      rw [hx] at hyield
      simp only at hyield
      split at hs
      · rename_i hbw
        split at hs
        · rename_i c fr1 H1 hst
          simp only [Region.wanted, g1, hyield, hbw, beq_self_eq_true, if_true]
          exact .inl (run hst (by simpa using hs))
        · simp at hs
      · rename_i hbw
        simp only [Region.wanted, g1, hyield]
        rw [if_neg (by simpa using hbw)]
        exact hskip _ _ hs rfl
    · rename_i v hnb hv
      obtain ⟨x, hx, r⟩ := hy _ hv
      have hno : yielded ops a.tmps j = none := by
        rw [hyield, hx]
        cases r <;> first | rfl | (exact (hnb _ rfl).elim)
      simp only [Region.wanted, g1, hno]
      rw [if_neg (by simp)]
      exact hskip _ _ hs rfl
    · simp at hs
  · simp at hg

def chkOps (P : Program) (ops : Array Oper) : List Oper → List AOper → Bool
  | [], [] => true
  | o :: r, x :: l => chkOper P ops o x && chkOps P ops r l
  | _, _ => false

theorem ops_ok {C : Callee} (hC : CalleeOk P C) (hB : Bodies P C) {ops : Array Oper} {Q : Exit → Act → World → Prop} : ∀ (os : List Oper) (as : List AOper) (k : Nat) (L : Locs) (lam : Nat → Nat) (fr fr' : Fr) (H H' : Heap) (a : Act) (w : World), (∀ j, os[j]? = ops[k + j]?) → Inv L0 w0 L lam fr H a w → chkOps P ops os as = true → runOps C as fr H = some (fr', H') →
    (∀ a w, Left L0 w0 fr' H' a w → Q .normal a w) → wpOps P ops Q (List.range' k os.length) a w
  | [], [], k, L, lam, fr, fr', H, H', a, w, _, h, _, hr, hQ => by
    simp [runOps] at hr; obtain ⟨rfl, rfl⟩ := hr
    simp [wpOps]; exact hQ _ _ ⟨L, lam, h⟩
  | o :: os, x :: as, k, L, lam, fr, fr', H, H', a, w, hj, h, hk, hr, hQ => by
    simp only [chkOps, Bool.and_eq_true] at hk
    simp only [runOps] at hr
    split at hr
    · rename_i fr1 H1 hs
      simp only [List.length_cons, List.range'_succ]
      rw [wpOps_cons]
      have h0 : ops[k]? = some o := by have := hj 0; simpa using this.symm
      unfold wpOp
      rw [h0]
      refine oper_ok (Q := Q) hC hB h hk.1 hs (fun a w hl => ?_)
      obtain ⟨L1, lam1, hi⟩ := hl
      exact ops_ok hC hB os as (k + 1) L1 lam1 fr1 fr' H1 H' a w (fun j => by have := hj (j + 1); simpa [Nat.add_assoc, Nat.add_comm 1] using this) hi hk.2 hr hQ
    · simp at hr
  | [], _ :: _, _, _, _, _, _, _, _, _, _, _, _, hk, _, _ => by simp [chkOps] at hk
  | _ :: _, [], _, _, _, _, _, _, _, _, _, _, _, hk, _, _ => by simp [chkOps] at hk

end Go.AM
