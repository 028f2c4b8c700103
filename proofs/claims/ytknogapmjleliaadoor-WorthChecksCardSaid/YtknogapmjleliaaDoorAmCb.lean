/- Code run with continuations: what it comes to, the plain run comes to; loops. No condition. -/
import Derived.Test.YtknogapmjleliaaDoorAmCa
namespace Go.AM
open Go

section
variable {R : Type}

structure Kont (R : Type) where
  nrm : Fr → Heap → Option R
  ex : Nat → Fr → Heap → Option R
  ret : Fr → Heap → Option R

def Kont.at (K : Kont R) : AExit → Fr → Heap → Option R
  | .nrm => K.nrm
  | .ex i => K.ex i
  | .ret => K.ret

def fc (c : SC) (k : SC → Option R) : Option R := match c with
  | .no => k .no
  | .v x => k (.v x)
  | .lp s o => k (.lp s o)
  | .hp f o c n => k (.hp f o c n)
  | .loc cs => k (.loc cs)
/-- a frame laid out: its slots are known before one goes on (for the kernel's sake) -/
noncomputable def fF (fr : Fr) : (Fr → Option R) → Option R := List.rec (motive := fun _ => (Fr → Option R) → Option R) (fun k => k []) (fun c _ ih k => fc c fun c => ih fun r => k (c :: r)) fr
theorem fc_eq (c : SC) (k : SC → Option R) : fc c k = k c := by cases c <;> rfl
theorem fF_eq : ∀ (fr : Fr) (k : Fr → Option R), fF fr k = k fr
  | [], k => rfl
  | c :: r, k => by
    have : fF (c :: r) k = fc c fun c => fF r fun r => k (c :: r) := rfl
    rw [this, fc_eq, fF_eq r]

noncomputable def putK (tys : List VT) (d : Option Nat) (c : SC) (fr : Fr) (k : Fr → Option R) : Option R := match d with
  | none => fF fr k
  | some d => castS (tys.getD d (.v (.one .any))) c fun c => fF (putS fr d c) k

def setB (fr : Fr) (s : Nat) (b : Bool) : Fr := fr.set s (.v (.bool b))

noncomputable def operK (C : Callee) (tys : List VT) (o : AOper) (fr : Fr) (H : Heap) (k : Fr → Heap → Option R) : Option R := match o.guard with
  | none => stepK C o.op fr H fun c fr H => putK tys o.dst c fr fun fr => k fr H
  | some (s, w) => match evV fr (.t s) with
    | some (.bool b) => cond b
        (fF (setB fr s true) fun fr => if true = w then stepK C o.op fr H fun c fr H => putK tys o.dst c fr fun fr => k fr H else fF (putO fr o.dst (.v undef)) fun fr => k fr H)
        (fF (setB fr s false) fun fr => if false = w then stepK C o.op fr H fun c fr H => putK tys o.dst c fr fun fr => k fr H else fF (putO fr o.dst (.v undef)) fun fr => k fr H)
    | some _ => fF (putO fr o.dst (.v undef)) fun fr => k fr H
    | none => none

noncomputable def runOpsK (C : Callee) (tys : List VT) : List AOper → Fr → Heap → (Fr → Heap → Option R) → Option R
  | [], fr, H, k => k fr H
  | o :: r, fr, H, k => operK C tys o fr H fun fr H => runOpsK C tys r fr H k

def dstepK (C : Callee) (hs : Heap → Heap → Bool) (o : AOper) (fr : Fr) (H : Heap) (k : SC → Fr → Heap → Option R) : Option R :=
  cond (locOk fr o) (stepK C o.op fr H fun c fr1 H1 => cond (o.w || (!o.op.isCall || hs H H1)) (k c fr1 H1) none) none

noncomputable def dopK (C : Callee) (hs : Heap → Heap → Bool) (o : AOper) (fr : Fr) (H : Heap) (k : Bool → SC → Fr → Heap → Option R) : Option R :=
  cond (o.quietOp && (o.lz == 0 || (storesAt o).isNone)) (match o.guard with
    | none => dstepK C hs o fr H (k true)
    | some (s, w) => match evV fr (.t s) with
      | some (.bool b) => cond b (fF (setB fr s true) fun fr => if true = w then dstepK C hs o fr H (k true) else k false (.v undef) fr H) (fF (setB fr s false) fun fr => if false = w then dstepK C hs o fr H (k true) else k false (.v undef) fr H)
      | some _ => k false (.v undef) fr H
      | none => none) none

noncomputable def putD (on : Bool) (tys : List VT) (d : Option Nat) (c : SC) (fr : Fr) (k : Fr → Option R) : Option R := cond on (putK tys d c fr k) (fF (putO fr d c) k)

noncomputable def pendK (C : Callee) (hs : Heap → Heap → Bool) (i : Nat) (H : Heap) : List Pend → Option R → Option R
  | [], k => k
  | p :: r, k => cond (decide (p.o.lz ≤ i)) (pendK C hs i H r k) (dopK C hs p.o p.fr H fun _ c _ _ => cond (eqU hs (dstU p.o.dst c) p.us) (pendK C hs i H r k) none)

noncomputable def runDK (C : Callee) (hs : Heap → Heap → Bool) (tys : List VT) : List AOper → Nat → List Pend → Fr → Heap → (Fr → Heap → Option R) → Option R
  | [], _, _, fr, H, k => k fr H
  | o :: r, i, ps, fr, H, k => dopK C hs o fr H fun on c fr1 H1 =>
      pendK C hs i H1 (if o.w then ps else []) (putD on tys o.dst c fr1 fun fr2 => runDK C hs tys r (i + 1) (if o.lz = 0 then ps else ⟨fr, o, dstU o.dst c⟩ :: ps) fr2 H1 k)

/-- a loop, without fuel -/
noncomputable def LT (T : Nat → Option AFn) (hs : Heap → Heap → Bool) (keep : List Nat) (b : ACode) (fr : Fr) (H : Heap) : Option (AExit × Fr × Heap) :=
  open Classical in if h : ∃ x k, iter (runC (callN T hs k) hs k b) keep k fr H = some x then some (Classical.choose h) else none

noncomputable def loopK (T : Nat → Option AFn) (hs : Heap → Heap → Bool) (keep : List Nat) (b : ACode) (fr : Fr) (H : Heap) (K : Kont R) : Option R :=
  (LT T hs keep b fr H).bind fun x => K.at x.1 x.2.1 x.2.2

/-- code, without fuel; what is behind two ways that meet -/
noncomputable def RT (T : Nat → Option AFn) (hs : Heap → Heap → Bool) (b : ACode) (fr : Fr) (H : Heap) : Option (AExit × Fr × Heap) :=
  open Classical in if h : ∃ x k, runC (callN T hs k) hs k b fr H = some x then some (Classical.choose h) else none

noncomputable def joinK (T : Nat → Option AFn) (hs : Heap → Heap → Bool) (b : ACode) (fr : Fr) (H : Heap) (K : Kont R) : Option R :=
  (RT T hs b fr H).bind fun x => K.at x.1 x.2.1 x.2.2

def refB (c : Opd) (b : Bool) (fr : Fr) : Fr := match c with | .t s => setB fr s b | _ => fr

noncomputable def runK (T : Nat → Option AFn) (hs : Heap → Heap → Bool) (tys : List VT) : ACode → Fr → Heap → Kont R → Option R
  | .skip, fr, H, K => K.nrm fr H
  | .reg os, fr, H, K => runOpsK (CT T hs) tys os fr H K.nrm
  | .regD os, fr, H, K => runDK (CT T hs) hs tys os 0 [] fr H K.nrm
  | .seq a b, fr, H, K => runK T hs tys a fr H { K with nrm := fun fr H => runK T hs tys b fr H K }
  | .seqj keep a b, fr, H, K => runK T hs tys a fr H { K with nrm := fun fr H => fF (forget keep fr) fun fr => joinK T hs b fr H K }
  | .cond c a b, fr, H, K => match evV fr c with
    | some (.bool t) => cond t (fF (refB c true fr) fun fr => runK T hs tys a fr H K) (fF (refB c false fr) fun fr => runK T hs tys b fr H K)
    | _ => none
  | .block id b, fr, H, K => runK T hs tys b fr H { K with ex := fun i fr H => if i = id then K.nrm fr H else K.ex i fr H }
  | .loop keep b, fr, H, K => fF (forget keep fr) fun fr => loopK T hs keep b fr H K
  | .exit id, fr, H, K => K.ex id fr H
  | .ret, fr, H, K => K.ret fr H
  | .scope b, fr, H, K => runK T hs tys b fr H K
  | .stuckC, _, _, _ => none

variable {r : R} {T : Nat → Option AFn} {hs : Heap → Heap → Bool}

theorem putK_ok {tys : List VT} {d : Option Nat} {c : SC} {fr : Fr} {k : Fr → Option R} (h : putK tys d c fr k = some r) : k (putO fr d c) = some r := by
  cases d with
  | none => simp only [putK, fF_eq] at h; exact h
  | some d => simp only [putK, fF_eq] at h; exact castS_ok (k := fun c => k (putS fr d c)) h

theorem putD_ok {on : Bool} {tys : List VT} {d : Option Nat} {c : SC} {fr : Fr} {k : Fr → Option R} (h : putD on tys d c fr k = some r) : k (putO fr d c) = some r := by
  cases on with
  | true => exact putK_ok h
  | false => simp only [putD, fF_eq, cond] at h; exact h

theorem setB_self {fr : Fr} {s : Nat} {b : Bool} (h : evV fr (.t s) = some (.bool b)) : setB fr s b = fr := by
  simp only [evV, evO] at h
  have hy : fr.getD s .no = .v (.bool b) := by
    cases hq : fr.getD s SC.no with
    | v x => rw [hq] at h; simp at h; rw [h]
    | no => rw [hq] at h; simp at h
    | lp s o => rw [hq] at h; simp at h
    | hp f o c n => rw [hq] at h; simp at h
    | loc cs => rw [hq] at h; simp at h
  unfold setB
  have hlt : s < fr.length := by
    rcases Nat.lt_or_ge s fr.length with q | q
    · exact q
    · rw [List.getD_eq_getElem?_getD, List.getElem?_eq_none q] at hy; simp at hy
  rw [List.getD_eq_getElem?_getD, List.getElem?_eq_getElem hlt] at hy
  simp at hy
  rw [← hy]; exact List.set_getElem_self hlt

/-- a step over the limit is a step over some fuel -/
theorem stepA_lim {op : AOp} {fr : Fr} {H : Heap} {x : SC × Fr × Heap} (h : stepA (CT T hs) fr H op = some x) : ∃ k, stepA (callN T hs k) fr H op = some x := by
  cases op with
  | call f args =>
    simp only [stepA] at h
    split at h
    · rename_i xs hx
      split at h
      · rename_i hc
        obtain ⟨k, hk⟩ := of_CT hc
        exact ⟨k, by simp only [stepA, hx, hk]; exact h⟩
      · simp at h
    · simp at h
  | callV f args =>
    simp only [stepA] at h
    split at h
    · rename_i g xs hg hx
      split at h
      · rename_i hf
        split at h
        · rename_i hc
          obtain ⟨k, hk⟩ := of_CT hc
          exact ⟨k, by simp only [stepA, hg, hx, hf, hk]; exact h⟩
        · simp at h
      · simp at h
    · simp at h
  | _ => exact ⟨0, h⟩

theorem operK_ok {tys : List VT} {o : AOper} {fr : Fr} {H : Heap} {k : Fr → Heap → Option R} (h : operK (CT T hs) tys o fr H k = some r) : ∃ n fr' H', operA (callN T hs n) fr H o = some (fr', H') ∧ k fr' H' = some r := by
  have go : ∀ fr, (stepK (CT T hs) o.op fr H fun c fr H => putK tys o.dst c fr fun fr => k fr H) = some r → ∃ n c fr1 H1, stepA (callN T hs n) fr H o.op = some (c, fr1, H1) ∧ k (putO fr1 o.dst c) H1 = some r := by
    intro fr h
    obtain ⟨c, fr1, H1, h1, h2⟩ := stepK_ok h
    obtain ⟨n, hn⟩ := stepA_lim h1
    exact ⟨n, c, fr1, H1, hn, putK_ok h2⟩
  unfold operK at h
  simp only [fF_eq] at h
  split at h
  · rename_i hg
    obtain ⟨n, c, fr1, H1, h1, h2⟩ := go _ h
    exact ⟨n, _, _, by simp only [operA, hg, h1], h2⟩
  · rename_i s w hg
    split at h
    · rename_i b hb
      cases b with
      | true =>
        simp only [cond, setB_self hb] at h
        split at h
        · rename_i e; subst e
          obtain ⟨n, c, fr1, H1, h1, h2⟩ := go _ h
          exact ⟨n, _, _, by simp only [operA, hg, hb, if_true, h1], h2⟩
        · rename_i e
          exact ⟨0, _, _, by simp only [operA, hg, hb, if_neg e], h⟩
      | false =>
        simp only [cond, setB_self hb] at h
        split at h
        · rename_i e; subst e
          obtain ⟨n, c, fr1, H1, h1, h2⟩ := go _ h
          exact ⟨n, _, _, by simp only [operA, hg, hb, if_true, h1], h2⟩
        · rename_i e
          exact ⟨0, _, _, by simp only [operA, hg, hb, if_neg e], h⟩
    · rename_i v hb hv
      refine ⟨0, _, _, ?_, h⟩
      simp only [operA, hg, hv]
    · simp at h

theorem runOpsK_ok {tys : List VT} : ∀ {os : List AOper} {fr : Fr} {H : Heap} {k : Fr → Heap → Option R}, runOpsK (CT T hs) tys os fr H k = some r → ∃ n fr' H', runOps (callN T hs n) os fr H = some (fr', H') ∧ k fr' H' = some r
  | [], fr, H, k, h => ⟨0, fr, H, rfl, h⟩
  | o :: os, fr, H, k, h => by
    simp only [runOpsK] at h
    obtain ⟨n, fr1, H1, h1, h2⟩ := operK_ok h
    obtain ⟨m, fr2, H2, h3, h4⟩ := runOpsK_ok h2
    refine ⟨max n m, fr2, H2, ?_, h4⟩
    simp only [runOps]
    rw [operA_mono (callN_mono (HLe.refl hs) (Nat.le_max_left n m)) h1]
    exact runOps_mono (callN_mono (HLe.refl hs) (Nat.le_max_right n m)) h3

theorem dopK_ok {o : AOper} {fr : Fr} {H : Heap} {k : Bool → SC → Fr → Heap → Option R} (h : dopK (CT T hs) hs o fr H k = some r) : ∃ n on c fr1 H1 us, effA (callN T hs n) hs fr H o = some (us, H1) ∧ applyU fr us = putO fr1 o.dst c ∧ (o.lz ≠ 0 → us = dstU o.dst c) ∧ k on c fr1 H1 = some r := by
  unfold dopK at h
  simp only [fF_eq] at h
  have hq : (o.quietOp && (o.lz == 0 || (storesAt o).isNone)) = true := by
    cases hb : (o.quietOp && (o.lz == 0 || (storesAt o).isNone)) with
    | true => rfl
    | false => rw [hb] at h; simp at h
  rw [hq] at h
  simp only [cond] at h
  simp only [Bool.and_eq_true, Bool.or_eq_true, beq_iff_eq] at hq
  obtain ⟨hq1, hlz⟩ := hq
  have go : dstepK (CT T hs) hs o fr H (k true) = some r → ∃ n c fr1 H1 us, goA (callN T hs n) hs fr H o = some (us, H1) ∧ stepA (callN T hs n) fr H o.op = some (c, fr1, H1) ∧ (o.lz ≠ 0 → us = dstU o.dst c) ∧ k true c fr1 H1 = some r := by
    intro h
    unfold dstepK at h
    have hlo : locOk fr o = true := by
      cases hb : locOk fr o with
      | true => rfl
      | false => rw [hb] at h; simp at h
    rw [hlo] at h
    simp only [cond] at h
    obtain ⟨c, fr1, H1, h1, h2⟩ := stepK_ok h
    obtain ⟨n, hn⟩ := stepA_lim h1
    cases hc : (o.w || (!o.op.isCall || hs H H1)) with
    | false => rw [hc] at h2; simp at h2
    | true =>
      rw [hc] at h2
      refine ⟨n, c, fr1, H1, locU (storesAt o) fr1 ++ dstU o.dst c, by simp only [goA, if_pos hlo, hn, hc, if_true], hn, fun hz => ?_, h2⟩
      rcases hlz with q | q
      · exact (hz q).elim
      · rw [Option.isNone_iff_eq_none] at q
        rw [q]; rfl
  have fin : ∀ n us H1, effA (callN T hs n) hs fr H o = some (us, H1) → operA (callN T hs n) fr H o = some (applyU fr us, H1) := fun n us H1 he => eff_oper hq1 he
  split at h
  · rename_i hg
    obtain ⟨n, c, fr1, H1, us, h1, h2, h3, h4⟩ := go h
    have he : effA (callN T hs n) hs fr H o = some (us, H1) := by simp only [effA, hg, h1]
    refine ⟨n, true, c, fr1, H1, us, he, ?_, h3, h4⟩
    have := fin _ _ _ he
    simp only [operA, hg, h2, Option.some.injEq, Prod.mk.injEq] at this
    exact this.1.symm
  · rename_i s w hg
    have off : ∀ b, evV fr (.t s) = some (.bool b) → ¬ b = w → k false (.v undef) fr H = some r → ∃ n on c fr1 H1 us, effA (callN T hs n) hs fr H o = some (us, H1) ∧ applyU fr us = putO fr1 o.dst c ∧ (o.lz ≠ 0 → us = dstU o.dst c) ∧ k on c fr1 H1 = some r := by
      intro b hb hne hk
      have he : effA (callN T hs 0) hs fr H o = some (dstU o.dst (.v undef), H) := by simp only [effA, hg, hb, if_neg hne]
      refine ⟨0, false, .v undef, fr, H, _, he, ?_, fun _ => rfl, hk⟩
      have := fin _ _ _ he
      simp only [operA, hg, hb, if_neg hne, Option.some.injEq, Prod.mk.injEq] at this
      exact this.1.symm
    have on : ∀ b, evV fr (.t s) = some (.bool b) → b = w → dstepK (CT T hs) hs o fr H (k true) = some r → ∃ n on c fr1 H1 us, effA (callN T hs n) hs fr H o = some (us, H1) ∧ applyU fr us = putO fr1 o.dst c ∧ (o.lz ≠ 0 → us = dstU o.dst c) ∧ k on c fr1 H1 = some r := by
      intro b hb hw h
      obtain ⟨n, c, fr1, H1, us, h1, h2, h3, h4⟩ := go h
      have he : effA (callN T hs n) hs fr H o = some (us, H1) := by simp only [effA, hg, hb, if_pos hw, h1]
      refine ⟨n, true, c, fr1, H1, us, he, ?_, h3, h4⟩
      have := fin _ _ _ he
      simp only [operA, hg, hb, if_pos hw, h2, Option.some.injEq, Prod.mk.injEq] at this
      exact this.1.symm
    split at h
    · rename_i b hb
      cases b with
      | true =>
        simp only [setB_self hb] at h
        split at h
        · rename_i e; exact on _ hb e h
        · rename_i e; exact off _ hb e h
      | false =>
        simp only [setB_self hb] at h
        split at h
        · rename_i e; exact on _ hb e h
        · rename_i e; exact off _ hb e h
    · rename_i v hnb hv
      have he : effA (callN T hs 0) hs fr H o = some (dstU o.dst (.v undef), H) := by simp only [effA, hg, hv]
      refine ⟨0, false, .v undef, fr, H, _, he, ?_, fun _ => rfl, h⟩
      have := fin _ _ _ he
      simp only [operA, hg, hv, Option.some.injEq, Prod.mk.injEq] at this
      exact this.1.symm
    · simp at h

theorem pendK_ok {i : Nat} {H : Heap} : ∀ {ps : List Pend} {k : Option R}, (∀ p ∈ ps, p.o.lz ≠ 0) → pendK (CT T hs) hs i H ps k = some r → k = some r ∧ ∃ n, (ps.all fun p => decide (p.o.lz ≤ i) || p.again (callN T hs n) hs H) = true
  | [], k, _, h => ⟨h, 0, rfl⟩
  | p :: ps, k, hz, h => by
    simp only [pendK] at h
    by_cases hle : p.o.lz ≤ i
    · simp only [hle, decide_true, cond] at h
      obtain ⟨h1, n, h2⟩ := pendK_ok (fun q hq => hz q (List.mem_cons_of_mem _ hq)) h
      exact ⟨h1, n, by simp only [List.all_cons, hle, decide_true, Bool.true_or, Bool.true_and]; exact h2⟩
    · simp only [hle, decide_false, cond] at h
      obtain ⟨m, _, c, fr1, H1, us, he, _, hu, h2⟩ := dopK_ok h
      obtain rfl := hu (hz p (List.mem_cons_self ..))
      cases hc : eqU hs (dstU p.o.dst c) p.us with
      | false => rw [hc] at h2; simp at h2
      | true =>
        rw [hc] at h2
        obtain ⟨h3, n, h4⟩ := pendK_ok (fun q hq => hz q (List.mem_cons_of_mem _ hq)) h2
        refine ⟨h3, max m n, ?_⟩
        simp only [List.all_cons, Bool.and_eq_true, Bool.or_eq_true]
        refine ⟨.inr ?_, ?_⟩
        · refine again_mono (C := callN T hs m) (callN_mono (HLe.refl hs) (Nat.le_max_left m n)) (HLe.refl hs) ?_
          unfold Pend.again
          rw [he]; exact hc
        · simp only [List.all_eq_true, Bool.or_eq_true] at h4 ⊢
          intro q hq
          rcases h4 q hq with g | g
          · exact .inl g
          · exact .inr (again_mono (callN_mono (HLe.refl hs) (Nat.le_max_right m n)) (HLe.refl hs) g)

theorem runDK_ok {tys : List VT} : ∀ {os : List AOper} {i : Nat} {ps : List Pend} {fr : Fr} {H : Heap} {k : Fr → Heap → Option R}, (∀ p ∈ ps, p.o.lz ≠ 0) → runDK (CT T hs) hs tys os i ps fr H k = some r → ∃ n fr' H', runD (callN T hs n) hs os i ps fr H = some (fr', H') ∧ k fr' H' = some r
  | [], i, ps, fr, H, k, _, h => ⟨0, fr, H, rfl, h⟩
  | o :: os, i, ps, fr, H, k, hz, h => by
    simp only [runDK] at h
    obtain ⟨n, on, c, fr1, H1, us, he, ha, hu, h2⟩ := dopK_ok h
    obtain ⟨h3, m, h4⟩ := pendK_ok (by split <;> simp_all) h2
    have h5 := putD_ok h3
    obtain ⟨q, fr', H', h6, h7⟩ := runDK_ok (ps := if o.lz = 0 then ps else ⟨fr, o, dstU o.dst c⟩ :: ps) (by
      split
      · exact hz
      · rename_i hne
        intro p hp
        rcases List.mem_cons.1 hp with rfl | hp
        · exact hne
        · exact hz p hp) h5
    have hps : (if o.lz = 0 then ps else (⟨fr, o, dstU o.dst c⟩ : Pend) :: ps) = (if o.lz = 0 then ps else ⟨fr, o, us⟩ :: ps) := by
      split
      · rfl
      · rename_i hne; rw [hu hne]
    rw [hps] at h6
    have l1 : n ≤ max n (max m q) := Nat.le_max_left _ _
    have l2 : m ≤ max n (max m q) := Nat.le_trans (Nat.le_max_left m q) (Nat.le_max_right _ _)
    have l3 : q ≤ max n (max m q) := Nat.le_trans (Nat.le_max_right m q) (Nat.le_max_right _ _)
    refine ⟨max n (max m q), fr', H', ?_, h7⟩
    simp only [runD]
    rw [effA_mono (callN_mono (HLe.refl hs) l1) (HLe.refl hs) he]
    simp only
    rw [if_pos]
    · rw [ha]; exact runD_mono (callN_mono (HLe.refl hs) l3) (HLe.refl hs) h6
    · cases hw : o.w with
      | false => rfl
      | true =>
        rw [hw] at h4
        simp only [if_true, List.all_eq_true, Bool.or_eq_true] at h4
        simp only [Bool.not_true, Bool.false_or, List.all_eq_true, Bool.or_eq_true]
        intro p hp
        rcases h4 p hp with g | g
        · exact .inl g
        · exact .inr (again_mono (callN_mono (HLe.refl hs) l2) (HLe.refl hs) g)

theorem of_LT {keep : List Nat} {b : ACode} {fr : Fr} {H : Heap} {x : AExit × Fr × Heap} (h : LT T hs keep b fr H = some x) : ∃ k, iter (runC (callN T hs k) hs k b) keep k fr H = some x := by
  unfold LT at h
  split at h
  · rename_i hex
    simp at h; subst h
    exact Classical.choose_spec hex
  · simp at h

theorem LT_of {keep : List Nat} {b : ACode} {fr : Fr} {H : Heap} {x : AExit × Fr × Heap} {k : Nat} (h : iter (runC (callN T hs k) hs k b) keep k fr H = some x) : LT T hs keep b fr H = some x := by
  have hex : ∃ x k, iter (runC (callN T hs k) hs k b) keep k fr H = some x := ⟨x, k, h⟩
  unfold LT
  rw [dif_pos hex]
  obtain ⟨k', h'⟩ := Classical.choose_spec hex
  have up : ∀ {a c : Nat} (_ : a ≤ c) {y}, iter (runC (callN T hs a) hs a b) keep a fr H = some y → iter (runC (callN T hs c) hs c b) keep c fr H = some y := fun hac y q =>
    iter_mono (fun fr H r q => runC_mono (callN_mono (HLe.refl hs) hac) (HLe.refl hs) hac b q) keep hac q
  have e1 := up (Nat.le_max_left k k') h
  have e2 := up (Nat.le_max_right k k') h'
  rw [e1] at e2
  exact e2.symm

theorem of_RT {b : ACode} {fr : Fr} {H : Heap} {x : AExit × Fr × Heap} (h : RT T hs b fr H = some x) : ∃ k, runC (callN T hs k) hs k b fr H = some x := by
  unfold RT at h
  split at h
  · rename_i hex
    simp at h; subst h
    exact Classical.choose_spec hex
  · simp at h

theorem RT_of {b : ACode} {fr : Fr} {H : Heap} {x : AExit × Fr × Heap} {k : Nat} (h : runC (callN T hs k) hs k b fr H = some x) : RT T hs b fr H = some x := by
  have hex : ∃ x k, runC (callN T hs k) hs k b fr H = some x := ⟨x, k, h⟩
  unfold RT
  rw [dif_pos hex]
  obtain ⟨k', h'⟩ := Classical.choose_spec hex
  have up : ∀ {a c : Nat} (_ : a ≤ c) {y}, runC (callN T hs a) hs a b fr H = some y → runC (callN T hs c) hs c b fr H = some y := fun hac y q =>
    runC_mono (callN_mono (HLe.refl hs) hac) (HLe.refl hs) hac b q
  have e1 := up (Nat.le_max_left k k') h
  have e2 := up (Nat.le_max_right k k') h'
  rw [e1] at e2
  exact e2.symm

theorem forget_idem (keep : List Nat) (fr : Fr) : forget keep (forget keep fr) = forget keep fr := by
  apply List.ext_getElem?
  intro s
  simp only [forget, List.getElem?_map, List.getElem?_zipIdx]
  cases fr[s]? with
  | none => rfl
  | some c =>
    simp only [Option.map_some, Nat.zero_add]
    split <;> rfl

theorem iter_forget {b : Fr → Heap → Option (AExit × Fr × Heap)} {keep : List Nat} (n : Nat) (fr : Fr) (H : Heap) : iter b keep n (forget keep fr) H = iter b keep n fr H := by
  cases n with
  | zero => rfl
  | succ n => simp only [iter, forget_idem]

theorem runK_ok {tys : List VT} : ∀ (c : ACode) {fr : Fr} {H : Heap} {K : Kont R}, runK T hs tys c fr H K = some r → ∃ n e fr' H', runC (callN T hs n) hs n c fr H = some (e, fr', H') ∧ K.at e fr' H' = some r := by
  intro c
  have up : ∀ {a d : Nat} (_ : a ≤ d) (c : ACode) {fr : Fr} {H : Heap} {y}, runC (callN T hs a) hs a c fr H = some y → runC (callN T hs d) hs d c fr H = some y := fun hac c fr H y q => runC_mono (callN_mono (HLe.refl hs) hac) (HLe.refl hs) hac c q
  induction c with
  | skip => intro fr H K h; exact ⟨0, .nrm, fr, H, rfl, h⟩
  | reg os =>
    intro fr H K h
    obtain ⟨n, fr', H', h1, h2⟩ := runOpsK_ok h
    exact ⟨n, .nrm, fr', H', by simp only [runC, h1], h2⟩
  | regD os =>
    intro fr H K h
    obtain ⟨n, fr', H', h1, h2⟩ := runDK_ok (by simp) h
    exact ⟨n, .nrm, fr', H', by simp only [runC, h1], h2⟩
  | seq a b iha ihb =>
    intro fr H K h
    simp only [runK, fF_eq] at h
    obtain ⟨n, e, fr1, H1, h1, h2⟩ := iha h
    cases e with
    | nrm =>
      obtain ⟨m, e, fr2, H2, h3, h4⟩ := ihb h2
      refine ⟨max n m, e, fr2, H2, ?_, h4⟩
      simp only [runC, up (Nat.le_max_left n m) a h1]
      exact up (Nat.le_max_right n m) b h3
    | ex i => exact ⟨n, .ex i, fr1, H1, by simp only [runC, h1], h2⟩
    | ret => exact ⟨n, .ret, fr1, H1, by simp only [runC, h1], h2⟩
  | seqj keep a b iha ihb =>
    intro fr H K h
    simp only [runK, fF_eq] at h
    obtain ⟨n, e, fr1, H1, h1, h2⟩ := iha h
    cases e with
    | nrm =>
      simp only [Kont.at, joinK] at h2
      obtain ⟨⟨e, fr2, H2⟩, h3, h4⟩ := bind_some' h2
      obtain ⟨m, h3⟩ := of_RT h3
      refine ⟨max n m, e, fr2, H2, ?_, h4⟩
      simp only [runC, up (Nat.le_max_left n m) a h1]
      exact up (Nat.le_max_right n m) b h3
    | ex i => exact ⟨n, .ex i, fr1, H1, by simp only [runC, h1], h2⟩
    | ret => exact ⟨n, .ret, fr1, H1, by simp only [runC, h1], h2⟩
  | cond c a b iha ihb =>
    intro fr H K h
    simp only [runK, fF_eq] at h
    split at h
    · rename_i t hv
      have href : refB c t fr = fr := by
        cases c with
        | t s => exact setB_self hv
        | _ => rfl
      cases t with
      | true =>
        simp only [cond, href] at h
        obtain ⟨n, e, fr1, H1, h1, h2⟩ := iha h
        exact ⟨n, e, fr1, H1, by simp only [runC, hv, if_true, h1], h2⟩
      | false =>
        simp only [cond, href] at h
        obtain ⟨n, e, fr1, H1, h1, h2⟩ := ihb h
        exact ⟨n, e, fr1, H1, by simp only [runC, hv, Bool.false_eq_true, if_false, h1], h2⟩
    · simp at h
  | block id b ih =>
    intro fr H K h
    simp only [runK, fF_eq] at h
    obtain ⟨n, e, fr1, H1, h1, h2⟩ := ih h
    cases e with
    | nrm => exact ⟨n, .nrm, fr1, H1, by simp only [runC, h1], h2⟩
    | ret => exact ⟨n, .ret, fr1, H1, by simp only [runC, h1], h2⟩
    | ex i =>
      simp only [Kont.at] at h2
      split at h2
      · rename_i e; exact ⟨n, .nrm, fr1, H1, by simp only [runC, h1, if_pos e], h2⟩
      · rename_i e; exact ⟨n, .ex i, fr1, H1, by simp only [runC, h1, if_neg e], h2⟩
  | loop keep b ih =>
    intro fr H K h
    simp only [runK, fF_eq, loopK] at h
    obtain ⟨⟨e, fr1, H1⟩, h1, h2⟩ := bind_some' h
    obtain ⟨k, hk⟩ := of_LT h1
    rw [iter_forget] at hk
    exact ⟨k, e, fr1, H1, hk, h2⟩
  | exit id => intro fr H K h; exact ⟨0, .ex id, fr, H, rfl, h⟩
  | ret => intro fr H K h; exact ⟨0, .ret, fr, H, rfl, h⟩
  | scope b ih =>
    intro fr H K h
    simp only [runK, fF_eq] at h
    obtain ⟨n, e, fr1, H1, h1, h2⟩ := ih h
    exact ⟨n, e, fr1, H1, by simp only [runC, h1], h2⟩
  | stuckC => intro fr H K h; simp [runK] at h

theorem join_intro {tys : List VT} {b : ACode} {fr : Fr} {H : Heap} {K : Kont R} (h : runK T hs tys b fr H K = some r) : joinK T hs b fr H K = some r := by
  obtain ⟨n, e, fr1, H1, h1, h2⟩ := runK_ok b h
  unfold joinK
  rw [RT_of h1]
  exact h2

/-- one round of a loop -/
theorem loop_intro {tys : List VT} {keep : List Nat} {b : ACode} {fr : Fr} {H : Heap} {K : Kont R} (h : (fF (forget keep fr) fun fr => runK T hs tys b fr H { K with nrm := fun fr H => fF (forget keep fr) fun fr => loopK T hs keep b fr H K }) = some r) : loopK T hs keep b fr H K = some r := by
  simp only [fF_eq] at h
  obtain ⟨n, e, fr1, H1, h1, h2⟩ := runK_ok b h
  have last : (∀ fr' H', (e, fr1, H1) ≠ (.nrm, fr', H')) → K.at e fr1 H1 = some r → loopK T hs keep b fr H K = some r := by
    intro hne hk
    have : iter (runC (callN T hs (n + 1)) hs (n + 1) b) keep (n + 1) fr H = some (e, fr1, H1) := by
      simp only [iter]
      rw [runC_mono (callN_mono (HLe.refl hs) (Nat.le_succ n)) (HLe.refl hs) (Nat.le_succ n) b h1]
      cases e with
      | nrm => exact (hne _ _ rfl).elim
      | _ => rfl
    unfold loopK
    rw [LT_of this]
    exact hk
  cases e with
  | ex i => exact last (fun _ _ q => by simp at q) h2
  | ret => exact last (fun _ _ q => by simp at q) h2
  | nrm =>
    simp only [Kont.at, loopK] at h2
    obtain ⟨x, h3, h4⟩ := bind_some' h2
    obtain ⟨m, hm⟩ := of_LT h3
    rw [iter_forget] at hm
    have l1 : n ≤ max n m + 1 := by omega
    have l2 : m ≤ max n m + 1 := by omega
    have : iter (runC (callN T hs (max n m + 1)) hs (max n m + 1) b) keep (max n m + 1) fr H = some x := by
      rw [show iter (runC (callN T hs (max n m + 1)) hs (max n m + 1) b) keep (max n m + 1) fr H = (match runC (callN T hs (max n m + 1)) hs (max n m + 1) b (forget keep fr) H with
        | some (.nrm, fr', H') => iter (runC (callN T hs (max n m + 1)) hs (max n m + 1) b) keep (max n m) fr' H'
        | r => r) from rfl]
      rw [runC_mono (callN_mono (HLe.refl hs) l1) (HLe.refl hs) l1 b h1]
      exact iter_mono (fun fr H r q => runC_mono (callN_mono (HLe.refl hs) l2) (HLe.refl hs) l2 b q) keep (by omega) hm
    unfold loopK
    rw [LT_of this]
    exact h4

def resK (res : List ARes) (fr : Fr) (H : Heap) : Option (Value × Heap) := match ressA fr H res with
  | some [v] => some (v, H)
  | some vs => some (.tuple vs.toArray, H)
  | none => none

def kontF (af : AFunc) : Kont (Value × Heap) := ⟨resK af.res, fun _ _ _ => none, resK af.res⟩

noncomputable def runFK (T : Nat → Option AFn) (hs : Heap → Heap → Bool) (tys : List VT) (af : AFunc) (args : List Value) (H : Heap) : Option (Value × Heap) :=
  if args.length = af.np then fF (args.map .v ++ List.replicate (af.nt - af.np) .no) fun fr => runK T hs tys af.body fr H (kontF af) else none

theorem runFK_ok {f : Nat} {tys : List VT} {af : AFunc} {args : List Value} {H : Heap} {r : Value × Heap} (hT : T f = some (.code af)) (h : runFK T hs tys af args H = some r) : CT T hs f args H = some r := by
  unfold runFK at h
  simp only [fF_eq] at h
  split at h
  · rename_i hl
    obtain ⟨n, e, fr1, H1, h1, h2⟩ := runK_ok _ h
    refine CT_of (k := n + 1) (HLe.refl hs) ?_
    simp only [callN, hT, runF, if_pos hl, h1]
    cases e with
    | nrm => exact h2
    | ret => exact h2
    | ex i => simp [Kont.at, kontF] at h2
  · simp at h

theorem ext_ok {f : Nat} {g : List Value → Heap → Option (Value × Heap)} {args : List Value} {H : Heap} {r : Value × Heap} (hT : T f = some (.ext g)) (h : g args H = some r) : CT T hs f args H = some r := by
  refine CT_of (k := 1) (HLe.refl hs) ?_
  simp only [callN, hT, h]

end
end Go.AM
