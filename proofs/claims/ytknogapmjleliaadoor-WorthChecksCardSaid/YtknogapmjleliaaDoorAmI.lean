/- One operation: numbers, strings, bools, conversions. No condition. -/
import Derived.Test.YtknogapmjleliaaDoorAmH
namespace Go.AM
open Go

variable {P : Program} {L0 L : Locs} {w0 w : World} {lam : Nat → Nat} {fr fr' : Fr} {H H' : Heap} {a : Act}

def chkBin (o : Op) (op : BinOp) (x y : Opd) : Bool := match o with
  | .binOp op' _ x' y' _ => decide (op' = op) && (chkOpd x' x && chkOpd y' y)
  | _ => false

theorem binI_run {op : BinOp} {k : IntKind} {m n : Int} {v : Value} (h : binI op k m n = some v) (hs : op ≠ .shl) (hs' : op ≠ .shr) (t : TypeId) : (binOp op t (.int k m) (.int k n)).run P w = .ok v w ∧ VR L v v := by
  cases op <;> simp only [binI, wrapOp, bitsOp] at h <;> try (simp at h; done)
  all_goals (try (split at h <;> try (simp at h; done)))
  all_goals (simp only [Option.some.injEq] at h; subst h)
  all_goals (refine ⟨?_, by constructor⟩)
  all_goals simp_all [binOp, Op.intArith, Op.intDiv, Op.intBits, Op.intCmp]

theorem binS_run {op : BinOp} {m n : ByteArray} {v : Value} (h : binS op m n = some v) (t : TypeId) : (binOp op t (.string m) (.string n)).run P w = .ok v w ∧ VR L v v := by
  have hmax : IntKind.i64.max = 9223372036854775807 := rfl
  cases op <;> simp only [binS] at h <;> try (simp at h; done)
  all_goals (try (split at h <;> try (simp at h; done)))
  all_goals (simp only [Option.some.injEq] at h; subst h)
  all_goals (refine ⟨?_, by constructor⟩)
  all_goals simp_all [binOp, Op.stringOp]

theorem binV_run {op : BinOp} {m n v : Value} (h : binV op m n = some v) (t : TypeId) : (binOp op t m n).run P w = .ok v w ∧ VR L v v := by
  unfold binV at h
  split at h
  · rename_i k b k' b'
    split at h
    · split at h
      · simp at h
      · simp only [wrapOp, Option.some.injEq] at h; subst h
        rename_i hb
        exact ⟨by simp [binOp, Op.shift, hb], .int _ _⟩
    · split at h
      · simp at h
      · simp only [Option.some.injEq] at h; subst h
        rename_i hb
        exact ⟨by simp [binOp, Op.shift, hb], .int _ _⟩
    · split at h
      · rename_i hk; subst hk
        exact binI_run h (by assumption) (by assumption) t
      · simp at h
  · exact binS_run h t
  · simp at h

theorem run_eqGuard_plain {op : BinOp} {t : TypeId} {x y : Operand} {m n v : Value} (h : binV op m n = some v) : (eqGuard op t x y m n).run P w = .ok () w := by
  unfold binV at h
  split at h
  · unfold eqGuard; cases op <;> rfl
  · unfold eqGuard; cases op <;> rfl
  · simp at h

theorem step_bin {o : Oper} {Q : Exit → Act → World → Prop} {op : BinOp} {x y : Opd} {c : SC} (h : Inv L0 w0 L lam fr H a w) (hk : chkBin o.op op x y = true) {C : Callee} (hs : stepA C fr H (.bin op x y) = some (c, fr', H')) : Done P L0 w0 o a w Q c fr' H' := by
  unfold chkBin at hk
  split at hk
  · rename_i op' t x' y' t' hop
    simp only [Bool.and_eq_true, decide_eq_true_eq] at hk
    obtain ⟨rfl, hx, hy⟩ := hk
    simp only [stepA] at hs
    split at hs
    · rename_i m n hm hn
      split at hs
      · rename_i v hv
        simp at hs; obtain ⟨rfl, rfl, rfl⟩ := hs
        have r1 := evV_ok h hx hm
        have r2 := evV_ok h hy hn
        have e : a.eval x' = m ∧ a.eval y' = n := by
          unfold binV at hv
          split at hv
          · exact ⟨r1.int_inv, r2.int_inv⟩
          · exact ⟨r1.str_inv, r2.str_inv⟩
          · simp at hv
        obtain ⟨hr, r⟩ := binV_run (P := P) (w := w) (L := L) hv t
        refine done_v h ?_ r
        simp [execOp, hop, e.1, e.2, run_eqGuard_plain hv, hr]
      · simp at hs
    · simp at hs
  · simp at hk

def chkUn (o : Op) (op : UnOp) (x : Opd) : Bool := match o with
  | .unOp op' _ x' => decide (op' = op) && chkOpd x' x
  | _ => false

theorem unV_run {op : UnOp} {m v : Value} (h : unV op m = some v) : (Op.unary op m).run P w = .ok v w ∧ VR L v v ∧ ∀ x, VR L m x → x = m := by
  unfold unV at h
  split at h
  · simp only [wrapOp, Option.some.injEq] at h; subst h
    exact ⟨by simp [Op.unary, Op.intArith], .int _ _, fun x r => r.int_inv⟩
  · simp only [bitsOp, Option.some.injEq] at h; subst h
    exact ⟨by simp [Op.unary, Op.intBits], .int _ _, fun x r => r.int_inv⟩
  · simp only [Option.some.injEq] at h; subst h
    exact ⟨by simp [Op.unary], .bool _, fun x r => r.bool_inv⟩
  · simp at h

theorem step_un {o : Oper} {Q : Exit → Act → World → Prop} {op : UnOp} {x : Opd} {c : SC} (h : Inv L0 w0 L lam fr H a w) (hk : chkUn o.op op x = true) {C : Callee} (hs : stepA C fr H (.un op x) = some (c, fr', H')) : Done P L0 w0 o a w Q c fr' H' := by
  unfold chkUn at hk
  split at hk
  · rename_i op' t x' hop
    simp only [Bool.and_eq_true, decide_eq_true_eq] at hk
    obtain ⟨rfl, hx⟩ := hk
    simp only [stepA] at hs
    split at hs
    · rename_i m hm
      split at hs
      · rename_i v hv
        simp at hs; obtain ⟨rfl, rfl, rfl⟩ := hs
        obtain ⟨hr, r, hi⟩ := unV_run (P := P) (w := w) (L := L) hv
        have e := hi _ (evV_ok h hx hm)
        exact done_v h (by simp [execOp, hop, e, hr]) r
      · simp at hs
    · simp at hs
  · simp at hk

def isInt (P : Program) (t : TypeId) : Bool := match P.underlying t with | some (.int _) => true | _ => false
def intIs (P : Program) (t : TypeId) (k : IntKind) : Bool := match P.underlying t with | some (.int k') => decide (k' = k) | _ => false
def strIs (P : Program) (t : TypeId) : Bool := match P.underlying t with | some .string => true | _ => false

theorem isInt_und {t : TypeId} (h : isInt P t = true) : ∃ k, P.underlying t = some (.int k) := by
  unfold isInt at h; split at h
  · rename_i k hk; exact ⟨k, hk⟩
  · simp at h
theorem intIs_und {t : TypeId} {k : IntKind} (h : intIs P t k = true) : P.underlying t = some (.int k) := by
  unfold intIs at h; split at h
  · rename_i k' hk; simp at h; subst h; exact hk
  · simp at h
theorem strIs_und {t : TypeId} (h : strIs P t = true) : P.underlying t = some .string := by
  unfold strIs at h; split at h
  · assumption
  · simp at h

def chkConvI (P : Program) (o : Op) (k : IntKind) (x : Opd) : Bool := match o with
  | .convert s d y => chkOpd y x && (isInt P s && intIs P d k)
  | _ => false

theorem step_convI {o : Oper} {Q : Exit → Act → World → Prop} {k : IntKind} {x : Opd} {c : SC} (h : Inv L0 w0 L lam fr H a w) (hk : chkConvI P o.op k x = true) {C : Callee} (hs : stepA C fr H (.convI k x) = some (c, fr', H')) : Done P L0 w0 o a w Q c fr' H' := by
  unfold chkConvI at hk
  split at hk
  · rename_i s d y hop
    simp only [Bool.and_eq_true] at hk
    obtain ⟨ks, hks⟩ := isInt_und hk.2.1
    have hkd := intIs_und hk.2.2
    simp only [stepA] at hs
    split at hs
    · rename_i k' n hn
      simp at hs; obtain ⟨rfl, rfl, rfl⟩ := hs
      have e := (evV_ok h hk.1 hn).int_inv
      exact done_v h (by simp [execOp, hop, e, convert, run_underlying hks, run_underlying hkd, Conv.intToInt]) (.int _ _)
    · simp at hs
  · simp at hk

def chkConvS (P : Program) (o : Op) (x : Opd) : Bool := match o with
  | .convert s d y => chkOpd y x && (strIs P s && strIs P d)
  | _ => false

theorem step_convS {o : Oper} {Q : Exit → Act → World → Prop} {x : Opd} {c : SC} (h : Inv L0 w0 L lam fr H a w) (hk : chkConvS P o.op x = true) {C : Callee} (hs : stepA C fr H (.convS x) = some (c, fr', H')) : Done P L0 w0 o a w Q c fr' H' := by
  unfold chkConvS at hk
  split at hk
  · rename_i s d y hop
    simp only [Bool.and_eq_true] at hk
    have hks := strIs_und hk.2.1
    have hkd := strIs_und hk.2.2
    simp only [stepA] at hs
    split at hs
    · rename_i n hn
      simp at hs; obtain ⟨rfl, rfl, rfl⟩ := hs
      have e := (evV_ok h hk.1 hn).str_inv
      exact done_v h (by simp [execOp, hop, e, convert, run_underlying hks, run_underlying hkd]) (.str _)
    · simp at hs
  · simp at hk

def chkConvIS (P : Program) (o : Op) (x : Opd) : Bool := match o with
  | .convert s d y => chkOpd y x && (isInt P s && strIs P d)
  | _ => false

theorem step_convIS {o : Oper} {Q : Exit → Act → World → Prop} {x : Opd} {c : SC} (h : Inv L0 w0 L lam fr H a w) (hk : chkConvIS P o.op x = true) {C : Callee} (hs : stepA C fr H (.convIS x) = some (c, fr', H')) : Done P L0 w0 o a w Q c fr' H' := by
  unfold chkConvIS at hk
  split at hk
  · rename_i s d y hop
    simp only [Bool.and_eq_true] at hk
    obtain ⟨ks, hks⟩ := isInt_und hk.2.1
    have hkd := strIs_und hk.2.2
    simp only [stepA] at hs
    split at hs
    · rename_i k n hn
      simp at hs; obtain ⟨rfl, rfl, rfl⟩ := hs
      have e := (evV_ok h hk.1 hn).int_inv
      exact done_v h (by simp [execOp, hop, e, convert, run_underlying hks, run_underlying hkd, Conv.intToString]) (.str _)
    · simp at hs
  · simp at hk

def chkFn (o : Op) (fn : Fn) (x y : List Opd) : Bool := match o with
  | .makeFunc fn' x' y' => (match fn, fn' with | .func f, .func g => f == g | _, _ => false) && (chkOpds x'.toList x && chkOpds y'.toList y)
  | _ => false

theorem step_fn {o : Oper} {Q : Exit → Act → World → Prop} {fn : Fn} {x y : List Opd} {c : SC} (h : Inv L0 w0 L lam fr H a w) (hk : chkFn o.op fn x y = true) {C : Callee} (hs : stepA C fr H (.mkFunc fn x y) = some (c, fr', H')) : Done P L0 w0 o a w Q c fr' H' := by
  unfold chkFn at hk
  split at hk
  · rename_i fn' x' y' hop
    simp only [Bool.and_eq_true] at hk
    obtain ⟨h1, h2, h3⟩ := hk
    have hfn : fn = fn' ∧ fnOk fn := by
      split at h1
      · simp at h1; subst h1; exact ⟨rfl, trivial⟩
      · simp at h1
    obtain ⟨rfl, hok⟩ := hfn
    simp only [stepA] at hs
    split at hs
    · rename_i xs ys hxs hys
      simp at hs; obtain ⟨rfl, rfl, rfl⟩ := hs
      have r1 := (evVs_ok h h2 hxs).arr
      have r2 := (evVs_ok h h3 hys).arr
      refine done_v (x := .func fn (x'.map a.eval) (y'.map a.eval)) h (by simp [execOp, hop, Instr.makeFunc]) ?_
      refine .fn _ _ _ _ _ hok (by simpa using r1.1) (by simpa using r2.1) (fun i p q => ?_) (fun i p q => ?_)
      · have := r1.2 i p (by simpa using q); simpa using this
      · have := r2.2 i p (by simpa using q); simpa using this
    · simp at hs
  · simp at hk

def chkExt (o : Op) (x : Opd) (i : Nat) : Bool := match o with
  | .extract x' j => (i == j) && chkOpd x' x
  | _ => false

theorem step_ext {o : Oper} {Q : Exit → Act → World → Prop} {x : Opd} {i : Nat} {c : SC} (h : Inv L0 w0 L lam fr H a w) (hk : chkExt o.op x i = true) {C : Callee} (hs : stepA C fr H (.extract x i) = some (c, fr', H')) : Done P L0 w0 o a w Q c fr' H' := by
  unfold chkExt at hk
  split at hk
  · rename_i x' j hop
    simp only [Bool.and_eq_true, beq_iff_eq] at hk
    obtain ⟨rfl, hx⟩ := hk
    simp only [stepA] at hs
    split at hs
    · rename_i vs hv
      split at hs
      · rename_i v hi
        simp at hs; obtain ⟨rfl, rfl, rfl⟩ := hs
        have r := evV_ok h hx hv
        generalize he : a.eval x' = y at r
        cases r with
        | tup _ vs' hl hp =>
          obtain ⟨hlt, rfl⟩ := Array.getElem?_eq_some_iff.1 hi
          refine done_v h ?_ (hp i hlt (by omega))
          simp [execOp, hop, he, Instr.extract, show i < vs'.size by omega]
      · simp at hs
    · simp at hs
  · simp at hk

def chkMx (b : Builtin) (o : Op) (x y : Opd) : Bool := match o, b with
  | .call ⟨.builtin .max, args, _⟩, .max => chkOpds args.toList [x, y]
  | .call ⟨.builtin .min, args, _⟩, .min => chkOpds args.toList [x, y]
  | _, _ => false

theorem opds2 {as : Array Operand} {x y : Opd} (h : chkOpds as.toList [x, y] = true) : ∃ x' y', as = #[x', y'] ∧ chkOpd x' x = true ∧ chkOpd y' y = true := by
  obtain ⟨l⟩ := as
  match l, h with
  | [p, q], h => simp only [chkOpds, Bool.and_eq_true] at h; exact ⟨p, q, rfl, h.1, h.2.1⟩
  | [], h => simp [chkOpds] at h
  | [_], h => simp [chkOpds] at h
  | _ :: _ :: _ :: _, h => simp [chkOpds] at h
theorem opds1 {as : Array Operand} {x : Opd} (h : chkOpds as.toList [x] = true) : ∃ x', as = #[x'] ∧ chkOpd x' x = true := by
  obtain ⟨l⟩ := as
  match l, h with
  | [p], h => simp only [chkOpds, Bool.and_eq_true] at h; exact ⟨p, rfl, h.1⟩
  | [], h => simp [chkOpds] at h
  | _ :: _ :: _, h => simp [chkOpds] at h

theorem step_mx {o : Oper} {Q : Exit → Act → World → Prop} {x y : Opd} {c : SC} (h : Inv L0 w0 L lam fr H a w) (hk : chkMx .max o.op x y = true) {C : Callee} (hs : stepA C fr H (.mx x y) = some (c, fr', H')) : Done P L0 w0 o a w Q c fr' H' := by
  unfold chkMx at hk
  split at hk
  · rename_i args ts hop _
    obtain ⟨x', y', rfl, hx, hy⟩ := opds2 hk
    simp only [stepA] at hs
    split at hs
    · rename_i k m k' n hm hn
      simp at hs; obtain ⟨rfl, rfl, rfl⟩ := hs
      have e1 := (evV_ok h hx hm).int_inv
      have e2 := (evV_ok h hy hn).int_inv
      exact done_v h (by simp [execOp, hop, e1, e2, resolve, invoke, builtin, Builtin.max_, Builtin.max2]) (.int _ _)
    · simp at hs
  · simp_all
  · simp at hk

theorem step_mn {o : Oper} {Q : Exit → Act → World → Prop} {x y : Opd} {c : SC} (h : Inv L0 w0 L lam fr H a w) (hk : chkMx .min o.op x y = true) {C : Callee} (hs : stepA C fr H (.mn x y) = some (c, fr', H')) : Done P L0 w0 o a w Q c fr' H' := by
  unfold chkMx at hk
  split at hk
  · simp_all
  · rename_i args ts hop _
    obtain ⟨x', y', rfl, hx, hy⟩ := opds2 hk
    simp only [stepA] at hs
    split at hs
    · rename_i k m k' n hm hn
      simp at hs; obtain ⟨rfl, rfl, rfl⟩ := hs
      have e1 := (evV_ok h hx hm).int_inv
      have e2 := (evV_ok h hy hn).int_inv
      exact done_v h (by simp [execOp, hop, e1, e2, resolve, invoke, builtin, Builtin.min_, Builtin.min2]) (.int _ _)
    · simp at hs
  · simp at hk

end Go.AM
