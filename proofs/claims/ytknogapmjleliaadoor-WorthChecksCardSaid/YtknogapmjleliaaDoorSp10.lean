/- A value's text: worth.Text. No condition. -/
import Derived.Test.YtknogapmjleliaaDoorSp9
namespace Go.Proofs.YtknogapmjleliaaDoor
open Go Go.AM

/-- what stands behind a whole item: the text, and the lists that are still open (the inmost one first) -/
def closeL : List Int → List UInt8 × List Int
  | [] => ([], [])
  | k :: st => if k - 1 > 0 then ([44, 32], (k - 1) :: st) else (93 :: (closeL st).1, (closeL st).2)

def closeP : Bool → List Int → List UInt8 × List Int
  | true, k :: st => if k > 0 then ([], k :: st) else (93 :: (closeL st).1, (closeL st).2)
  | true, [] => ([], [])
  | false, st => closeL st

theorem closeL_len : ∀ st : List Int, (closeL st).1.length ≤ st.length + 1 ∧ (closeL st).2.length ≤ st.length
  | [] => by simp [closeL]
  | k :: st => by
    have := closeL_len st
    simp only [closeL]
    split
    · simp
    · simp only [List.length_cons]; omega

theorem closeP_len (b : Bool) (st : List Int) : (closeP b st).1.length ≤ st.length + 1 ∧ (closeP b st).2.length ≤ st.length := by
  cases b with
  | false => exact closeL_len st
  | true =>
    cases st with
    | nil => simp [closeP]
    | cons k st =>
      have := closeL_len st
      simp only [closeP]
      split
      · simp
      · simp only [List.length_cons]; omega

theorem closeL_fit {m : Int} : ∀ {st : List Int}, (∀ k ∈ st, 0 ≤ k ∧ k ≤ m) → ∀ k ∈ (closeL st).2, 0 ≤ k ∧ k ≤ m
  | [], _, k, hk => by simp [closeL] at hk
  | x :: st, h, k, hk => by
    simp only [closeL] at hk
    split at hk
    · rcases List.mem_cons.1 hk with rfl | hk
      · have := h x (List.mem_cons_self ..); omega
      · exact h k (List.mem_cons_of_mem _ hk)
    · exact closeL_fit (fun y hy => h y (List.mem_cons_of_mem _ hy)) k hk

theorem closeP_fit {m : Int} {b : Bool} {st : List Int} (h : ∀ k ∈ st, 0 ≤ k ∧ k ≤ m) : ∀ k ∈ (closeP b st).2, 0 ≤ k ∧ k ≤ m := by
  cases b with
  | false => exact closeL_fit h
  | true =>
    cases st with
    | nil => simp [closeP]
    | cons x st =>
      simp only [closeP]
      split
      · exact h
      · exact closeL_fit (fun y hy => h y (List.mem_cons_of_mem _ hy))

/-- the rows of a list and of a builder are apart -/
def Sep (b : Option Addr) (f : Nat) (a : Option Addr) : Prop := rowOf b ≠ some f ∧ ∀ g, rowOf b = some g → rowOf a ≠ some g

theorem Sep.step {b a a' : Option Addr} {f : Nat} {H H' : Heap} (h : Sep b f a) (k : ChB f a a' H H') (hb : ∀ g, rowOf b = some g → g < H.length) : Sep b f a' := by
  refine ⟨h.1, fun g hg => ?_⟩
  rcases k.row with r | ⟨g', r, r1, _⟩
  · rw [r]; exact h.2 g hg
  · rw [r]; intro e; have := hb g hg; simp at e; omega

theorem Sep.grow {b b' a : Option Addr} {f : Nat} {H H' : Heap} (h : Sep b f a) (k : Chd b b' H H') (hf : f < H.length) (ha : ∀ g, rowOf a = some g → g < H.length) : Sep b' f a := by
  rcases k.row with r | ⟨g', r, r1, _⟩
  · exact ⟨by rw [r]; exact h.1, fun g hg => h.2 g (by rw [← r]; exact hg)⟩
  · refine ⟨by rw [r]; intro e; simp at e; omega, fun g hg e => ?_⟩
    have := ha g e
    rw [r] at hg; simp at hg; omega

theorem last_at {x : Int} {st : List Int} : (((x :: st).reverse).map intC)[st.length]? = some (intC x) := by
  rw [List.reverse_cons, List.map_append, List.getElem?_append_right (by simp)]; simp

theorem last_set {x y : Int} {st : List Int} : (((x :: st).reverse).map intC).set st.length (intC y) = ((y :: st).reverse).map intC := by
  rw [List.reverse_cons, List.map_append, List.set_append_right _ _ (by simp)]; simp

theorem last_cut {x : Int} {st : List Int} : (((x :: st).reverse).map intC).take st.length = (st.reverse).map intC := by
  rw [List.reverse_cons, List.map_append, List.take_append_of_le_length (by simp), List.take_of_length_le (by simp)]

/-- what the text's loops keep -/
def Txt (H0 H : Heap) (f : Nat) (a : Option Addr) (out : List UInt8) (b : Option Addr) (n c : Nat) (st : List Int) : Prop :=
  Pre H0 H ∧ Bld H0.length H 51 5 f a out ∧ Own H0.length H 3 1 b n c (st.reverse.map intC) ∧ Sep b f a

theorem Txt.write {H0 H H' : Heap} {f : Nat} {a a' : Option Addr} {out out' : List UInt8} {b : Option Addr} {n c : Nat} {st : List Int} (h : Txt H0 H f a out b n c st) (hb : Bld H0.length H' 51 5 f a' out') (k : ChB f a a' H H') : Txt H0 H' f a' out' b n c st :=
  ⟨h.2.1.pre (Nat.le_refl _) h.1 k, hb, h.2.2.1.keepB k h.2.2.2.1 h.2.2.2.2, h.2.2.2.step k (fun g hg => (h.2.2.1.base g hg).2)⟩

theorem Txt.n {H0 H : Heap} {f : Nat} {a : Option Addr} {out : List UInt8} {b : Option Addr} {n c : Nat} {st : List Int} (h : Txt H0 H f a out b n c st) : n = st.length := by simpa using h.2.2.1.1

theorem sp22_loop {H0 : Heap} {f : Nat} {b : Option Addr} {c : Nat} : ∀ (st : List Int) (H : Heap) (a : Option Addr) (out : List UInt8) (n : Nat), Txt H0 H f a out b n c st → out.length + st.length + 2 ≤ 1099511627776 → (∀ k ∈ st, 0 ≤ k ∧ k ≤ 65536) →
    Ret (g22_L2 Tb same (some ⟨f, 0, some 0⟩) b n c H) fun v H' => ∃ a' n', v = .slice b n' c ∧ Txt H0 H' f a' (out ++ (closeL st).1) b n' c (closeL st).2
  | [], H, a, out, n, h, hl, _ => by
    have hn := h.n
    simp only [List.length_nil] at hn; subst hn
    refine g22_L2_ret ?_
    unfold s22_L2
    rw [show decide ((((0 : Nat) : Int)) > 0) = false from rfl, aF]
    exact Ret.one ⟨a, 0, rfl, by simpa [closeL] using h⟩
  | x :: st, H, a, out, n, h, hl, hk => by
    have hn := h.n
    simp only [List.length_cons] at hn hl
    subst hn
    have hx := hk x (List.mem_cons_self ..)
    obtain ⟨hp, hb, ho, hs⟩ := h
    refine g22_L2_ret ?_
    unfold s22_L2
    rw [decide_eq_true (show (((st.length + 1 : Nat) : Int)) > 0 by omega), aT, w64 (by omega) (by omega), show (((st.length + 1 : Nat) : Int) - 1) = ((st.length : Nat) : Int) by omega]
    rw [Sl.get0 ho.sl (i := (st.length : Int)) rfl last_at (Nat.le_refl _) (Nat.le_refl _)]
    simp only [intC, List.take_succ_cons, List.take_zero, aCons, aInt, aNil]
    rw [w64 (by omega) (by omega)]
    obtain ⟨H1, w, o1, k1⟩ := ho.put0 (R := Value × Heap) (i := (st.length : Int)) (j := st.length) rfl last_at (m := 1) (y := intC (x - 1)) (Nat.le_refl _) rfl
    have w' := w
    simp only [intC] at w'
    rw [w', last_set] at *
    have p1 := ho.pre (Nat.le_refl _) hp k1
    have b1 := hb.keep k1 hs.1 (fun g hg e => hs.2 g e hg)
    rw [Sl.get0 o1.sl (i := (st.length : Int)) rfl last_at (Nat.le_refl _) (Nat.le_refl _)]
    simp only [intC, List.take_succ_cons, List.take_zero, aCons, aInt, aNil]
    have t1 : Txt H0 H1 f a out b (st.length + 1) c ((x - 1) :: st) := ⟨p1, b1, o1, hs⟩
    refine Ret.cond (fun q => ?_) (fun q => ?_)
    · simp only [decide_eq_true_eq] at q
      rw [show (⟨#[44, 32]⟩ : ByteArray) = bs [44, 32] from rfl]
      refine Ret.call (sp20 b1 p1.len [44, 32] (by simp; omega)) ?_
      rintro v H2 ⟨rfl, a2, b2, k2⟩
      simp only [aTup, aCons, aInt, aNil]
      refine Ret.one ⟨a2, _, rfl, ?_⟩
      simp only [closeL]; rw [if_pos q]
      exact t1.write b2 k2
    · simp only [decide_eq_false_iff_not] at q
      rw [show (93 : Int) = (((93 : UInt8).toNat : Nat) : Int) from rfl]
      refine Ret.call (sp17 b1 p1.len 93 (by omega)) ?_
      rintro v H2 ⟨rfl, a2, b2, k2⟩
      have t2 := t1.write b2 k2
      obtain ⟨u1, u2⟩ := t2.2.2.1.upto (i := (st.length : Int)) (j := st.length) rfl (by omega)
      rw [u1]
      simp only [aBind, aSl]
      rw [last_cut] at u2
      have t3 : Txt H0 H2 f a2 (out ++ [93]) b st.length c st := ⟨t2.1, t2.2.1, u2, t2.2.2.2⟩
      refine (sp22_loop st H2 a2 (out ++ [93]) st.length t3 (by simp; omega) (fun k hk' => hk k (List.mem_cons_of_mem _ hk'))).mono ?_
      rintro v H3 ⟨a3, n3, rfl, t4⟩
      refine ⟨a3, n3, rfl, ?_⟩
      simp only [closeL]; rw [if_neg q]
      simpa using t4

theorem sp22 {H0 H : Heap} {f : Nat} {a b : Option Addr} {c n : Nat} {st : List Int} {out : List UInt8} (h : Txt H0 H f a out b n c st) (hl : out.length + st.length + 2 ≤ 1099511627776) (hk : ∀ k ∈ st, 0 ≤ k ∧ k ≤ 65536) (began : Bool) (hst : began = true → st ≠ []) :
    Ret (CT Tb same 22 [bp f, .slice b n c, .bool began] H) fun v H' => ∃ a' n', v = .slice b n' c ∧ Txt H0 H' f a' (out ++ (closeP began st).1) b n' c (closeP began st).2 := by
  have hn := h.n
  refine c22 ?_
  unfold s22
  cases began with
  | false =>
    rw [aF]
    refine g22_J0_ret ?_
    unfold s22_J0
    rw [aF, aF]
    refine g22_J1_ret ?_
    unfold s22_J1
    exact sp22_loop st H a out n h hl hk
  | true =>
    obtain ⟨x, st, rfl⟩ : ∃ x st', st = x :: st' := by
      cases st with
      | nil => exact (hst rfl rfl).elim
      | cons x st => exact ⟨x, st, rfl⟩
    simp only [List.length_cons] at hn hl
    subst hn
    obtain ⟨hp, hb, ho, hs⟩ := h
    rw [aT, w64 (by omega) (by omega), show (((st.length + 1 : Nat) : Int) - 1) = ((st.length : Nat) : Int) by omega]
    rw [Sl.get0 ho.sl (i := (st.length : Int)) rfl last_at (Nat.le_refl _) (Nat.le_refl _)]
    simp only [intC, List.take_succ_cons, List.take_zero, aCons, aInt, aNil]
    refine g22_J0_ret ?_
    unfold s22_J0
    refine Ret.cond (fun q => ?_) (fun q => ?_)
    · simp only [decide_eq_true_eq] at q
      refine Ret.one ⟨a, _, rfl, ?_⟩
      simp only [closeP]; rw [if_pos q]
      rw [List.append_nil]
      exact ⟨hp, hb, ho, hs⟩
    · simp only [decide_eq_false_iff_not] at q
      rw [aT, show (93 : Int) = (((93 : UInt8).toNat : Nat) : Int) from rfl]
      refine Ret.call (sp17 hb hp.len 93 (by omega)) ?_
      rintro v H2 ⟨rfl, a2, b2, k2⟩
      have t1 : Txt H0 H f a out b (st.length + 1) c (x :: st) := ⟨hp, hb, ho, hs⟩
      have t2 := t1.write b2 k2
      rw [w64 (by omega) (by omega), show (((st.length + 1 : Nat) : Int) - 1) = ((st.length : Nat) : Int) by omega]
      obtain ⟨u1, u2⟩ := t2.2.2.1.upto (i := (st.length : Int)) (j := st.length) rfl (by omega)
      rw [u1]
      simp only [aBind, aSl]
      rw [last_cut] at u2
      refine g22_J1_ret ?_
      unfold s22_J1
      have t3 : Txt H0 H2 f a2 (out ++ [93]) b st.length c st := ⟨t2.1, t2.2.1, u2, t2.2.2.2⟩
      refine (sp22_loop st H2 a2 (out ++ [93]) st.length t3 (by simp; omega) (fun k hk' => hk k (List.mem_cons_of_mem _ hk'))).mono ?_
      rintro v H3 ⟨a3, n3, rfl, t4⟩
      refine ⟨a3, n3, rfl, ?_⟩
      simp only [closeP]; rw [if_neg q]
      simpa using t4

/-! the whole text -/

def itemT (x : It) : List UInt8 := if x.b = 0 then [91] else if x.b = 2 then quo x.t else x.t
def opens (x : It) (st : List Int) : List Int := if x.b = 0 then x.n :: st else st
def genT : List It → List Int → List UInt8
  | [], _ => []
  | x :: r, st => itemT x ++ ((closeP (x.b == 0) (opens x st)).1 ++ genT r (closeP (x.b == 0) (opens x st)).2)

def textE (t : List UInt8) : List UInt8 × Int := if 4194304 < t.length then ([], 2) else (t, 0)
def textP (l : List It) : List UInt8 × Int := if (checkP l).2 ≠ 0 then ([], (checkP l).2) else textE (genT l [])
def textV (r : List UInt8 × Int) : Value := .tuple #[.string (bs r.1), .int .i64 r.2]

theorem itemP_len {x : It} (h : itemP x = true) : x.t.length ≤ 65536 := by
  unfold itemP at h
  split at h
  · simp only [Bool.and_eq_true, beq_iff_eq] at h; rw [h.1]; simp
  · unfold bareP at h
    simp only [Bool.and_eq_true] at h
    have h := h.1
    split at h
    · unfold numP at h
      split at h
      · rename_i d hd; rw [hd]; simp only [okD, Bool.and_eq_true, decide_eq_true_eq] at h; simp only [List.length_cons]; omega
      · simp only [okD, Bool.and_eq_true, decide_eq_true_eq] at h; omega
    · split at h
      · simpa using h
      · split at h
        · simp only [Bool.or_eq_true, beq_iff_eq] at h
          rcases h with h | h <;> rw [h] <;> decide
        · simp at h

theorem itemT_len {x : It} (h : x.t.length ≤ 65536) : (itemT x).length ≤ 262146 := by
  unfold itemT
  split
  · simp
  · split
    · rw [quo_len]; have := escs_len x.t; omega
    · omega

theorem sp7_loop {H0 : Heap} {a0 : Option Addr} {n0 c0 : Nat} {l : List It} (h0 : Its H0 a0 n0 c0 l) (hb : l.length ≤ 65536) (hi : ∀ x ∈ l, itemP x = true ∧ x.n ≤ 65536) (hl : l ≠ []) {f : Nat} :
    ∀ (m j : Nat) (H : Heap) (a b : Option Addr) (n c : Nat) (st : List Int) (out : List UInt8), m + j = l.length → Txt H0 H f a out b n c st → (∀ k ∈ st, 0 ≤ k ∧ k ≤ 65536) → st.length ≤ j → out.length ≤ 8000000 → (0 < j → out ≠ []) →
      Ret (g7_L0 Tb same f 0 b n c a0 n0 c0 ((n0 : Nat) : Int) (j : Int) H) fun v H' => v = textV (textE (out ++ genT (l.drop j) st)) ∧ Pre H0 H' := by
  have hn := h0.len
  intro m
  induction m with
  | zero =>
    intro j H a b n c st out hj ht hk hstl hol hne
    have hlen : 0 < l.length := List.length_pos_iff.2 hl
    refine g7_L0_ret ?_
    unfold s7_L0
    rw [show decide ((j : Int) < (n0 : Int)) = false by simp; omega, aF, sp21 ht.2.1]
    simp only [aBind, aInt]
    rw [List.drop_of_length_le (by omega)]
    simp only [genT, List.append_nil]
    refine Ret.cond (fun q => ?_) (fun q => ?_)
    · simp only [decide_eq_true_eq] at q
      refine Ret.one ⟨?_, ht.1⟩
      unfold textE; rw [if_pos (by omega)]; rfl
    · simp only [decide_eq_false_iff_not] at q
      refine Ret.call (sp23 ht.2.1 (hne (by omega)) (by omega)) ?_
      rintro v H2 ⟨rfl, l2, o2⟩
      simp only [aStr]
      refine Ret.one ⟨by unfold textE; rw [if_neg (by omega)]; rfl, fun g hg => ?_⟩
      rw [o2 g (fun e => by have := (ht.2.1.base g e).1; omega), ht.1 g hg]
  | succ m ih =>
    intro j H a b n c st out hj ht hk hstl hol hne
    have hlt : j < l.length := by omega
    have e1 : l.drop j = l[j] :: l.drop (j + 1) := List.drop_eq_getElem_cons hlt
    obtain ⟨hij, hnj⟩ := hi l[j] (List.getElem_mem hlt)
    have hn0 := itemP_n hij
    have htl := itemP_len hij
    have hitl := itemT_len htl
    have hIts := h0.mono ht.1
    have rd := Sl.get0 (R := Value × Heap) hIts (i := (j : Int)) rfl (Its.at hlt) (m := 3) (k := 3) (Nat.le_refl _) (Nat.le_refl _)
    rw [e1]
    generalize hx : l[j] = x at *
    simp only [genT]
    refine g7_L0_ret ?_
    unfold s7_L0
    rw [show decide ((j : Int) < (n0 : Int)) = true by simp; omega, aT, rd]
    simp only [It.c, List.take_succ_cons, List.take_zero, aCons, aInt, aStr, aNil]
    -- behind the item's text
    have go : ∀ H' a', Txt H0 H' f a' (out ++ itemT x) b n c st → itemT x ≠ [] → Ret (g7_J1 Tb same f 0 b n c x.b (bs x.t) x.n a0 n0 c0 ((n0 : Nat) : Int) (j : Int) H') fun v H' => v = textV (textE (out ++ (itemT x ++ ((closeP (x.b == 0) (opens x st)).1 ++ genT (l.drop (j + 1)) (closeP (x.b == 0) (opens x st)).2)))) ∧ Pre H0 H' := by
      intro H' a' t hne'
      refine g7_J1_ret ?_
      unfold s7_J1
      rw [sp21 t.2.1]
      simp only [aBind, aInt]
      refine Ret.cond (fun q => ?_) (fun q => ?_)
      · simp only [decide_eq_true_eq] at q
        refine Ret.one ⟨?_, t.1⟩
        unfold textE
        rw [if_pos]
        · rfl
        · simp only [List.length_append] at q ⊢; omega
      · simp only [decide_eq_false_iff_not] at q
        have close : ∀ H2 b2 n2 c2 st2, st2 = opens x st → Txt H0 H2 f a' (out ++ itemT x) b2 n2 c2 st2 → Ret (g7_J2 Tb same f 0 b2 n2 c2 x.b (bs x.t) x.n a0 n0 c0 ((n0 : Nat) : Int) (j : Int) H2) fun v H' => v = textV (textE (out ++ (itemT x ++ ((closeP (x.b == 0) (opens x st)).1 ++ genT (l.drop (j + 1)) (closeP (x.b == 0) (opens x st)).2)))) ∧ Pre H0 H' := by
          intro H2 b2 n2 c2 st2 hst2 t2
          subst hst2
          have hol2 : (opens x st).length ≤ j + 1 := by
            unfold opens; split
            · simp only [List.length_cons]; omega
            · omega
          have hof : ∀ k ∈ opens x st, 0 ≤ k ∧ k ≤ 65536 := by
            unfold opens; split
            · intro k hk'
              rcases List.mem_cons.1 hk' with rfl | hk'
              · exact ⟨hn0, hnj⟩
              · exact hk k hk'
            · exact hk
          have hcl := closeP_len (x.b == 0) (opens x st)
          refine g7_J2_ret ?_
          unfold s7_J2
          refine Ret.call (sp22 t2 (by omega) hof (x.b == 0) (by intro e; unfold opens; rw [if_pos (by simpa using e)]; simp)) ?_
          rintro v H3 ⟨a3, n3, rfl, t3⟩
          simp only [aSl]
          rw [w64 (by omega) (by omega), show ((j : Int) + 1) = ((j + 1 : Nat) : Int) by omega]
          refine (ih (j + 1) H3 a3 b2 n3 c2 _ _ (by omega) t3 (closeP_fit hof) (by omega) (by simp only [List.length_append] at q ⊢; omega) (fun _ => by simp [hne'])).mono ?_
          rintro v H4 ⟨rfl, p4⟩
          exact ⟨by simp only [List.append_assoc], p4⟩
        refine Ret.cond (fun q0 => ?_) (fun q0 => ?_)
        · have hb0 : x.b = 0 := by simpa using q0
          have hn' := t.n
          obtain ⟨b', c', H2, e, o, k⟩ := t.2.2.1.push t.1.len (x := intC x.n) (ty' := 3) (bytes := 8) rfl (by omega)
          simp only [intC] at e
          rw [e]
          simp only [aBind, aSl]
          refine close H2 b' _ c' (x.n :: st) (by unfold opens; rw [if_pos hb0]) ⟨t.2.2.1.pre (Nat.le_refl _) t.1 k, t.2.1.keep k t.2.2.2.1 (fun g hg e' => t.2.2.2.2 g e' hg), ?_, t.2.2.2.grow k t.2.1.lt (fun g hg => (t.2.1.base g hg).2)⟩
          rw [List.reverse_cons, List.map_append]; exact o
        · have hb0 : x.b ≠ 0 := by simpa using q0
          exact close H' b n c st (by unfold opens; rw [if_neg hb0]) t
    refine Ret.cond (fun q0 => ?_) (fun q0 => Ret.cond (fun q2 => ?_) (fun q2 => ?_))
    · have hb0 : x.b = 0 := by simpa using q0
      have hT : itemT x = [91] := by unfold itemT; rw [if_pos hb0]
      rw [show (91 : Int) = (((91 : UInt8).toNat : Nat) : Int) from rfl]
      refine Ret.call (sp17 ht.2.1 ht.1.len 91 (by omega)) ?_
      rintro v H1 ⟨rfl, a1, b1, k1⟩
      exact go H1 a1 (by rw [hT]; exact ht.write b1 k1) (by rw [hT]; simp)
    · have hb0 : x.b ≠ 0 := by simpa using q0
      have hb2 : x.b = 2 := by simpa using q2
      have hT : itemT x = quo x.t := by unfold itemT; rw [if_neg hb0, if_pos hb2]
      have hql : (quo x.t).length ≤ 262146 := by rw [← hT]; exact hitl
      rw [show (Value.agg #[.int .i64 14, .int .i64 0, .int .i64 0, .string (bs x.t), .bool false, .int .u64 0, .int .u64 0, .int .u64 0, .int .u64 0, .int .i64 0, .int .i64 0]) = tok x.t from rfl]
      refine Ret.call (sp18 (by omega)) ?_
      rintro v H1 ⟨rfl, p1⟩
      simp only [aTup, aCons, aInt, aStr, aNil]
      have t1 : Txt H0 H1 f a out b n c st := ⟨ht.1.trans p1, ht.2.1.mono p1, ht.2.2.1.mono p1, ht.2.2.2⟩
      have write : ∀ H2, Txt H0 H2 f a out b n c st → Ret (g7_J3 Tb same f 0 b n c x.b (bs x.t) x.n (bs (quo x.t)) a0 n0 c0 ((n0 : Nat) : Int) (j : Int) H2) fun v H' => v = textV (textE (out ++ (itemT x ++ ((closeP (x.b == 0) (opens x st)).1 ++ genT (l.drop (j + 1)) (closeP (x.b == 0) (opens x st)).2)))) ∧ Pre H0 H' := by
        intro H2 t2
        refine g7_J3_ret ?_
        unfold s7_J3
        refine Ret.call (sp20 t2.2.1 t2.1.len (quo x.t) (by omega)) ?_
        rintro v H3 ⟨rfl, a3, b3, k3⟩
        simp only [aTup, aCons, aInt, aNil]
        exact go H3 a3 (by rw [hT]; exact t2.write b3 k3) (by rw [hT]; simp [quo])
      rw [show (⟨#[]⟩ : ByteArray) = bs [] from rfl, bs_beq]
      refine Ret.cond (fun q => ?_) (fun q => ?_)
      · refine Ret.call (sp19 (by omega)) ?_
        rintro v H2 ⟨rfl, p2⟩
        simp only [aStr]
        exact write H2 ⟨t1.1.trans p2, t1.2.1.mono p2, t1.2.2.1.mono p2, t1.2.2.2⟩
      · have hsp : (spell x.t).1 = quo x.t := by
          unfold spell at q ⊢
          split
          · rename_i hh; rw [if_pos hh] at q; simp at q
          · rfl
        rw [hsp]
        exact write H1 t1
    · have hb0 : x.b ≠ 0 := by simpa using q0
      have hb2 : x.b ≠ 2 := by simpa using q2
      have hT : itemT x = x.t := by unfold itemT; rw [if_neg hb0, if_neg hb2]
      refine Ret.call (sp20 ht.2.1 ht.1.len x.t (by omega)) ?_
      rintro v H3 ⟨rfl, a3, b3, k3⟩
      simp only [aTup, aCons, aInt, aNil]
      refine go H3 a3 (by rw [hT]; exact ht.write b3 k3) ?_
      rw [hT]
      rintro e
      unfold itemP bareP at hij
      rw [if_neg hb0, e] at hij
      simp only [if_neg hb2] at hij
      have z1 : numP [] = false := rfl
      have z2 : (([] : List UInt8) == tTrue || ([] : List UInt8) == tFalse) = false := rfl
      rw [z1, z2] at hij
      simp at hij

theorem cnt_n : ∀ {l : List It} {k : Nat}, cnt l = some k → ∀ x ∈ l, x.n ≤ l.length
  | [], _, _, x, hx => by simp at hx
  | y :: r, k, h, x, hx => by
    simp only [cnt] at h
    split at h
    · rename_i k' hk'
      split at h
      · rename_i hn
        have hle := cnt_le hk'
        rcases List.mem_cons.1 hx with rfl | hx
        · simp only [List.length_cons]; omega
        · have := cnt_n hk' x hx; simp only [List.length_cons]; omega
      · simp at h
    · simp at h

theorem checkP_ok {l : List It} (h : (checkP l).2 = 0) : l ≠ [] ∧ l.length ≤ 65536 ∧ ∀ x ∈ l, itemP x = true ∧ x.n ≤ 65536 := by
  unfold checkP at h
  split at h
  · simp [wrongT] at h
  · rename_i hg
    have hl : l ≠ [] := fun e => hg (.inl e)
    have hb : l.length ≤ 65536 := by
      rcases Nat.lt_or_ge 65536 l.length with q | q
      · exact (hg (.inr q)).elim
      · exact q
    cases hc : ck l with
    | none => rw [hc] at h; simp [ckEnd, wrongT] at h
    | some hp =>
      obtain ⟨i1, i2⟩ := ck_some hc
      exact ⟨hl, hb, fun x hx => ⟨i1 x hx, by have := cnt_n i2 x hx; omega⟩⟩

theorem sp7 {H : Heap} {a : Option Addr} {n c : Nat} {l : List It} (h : Its H a n c l) (hb : l.length ≤ 4611686018427387904) : Ret (CT Tb same 7 [.slice a n c] H) fun v H' => v = textV (textP l) ∧ Pre H H' := by
  refine c7 ?_
  unfold s7
  refine Ret.call (sp5 h hb) ?_
  rintro v H1 ⟨rfl, p1⟩
  simp only [ckV, tyV, aTup, aAgg, aCons, aInt, aNil]
  refine Ret.cond (fun q => ?_) (fun q => ?_)
  · have : (checkP l).2 ≠ 0 := by simpa using q
    refine Ret.one ⟨?_, p1⟩
    unfold textP; rw [if_pos this]; rfl
  · have h0 : (checkP l).2 = 0 := by simpa using q
    obtain ⟨hl, hlb, hi⟩ := checkP_ok h0
    have p2 := Pre.app H1 [.cells 51 1 [.pointer none, .slice none 0 0] 0 0 0 false]
    have hbd : Bld H1.length (H1 ++ [.cells 51 1 [.pointer none, .slice none 0 0] 0 0 0 false]) 51 5 H1.length none [] := Bld.new (Nat.le_refl _)
    have t0 : Txt H1 (H1 ++ [.cells 51 1 [.pointer none, .slice none 0 0] 0 0 0 false]) H1.length none [] none 0 0 [] := ⟨p2, hbd, Own.nil _ _ _ _, by simp [rowOf], by simp [rowOf]⟩
    have := sp7_loop (h.mono p1) hlb hi hl l.length 0 _ none none 0 0 [] [] rfl t0 (by simp) (by simp) (by simp) (by simp)
    rw [List.drop_zero] at this
    refine this.mono ?_
    rintro v H2 ⟨rfl, p3⟩
    refine ⟨?_, p1.trans p3⟩
    unfold textP; rw [if_neg (by simp [h0])]; simp

end Go.Proofs.YtknogapmjleliaaDoor
