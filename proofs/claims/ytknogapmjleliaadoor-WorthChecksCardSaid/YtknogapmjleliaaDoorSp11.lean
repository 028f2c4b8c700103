/- A value's text: the document's. No condition. -/
import Derived.Test.YtknogapmjleliaaDoorSp10
namespace Go.Proofs.YtknogapmjleliaaDoor
open Go Go.AM

def Tx2 (H0 H : Heap) (a : Option Addr) (m d : Nat) (out : List UInt8) (b : Option Addr) (n c : Nat) (st : List Int) : Prop :=
  Pre H0 H ∧ Own H0.length H 5 1 a m d (out.map u8c) ∧ Own H0.length H 3 1 b n c (st.reverse.map intC) ∧ ∀ g, rowOf b = some g → rowOf a ≠ some g

theorem Tx2.n {H0 H : Heap} {a b : Option Addr} {m d n c : Nat} {out : List UInt8} {st : List Int} (h : Tx2 H0 H a m d out b n c st) : n = st.length := by simpa using h.2.2.1.1
theorem Tx2.m {H0 H : Heap} {a b : Option Addr} {m d n c : Nat} {out : List UInt8} {st : List Int} (h : Tx2 H0 H a m d out b n c st) : m = out.length := by simpa using h.2.1.1

/-- bytes appended -/
theorem Tx2.write {H0 H H' : Heap} {a a' b : Option Addr} {m d m' d' n c : Nat} {out out' : List UInt8} {st : List Int} (h : Tx2 H0 H a m d out b n c st) (o : Own H0.length H' 5 1 a' m' d' (out'.map u8c)) (k : Chd a a' H H') : Tx2 H0 H' a' m' d' out' b n c st := by
  obtain ⟨hp, ho, hs, hne⟩ := h
  refine ⟨ho.pre (Nat.le_refl _) hp k, o, hs.keep k hne, fun g hg => ?_⟩
  rcases k.row with r | ⟨g', r, r1, _⟩
  · rw [r]; exact hne g hg
  · rw [r]; intro e; have := (hs.base g hg).2; simp at e; omega

theorem lit_at {H0 H : Heap} {a b : Option Addr} {m d n c : Nat} {out : List UInt8} {st : List Int} (h : Tx2 H0 H a m d out b n c st) (l : List UInt8) (hl : 0 < l.length) (hb : out.length + l.length ≤ 1099511627776) :
    ∃ a' c' H', apA (H ++ [.cells 5 1 (l.map fun b => Value.int .u8 b.toNat) 0 0 0 false]) 5 1 1 (.slice a m d) (.slice (some ⟨H.length, 0, some 0⟩) l.length l.length) = some (.slice a' (m + l.length) c', H') ∧ Tx2 H0 H' a' (m + l.length) c' (out ++ l) b n c st := by
  have hm := h.m
  obtain ⟨a', c', H', e, o, k⟩ := h.2.1.lit h.1.len l (ty' := 5) hl (by omega)
  exact ⟨a', c', H', e, h.write (by rw [List.map_append]; exact o) k⟩

section
variable {H0 : Heap} {a0 : Option Addr} {n0 c0 : Nat} {b : Option Addr} {c : Nat} {x8 : Int} {Q : Value → Heap → Prop}

theorem sp8_close : ∀ (st : List Int) (H : Heap) (a : Option Addr) (m d n : Nat) (out : List UInt8), Tx2 H0 H a m d out b n c st → out.length + st.length + 2 ≤ 1099511627776 → (∀ k ∈ st, 0 ≤ k ∧ k ≤ 65536) →
    (∀ H' a' m' d' n', Tx2 H0 H' a' m' d' (out ++ (closeL st).1) b n' c (closeL st).2 → Ret (g8_J4 Tb same a0 n0 c0 a' m' d' b n' c x8 H') Q) →
    Ret (g8_L2 Tb same a0 n0 c0 a m d b n c x8 true H) Q
  | [], H, a, m, d, n, out, h, hl, _, hq => by
    have hn := h.n
    simp only [List.length_nil] at hn; subst hn
    refine g8_L2_ret ?_
    unfold s8_L2
    rw [show decide ((((0 : Nat) : Int)) > 0) = false from rfl, aF]
    exact hq H a m d 0 (by simpa [closeL] using h)
  | x :: st, H, a, m, d, n, out, h, hl, hk, hq => by
    have hn := h.n
    simp only [List.length_cons] at hn hl
    subst hn
    have hx := hk x (List.mem_cons_self ..)
    have hm := h.m
    obtain ⟨hp, ho, hs, hne⟩ := h
    refine g8_L2_ret ?_
    unfold s8_L2
    rw [decide_eq_true (show (((st.length + 1 : Nat) : Int)) > 0 by omega), aT, aT, w64 (by omega) (by omega), show (((st.length + 1 : Nat) : Int) - 1) = ((st.length : Nat) : Int) by omega]
    rw [Sl.get0 hs.sl (i := (st.length : Int)) rfl last_at (Nat.le_refl _) (Nat.le_refl _)]
    simp only [intC, List.take_succ_cons, List.take_zero, aCons, aInt, aNil]
    rw [w64 (by omega) (by omega)]
    obtain ⟨H1, w, o1, k1⟩ := hs.put0 (R := Value × Heap) (i := (st.length : Int)) (j := st.length) rfl last_at (m := 1) (y := intC (x - 1)) (Nat.le_refl _) rfl
    have w' := w
    simp only [intC] at w'
    rw [w', last_set] at *
    have p1 := hs.pre (Nat.le_refl _) hp k1
    have oo := ho.keep k1 (fun g hg e => hne g e hg)
    have t1 : Tx2 H0 H1 a m d out b (st.length + 1) c ((x - 1) :: st) := ⟨p1, oo, o1, hne⟩
    rw [Sl.get0 o1.sl (i := (st.length : Int)) rfl last_at (Nat.le_refl _) (Nat.le_refl _)]
    simp only [intC, List.take_succ_cons, List.take_zero, aCons, aInt, aNil]
    refine Ret.cond (fun q => ?_) (fun q => ?_)
    · simp only [decide_eq_true_eq] at q
      obtain ⟨a', c', H2, e, t2⟩ := lit_at t1 [44, 32] (by simp) (by simp; omega)
      simp only [List.map_cons, List.map_nil, List.length_cons, List.length_nil, Nat.reduceAdd] at e
      rw [show (Value.int .u8 44) = Value.int .u8 (((44 : UInt8).toNat : Nat) : Int) from rfl, show (Value.int .u8 32) = Value.int .u8 (((32 : UInt8).toNat : Nat) : Int) from rfl, e]
      simp only [aBind, aSl]
      refine g8_J3_ret ?_
      unfold s8_J3
      rw [Sl.get0 t2.2.2.1.sl (i := (st.length : Int)) rfl last_at (Nat.le_refl _) (Nat.le_refl _)]
      simp only [intC, List.take_succ_cons, List.take_zero, aCons, aInt, aNil]
      rw [decide_eq_true q, aT]
      refine hq H2 a' _ c' _ ?_
      simp only [closeL]; rw [if_pos q]
      exact t2
    · simp only [decide_eq_false_iff_not] at q
      refine g8_J3_ret ?_
      unfold s8_J3
      rw [Sl.get0 o1.sl (i := (st.length : Int)) rfl last_at (Nat.le_refl _) (Nat.le_refl _)]
      simp only [intC, List.take_succ_cons, List.take_zero, aCons, aInt, aNil]
      rw [decide_eq_false q, aF]
      obtain ⟨a', c', H2, e, t2⟩ := lit_at t1 [93] (by simp) (by simp; omega)
      simp only [List.map_cons, List.map_nil, List.length_cons, List.length_nil, Nat.reduceAdd] at e
      rw [show (Value.int .u8 93) = Value.int .u8 (((93 : UInt8).toNat : Nat) : Int) from rfl, e]
      simp only [aBind, aSl]
      obtain ⟨u1, u2⟩ := t2.2.2.1.upto (i := (st.length : Int)) (j := st.length) rfl (by omega)
      rw [u1]
      simp only [aBind, aSl]
      rw [last_cut] at u2
      refine sp8_close st H2 a' _ c' st.length (out ++ [93]) ⟨t2.1, t2.2.1, u2, t2.2.2.2⟩ (by simp; omega) (fun k hk' => hk k (List.mem_cons_of_mem _ hk')) ?_
      intro H' a3 m3 d3 n3 t3
      refine hq H' a3 m3 d3 n3 ?_
      simp only [closeL]; rw [if_neg q]
      simpa using t3

theorem sp8_closeP {st : List Int} {H : Heap} {a : Option Addr} {m d n : Nat} {out : List UInt8} (h : Tx2 H0 H a m d out b n c st) (hl : out.length + st.length + 2 ≤ 1099511627776) (hk : ∀ k ∈ st, 0 ≤ k ∧ k ≤ 65536) (began : Bool) (hst : began = true → st ≠ [])
    (hq : ∀ H' a' m' d' n', Tx2 H0 H' a' m' d' (out ++ (closeP began st).1) b n' c (closeP began st).2 → Ret (g8_J4 Tb same a0 n0 c0 a' m' d' b n' c x8 H') Q) :
    Ret (g8_L2 Tb same a0 n0 c0 a m d b n c x8 (!began) H) Q := by
  cases began with
  | false => exact sp8_close st H a m d n out h hl hk hq
  | true =>
    obtain ⟨x, st, rfl⟩ : ∃ x st', st = x :: st' := by
      cases st with
      | nil => exact (hst rfl rfl).elim
      | cons x st => exact ⟨x, st, rfl⟩
    have hn := h.n
    simp only [List.length_cons] at hn hl
    subst hn
    have hx := hk x (List.mem_cons_self ..)
    refine g8_L2_ret ?_
    unfold s8_L2
    rw [decide_eq_true (show (((st.length + 1 : Nat) : Int)) > 0 by omega), aT, show (!true) = false from rfl, aF, w64 (by omega) (by omega), show (((st.length + 1 : Nat) : Int) - 1) = ((st.length : Nat) : Int) by omega]
    refine g8_J3_ret ?_
    unfold s8_J3
    rw [Sl.get0 h.2.2.1.sl (i := (st.length : Int)) rfl last_at (Nat.le_refl _) (Nat.le_refl _)]
    simp only [intC, List.take_succ_cons, List.take_zero, aCons, aInt, aNil]
    refine Ret.cond (fun q => ?_) (fun q => ?_)
    · simp only [decide_eq_true_eq] at q
      refine hq H a m d _ ?_
      simp only [closeP]; rw [if_pos q, List.append_nil]
      exact h
    · simp only [decide_eq_false_iff_not] at q
      obtain ⟨a', c', H2, e, t2⟩ := lit_at h [93] (by simp) (by simp; omega)
      simp only [List.map_cons, List.map_nil, List.length_cons, List.length_nil, Nat.reduceAdd] at e
      rw [show (Value.int .u8 93) = Value.int .u8 (((93 : UInt8).toNat : Nat) : Int) from rfl, e]
      simp only [aBind, aSl]
      obtain ⟨u1, u2⟩ := t2.2.2.1.upto (i := (st.length : Int)) (j := st.length) rfl (by omega)
      rw [u1]
      simp only [aBind, aSl]
      rw [last_cut] at u2
      refine sp8_close st H2 a' _ c' st.length (out ++ [93]) ⟨t2.1, t2.2.1, u2, t2.2.2.2⟩ (by simp; omega) (fun k hk' => hk k (List.mem_cons_of_mem _ hk')) ?_
      intro H' a3 m3 d3 n3 t3
      refine hq H' a3 m3 d3 n3 ?_
      simp only [closeP]; rw [if_neg q]
      simpa using t3

end

theorem sp8_loop {H0 : Heap} {a0 : Option Addr} {n0 c0 : Nat} {l : List It} (h0 : Its H0 a0 n0 c0 l) (hb : l.length ≤ 65536) (hi : ∀ x ∈ l, itemP x = true ∧ x.n ≤ 65536) :
    ∀ (k j : Nat) (H : Heap) (a b : Option Addr) (m d n c : Nat) (st : List Int) (out : List UInt8), k + j = l.length → Tx2 H0 H a m d out b n c st → (∀ k ∈ st, 0 ≤ k ∧ k ≤ 65536) → st.length ≤ j → out.length ≤ 8000000 →
      Ret (g8_L0 Tb same a0 n0 c0 a m d b n c (j : Int) H) fun v H' => v = textV (textE (out ++ genT (l.drop j) st)) ∧ Pre H0 H' := by
  have hn := h0.len
  intro k
  induction k with
  | zero =>
    intro j H a b m d n c st out hj ht hk hstl hol
    have hm := ht.m
    refine g8_L0_ret ?_
    unfold s8_L0
    rw [decide_eq_false (show ¬ ((j : Int) < (n0 : Int)) by omega), aF]
    rw [List.drop_of_length_le (by omega)]
    simp only [genT, List.append_nil]
    refine Ret.cond (fun q => ?_) (fun q => ?_)
    · simp only [decide_eq_true_eq] at q
      refine Ret.one ⟨?_, ht.1⟩
      unfold textE; rw [if_pos (by omega)]; rfl
    · simp only [decide_eq_false_iff_not] at q
      rw [rdSl_sl ht.2.1.sl, u8_flat]
      simp only [aBind]
      rw [bytesOf_map]
      simp only [aBind]
      exact Ret.one ⟨by unfold textE; rw [if_neg (by omega)]; rfl, ht.1⟩
  | succ k ih =>
    intro j H a b m d n c st out hj ht hk hstl hol
    have hm := ht.m
    have hlt : j < l.length := by omega
    have e1 : l.drop j = l[j] :: l.drop (j + 1) := List.drop_eq_getElem_cons hlt
    obtain ⟨hij, hnj⟩ := hi l[j] (List.getElem_mem hlt)
    have hn0 := itemP_n hij
    have htl := itemP_len hij
    have hitl := itemT_len htl
    have rdb := fun (H' : Heap) (p : Pre H0 H') (g : List Value → Option (Value × Heap)) => Sl.get (R := Value × Heap) (h0.mono p) (i := (j : Int)) rfl (Its.at hlt) (d := 0) (m := 3) (k := 1) (by omega) (by omega) g
    have rdt := fun (H' : Heap) (p : Pre H0 H') (g : List Value → Option (Value × Heap)) => Sl.get (R := Value × Heap) (h0.mono p) (i := (j : Int)) rfl (Its.at hlt) (d := 1) (m := 2) (k := 1) (by omega) (by omega) g
    have rdn := fun (H' : Heap) (p : Pre H0 H') (g : List Value → Option (Value × Heap)) => Sl.get (R := Value × Heap) (h0.mono p) (i := (j : Int)) rfl (Its.at hlt) (d := 2) (m := 1) (k := 1) (by omega) (by omega) g
    rw [e1]
    generalize hx : l[j] = x at *
    have cb : cut (It.c x) 0 1 = [Value.int .i64 x.b] := rfl
    have ct : cut (It.c x) 1 1 = [Value.string (bs x.t)] := rfl
    have cn : cut (It.c x) 2 1 = [Value.int .i64 x.n] := rfl
    simp only [genT]
    refine g8_L0_ret ?_
    unfold s8_L0
    rw [decide_eq_true (show ((j : Int) < (n0 : Int)) by omega), aT]
    refine Ret.cond (fun q => ?_) (fun q => ?_)
    · simp only [decide_eq_true_eq] at q
      refine Ret.one ⟨?_, ht.1⟩
      unfold textE
      rw [if_pos]
      · rfl
      · simp only [List.length_append]; omega
    · simp only [decide_eq_false_iff_not] at q
      have hol2 : (opens x st).length ≤ j + 1 := by
        unfold opens; split
        · simp only [List.length_cons]; omega
        · omega
      have hof : ∀ k ∈ opens x st, 0 ≤ k ∧ k ≤ 65536 := by
        unfold opens; split
        · intro k hk'
          rcases List.mem_cons.1 hk' with rfl | hk'
          · exact ⟨hn0, hnj⟩
          · exact hk k hk'
        · exact hk
      have hcl := closeP_len (x.b == 0) (opens x st)
      -- behind the item
      have go : ∀ H2 a2 m2 d2 b2 n2 c2, Tx2 H0 H2 a2 m2 d2 (out ++ itemT x) b2 n2 c2 (opens x st) → Ret (g8_J1 Tb same a0 n0 c0 a2 m2 d2 b2 n2 c2 (j : Int) H2) fun v H' => v = textV (textE (out ++ (itemT x ++ ((closeP (x.b == 0) (opens x st)).1 ++ genT (l.drop (j + 1)) (closeP (x.b == 0) (opens x st)).2)))) ∧ Pre H0 H' := by
        intro H2 a2 m2 d2 b2 n2 c2 t2
        refine g8_J1_ret ?_
        unfold s8_J1
        rw [rdb H2 t2.1, cb]
        simp only [aCons, aInt, aNil]
        rw [show ((x.b : Int) != 0) = !(x.b == 0) from rfl]
        refine sp8_closeP t2 (by simp only [List.length_append]; omega) hof (x.b == 0) (by intro e; unfold opens; rw [if_pos (by simpa using e)]; simp) ?_
        intro H3 a3 m3 d3 n3 t3
        refine g8_J4_ret ?_
        unfold s8_J4
        rw [w64 (by omega) (by omega), show ((j : Int) + 1) = ((j + 1 : Nat) : Int) by omega]
        refine (ih (j + 1) H3 a3 b2 m3 d3 n3 c2 _ _ (by omega) t3 (closeP_fit hof) (by omega) (by simp only [List.length_append]; omega)).mono ?_
        rintro v H4 ⟨rfl, p4⟩
        exact ⟨by simp only [List.append_assoc], p4⟩
      rw [rdb H ht.1, cb]
      simp only [aCons, aInt, aNil]
      refine Ret.cond (fun q0 => ?_) (fun q0 => Ret.cond (fun q2 => ?_) (fun q2 => ?_))
      · have hb0 : x.b = 0 := by simpa using q0
        have hT : itemT x = [91] := by unfold itemT; rw [if_pos hb0]
        obtain ⟨a', c', H1, e, t1⟩ := lit_at ht [91] (by simp) (by simp; omega)
        simp only [List.map_cons, List.map_nil, List.length_cons, List.length_nil, Nat.reduceAdd] at e
        rw [show (Value.int .u8 91) = Value.int .u8 (((91 : UInt8).toNat : Nat) : Int) from rfl, e]
        simp only [aBind, aSl]
        rw [rdn H1 t1.1, cn]
        simp only [aCons, aInt, aNil]
        have hn' := t1.n
        obtain ⟨b', c2, H2, e2, o2, k2⟩ := t1.2.2.1.push t1.1.len (x := intC x.n) (ty' := 3) (bytes := 8) rfl (by omega)
        simp only [intC] at e2
        rw [e2]
        simp only [aBind, aSl]
        refine go H2 a' _ c' b' _ c2 ?_
        rw [hT]
        unfold opens; rw [if_pos hb0]
        refine ⟨t1.2.2.1.pre (Nat.le_refl _) t1.1 k2, t1.2.1.keep k2 (fun g hg e' => t1.2.2.2 g e' hg), by rw [List.reverse_cons, List.map_append]; exact o2, fun g hg e' => ?_⟩
        rcases k2.row with r | ⟨g', r, r1, _⟩
        · exact t1.2.2.2 g (by rw [← r]; exact hg) e'
        · have := (t1.2.1.base g e').2
          rw [r] at hg; simp at hg; omega
      · have hb0 : x.b ≠ 0 := by simpa using q0
        have hb2 : x.b = 2 := by simpa using q2
        have hT : itemT x = quo x.t := by unfold itemT; rw [if_neg hb0, if_pos hb2]
        rw [rdt H ht.1, ct]
        simp only [aCons, aStr, aNil]
        refine Ret.call (sp24 (by omega)) ?_
        rintro v H1 ⟨rfl, p1⟩
        simp only [aStr]
        obtain ⟨a', c', H2, e2, o2, k2⟩ := (ht.2.1.mono p1).text (Nat.le_trans ht.1.len p1.len) (s := bs (quo x.t)) (by rw [bs_size, ← hT]; omega)
        rw [e2]
        simp only [aBind, aSl]
        have t1 : Tx2 H0 H1 a m d out b n c st := ⟨ht.1.trans p1, ht.2.1.mono p1, ht.2.2.1.mono p1, ht.2.2.2⟩
        refine go H2 a' _ c' b n c ?_
        unfold opens; rw [if_neg hb0, hT]
        exact t1.write (by rw [List.map_append]; rw [bs_data] at o2; exact o2) k2
      · have hb0 : x.b ≠ 0 := by simpa using q0
        have hb2 : x.b ≠ 2 := by simpa using q2
        have hT : itemT x = x.t := by unfold itemT; rw [if_neg hb0, if_neg hb2]
        rw [rdt H ht.1, ct]
        simp only [aCons, aStr, aNil]
        obtain ⟨a', c', H2, e2, o2, k2⟩ := ht.2.1.text ht.1.len (s := bs x.t) (by rw [bs_size]; omega)
        rw [e2]
        simp only [aBind, aSl]
        refine go H2 a' _ c' b n c ?_
        unfold opens; rw [if_neg hb0, hT]
        exact ht.write (by rw [List.map_append]; rw [bs_data] at o2; exact o2) k2

theorem sp8 {H : Heap} {a : Option Addr} {n c : Nat} {l : List It} (h : Its H a n c l) (hb : l.length ≤ 4611686018427387904) : Ret (CT Tb same 8 [.slice a n c] H) fun v H' => v = textV (textP l) ∧ Pre H H' := by
  refine c8 ?_
  unfold s8
  refine Ret.call (sp6 h hb) ?_
  rintro v H1 ⟨rfl, p1⟩
  simp only [ckV, tyV, aTup, aAgg, aCons, aInt, aNil]
  refine Ret.cond (fun q => ?_) (fun q => ?_)
  · have : (checkP l).2 ≠ 0 := by simpa using q
    refine Ret.one ⟨?_, p1⟩
    unfold textP; rw [if_pos this]; rfl
  · have h0 : (checkP l).2 = 0 := by simpa using q
    obtain ⟨hl, hlb, hi⟩ := checkP_ok h0
    have t0 : Tx2 H1 H1 none 0 0 [] none 0 0 [] := ⟨Pre.refl _, Own.nil _ _ _ _, Own.nil _ _ _ _, by simp [rowOf]⟩
    have := sp8_loop (h.mono p1) hlb hi l.length 0 H1 none none 0 0 0 0 [] [] rfl t0 (by simp) (by simp) (by simp)
    rw [List.drop_zero] at this
    refine this.mono ?_
    rintro v H2 ⟨rfl, p3⟩
    refine ⟨?_, p1.trans p3⟩
    unfold textP; rw [if_neg (by simp [h0])]; simp

/-! the law -/

theorem closed_text : textP [⟨0, [], 2⟩, ⟨1, [49], 0⟩, ⟨1, [45, 50], 0⟩] = ([91, 49, 44, 32, 45, 50, 93], 0) := by
  have h1 : checkP [⟨0, [], 2⟩, ⟨1, [49], 0⟩, ⟨1, [45, 50], 0⟩] = ((1, 1), 0) := by decide +kernel
  have h2 : genT [⟨0, [], 2⟩, ⟨1, [49], 0⟩, ⟨1, [45, 50], 0⟩] [] = [91, 49, 44, 32, 45, 50, 93] := by decide +kernel
  unfold textP
  rw [h1, h2, if_neg (by simp)]
  unfold textE
  rw [if_neg (by simp)]

theorem sp3_end (H5 : Heap) : Ret (g3_J0 Tb same false H5) fun v _ => v = .bool true := by
  refine g3_J0_ret ?_
  unfold s3_J0
  rw [aF]
  have h6 : Its (H5 ++ [.cells 38 3 [(.int .i64 0), (.string (⟨#[]⟩ : ByteArray)), (.int .i64 2), (.int .i64 1), (.string (⟨#[49]⟩ : ByteArray)), (.int .i64 0), (.int .i64 1), (.string (⟨#[45, 50]⟩ : ByteArray)), (.int .i64 0)] 0 0 0 false]) (some ⟨H5.length, 0, some 0⟩) 3 3 [⟨0, [], 2⟩, ⟨1, [49], 0⟩, ⟨1, [45, 50], 0⟩] := by
    refine ⟨rfl, Nat.le_refl _, by simp [It.c], .inr ⟨H5.length, 0, 0, 38, _, 0, 0, 0, false, rfl, List.getElem?_concat_length, Nat.le_refl _, Nat.le_refl _, rfl, by simp⟩⟩
  refine Ret.call (sp7 h6 (by simp)) ?_
  rintro v H6 ⟨rfl, p6⟩
  rw [closed_text]
  simp only [textV, aTup, aCons, aInt, aStr, aNil]
  rw [show (⟨#[91, 49, 44, 32, 45, 50, 93]⟩ : ByteArray) = bs [91, 49, 44, 32, 45, 50, 93] from rfl, bs_beq]
  refine g3_J1_ret ?_
  exact Ret.one rfl

/-- THE LAW: true of all items. -/
theorem sp3 {H : Heap} {a : Option Addr} {n c : Nat} {l : List It} (h : Its H a n c l) : Ret (CT Tb same 3 [.slice a n c] H) fun v _ => v = .bool true := by
  have hn := h.len
  refine c3 ?_
  unfold s3
  refine Ret.cond (fun _ => Ret.one rfl) (fun q => ?_)
  simp only [decide_eq_false_iff_not] at q
  have hb : l.length ≤ 4611686018427387904 := by omega
  refine Ret.call (sp4 h (by omega)) ?_
  rintro v H1 ⟨a1, rfl, p1, s1⟩
  simp only [aSl]
  have h1 : Its H1 a1 n (n + 2) l := by
    have := (s1.upto (i := (n : Int)) (j := n) rfl (by omega)).2
    rw [List.take_append_of_le_length (by simp; omega), List.take_of_length_le (by simp; omega)] at this
    exact this
  refine Ret.call (sp5 h1 hb) ?_
  rintro v H2 ⟨rfl, p2⟩
  unfold ckV tyV
  dsimp only
  rw [aTup, aCons, aAgg, aCons, aInt, aCons, aInt, aNil, aCons, aInt, aNil]
  refine Ret.call (sp6 (h.mono (p1.trans p2)) hb) ?_
  rintro v H3 ⟨rfl, p3⟩
  unfold ckV tyV
  dsimp only
  rw [aTup, aCons, aAgg, aCons, aInt, aCons, aInt, aNil, aCons, aInt, aNil]
  refine Ret.call (sp7 (h1.mono (p2.trans p3)) hb) ?_
  rintro v H4 ⟨rfl, p4⟩
  unfold textV
  dsimp only
  rw [aTup, aCons, aStr, aCons, aInt, aNil]
  refine Ret.call (sp8 (h.mono (p1.trans (p2.trans (p3.trans p4)))) hb) ?_
  rintro v H5 ⟨rfl, p5⟩
  unfold textV
  dsimp only
  rw [aTup, aCons, aStr, aCons, aInt, aNil]
  have p25 := p2.trans (p3.trans (p4.trans p5))
  have z : ∀ x : Int, ((x : Int) == x) = true := fun x => by simp
  have z2 : ∀ x : Int, ((x : Int) != x) = false := fun x => by simp
  rw [z, z, z2, z2, bs_beq, show ((textP l).1 == (textP l).1) = true by simp]
  rw [show (!(true && (true && true))) = false from rfl, show (!true) = false from rfl, aF, aF, aF, aF]
  rw [sp9 (s1.mono p25) hn (h.mono (p1.trans p25)) rfl (by omega)]
  rw [aBind]
  dsimp only
  rw [aBool, show (!(l == l)) = false by simp]
  exact (sp3_end H5).mono fun v _ h => h

end Go.Proofs.YtknogapmjleliaaDoor
