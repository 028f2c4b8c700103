/- strings.Builder's methods; a literal's text, by the program and by the document. No condition. -/
import Derived.Test.YtknogapmjleliaaDoorSp7
import Derived.Test.YtknogapmjleliaaDoorAmSd
namespace Go.Proofs.YtknogapmjleliaaDoor
open Go Go.AM

theorem rd1 {H : Heap} {f : Nat} {p v : Value} (h : H[f]? = some (.cells 51 1 [p, v] 0 0 0 false)) : rdV H (.pointer (some ⟨f, 0 + 1, some 0⟩)) 1 = some [v] := by
  simp [rdV, h, cut]

abbrev bp (f : Nat) : Value := .pointer (some ⟨f, 0, some 0⟩)

theorem sp17 {B : Nat} {H : Heap} {f : Nat} {a : Option Addr} {l : List UInt8} (h : Bld B H 51 5 f a l) (hB : B ≤ H.length) (x : UInt8) (hb : l.length + 1 ≤ 1099511627776) :
    Ret (CT Tb same 17 [bp f, .int .u8 x.toNat] H) fun v H' => v = .nilIface ∧ ∃ a', Bld B H' 51 5 f a' (l ++ [x]) ∧ ChB f a a' H H' := by
  obtain ⟨H1, n, c, e1, q1, len1, old1, o1⟩ := h.check
  have hcc : CT Tb same 29 [bp f] H = some (.tuple #[], H1) := ext_ok rfl e1
  have hn : n = l.length := by simpa using o1.1
  refine c17 ?_
  unfold s17
  rw [hcc]
  simp only [aBind, nilA]
  rw [rd1 q1]
  simp only [aBind, aCons, aNil, aSl]
  obtain ⟨a', c', H2, e2, o2, k2⟩ := o1.push (by rw [len1]; exact hB) (x := u8c x) (ty' := 5) (bytes := 1) rfl (by omega)
  simp only [u8c] at e2
  rw [e2]
  simp only [aBind, aSl]
  have o2' : Own B H2 5 1 a' (n + 1) c' ((l ++ [x]).map u8c) := by rw [List.map_append]; exact o2
  obtain ⟨w, hb', hc'⟩ := Bld.step (tb := 51) h.1 h.lt (.inr rfl) q1 (by omega) (fun g _ hg => old1 g hg) h.2.1 (fun g hg => (h.base g hg).2) k2 o2' h.2.2.1
  rw [w]
  exact Ret.one ⟨rfl, a', hb', hc'⟩

theorem sp20 {B : Nat} {H : Heap} {f : Nat} {a : Option Addr} {l : List UInt8} (h : Bld B H 51 5 f a l) (hB : B ≤ H.length) (t : List UInt8) (hb : l.length + t.length ≤ 1099511627776) :
    Ret (CT Tb same 20 [bp f, .string (bs t)] H) fun v H' => v = .tuple #[.int .i64 (t.length : Int), .nilIface] ∧ ∃ a', Bld B H' 51 5 f a' (l ++ t) ∧ ChB f a a' H H' := by
  obtain ⟨H1, n, c, e1, q1, len1, old1, o1⟩ := h.check
  have hcc : CT Tb same 29 [bp f] H = some (.tuple #[], H1) := ext_ok rfl e1
  have hn : n = l.length := by simpa using o1.1
  refine c20 ?_
  unfold s20
  rw [hcc]
  simp only [aBind, nilA]
  rw [rd1 q1]
  simp only [aBind, aCons, aNil, aSl]
  obtain ⟨a', c', H2, e2, o2, k2⟩ := o1.text (by rw [len1]; exact hB) (s := bs t) (by rw [bs_size]; omega)
  rw [e2]
  simp only [aBind, aSl]
  have o2' : Own B H2 5 1 a' (n + (bs t).size) c' ((l ++ t).map u8c) := by
    rw [List.map_append]; rw [bs_data] at o2; exact o2
  obtain ⟨w, hb', hc'⟩ := Bld.step (tb := 51) h.1 h.lt (.inr rfl) q1 (by omega) (fun g _ hg => old1 g hg) h.2.1 (fun g hg => (h.base g hg).2) k2 o2' h.2.2.1
  rw [w]
  exact Ret.one ⟨by rw [bs_size], a', hb', hc'⟩

theorem sp21 {B : Nat} {H : Heap} {f : Nat} {a : Option Addr} {l : List UInt8} (h : Bld B H 51 5 f a l) : CT Tb same 21 [bp f] H = some (.int .i64 (l.length : Int), H) := by
  obtain ⟨_, _, _, p, n, c, q, _, o⟩ := h
  have hn : n = l.length := by simpa using o.1
  refine (c21 ?_).is
  unfold s21
  simp only [nilA, aBind]
  rw [rd1 q]
  simp only [aBind, aCons, aNil, aSl]
  exact Ret.one ⟨by rw [hn], rfl⟩

theorem sp23 {B : Nat} {H : Heap} {f : Nat} {a : Option Addr} {l : List UInt8} (h : Bld B H 51 5 f a l) (hl : l ≠ []) (hb : l.length ≤ 1099511627776) : Ret (CT Tb same 23 [bp f] H) fun v H' => v = .string (bs l) ∧ H.length ≤ H'.length ∧ ∀ g, rowOf a ≠ some g → H'[g]? = H[g]? := by
  obtain ⟨H', e, r⟩ := h.str hl hb
  exact ⟨_, _, ext_ok rfl e, rfl, r⟩

def digs : List UInt8 := [48, 49, 50, 51, 52, 53, 54, 55, 56, 57, 97, 98, 99, 100, 101, 102]
def hexd (n : Nat) : UInt8 := digs.getD n 0
def esc (b : UInt8) : List UInt8 :=
  if b = 10 then [92, 110] else if b = 13 then [92, 114] else if b = 9 then [92, 116] else if b = 39 ∨ b = 92 then [92, b]
  else if 32 ≤ b.toNat ∧ b.toNat ≤ 126 then [b] else [92, 120, hexd (b.toNat / 16), hexd (b.toNat % 16)]
/-- a literal's text -/
def quo (s : List UInt8) : List UInt8 := 39 :: (s.flatMap esc ++ [39])

theorem esc_len (b : UInt8) : (esc b).length ≤ 4 ∧ 1 ≤ (esc b).length := by
  unfold esc
  repeat' split
  all_goals simp

theorem escs_len : ∀ s : List UInt8, (s.flatMap esc).length ≤ 4 * s.length
  | [] => by simp
  | b :: s => by
    have := (esc_len b).1
    have := escs_len s
    simp only [List.flatMap_cons, List.length_append, List.length_cons]; omega

theorem and15 : ∀ n : Fin 256, andI .u8 (n.val : Int) 15 = ((n.val % 16 : Nat) : Int) := by decide +kernel
theorem shr4 : ∀ n : Fin 256, shrI .u8 (n.val : Int) 4 = ((n.val / 16 : Nat) : Int) := by decide +kernel
theorem quo16 : ∀ n : Fin 256, quoI .u8 (n.val : Int) 16 = ((n.val / 16 : Nat) : Int) := by decide +kernel
theorem rem16 : ∀ n : Fin 256, remI .u8 (n.val : Int) 16 = ((n.val % 16 : Nat) : Int) := by decide +kernel

theorem hexd_at {j : Nat} (h : j < 16) : digs[j]? = some (hexd j) := by
  unfold hexd
  rw [List.getD_eq_getElem?_getD, List.getElem?_eq_getElem (show j < digs.length from h)]; rfl

theorem sp39_loop {H0 : Heap} {s : List UInt8} (hs : s.length ≤ 137438953472) {f : Nat} : ∀ (m j : Nat) (H : Heap) (a : Option Addr), m + j = s.length → Pre H0 H → Bld H0.length H 51 5 f a (39 :: (s.take j).flatMap esc) →
    Ret (g39_L0 Tb same (bs s) f 0 (j : Int) H) fun v H' => v = .string (bs (quo s)) ∧ Pre H0 H' := by
  intro m
  induction m with
  | zero =>
    intro j H a hj hp hb
    have hl := escs_len (s.take j)
    have htl : (s.take j).length ≤ s.length := by rw [List.length_take]; omega
    refine g39_L0_ret ?_
    unfold s39_L0
    rw [bs_size, show decide ((j : Int) < (s.length : Int)) = false by simp; omega, aF]
    rw [show (39 : Int) = (((39 : UInt8).toNat : Nat) : Int) from rfl]
    refine Ret.call (sp17 hb hp.len 39 (by simp only [List.length_cons]; omega)) ?_
    rintro v H1 ⟨rfl, a1, hb1, k1⟩
    have p1 := hb.pre (Nat.le_refl _) hp k1
    have hq : 39 :: (s.take j).flatMap esc ++ [39] = quo s := by
      rw [List.take_of_length_le (by omega)]; rfl
    rw [hq] at hb1
    refine Ret.call (sp23 hb1 (by simp [quo]) (by rw [← hq]; simp only [List.length_append, List.length_cons, List.length_nil]; omega)) ?_
    rintro v H2 ⟨rfl, l2, o2⟩
    simp only [aStr]
    refine Ret.one ⟨rfl, fun g hg => ?_⟩
    rw [o2 g (fun e => by have := (hb1.base g e).1; omega), p1 g hg]
  | succ m ih =>
    intro j H a hj hp hb
    have hl := escs_len (s.take j)
    have htl : (s.take j).length ≤ s.length := by rw [List.length_take]; omega
    have hlt : j < s.length := by omega
    have hg : s[j]? = some s[j] := List.getElem?_eq_getElem hlt
    have htk : (s.take (j + 1)).flatMap esc = (s.take j).flatMap esc ++ esc s[j] := by
      rw [List.take_succ_eq_append_getElem hlt, List.flatMap_append]; simp
    generalize hx : s[j] = b at *
    have go : ∀ H' a', Bld H0.length H' 51 5 f a' (39 :: (s.take j).flatMap esc ++ esc b) → Pre H0 H' → Ret (g39_J1 Tb same (bs s) f 0 (j : Int) H') fun v H' => v = .string (bs (quo s)) ∧ Pre H0 H' := by
      intro H' a' hb' hp'
      refine g39_J1_ret ?_
      unfold s39_J1
      rw [w64 (by omega) (by omega), show ((j : Int) + 1) = ((j + 1 : Nat) : Int) by omega]
      exact ih (j + 1) H' a' (by omega) hp' (by rw [htk]; exact hb')
    have wstr : ∀ (t : List UInt8), esc b = t → Ret ((CT Tb same 20 [bp f, .string (bs t)] H).bind fun p28 => ifTup p28.1 fun l28 => ifCons l28 fun v28 l28_1 => ifInt .i64 v28 fun _ => ifCons l28_1 fun _ l28_2 => ifNil l28_2 <| g39_J1 Tb same (bs s) f 0 (j : Int) p28.2) fun v H' => v = .string (bs (quo s)) ∧ Pre H0 H' := by
      intro t ht
      have hel := (esc_len b).1
      rw [ht] at hel
      refine Ret.call (sp20 hb hp.len t (by simp only [List.length_cons]; omega)) ?_
      rintro v H1 ⟨rfl, a1, hb1, k1⟩
      simp only [aTup, aCons, aInt, aNil]
      exact go H1 a1 (by rw [ht]; exact hb1) (hb.pre (Nat.le_refl _) hp k1)
    refine g39_L0_ret ?_
    unfold s39_L0
    rw [bs_size, show decide ((j : Int) < (s.length : Int)) = true by simp; omega, aT, atS_bs s rfl, hg]
    simp only [aBind]
    have e10 := beq48 b 10 (by omega); have e13 := beq48 b 13 (by omega); have e9 := beq48 b 9 (by omega); have e39 := beq48 b 39 (by omega); have e92 := beq48 b 92 (by omega)
    simp only [Int.cast_ofNat_Int] at e10 e13 e9 e39 e92
    rw [e10, e13, e9, e39, e92]
    refine Ret.cond (fun q => ?_) (fun q10 => Ret.cond (fun q => ?_) (fun q13 => Ret.cond (fun q => ?_) (fun q9 => ?_)))
    · have : b = 10 := by simpa using q
      exact wstr [92, 110] (by subst this; rfl)
    · have : b = 13 := by simpa using q
      exact wstr [92, 114] (by subst this; rfl)
    · have : b = 9 := by simpa using q
      exact wstr [92, 116] (by subst this; rfl)
    · have n10 : b ≠ 10 := by simpa using q10
      have n13 : b ≠ 13 := by simpa using q13
      have n9 : b ≠ 9 := by simpa using q9
      have e0 : esc b = if b = 39 ∨ b = 92 then [92, b] else if 32 ≤ b.toNat ∧ b.toNat ≤ 126 then [b] else [92, 120, hexd (b.toNat / 16), hexd (b.toNat % 16)] := by
        unfold esc; rw [if_neg n10, if_neg n13, if_neg n9]
      have two : (b = 39 ∨ b = 92) → Ret (g39_J2 Tb same (bs s) f 0 (j : Int) (b.toNat : Int) true H) fun v H' => v = .string (bs (quo s)) ∧ Pre H0 H' := by
        intro hq
        refine g39_J2_ret ?_
        unfold s39_J2
        rw [aT, show (92 : Int) = (((92 : UInt8).toNat : Nat) : Int) from rfl]
        refine Ret.call (sp17 hb hp.len 92 (by simp only [List.length_cons]; omega)) ?_
        rintro v H1 ⟨rfl, a1, hb1, k1⟩
        have p1 := hb.pre (Nat.le_refl _) hp k1
        refine Ret.call (sp17 hb1 p1.len b (by simp only [List.length_append, List.length_cons, List.length_nil]; omega)) ?_
        rintro v H2 ⟨rfl, a2, hb2, k2⟩
        refine go H2 a2 ?_ (hb1.pre (Nat.le_refl _) p1 k2)
        rw [e0, if_pos hq]
        rw [List.append_assoc] at hb2; exact hb2
      refine Ret.cond (fun q => two (.inl (by simpa using q))) (fun q39 => ?_)
      have n39 : b ≠ 39 := by simpa using q39
      by_cases q92 : b = 92
      · rw [show (b == UInt8.ofNat 92) = true by simp [q92]]
        exact two (.inr q92)
      · rw [show (b == UInt8.ofNat 92) = false by simpa using q92]
        rw [if_neg (by rintro (q | q); exact n39 q; exact q92 q)] at e0
        have hb256 : b.toNat < 256 := b.toNat_lt
        have hexes : ¬ (32 ≤ b.toNat ∧ b.toNat ≤ 126) → Ret (g39_J3 Tb same (bs s) f 0 (j : Int) (b.toNat : Int) false H) fun v H' => v = .string (bs (quo s)) ∧ Pre H0 H' := by
          intro hq
          rw [if_neg hq] at e0
          refine g39_J3_ret ?_
          unfold s39_J3
          rw [aF]
          refine Ret.call (sp20 hb hp.len [92, 120] (by simp only [List.length_cons, List.length_nil]; omega)) ?_
          rintro v H1 ⟨rfl, a1, hb1, k1⟩
          have p1 := hb.pre (Nat.le_refl _) hp k1
          simp only [aTup, aCons, aInt, aNil]
          rw [show (⟨#[48, 49, 50, 51, 52, 53, 54, 55, 56, 57, 97, 98, 99, 100, 101, 102]⟩ : ByteArray) = bs digs from rfl, atS_bs digs (shr4 ⟨b.toNat, hb256⟩), atS_bs digs (and15 ⟨b.toNat, hb256⟩)]
          simp only
          rw [hexd_at (j := b.toNat / 16) (by omega), hexd_at (j := b.toNat % 16) (by omega)]
          simp only [aBind]
          refine Ret.call (sp17 hb1 p1.len (hexd (b.toNat / 16)) (by simp only [List.length_append, List.length_cons, List.length_nil]; omega)) ?_
          rintro v H2 ⟨rfl, a2, hb2, k2⟩
          have p2 := hb1.pre (Nat.le_refl _) p1 k2
          refine Ret.call (sp17 hb2 p2.len (hexd (b.toNat % 16)) (by simp only [List.length_append, List.length_cons, List.length_nil]; omega)) ?_
          rintro v H3 ⟨rfl, a3, hb3, k3⟩
          refine go H3 a3 ?_ (hb2.pre (Nat.le_refl _) p2 k3)
          rw [e0]
          rw [List.append_assoc, List.append_assoc] at hb3; exact hb3
        refine g39_J2_ret ?_
        unfold s39_J2
        rw [aF]
        refine Ret.cond (fun q => ?_) (fun q => ?_)
        · simp only [decide_eq_true_eq] at q
          by_cases q2 : b.toNat ≤ 126
          · rw [decide_eq_true (by omega)]
            rw [if_pos ⟨by omega, q2⟩] at e0
            refine g39_J3_ret ?_
            unfold s39_J3
            rw [aT]
            refine Ret.call (sp17 hb hp.len b (by simp only [List.length_cons]; omega)) ?_
            rintro v H1 ⟨rfl, a1, hb1, k1⟩
            exact go H1 a1 (by rw [e0]; exact hb1) (hb.pre (Nat.le_refl _) hp k1)
          · rw [decide_eq_false (by omega)]
            exact hexes (by omega)
        · simp only [decide_eq_false_iff_not] at q
          exact hexes (by omega)

theorem sp39 {H : Heap} {s : List UInt8} (hs : s.length ≤ 137438953472) : Ret (CT Tb same 39 [.string (bs s)] H) fun v H' => v = .string (bs (quo s)) ∧ Pre H H' := by
  refine c39 ?_
  unfold s39
  have hb0 : Bld H.length (H ++ [.cells 51 1 [.pointer none, .slice none 0 0] 0 0 0 false]) 51 5 H.length none [] := Bld.new (Nat.le_refl _)
  have p0 := Pre.app H [.cells 51 1 [.pointer none, .slice none 0 0] 0 0 0 false]
  rw [show (39 : Int) = (((39 : UInt8).toNat : Nat) : Int) from rfl]
  refine Ret.call (sp17 hb0 p0.len 39 (by simp)) ?_
  rintro v H1 ⟨rfl, a1, hb1, k1⟩
  exact sp39_loop hs s.length 0 H1 a1 rfl (hb0.pre (Nat.le_refl _) p0 k1) (by simpa using hb1)

end Go.Proofs.YtknogapmjleliaaDoor
