/- A literal's text: Spell, long, and the document's Quoted. No condition. -/
import Derived.Test.YtknogapmjleliaaDoorSp8
namespace Go.Proofs.YtknogapmjleliaaDoor
open Go Go.AM

/-- the token of a literal -/
def tok (s : List UInt8) : Value := .agg #[.int .i64 14, .int .i64 0, .int .i64 0, .string (bs s), .bool false, .int .u64 0, .int .u64 0, .int .u64 0, .int .u64 0, .int .i64 0, .int .i64 0]

theorem sp30 (s : List UInt8) (H : Heap) : CT Tb same 30 [tok s] H = some (.bool true, H) := by
  refine (c30 ?_).is
  unfold s30
  rw [show ((14 : Int) == 1) = false from rfl, show ((14 : Int) == 16) = false from rfl, aF, aF, show ((14 : Int) == 17) = false from rfl]
  refine g30_J1_ret ?_
  unfold s30_J1
  rw [aF, show ((14 : Int) == 9) = false from rfl, aF, show ((14 : Int) == 14) = true from rfl, aT]
  refine Ret.one ⟨?_, rfl⟩
  rw [show (⟨#[]⟩ : ByteArray) = bs [] from rfl, bs_beq]; rfl

theorem sp31 {H : Heap} {s : List UInt8} (hs : s.length ≤ 137438953472) : Ret (CT Tb same 31 [tok s] H) fun v H' => v = .string (bs (quo s)) ∧ Pre H H' := by
  refine c31 ?_
  unfold s31
  rw [show ((14 : Int) == 1) = false from rfl, aF, show ((14 : Int) == 16) = false from rfl, aF, show ((14 : Int) == 17) = false from rfl, aF, show ((14 : Int) == 9) = false from rfl, aF, show ((14 : Int) == 15) = false from rfl, aF, show ((14 : Int) == 14) = true from rfl, aT, aF]
  refine Ret.call (sp39 hs) ?_
  rintro v H1 ⟨rfl, p⟩
  simp only [aStr]
  exact Ret.one ⟨rfl, p⟩

def spell (s : List UInt8) : List UInt8 × Int := if 65536 < (quo s).length then ([], 2) else (quo s, 0)

theorem escs_ge : ∀ s : List UInt8, s.length ≤ (s.flatMap esc).length
  | [] => by simp
  | b :: s => by
    have := (esc_len b).2
    have := escs_ge s
    simp only [List.flatMap_cons, List.length_append, List.length_cons]; omega

theorem quo_len (s : List UInt8) : (quo s).length = (s.flatMap esc).length + 2 := by simp [quo]

theorem sp18 {H : Heap} {s : List UInt8} (hs : s.length ≤ 137438953472) : Ret (CT Tb same 18 [tok s] H) fun v H' => v = .tuple #[.string (bs (spell s).1), .int .i64 (spell s).2] ∧ Pre H H' := by
  have h1 := escs_ge s
  have h2 := quo_len s
  refine c18 ?_
  unfold s18
  rw [show (Value.agg #[.int .i64 14, .int .i64 0, .int .i64 0, .string (bs s), .bool false, .int .u64 0, .int .u64 0, .int .u64 0, .int .u64 0, .int .i64 0, .int .i64 0]) = tok s from rfl, sp30]
  simp only [aBind, aBool]
  rw [show (!true) = false from rfl, aF]
  refine Ret.cond (fun q => ?_) (fun q => ?_)
  · simp only [decide_eq_true_eq, bs_size] at q
    refine Ret.one ⟨?_, Pre.refl _⟩
    unfold spell; rw [if_pos (by omega)]; rfl
  · refine Ret.call (sp31 hs) ?_
    rintro v H1 ⟨rfl, p⟩
    simp only [aStr, bs_size]
    refine Ret.cond (fun q => ?_) (fun q => ?_)
    · simp only [decide_eq_true_eq] at q
      refine Ret.one ⟨?_, p⟩
      unfold spell; rw [if_pos (by omega)]; rfl
    · simp only [decide_eq_false_iff_not] at q
      refine Ret.one ⟨?_, p⟩
      unfold spell; rw [if_neg (by omega)]

theorem sp19_loop {H0 : Heap} {s : List UInt8} (hs : s.length ≤ 137438953472) {f : Nat} : ∀ (m j : Nat) (H : Heap) (a : Option Addr), s.length - j ≤ m → j ≤ s.length → Pre H0 H → Bld H0.length H 51 5 f a (39 :: (s.take j).flatMap esc) →
    Ret (g19_L0 Tb same (bs (s.drop j)) f 0 H) fun v H' => v = .string (bs (quo s)) ∧ Pre H0 H' := by
  intro m
  induction m with
  | zero =>
    intro j H a hm hj hp hb
    have hl := escs_len (s.take j)
    have htl : (s.take j).length ≤ s.length := by rw [List.length_take]; omega
    refine g19_L0_ret ?_
    unfold s19_L0
    rw [bs_size, show decide ((((s.drop j).length : Nat) : Int) > 0) = false by simp; omega, aF]
    rw [show (39 : Int) = (((39 : UInt8).toNat : Nat) : Int) from rfl]
    refine Ret.call (sp17 hb hp.len 39 (by simp only [List.length_cons]; omega)) ?_
    rintro v H1 ⟨rfl, a1, hb1, k1⟩
    have p1 := hb.pre (Nat.le_refl _) hp k1
    have hq : 39 :: (s.take j).flatMap esc ++ [39] = quo s := by
      rw [List.take_of_length_le (by omega)]; rfl
    rw [hq] at hb1
    refine Ret.call (sp23 hb1 (by simp [quo]) (by rw [← hq]; simp only [List.length_append, List.length_cons, List.length_nil]; omega)) ?_
    rintro v H2 ⟨rfl, l2, o2⟩
    simp only [aStr]
    refine Ret.one ⟨rfl, fun g hg => ?_⟩
    rw [o2 g (fun e => by have := (hb1.base g e).1; omega), p1 g hg]
  | succ m ih =>
    intro j H a hm hj hp hb
    by_cases hend : j = s.length
    · exact (ih j H a (by omega) hj hp hb)
    · have hl := escs_len (s.take j)
      have htl : (s.take j).length ≤ s.length := by rw [List.length_take]; omega
      refine g19_L0_ret ?_
      unfold s19_L0
      rw [bs_size, show decide ((((s.drop j).length : Nat) : Int) > 0) = true by simp; omega, aT]
      obtain ⟨k, hk, hk1, hk2, hk3⟩ : ∃ k : Nat, (if (1000 : Int) < (((s.drop j).length : Nat) : Int) then (1000 : Int) else (((s.drop j).length : Nat) : Int)) = (k : Int) ∧ k ≤ (s.drop j).length ∧ 0 < k ∧ k ≤ 1000 := by
        have e : (s.drop j).length = s.length - j := List.length_drop
        by_cases q : 1000 < (s.drop j).length
        · exact ⟨1000, by rw [if_pos (by omega)]; rfl, by omega, by omega, by omega⟩
        · exact ⟨(s.drop j).length, by rw [if_neg (by omega)], by omega, by omega, by omega⟩
      have e : (s.drop j).length = s.length - j := List.length_drop
      rw [hk, ssA_upto (s.drop j) rfl hk1, ssA_from (s.drop j) rfl hk1]
      simp only [aBind]
      rw [show (Value.agg #[.int .i64 14, .int .i64 0, .int .i64 0, .string (bs ((s.drop j).take k)), .bool false, .int .u64 0, .int .u64 0, .int .u64 0, .int .u64 0, .int .i64 0, .int .i64 0]) = tok ((s.drop j).take k) from rfl]
      have hpl : ((s.drop j).take k).length = k := by rw [List.length_take]; omega
      refine Ret.call (sp18 (by rw [hpl]; omega)) ?_
      rintro v H1 ⟨rfl, p1⟩
      have hsp : spell ((s.drop j).take k) = (quo ((s.drop j).take k), 0) := by
        unfold spell
        rw [if_neg]
        rw [quo_len]
        have := escs_len ((s.drop j).take k)
        rw [hpl] at this
        omega
      rw [hsp]
      simp only [aTup, aCons, aInt, aStr, aNil]
      have hql := quo_len ((s.drop j).take k)
      have hpe := escs_len ((s.drop j).take k)
      rw [hpl] at hpe
      rw [bs_size, w64 (by omega) (by omega), show (((quo ((s.drop j).take k)).length : Int) - 1) = (((s.drop j).take k).flatMap esc).length + 1 by omega, show ((((s.drop j).take k).flatMap esc).length : Int) + 1 = (((((s.drop j).take k).flatMap esc).length + 1 : Nat) : Int) by omega]
      rw [ssA_both (quo ((s.drop j).take k)) (i := 1) (j := 1) (m := (((s.drop j).take k).flatMap esc).length + 1) rfl rfl (by omega) (by omega)]
      simp only [aBind]
      have hmid : ((quo ((s.drop j).take k)).drop 1).take ((((s.drop j).take k).flatMap esc).length + 1 - 1) = ((s.drop j).take k).flatMap esc := by
        simp [quo]
      rw [hmid]
      refine Ret.call (sp20 (hb.mono p1) (Nat.le_trans hp.len p1.len) (((s.drop j).take k).flatMap esc) (by simp only [List.length_cons]; omega)) ?_
      rintro v H2 ⟨rfl, a2, hb2, k2⟩
      simp only [aTup, aCons, aInt, aNil]
      rw [List.drop_drop]
      have htk : (s.take (j + k)).flatMap esc = (s.take j).flatMap esc ++ ((s.drop j).take k).flatMap esc := by
        rw [List.take_add, List.flatMap_append]
      refine ih (j + k) H2 a2 (by omega) (by omega) ((hb.mono p1).pre (Nat.le_refl _) (hp.trans p1) k2) ?_
      rw [htk]; exact hb2

theorem sp19 {H : Heap} {s : List UInt8} (hs : s.length ≤ 137438953472) : Ret (CT Tb same 19 [.string (bs s)] H) fun v H' => v = .string (bs (quo s)) ∧ Pre H H' := by
  refine c19 ?_
  unfold s19
  have hb0 : Bld H.length (H ++ [.cells 51 1 [.pointer none, .slice none 0 0] 0 0 0 false]) 51 5 H.length none [] := Bld.new (Nat.le_refl _)
  have p0 := Pre.app H [.cells 51 1 [.pointer none, .slice none 0 0] 0 0 0 false]
  rw [show (39 : Int) = (((39 : UInt8).toNat : Nat) : Int) from rfl]
  refine Ret.call (sp17 hb0 p0.len 39 (by simp)) ?_
  rintro v H1 ⟨rfl, a1, hb1, k1⟩
  have := sp19_loop (H0 := H) hs (f := H.length) s.length 0 H1 a1 (by omega) (by omega) (hb0.pre (Nat.le_refl _) p0 k1) (by simpa using hb1)
  rwa [List.drop_zero] at this

/-! the document's -/

theorem sp32 (b : UInt8) (H : Heap) : CT Tb same 32 [.int .u8 b.toNat] H = some (.string (bs [hexd (b.toNat / 16), hexd (b.toNat % 16)]), H) := by
  have hb : b.toNat < 256 := b.toNat_lt
  refine (c32 ?_).is
  unfold s32
  rw [quo16 ⟨b.toNat, hb⟩, rem16 ⟨b.toNat, hb⟩]
  simp only
  rw [w8 (n := ((b.toNat / 16 : Nat) : Int) + 1) (by omega) (by omega), w8 (n := ((b.toNat % 16 : Nat) : Int) + 1) (by omega) (by omega), show (((b.toNat / 16 : Nat) : Int) + 1) = ((b.toNat / 16 + 1 : Nat) : Int) by omega, show (((b.toNat % 16 : Nat) : Int) + 1) = ((b.toNat % 16 + 1 : Nat) : Int) by omega]
  rw [show (⟨#[48, 49, 50, 51, 52, 53, 54, 55, 56, 57, 97, 98, 99, 100, 101, 102]⟩ : ByteArray) = bs digs from rfl, ssA_both digs rfl rfl (by omega) (show b.toNat / 16 + 1 ≤ digs.length from (show b.toNat / 16 + 1 ≤ 16 by omega)), ssA_both digs rfl rfl (by omega) (show b.toNat % 16 + 1 ≤ digs.length from (show b.toNat % 16 + 1 ≤ 16 by omega))]
  have one : ∀ j, j < 16 → (digs.drop j).take (j + 1 - j) = [hexd j] := by
    intro j hj
    rw [show j + 1 - j = 1 by omega, List.drop_eq_getElem_cons (show j < digs.length from hj)]
    have := hexd_at hj
    rw [List.getElem?_eq_getElem (show j < digs.length from hj)] at this
    simp at this
    simp [this]
  rw [one _ (by omega), one _ (by omega)]
  simp only [aBind]
  rw [binS_add _ _ (by simp)]
  simp only [aBind, aStr]
  exact Ret.one ⟨rfl, rfl⟩

theorem sp24_loop {H0 : Heap} {s : List UInt8} (hs : s.length ≤ 137438953472) : ∀ (m j : Nat) (H : Heap) (a : Option Addr) (n c : Nat), m + j = s.length → Pre H0 H → Own H0.length H 5 1 a n c ((39 :: (s.take j).flatMap esc).map u8c) →
    Ret (g24_L0 Tb same (bs s) a n c (j : Int) H) fun v H' => v = .string (bs (quo s)) ∧ Pre H0 H' := by
  intro m
  induction m with
  | zero =>
    intro j H a n c hj hp ho
    have hl := escs_len (s.take j)
    have htl : (s.take j).length ≤ s.length := by rw [List.length_take]; omega
    have hn : n = (39 :: (s.take j).flatMap esc).length := by simpa using ho.1
    simp only [List.length_cons] at hn
    refine g24_L0_ret ?_
    unfold s24_L0
    rw [bs_size, show decide ((j : Int) < (s.length : Int)) = false by simp; omega, aF]
    obtain ⟨a', c', H', e, o, k⟩ := ho.lit hp.len [39] (ty' := 5) (by simp) (by simp; omega)
    simp only [List.map_cons, List.map_nil, List.length_cons, List.length_nil, Nat.reduceAdd] at e
    dsimp only
    rw [show (39 : Int) = (((39 : UInt8).toNat : Nat) : Int) from rfl, e]
    simp only [aBind, aSl]
    have hx : (39 :: (s.take j).flatMap esc).map u8c ++ ([39] : List UInt8).map (fun b => [Value.int .u8 b.toNat]) = (quo s).map u8c := by
      rw [show (fun b : UInt8 => [Value.int .u8 b.toNat]) = u8c from rfl, ← List.map_append, List.take_of_length_le (by omega)]; rfl
    rw [hx] at o
    replace o : Own H0.length H' 5 1 a' (n + 1) c' ((quo s).map u8c) := o
    rw [rdSl_sl o.sl, u8_flat]
    simp only [aBind]
    rw [bytesOf_map]
    simp only [aBind]
    exact Ret.one ⟨rfl, ho.pre (Nat.le_refl _) hp k⟩
  | succ m ih =>
    intro j H a n c hj hp ho
    have hl := escs_len (s.take j)
    have htl : (s.take j).length ≤ s.length := by rw [List.length_take]; omega
    have hlt : j < s.length := by omega
    have hg : s[j]? = some s[j] := List.getElem?_eq_getElem hlt
    have hn : n = (39 :: (s.take j).flatMap esc).length := by simpa using ho.1
    simp only [List.length_cons] at hn
    have htk : (s.take (j + 1)).flatMap esc = (s.take j).flatMap esc ++ esc s[j] := by
      rw [List.take_succ_eq_append_getElem hlt, List.flatMap_append]; simp
    generalize hx : s[j] = b at *
    have go : ∀ H' a' n' c', Own H0.length H' 5 1 a' n' c' ((39 :: (s.take j).flatMap esc).map u8c ++ (esc b).map u8c) → Pre H0 H' → Ret (g24_J1 Tb same (bs s) a' n' c' (j : Int) H') fun v H' => v = .string (bs (quo s)) ∧ Pre H0 H' := by
      intro H' a' n' c' ho' hp'
      refine g24_J1_ret ?_
      unfold s24_J1
      rw [w64 (by omega) (by omega), show ((j : Int) + 1) = ((j + 1 : Nat) : Int) by omega]
      refine ih (j + 1) H' a' n' c' (by omega) hp' ?_
      rw [htk, ← List.cons_append, List.map_append]; exact ho'
    have lit2 : ∀ (x y : UInt8), esc b = [x, y] → Ret ((apA (H ++ [.cells 5 1 [(.int .u8 (x.toNat : Int)), (.int .u8 (y.toNat : Int))] 0 0 0 false]) 5 1 1 (.slice a n c) (.slice (some ⟨H.length, 0, some 0⟩) 2 2)).bind fun p27 => ifSl p27.1 fun a27 n27 c27 => g24_J1 Tb same (bs s) a27 n27 c27 (j : Int) p27.2) fun v H' => v = .string (bs (quo s)) ∧ Pre H0 H' := by
      intro x y hxy
      obtain ⟨a', c', H', e, o, k⟩ := ho.lit hp.len [x, y] (ty' := 5) (by simp) (by simp; omega)
      simp only [List.map_cons, List.map_nil, List.length_cons, List.length_nil, Nat.reduceAdd] at e
      rw [e]
      simp only [aBind, aSl]
      exact go H' a' _ c' (by rw [hxy]; exact o) (ho.pre (Nat.le_refl _) hp k)
    refine g24_L0_ret ?_
    unfold s24_L0
    rw [bs_size, show decide ((j : Int) < (s.length : Int)) = true by simp; omega, aT, atS_bs s rfl, hg]
    simp only [aBind]
    have e10 := beq48 b 10 (by omega); have e13 := beq48 b 13 (by omega); have e9 := beq48 b 9 (by omega); have e39 := beq48 b 39 (by omega); have e92 := beq48 b 92 (by omega)
    simp only [Int.cast_ofNat_Int] at e10 e13 e9 e39 e92
    rw [e10, e13, e9, e39, e92]
    refine Ret.cond (fun q => ?_) (fun q10 => Ret.cond (fun q => ?_) (fun q13 => Ret.cond (fun q => ?_) (fun q9 => ?_)))
    · have : b = 10 := by simpa using q
      exact lit2 92 110 (by subst this; rfl)
    · have : b = 13 := by simpa using q
      exact lit2 92 114 (by subst this; rfl)
    · have : b = 9 := by simpa using q
      exact lit2 92 116 (by subst this; rfl)
    · have n10 : b ≠ 10 := by simpa using q10
      have n13 : b ≠ 13 := by simpa using q13
      have n9 : b ≠ 9 := by simpa using q9
      have e0 : esc b = if b = 39 ∨ b = 92 then [92, b] else if 32 ≤ b.toNat ∧ b.toNat ≤ 126 then [b] else [92, 120, hexd (b.toNat / 16), hexd (b.toNat % 16)] := by
        unfold esc; rw [if_neg n10, if_neg n13, if_neg n9]
      have two : (b = 39 ∨ b = 92) → Ret (g24_J2 Tb same (bs s) a n c (j : Int) (b.toNat : Int) true H) fun v H' => v = .string (bs (quo s)) ∧ Pre H0 H' := by
        intro hq
        refine g24_J2_ret ?_
        unfold s24_J2
        rw [aT]
        exact lit2 92 b (by rw [e0, if_pos hq])
      refine Ret.cond (fun q => two (.inl (by simpa using q))) (fun q39 => ?_)
      have n39 : b ≠ 39 := by simpa using q39
      by_cases q92 : b = 92
      · rw [show (b == UInt8.ofNat 92) = true by simp [q92]]
        exact two (.inr q92)
      · rw [show (b == UInt8.ofNat 92) = false by simpa using q92]
        rw [if_neg (by rintro (q | q); exact n39 q; exact q92 q)] at e0
        have hexes : ¬ (32 ≤ b.toNat ∧ b.toNat ≤ 126) → Ret (g24_J3 Tb same (bs s) a n c (j : Int) (b.toNat : Int) false H) fun v H' => v = .string (bs (quo s)) ∧ Pre H0 H' := by
          intro hq
          rw [if_neg hq] at e0
          refine g24_J3_ret ?_
          unfold s24_J3
          rw [aF]
          obtain ⟨a', c', H', e, o, k⟩ := ho.lit hp.len [92, 120] (ty' := 5) (by simp) (by simp; omega)
          simp only [List.map_cons, List.map_nil, List.length_cons, List.length_nil, Nat.reduceAdd] at e
          dsimp only
          rw [show (Value.int .u8 92) = Value.int .u8 (((92 : UInt8).toNat : Nat) : Int) from rfl, show (Value.int .u8 120) = Value.int .u8 (((120 : UInt8).toNat : Nat) : Int) from rfl, e]
          simp only [aBind, aSl]
          have p1 := ho.pre (Nat.le_refl _) hp k
          rw [sp32]
          simp only [aBind, aStr]
          replace o : Own H0.length H' 5 1 a' (n + 2) c' _ := o
          obtain ⟨a2, c2, H2, e2, o2, k2⟩ := o.text p1.len (s := bs [hexd (b.toNat / 16), hexd (b.toNat % 16)]) (by rw [bs_size]; simp; omega)
          rw [e2]
          simp only [aBind, aSl]
          refine go H2 a2 _ c2 ?_ (o.pre (Nat.le_refl _) p1 k2)
          rw [e0]
          rw [bs_data, List.append_assoc] at o2
          exact o2
        refine g24_J2_ret ?_
        unfold s24_J2
        rw [aF]
        refine Ret.cond (fun q => ?_) (fun q => ?_)
        · simp only [decide_eq_true_eq] at q
          by_cases q2 : b.toNat ≤ 126
          · rw [decide_eq_true (by omega)]
            rw [if_pos ⟨by omega, q2⟩] at e0
            refine g24_J3_ret ?_
            unfold s24_J3
            rw [aT]
            obtain ⟨a', c', H', e, o, k⟩ := ho.lit hp.len [b] (ty' := 5) (by simp) (by simp; omega)
            dsimp only
            simp only [List.map_cons, List.map_nil, List.length_cons, List.length_nil, Nat.reduceAdd] at e
            rw [e]
            simp only [aBind, aSl]
            exact go H' a' _ c' (by rw [e0]; exact o) (ho.pre (Nat.le_refl _) hp k)
          · rw [decide_eq_false (by omega)]
            exact hexes (by omega)
        · simp only [decide_eq_false_iff_not] at q
          exact hexes (by omega)

theorem sp24 {H : Heap} {s : List UInt8} (hs : s.length ≤ 137438953472) : Ret (CT Tb same 24 [.string (bs s)] H) fun v H' => v = .string (bs (quo s)) ∧ Pre H H' := by
  refine c24 ?_
  unfold s24
  have ho : Own H.length (H ++ [.cells 5 1 [.int .u8 39] 0 0 0 false]) 5 1 (some ⟨H.length, 0, some 0⟩) 1 1 [[.int .u8 39]] := by
    refine ⟨rfl, Nat.le_refl _, by simp, .inr ⟨H.length, 0, 0, [.int .u8 39], 0, 0, rfl, Nat.le_refl _, List.getElem?_concat_length, Nat.le_refl _, Nat.le_refl _, rfl, by simp⟩⟩
  exact sp24_loop (H0 := H) hs s.length 0 _ _ 1 1 rfl (Pre.app _ _) (by simpa [u8c] using ho)

end Go.Proofs.YtknogapmjleliaaDoor
