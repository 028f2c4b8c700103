/- worth.Check and the document's Check answer the same. No condition. -/
import Derived.Test.YtknogapmjleliaaDoorSp6
namespace Go.Proofs.YtknogapmjleliaaDoor
open Go Go.AM

/-! the types put together: in any order -/

def jn (a b : Ty) : Option Ty := if (bothP a b).2 = true then some (bothP a b).1 else none

theorem bothP_comm (a b : Ty) : jn a b = jn b a := by
  obtain ⟨a1, a2⟩ := a
  obtain ⟨b1, b2⟩ := b
  unfold jn bothP
  simp only
  by_cases h1 : a1 = 0 <;> by_cases h2 : b1 = 0
  · subst h1; subst h2
    simp only [and_self, if_true, Option.some.injEq, Prod.mk.injEq, true_and]
    split <;> split <;> omega
  · simp [h1, h2]
  · simp [h1, h2]
  · simp only [h1, h2, and_self, and_false, false_and, if_false, Bool.and_eq_true, beq_iff_eq]
    by_cases h : a1 = b1 ∧ a2 = b2
    · obtain ⟨rfl, rfl⟩ := h; rfl
    · rw [if_neg h, if_neg (by rintro ⟨r, s⟩; exact h ⟨r.symm, s.symm⟩)]

theorem jn_zero {b : Ty} (h : 0 ≤ b.2) : jn (0, 0) b = some b := by
  obtain ⟨b1, b2⟩ := b
  simp only at h
  unfold jn bothP
  simp only
  by_cases h2 : b1 = 0
  · subst h2
    simp only [and_self, if_true, Option.some.injEq, Prod.mk.injEq, true_and]
    split <;> omega
  · simp [h2, h]

theorem jn_zz (x y : Int) : jn (0, x) (0, y) = some (0, if y > x then y else x) := by simp [jn, bothP]
theorem jn_zn {b : Int} (hb : b ≠ 0) (x y : Int) : jn (0, x) (b, y) = if x ≤ y then some (b, y) else none := by simp [jn, bothP, hb]
theorem jn_nz {a : Int} (ha : a ≠ 0) (x y : Int) : jn (a, x) (0, y) = if y ≤ x then some (a, x) else none := by simp [jn, bothP, ha]
theorem jn_nn {a b : Int} (ha : a ≠ 0) (hb : b ≠ 0) (x y : Int) : jn (a, x) (b, y) = if a = b ∧ x = y then some (a, x) else none := by simp [jn, bothP, ha, hb]

theorem jn_assoc (a b c : Ty) : (jn a b).bind (fun r => jn r c) = (jn b c).bind fun r => jn a r := by
  obtain ⟨a1, a2⟩ := a
  obtain ⟨b1, b2⟩ := b
  obtain ⟨c1, c2⟩ := c
  by_cases h1 : a1 = 0 <;> by_cases h2 : b1 = 0 <;> by_cases h3 : c1 = 0
  · subst h1; subst h2; subst h3
    simp only [jn_zz, Option.bind_some, Option.some.injEq, Prod.mk.injEq, true_and]
    repeat' split
    all_goals omega
  · subst h1; subst h2
    simp only [jn_zz, jn_zn h3, Option.bind_some]
    by_cases q : b2 ≤ c2
    · rw [if_pos q, Option.bind_some, jn_zn h3]
      by_cases r : a2 ≤ c2
      · rw [if_pos r, if_pos]; split <;> omega
      · rw [if_neg r, if_neg]; split <;> omega
    · rw [if_neg q, Option.bind_none, if_neg]; split <;> omega
  · subst h1; subst h3
    simp only [jn_zn h2, jn_nz h2]
    by_cases q : a2 ≤ b2 <;> by_cases r : c2 ≤ b2
    · simp only [if_pos q, if_pos r, Option.bind_some, jn_nz h2, jn_zn h2]
    · simp only [if_pos q, if_neg r, Option.bind_some, Option.bind_none, jn_nz h2]
    · simp only [if_neg q, if_pos r, Option.bind_some, Option.bind_none, jn_zn h2]
    · simp only [if_neg q, if_neg r, Option.bind_none]
  · subst h1
    simp only [jn_zn h2, jn_nn h2 h3]
    by_cases q : a2 ≤ b2 <;> by_cases r : b1 = c1 ∧ b2 = c2
    · simp only [if_pos q, if_pos r, Option.bind_some, jn_nn h2 h3, jn_zn h2]
    · simp only [if_pos q, if_neg r, Option.bind_some, Option.bind_none, jn_nn h2 h3]
    · simp only [if_neg q, if_pos r, Option.bind_some, Option.bind_none, jn_zn h2]
    · simp only [if_neg q, if_neg r, Option.bind_none]
  · subst h2; subst h3
    simp only [jn_nz h1, jn_zz, Option.bind_some]
    by_cases q : b2 ≤ a2
    · rw [if_pos q, Option.bind_some, jn_nz h1]
      by_cases r : c2 ≤ a2
      · rw [if_pos r, if_pos]; split <;> omega
      · rw [if_neg r, if_neg]; split <;> omega
    · rw [if_neg q, Option.bind_none, if_neg]; split <;> omega
  · subst h2
    simp only [jn_nz h1, jn_zn h3]
    by_cases q : b2 ≤ a2 <;> by_cases r : b2 ≤ c2
    · simp only [if_pos q, if_pos r, Option.bind_some, jn_nn h1 h3]
    · simp only [if_pos q, if_neg r, Option.bind_some, Option.bind_none, jn_nn h1 h3]
      rw [if_neg]; rintro ⟨_, e⟩; omega
    · simp only [if_neg q, if_pos r, Option.bind_some, Option.bind_none, jn_nn h1 h3]
      rw [if_neg]; rintro ⟨_, e⟩; omega
    · simp only [if_neg q, if_neg r, Option.bind_none]
  · subst h3
    simp only [jn_nn h1 h2, jn_nz h2]
    by_cases q : a1 = b1 ∧ a2 = b2
    · obtain ⟨rfl, rfl⟩ := q
      simp only [and_self, if_true, Option.bind_some, jn_nz h1]
      by_cases r : c2 ≤ a2
      · simp only [if_pos r, Option.bind_some, jn_nn h1 h1, and_self, if_true]
      · simp only [if_neg r, Option.bind_none]
    · simp only [if_neg q, Option.bind_none]
      by_cases r : c2 ≤ b2
      · simp only [if_pos r, Option.bind_some, jn_nn h1 h2, if_neg q]
      · simp only [if_neg r, Option.bind_none]
  · simp only [jn_nn h1 h2, jn_nn h2 h3]
    by_cases q : a1 = b1 ∧ a2 = b2
    · obtain ⟨rfl, rfl⟩ := q
      simp only [and_self, if_true, Option.bind_some, jn_nn h1 h3]
      by_cases r : a1 = c1 ∧ a2 = c2
      · simp only [if_pos r, Option.bind_some, jn_nn h1 h1, and_self, if_true]
      · simp only [if_neg r, Option.bind_none]
    · simp only [if_neg q, Option.bind_none]
      by_cases r : b1 = c1 ∧ b2 = c2
      · simp only [if_pos r, Option.bind_some, jn_nn h1 h2, if_neg q]
      · simp only [if_neg r, Option.bind_none]

theorem foldBoth_cons (t u : Ty) (r : List Ty) : foldBoth t (u :: r) = (jn t u).bind fun s => foldBoth s r := by
  simp only [foldBoth, jn]
  split <;> rfl

theorem foldBoth_snoc (u : Ty) : ∀ (r : List Ty) (t : Ty), foldBoth t (r ++ [u]) = (foldBoth t r).bind fun s => jn s u
  | [], t => by rw [List.nil_append, foldBoth_cons]; simp [foldBoth]
  | v :: r, t => by
    rw [List.cons_append, foldBoth_cons, foldBoth_cons, Option.bind_assoc]
    congr 1; funext s; exact foldBoth_snoc u r s

theorem foldBoth_in (u : Ty) : ∀ (r : List Ty) (t : Ty), (jn u t).bind (fun s => foldBoth s r) = (foldBoth t r).bind fun s => jn u s
  | [], t => by simp [foldBoth]
  | v :: r, t => by
    simp only [foldBoth_cons]
    rw [Option.bind_assoc, ← Option.bind_assoc, jn_assoc, Option.bind_assoc]
    congr 1; funext s; exact foldBoth_in u r s

theorem fold_rev : ∀ {us : List Ty}, (∀ u ∈ us, 0 ≤ u.2) → foldBoth (0, 0) us.reverse = foldJ us
  | [], _ => rfl
  | u :: us, h => by
    have h0 := h u (List.mem_cons_self ..)
    rw [List.reverse_cons, foldBoth_snoc, fold_rev (fun v hv => h v (List.mem_cons_of_mem _ hv))]
    have e : foldJ us = foldBoth (0, 0) us := by
      cases us with
      | nil => rfl
      | cons v vs =>
        rw [foldBoth_cons, jn_zero (h v (List.mem_cons_of_mem _ (List.mem_cons_self ..)))]; rfl
    rw [e]
    have := foldBoth_in u us (0, 0)
    rw [bothP_comm, jn_zero h0] at this
    simp only [Option.bind_some] at this
    simp only [foldJ]
    rw [this]
    congr 1; funext s; exact bothP_comm s u

/-! counts -/

theorem itemP_n {x : It} (h : itemP x = true) : 0 ≤ x.n := by
  unfold itemP at h
  split at h
  · simp at h; exact h.2
  · unfold bareP at h; simp at h; omega

theorem cnt_le : ∀ {r : List It} {k : Nat}, cnt r = some k → k ≤ r.length
  | [], k, h => by simp [cnt] at h; omega
  | y :: r, k, h => by
    simp only [cnt] at h
    split at h
    · rename_i k' hk'
      have := cnt_le hk'
      split at h
      · simp only [Option.some.injEq] at h; simp only [List.length_cons]; omega
      · simp at h
    · simp at h

theorem bh_cnt {L : Nat} (hL : 0 < L) : ∀ {r : List It} {left : Int} {i : Nat}, (∀ x ∈ r, 0 ≤ x.n) → i + r.length = L → 0 ≤ left → (bh L r left i = (L : Int) ↔ cnt r = some left.toNat)
  | [], left, i, _, hi, h0 => by
    simp only [List.length_nil, Nat.add_zero] at hi
    simp only [bh, cnt]
    by_cases q : left > 0
    · rw [if_pos q]
      constructor
      · intro h; omega
      · intro h; simp at h; omega
    · rw [if_neg q]
      constructor
      · intro _; congr 1; omega
      · intro _; omega
  | x :: r, left, i, hx, hi, h0 => by
    simp only [List.length_cons] at hi
    have hn := hx x (List.mem_cons_self ..)
    simp only [bh, cnt]
    by_cases q : left > 0
    · rw [if_pos q]
      by_cases q2 : x.n > (L : Int)
      · rw [if_pos (.inr q2)]
        constructor
        · intro h; omega
        · intro h
          split at h
          · rename_i k hk
            have := cnt_le hk
            rw [if_neg (by omega)] at h; simp at h
          · simp at h
      · rw [if_neg (by omega)]
        have ih := bh_cnt hL (r := r) (left := left + (x.n - 1)) (i := i + 1) (fun y hy => hx y (List.mem_cons_of_mem _ hy)) (by omega) (by omega)
        rw [ih]
        constructor
        · intro h
          rw [h]; simp only
          rw [if_pos (by omega)]; congr 1; omega
        · intro h
          split at h
          · rename_i k hk
            split at h
            · simp only [Option.some.injEq] at h
              rw [hk]; congr 1; omega
            · simp at h
          · simp at h
    · rw [if_neg q]
      constructor
      · intro h; omega
      · intro h
        split at h
        · split at h
          · simp only [Option.some.injEq] at h; omega
          · simp at h
        · simp at h

/-! the two checks -/

theorem ckStep_some {x : It} {hp hp' : List Ty} (h : ckStep x hp = some hp') : itemP x = true ∧ 0 ≤ x.n ∧ x.n ≤ hp.length ∧ hp'.length = hp.length - x.n.toNat + 1 := by
  unfold ckStep at h
  split at h
  · rename_i hb
    split at h
    · rename_i hbare
      simp only [Option.some.injEq] at h; subst h
      have hi : itemP x = true := by unfold itemP; rw [if_neg hb]; exact hbare
      have hn : x.n = 0 := by unfold bareP at hbare; simp at hbare; exact hbare.2
      refine ⟨hi, by omega, by omega, by simp [hn]⟩
    · simp at h
  · rename_i hb
    split at h
    · simp at h
    · rename_i hg
      split at h
      · rename_i t ht
        simp only [Option.some.injEq] at h; subst h
        have hb0 : x.b = 0 := by simpa using hb
        have ht0 : x.t = [] := by
          by_cases q : x.t = []
          · exact q
          · exact (hg (.inr (.inr q))).elim
        refine ⟨by unfold itemP; rw [if_pos hb0, ht0]; simp; omega, by omega, by omega, ?_⟩
        simp only [List.length_append, List.length_take, List.length_cons, List.length_nil]; omega
      · simp at h

theorem ck_some : ∀ {l : List It} {hp : List Ty}, ck l = some hp → (∀ x ∈ l, itemP x = true) ∧ cnt l = some hp.length
  | [], hp, h => by simp [ck] at h; subst h; simp [cnt]
  | x :: r, hp, h => by
    simp only [ck] at h
    split at h
    · rename_i hp' hp1
      obtain ⟨i1, i2⟩ := ck_some hp1
      obtain ⟨s1, s2, s3, s4⟩ := ckStep_some h
      refine ⟨fun y hy => ?_, ?_⟩
      · rcases List.mem_cons.1 hy with rfl | hy
        · exact s1
        · exact i1 y hy
      · simp only [cnt, i2]
        rw [if_pos ⟨s2, s3⟩, s4]
    · simp at h

theorem tk_ck : ∀ {l : List It} {i k : Nat}, (∀ x ∈ l, itemP x = true) → cnt l = some k → ck l = (tk i l).map (fun st => (st.map (·.1)).reverse) ∧ ∀ st, tk i l = some st → ∀ p ∈ st, 0 ≤ p.1.2
  | [], i, k, _, _ => by simp [ck, tk]
  | x :: r, i, k, hx, hc => by
    have hc0 := hc
    simp only [cnt] at hc
    split at hc
    · rename_i k' hk'
      split at hc
      · rename_i hn
        have hr := fun y (hy : y ∈ r) => hx y (List.mem_cons_of_mem _ hy)
        obtain ⟨ih1, ih2⟩ := tk_ck (i := i + 1) hr hk'
        have hi := hx x (List.mem_cons_self ..)
        simp only [ck, tk]
        rw [ih1]
        cases hst : tk (i + 1) r with
        | none => simp
        | some st =>
          have hlen := tk_len hr hk' hst
          have hnn := ih2 st hst
          simp only [Option.map_some]
          unfold ckStep
          by_cases hb : x.b = 0
          · have hnb : ¬ x.b ≠ 0 := by simp [hb]
            simp only [if_neg hnb]
            have ht0 : x.t = [] := by
              unfold itemP at hi; rw [if_pos hb] at hi; simp at hi; exact hi.1
            have hg : ¬ (x.n < 0 ∨ x.n > ((((st.map (·.1)).reverse).length : Nat) : Int) ∨ x.t ≠ []) := by
              rintro (q | q | q)
              · omega
              · simp at q; omega
              · exact q ht0
            rw [if_neg hg]
            have hle : x.n.toNat ≤ st.length := by omega
            have e1 : ((st.map (·.1)).reverse).length - x.n.toNat = st.length - x.n.toNat := by simp
            have e2 : (st.map (·.1)).reverse.drop (st.length - x.n.toNat) = ((st.take x.n.toNat).map (·.1)).reverse := by
              rw [List.drop_reverse]; simp only [List.length_map]
              rw [show st.length - (st.length - x.n.toNat) = x.n.toNat by omega, List.map_take]
            have e3 : (st.map (·.1)).reverse.take (st.length - x.n.toNat) = ((st.drop x.n.toNat).map (·.1)).reverse := by
              rw [List.take_reverse]; simp only [List.length_map]
              rw [show st.length - (st.length - x.n.toNat) = x.n.toNat by omega, List.map_drop]
            have hnn2 : ∀ u ∈ (st.take x.n.toNat).map (·.1), 0 ≤ u.2 := by
              intro u hu
              obtain ⟨p, hp, rfl⟩ := List.mem_map.1 hu
              exact hnn p (List.mem_of_mem_take hp)
            rw [e1, e2, e3, fold_rev hnn2]
            cases hJ : foldJ ((st.take x.n.toNat).map (·.1)) with
            | none => simp
            | some t =>
              refine ⟨by simp, ?_⟩
              intro st' h p hp
              simp only [Option.some.injEq] at h; subst h
              rcases List.mem_cons.1 hp with rfl | hp
              · have hfit : ∃ m : Int, 0 ≤ m ∧ ∀ u ∈ (st.take x.n.toNat).map (·.1), 0 ≤ u.2 ∧ u.2 ≤ m := by
                  generalize (st.take x.n.toNat).map (·.1) = us at hnn2
                  induction us with
                  | nil => exact ⟨0, Int.le_refl _, by simp⟩
                  | cons u us ihu =>
                    obtain ⟨m, hm, hu⟩ := ihu (fun v hv => hnn2 v (List.mem_cons_of_mem _ hv))
                    refine ⟨max m u.2, by omega, fun v hv => ?_⟩
                    rcases List.mem_cons.1 hv with rfl | hv
                    · exact ⟨hnn2 v (List.mem_cons_self ..), by omega⟩
                    · have := hu v hv; exact ⟨this.1, by omega⟩
                obtain ⟨m, hm, hu⟩ := hfit
                have := foldJ_fit hm hu hJ
                simp only; omega
              · exact hnn p (List.mem_of_mem_drop hp)
          · simp only [if_pos (show x.b ≠ 0 from hb)]
            have hbare : bareP x = true := by unfold itemP at hi; rw [if_neg hb] at hi; exact hi
            rw [if_pos hbare]
            refine ⟨by simp, ?_⟩
            intro st' h p hp
            simp only [Option.some.injEq] at h; subst h
            rcases List.mem_cons.1 hp with rfl | hp
            · exact Int.le_refl _
            · exact hnn p hp
      · simp at hc
    · simp at hc

theorem ckEnd_not1 {l : List It} (h : cnt l ≠ some 1) : ckEnd (ck l) = wrongT := by
  cases hc : ck l with
  | none => rfl
  | some hp =>
    have := (ck_some hc).2
    match hp, this with
    | [], _ => rfl
    | [t], e => exact (h e).elim
    | _ :: _ :: _, _ => rfl

theorem ckEnd_item {l : List It} (h : ¬ ∀ x ∈ l, itemP x = true) : ckEnd (ck l) = wrongT := by
  cases hc : ck l with
  | none => rfl
  | some hp => exact (h (ck_some hc).1).elim

theorem ckEnd_type {l : List It} (hi : ∀ x ∈ l, itemP x = true) (hc : cnt l = some 1) : ckEnd (ck l) = if (typeP l).2 = true then ((typeP l).1, 0) else wrongT := by
  rw [(tk_ck (i := 0) hi hc).1]
  unfold typeP
  cases hst : tk 0 l with
  | none => rfl
  | some st =>
    have := tk_len hi hc hst
    obtain ⟨p, rfl⟩ : ∃ p, st = [p] := by
      match st, this with
      | [p], _ => exact ⟨p, rfl⟩
    simp only [Option.map_some, List.map_cons, List.map_nil, List.reverse_cons, List.reverse_nil, List.nil_append, ckEnd, typeE, decide_eq_true_eq]
    by_cases q : p.1.2 > 8
    · rw [if_pos q, if_neg (by omega)]
    · rw [if_neg q, if_pos (by omega)]

theorem sp6_loop {H : Heap} {a : Option Addr} {n c : Nat} {l : List It} (h : Its H a n c l) (hb : l.length ≤ 65536) (hl : l ≠ []) (x2 x2_4 : Int) :
    ∀ (m j : Nat), m + j = l.length → (∀ i (q : i < l.length), i < j → itemP l[i] = true) → Ret (g6_L1 Tb same a n c x2 x2_4 (j : Int) H) fun v H' => v = ckV (ckEnd (ck l)) ∧ Pre H H' := by
  have hn := h.len
  have hlen : 0 < l.length := List.length_pos_iff.2 hl
  intro m
  induction m with
  | zero =>
    intro j hj hok
    refine g6_L1_ret ?_
    unfold s6_L1
    rw [show decide ((j : Int) < (n : Int)) = false by simp; omega, aF, sp15 h hb]
    simp only [aBind, aInt]
    have hi : ∀ x ∈ l, itemP x = true := by
      intro x hx
      obtain ⟨i, q, rfl⟩ := List.getElem_of_mem hx
      exact hok i q (by omega)
    have hbc := bh_cnt hlen (r := l) (left := 1) (i := 0) (fun x hx => itemP_n (hi x hx)) (by omega) (by omega)
    refine Ret.cond (fun q => ?_) (fun q => ?_)
    · refine Ret.one ⟨?_, Pre.refl _⟩
      have : bh l.length l 1 0 ≠ (l.length : Int) := by simp only [bne_iff_ne] at q; omega
      rw [ckEnd_not1 (fun e => this (hbc.2 e))]; rfl
    · have : bh l.length l 1 0 = (l.length : Int) := by simp at q; omega
      have hc := hbc.1 this
      refine Ret.call (sp16 h hb hi hc hl) ?_
      rintro v H' ⟨rfl, hp⟩
      simp only [typeV, tyV, aTup, aAgg, aCons, aInt, aBool, aNil]
      rw [ckEnd_type hi hc]
      refine Ret.cond (fun q => ?_) (fun q => ?_)
      · have : (typeP l).2 = false := by simpa using q
        exact Ret.one ⟨by rw [if_neg (by simp [this])]; rfl, hp⟩
      · have : (typeP l).2 = true := by simpa using q
        exact Ret.one ⟨by rw [if_pos this]; rfl, hp⟩
  | succ m ih =>
    intro j hj hok
    have hlt : j < l.length := by omega
    refine g6_L1_ret ?_
    unfold s6_L1
    rw [show decide ((j : Int) < (n : Int)) = true by simp; omega, aT, Sl.get0 h (i := (j : Int)) rfl (Its.at hlt) (Nat.le_refl _) (Nat.le_refl _)]
    simp only [It.c, List.take_succ_cons, List.take_zero, aCons, aInt, aStr, aNil]
    rw [show (Value.agg #[.int .i64 l[j].b, .string (bs l[j].t), .int .i64 l[j].n]) = l[j].v from rfl, sp14]
    simp only [aBind, aBool]
    refine Ret.cond (fun q => ?_) (fun q => ?_)
    · have hbad : itemP l[j] = false := by simpa using q
      refine Ret.one ⟨?_, Pre.refl _⟩
      rw [ckEnd_item (fun e => by rw [e l[j] (List.getElem_mem hlt)] at hbad; simp at hbad)]; rfl
    · have hgood : itemP l[j] = true := by simpa using q
      rw [w64 (by omega) (by omega), show ((j : Int) + 1) = ((j + 1 : Nat) : Int) by omega]
      refine ih (j + 1) (by omega) (fun i q hi => ?_)
      by_cases e : i = j
      · subst e; exact hgood
      · exact hok i q (by omega)

theorem sp6 {H : Heap} {a : Option Addr} {n c : Nat} {l : List It} (h : Its H a n c l) (hb : l.length ≤ 4611686018427387904) : Ret (CT Tb same 6 [.slice a n c] H) fun v H' => v = ckV (checkP l) ∧ Pre H H' := by
  have hn := h.len
  refine c6 ?_
  unfold s6
  have bad : checkP l = wrongT → Ret (g6_J0 Tb same a n c 0 0 true H) fun v H' => v = ckV (checkP l) ∧ Pre H H' := fun e =>
    g6_J0_ret (Ret.one ⟨by rw [e]; rfl, Pre.refl _⟩)
  refine Ret.cond (fun q => bad ?_) (fun q => ?_)
  · have : l = [] := by
      have : n = 0 := by simp at q; omega
      exact List.eq_nil_of_length_eq_zero (by omega)
    unfold checkP; rw [if_pos (.inl this)]
  · have hne : l ≠ [] := by rintro rfl; simp [hn] at q
    by_cases h6 : 65536 < l.length
    · rw [decide_eq_true (by omega)]
      exact bad (by unfold checkP; rw [if_pos (.inr h6)])
    · rw [decide_eq_false (by omega)]
      refine g6_J0_ret ?_
      unfold s6_J0
      rw [aF]
      have : checkP l = ckEnd (ck l) := by unfold checkP; rw [if_neg (by rintro (q | q); exact hne q; exact h6 q)]
      rw [this]
      exact sp6_loop h (by omega) hne 0 0 l.length 0 rfl (fun i _ q => by omega)

end Go.Proofs.YtknogapmjleliaaDoor
