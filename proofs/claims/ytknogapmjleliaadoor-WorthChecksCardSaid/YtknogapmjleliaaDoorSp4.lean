/- worth.Check: what it answers, as a function of lists. No condition. -/
import Derived.Test.YtknogapmjleliaaDoorSp3
namespace Go.Proofs.YtknogapmjleliaaDoor
open Go Go.AM

def foldBoth : Ty → List Ty → Option Ty
  | t, [] => some t
  | t, u :: r => if (bothP t u).2 = true then foldBoth (bothP t u).1 r else none

def ckStep (x : It) (hp : List Ty) : Option (List Ty) :=
  if x.b ≠ 0 then (if bareP x = true then some (hp ++ [(x.b, 0)]) else none)
  else if x.n < 0 ∨ x.n > hp.length ∨ x.t ≠ [] then none
  else match foldBoth (0, 0) (hp.drop (hp.length - x.n.toNat)) with
    | some t => some (hp.take (hp.length - x.n.toNat) ++ [(t.1, t.2 + 1)])
    | none => none

/-- the types of what stands behind, the nearest one last -/
def ck : List It → Option (List Ty)
  | [] => some []
  | x :: r => match ck r with
    | some hp => ckStep x hp
    | none => none

def wrongT : Ty × Int := ((0, 0), 6)
def ckEnd : Option (List Ty) → Ty × Int
  | some [t] => if t.2 > 8 then wrongT else (t, 0)
  | _ => wrongT
def checkP (l : List It) : Ty × Int := if l = [] ∨ 65536 < l.length then wrongT else ckEnd (ck l)

def ckV (r : Ty × Int) : Value := .tuple #[tyV r.1, .int .i64 r.2]

theorem bothP_fit {a b : Ty} {m : Int} (ha : 0 ≤ a.2 ∧ a.2 ≤ m) (hb : 0 ≤ b.2 ∧ b.2 ≤ m) : 0 ≤ (bothP a b).1.2 ∧ (bothP a b).1.2 ≤ m := by
  unfold bothP
  split
  · simp only; split <;> assumption
  · split
    · exact hb
    · split
      · exact ha
      · exact ha

theorem foldBoth_fit {m : Int} : ∀ {us : List Ty} {t t' : Ty}, (0 ≤ t.2 ∧ t.2 ≤ m) → (∀ u ∈ us, 0 ≤ u.2 ∧ u.2 ≤ m) → foldBoth t us = some t' → 0 ≤ t'.2 ∧ t'.2 ≤ m
  | [], t, t', ht, _, h => by simp only [foldBoth, Option.some.injEq] at h; subst h; exact ht
  | u :: r, t, t', ht, hu, h => by
    simp only [foldBoth] at h
    split at h
    · exact foldBoth_fit (bothP_fit ht (hu u (List.mem_cons_self ..))) (fun v hv => hu v (List.mem_cons_of_mem _ hv)) h
    · simp at h

theorem Ty.at {l : List Ty} {j : Nat} (h : j < l.length) : (l.map Ty.c)[j]? = some (Ty.c l[j]) := by
  rw [List.getElem?_map, List.getElem?_eq_getElem h]; rfl

section
variable {a0 : Option Addr} {n0 c0 : Nat} {x2 x2_4 : Int} {a4 : Option Addr} {n4 c4 : Nat} {x5 x6 : Int} {x6_10 : ByteArray} {x6_11 : Int} {a71 : Option Addr} {n71 c71 : Nat} {H : Heap} {Q : Value → Heap → Prop}

theorem sp5_inner {us : List Ty} (hs : Sl H 2 a71 n71 c71 (us.map Ty.c)) (hb : us.length ≤ 65536) : ∀ (m j : Nat) (t : Ty), m + j = us.length → (foldBoth t (us.drop j) = none → Q (ckV wrongT) H) →
    (∀ t', foldBoth t (us.drop j) = some t' → Ret (g5_L4 Tb same a0 n0 c0 x2 x2_4 a4 n4 c4 x5 x6 x6_10 x6_11 t'.1 t'.2 a71 n71 c71 ((n71 : Nat) : Int) ((n71 : Nat) : Int) H) Q) →
    Ret (g5_L4 Tb same a0 n0 c0 x2 x2_4 a4 n4 c4 x5 x6 x6_10 x6_11 t.1 t.2 a71 n71 c71 ((n71 : Nat) : Int) (j : Int) H) Q := by
  have hn : n71 = us.length := by simpa using hs.1
  intro m
  induction m with
  | zero =>
    intro j t hj hfail hd
    have := hd t (by rw [List.drop_of_length_le (by omega)]; rfl)
    rwa [show (j : Int) = (n71 : Int) by omega]
  | succ m ih =>
    intro j t hj hfail hd
    have hlt : j < us.length := by omega
    have e1 : us.drop j = us[j] :: us.drop (j + 1) := List.drop_eq_getElem_cons hlt
    rw [e1] at hd hfail
    refine g5_L4_ret ?_
    unfold s5_L4
    refine Ret.cond (fun _ => ?_) (fun q => ?_)
    · rw [Sl.get0 hs rfl (Ty.at hlt) (Nat.le_refl _) (Nat.le_refl _)]
      simp only [Ty.c, List.take_succ_cons, List.take_zero, aCons, aInt, aNil]
      rw [show (Value.agg #[.int .i64 t.1, .int .i64 t.2]) = tyV t from rfl, show (Value.agg #[.int .i64 us[j].1, .int .i64 us[j].2]) = tyV us[j] from rfl, sp13]
      simp only [bothV, tyV, aBind, aTup, aAgg, aCons, aInt, aBool, aNil]
      refine Ret.cond (fun q => ?_) (fun q => ?_)
      · have : (bothP t us[j]).2 = false := by simpa using q
        exact Ret.one (hfail (by simp only [foldBoth]; rw [if_neg (by simp [this])]))
      · rw [w64 (by omega) (by omega), show ((j : Int) + 1) = ((j + 1 : Nat) : Int) by omega]
        have : (bothP t us[j]).2 = true := by simpa using q
        refine ih (j + 1) (bothP t us[j]).1 (by omega) (fun e => hfail (by simp only [foldBoth]; rw [if_pos this]; exact e)) ?_
        intro t' ht'
        refine hd t' ?_
        simp only [foldBoth]; rw [if_pos this]; exact ht'
    · simp only [decide_eq_false_iff_not] at q; omega

theorem sp5_inner_fail {us : List Ty} (hs : Sl H 2 a71 n71 c71 (us.map Ty.c)) (hb : us.length ≤ 65536) (hf : foldBoth (0, 0) us = none) (hfail : Q (ckV wrongT) H) :
    Ret (g5_L4 Tb same a0 n0 c0 x2 x2_4 a4 n4 c4 x5 x6 x6_10 x6_11 0 0 a71 n71 c71 ((n71 : Nat) : Int) 0 H) Q :=
  sp5_inner (x2 := x2) hs hb us.length 0 (0, 0) rfl (fun _ => hfail) (fun t' ht' => by rw [List.drop_zero, hf] at ht'; simp at ht')

end

theorem sp5_loop {H0 : Heap} {a : Option Addr} {n c : Nat} {l : List It} (h0 : Its H0 a n c l) (hb : l.length ≤ 65536) (x2 x2_4 : Int) :
    ∀ (j : Nat) (H : Heap) (a4 : Option Addr) (n4 c4 : Nat) (hp : List Ty), j ≤ l.length → Pre H0 H → Own H0.length H 26 2 a4 n4 c4 (hp.map Ty.c) → ck (l.drop j) = some hp → hp.length ≤ l.length - j → (∀ t ∈ hp, 0 ≤ t.2 ∧ t.2 ≤ ((l.length - j : Nat) : Int)) →
      Ret (g5_L1 Tb same a n c x2 x2_4 a4 n4 c4 ((j : Int) - 1) H) fun v H' => v = ckV (ckEnd (ck l)) ∧ Pre H0 H' := by
  intro j
  induction j with
  | zero =>
    intro H a4 n4 c4 hp hj hpre own hck hlen hfit
    rw [List.drop_zero] at hck
    have hn4 : n4 = hp.length := by simpa using own.1
    refine g5_L1_ret ?_
    unfold s5_L1
    rw [show decide (((0 : Nat) : Int) - 1 ≥ 0) = false from rfl, aF, hck]
    have bad : ckEnd (some hp) = wrongT → Ret (g5_J5 Tb same x2 x2_4 a4 n4 c4 true H) fun v H' => v = ckV (ckEnd (some hp)) ∧ Pre H0 H' := fun e => by
      refine g5_J5_ret (Ret.one ⟨?_, hpre⟩)
      rw [e]; rfl
    refine Ret.cond (fun q => ?_) (fun q => ?_)
    · refine bad ?_
      have : hp.length ≠ 1 := by simp only [bne_iff_ne] at q; omega
      unfold ckEnd
      split
      · rename_i hh; simp at hh; subst hh; simp at this
      · rfl
    · have h1 : hp.length = 1 := by simp at q; omega
      obtain ⟨t, rfl⟩ : ∃ t, hp = [t] := by
        match hp, h1 with
        | [t], _ => exact ⟨t, rfl⟩
      rw [Sl.get own.sl (i := 0) (j := 0) rfl (Ty.at (l := [t]) (by simp)) (d := 1) (m := 1) (k := 1) (by omega) (by omega)]
      simp only [Ty.c, List.getElem_cons_zero, cut, List.drop_succ_cons, List.drop_zero, List.take_succ_cons, List.take_zero, aCons, aInt, aNil]
      by_cases h8 : t.2 > 8
      · rw [decide_eq_true h8]
        exact bad (by simp only [ckEnd]; rw [if_pos h8])
      · rw [decide_eq_false h8]
        refine g5_J5_ret ?_
        unfold s5_J5
        rw [aF, Sl.get0 own.sl (i := 0) (j := 0) rfl (Ty.at (l := [t]) (by simp)) (Nat.le_refl _) (Nat.le_refl _)]
        simp only [Ty.c, List.getElem_cons_zero, List.take_succ_cons, List.take_zero, aCons, aInt, aNil]
        refine Ret.one ⟨?_, hpre⟩
        simp only [ckEnd]; rw [if_neg h8]; rfl
  | succ j ih =>
    intro H a4 n4 c4 hp hj hpre own hck hlen hfit
    have hlt : j < l.length := by omega
    have e1 : l.drop j = l[j] :: l.drop (j + 1) := List.drop_eq_getElem_cons hlt
    have hn4 : n4 = hp.length := by simpa using own.1
    have hck2 : ck (l.drop j) = ckStep l[j] hp := by rw [e1]; simp only [ck, hck]
    have none_out : ck (l.drop j) = none → ck l = none := by
      intro hnone
      have : ∀ i, i ≤ j → ck (l.drop (j - i)) = none := by
        intro i
        induction i with
        | zero => intro _; exact hnone
        | succ i ihi =>
          intro hi
          have hlt' : j - (i + 1) < l.length := by omega
          rw [List.drop_eq_getElem_cons hlt', show j - (i + 1) + 1 = j - i by omega]
          simp only [ck, ihi (by omega)]
      have := this j (Nat.le_refl _)
      simpa using this
    have hbad : ckStep l[j] hp = none → ckV wrongT = ckV (ckEnd (ck l)) := fun e => by
      rw [none_out (by rw [hck2, e])]; rfl
    generalize hx : l[j] = x at *
    rw [show (((j + 1 : Nat) : Int) - 1) = (j : Int) by omega]
    refine g5_L1_ret ?_
    unfold s5_L1
    rw [show decide ((j : Int) ≥ 0) = true by simp, aT, Sl.get0 (h0.mono hpre) (i := (j : Int)) (j := j) rfl (Its.at hlt) (Nat.le_refl _) (Nat.le_refl _), hx]
    simp only [It.c, List.take_succ_cons, List.take_zero, aCons, aInt, aStr, aNil]
    refine Ret.cond (fun q => ?_) (fun q => ?_)
    · have hb0 : x.b ≠ 0 := by simpa using q
      rw [show (Value.agg #[.int .i64 x.b, .string (bs x.t), .int .i64 x.n]) = x.v from rfl, sp12]
      simp only [tyV, aBind, aTup, aAgg, aCons, aInt, aBool, aNil]
      refine Ret.cond (fun q => ?_) (fun q => ?_)
      · have hbare : bareP x = false := by simpa using q
        exact Ret.one ⟨hbad (by unfold ckStep; rw [if_pos hb0, hbare]; rfl), hpre⟩
      · have hbare : bareP x = true := by simpa using q
        have hst : ckStep x hp = some (hp ++ [(x.b, 0)]) := by unfold ckStep; rw [if_pos hb0, if_pos hbare]
        obtain ⟨a', c', H', e, o, k⟩ := own.push hpre.len (x := Ty.c (x.b, 0)) (ty' := 26) (bytes := 16) rfl (by omega)
        simp only [Ty.c] at e
        rw [e]
        simp only [aBind, aSl]
        refine g5_J2_ret ?_
        unfold s5_J2
        rw [w64 (by omega) (by omega)]
        refine ih H' a' (n4 + 1) c' (hp ++ [(x.b, 0)]) (by omega) (own.pre (Nat.le_refl _) hpre k) (by simpa using o) (hck2.trans hst) (by simp; omega) ?_
        intro t ht
        rcases List.mem_append.1 ht with ht | ht
        · have := hfit t ht; omega
        · simp at ht; subst ht; simp
    · have hb0 : x.b = 0 := by simpa using q
      have hstep : ckStep x hp = if x.n < 0 ∨ x.n > hp.length ∨ x.t ≠ [] then none else match foldBoth (0, 0) (hp.drop (hp.length - x.n.toNat)) with
          | some t => some (hp.take (hp.length - x.n.toNat) ++ [(t.1, t.2 + 1)])
          | none => none := by unfold ckStep; rw [if_neg (by simp [hb0])]
      have bad : (x.n < 0 ∨ x.n > hp.length ∨ x.t ≠ []) → Ret (g5_J3 Tb same a n c x2 x2_4 a4 n4 c4 (j : Int) x.b (bs x.t) x.n true H) fun v H' => v = ckV (ckEnd (ck l)) ∧ Pre H0 H' := fun e => by
        exact g5_J3_ret (Ret.one ⟨hbad (by rw [hstep, if_pos e]), hpre⟩)
      refine Ret.cond (fun q => ?_) (fun q1 => Ret.cond (fun q => ?_) (fun q2 => ?_))
      · exact bad (.inl (by simpa using q))
      · simp only [decide_eq_true_eq] at q; exact bad (.inr (.inl (by omega)))
      · simp only [decide_eq_false_iff_not] at q1 q2
        rw [show (⟨#[]⟩ : ByteArray) = bs [] from rfl, bs_beq]
        by_cases ht : x.t = []
        · have hgood : ¬ (x.n < 0 ∨ x.n > hp.length ∨ x.t ≠ []) := by
            rintro (q | q | q)
            · omega
            · omega
            · exact q ht
          rw [if_neg hgood] at hstep
          obtain ⟨N, hN⟩ : ∃ N : Nat, x.n = N := ⟨x.n.toNat, by omega⟩
          have hNle : N ≤ hp.length := by omega
          rw [ht, show (!(([] : List UInt8) == [])) = false from rfl]
          refine g5_J3_ret ?_
          unfold s5_J3
          rw [aF, w64 (by omega) (by omega)]
          have hd : ((n4 : Int) - x.n) = ((n4 - N : Nat) : Int) := by omega
          rw [hd]
          obtain ⟨b, e2, s2⟩ := own.sl.from (i := ((n4 - N : Nat) : Int)) (j := n4 - N) rfl (by omega)
          rw [e2]
          simp only [aBind, aSl]
          rw [List.map_drop.symm] at s2
          have hdrop : hp.length - x.n.toNat = n4 - N := by omega
          rw [hdrop] at hstep
          cases hfold : foldBoth (0, 0) (hp.drop (n4 - N)) with
          | none =>
            rw [hfold] at hstep
            exact sp5_inner_fail s2 (by simp; omega) hfold ⟨hbad hstep, hpre⟩
          | some t =>
            rw [hfold] at hstep
            have hft : 0 ≤ t.2 ∧ t.2 ≤ ((l.length - (j + 1) : Nat) : Int) := foldBoth_fit (by simp) (fun u hu => hfit u (List.mem_of_mem_drop hu)) hfold
            refine sp5_inner s2 (by simp; omega) (Q := fun v H' => v = ckV (ckEnd (ck l)) ∧ Pre H0 H') (hp.drop (n4 - N)).length 0 (0, 0) rfl ?_ ?_
            · intro e; rw [List.drop_zero, hfold] at e; simp at e
            · intro t' ht'
              rw [List.drop_zero, hfold] at ht'
              obtain rfl : t = t' := by simpa using ht'
              refine g5_L4_ret ?_
              unfold s5_L4
              rw [show decide (((n4 - (n4 - N) : Nat) : Int) < ((n4 - (n4 - N) : Nat) : Int)) = false by simp, aF]
              rw [w64 (n := (n4 : Int) - x.n) (by omega) (by omega), hd]
              have u1 := own.upto (i := ((n4 - N : Nat) : Int)) (j := n4 - N) rfl (by omega)
              rw [u1.1]
              simp only [aBind, aSl]
              have u2 := (own.mono (Pre.app H [.cells 26 2 [(.int .i64 t.1), (.int .i64 (IntKind.wrap .i64 (t.2 + 1)))] 0 0 0 false])).upto (i := ((n4 - N : Nat) : Int)) (j := n4 - N) rfl (by omega)
              rw [u2.1]
              simp only [aBind, same_self, Bool.and_true, aT]
              rw [w64 (n := t.2 + 1) (by omega) (by omega)]
              obtain ⟨a', c', H', e, o, k⟩ := u1.2.push hpre.len (x := Ty.c (t.1, t.2 + 1)) (ty' := 26) (bytes := 16) rfl (by omega)
              simp only [Ty.c] at e
              rw [e]
              simp only [aBind, aSl]
              refine g5_J2_ret ?_
              unfold s5_J2
              rw [w64 (by omega) (by omega)]
              refine ih H' a' (n4 - N + 1) c' (hp.take (n4 - N) ++ [(t.1, t.2 + 1)]) (by omega) (u1.2.pre (Nat.le_refl _) hpre k) (by simpa [List.map_take] using o) (hck2.trans hstep) (by simp; omega) ?_
              intro u hu
              rcases List.mem_append.1 hu with hu | hu
              · have := hfit u (List.mem_of_mem_take hu); omega
              · simp at hu; subst hu; simp only; omega
        · rw [show (!(x.t == [])) = true by simpa using ht]
          exact bad (.inr (.inr ht))

theorem sp5 {H : Heap} {a : Option Addr} {n c : Nat} {l : List It} (h : Its H a n c l) (hb : l.length ≤ 4611686018427387904) : Ret (CT Tb same 5 [.slice a n c] H) fun v H' => v = ckV (checkP l) ∧ Pre H H' := by
  have hn := h.len
  refine c5 ?_
  unfold s5
  have bad : checkP l = wrongT → Ret (g5_J0 Tb same a n c 0 0 true H) fun v H' => v = ckV (checkP l) ∧ Pre H H' := fun e =>
    g5_J0_ret (Ret.one ⟨by rw [e]; rfl, Pre.refl _⟩)
  refine Ret.cond (fun q => bad ?_) (fun q => ?_)
  · have : l = [] := by
      have : n = 0 := by simp at q; omega
      exact List.eq_nil_of_length_eq_zero (by omega)
    unfold checkP; rw [if_pos (.inl this)]
  · have hne : l ≠ [] := by rintro rfl; simp [hn] at q
    by_cases h6 : 65536 < l.length
    · rw [decide_eq_true (by omega)]
      exact bad (by unfold checkP; rw [if_pos (.inr h6)])
    · rw [decide_eq_false (by omega)]
      refine g5_J0_ret ?_
      unfold s5_J0
      rw [aF, w64 (by omega) (by omega)]
      have : checkP l = ckEnd (ck l) := by unfold checkP; rw [if_neg (by rintro (q | q); exact hne q; exact h6 q)]
      rw [this, show ((n : Int) - 1) = ((l.length : Int) - 1) by omega]
      refine sp5_loop h (by omega) 0 0 l.length H none 0 0 [] (Nat.le_refl _) (Pre.refl _) (Own.nil _ _ _ _) (by rw [List.drop_length]; rfl) (by simp) (by simp)

end Go.Proofs.YtknogapmjleliaaDoor
