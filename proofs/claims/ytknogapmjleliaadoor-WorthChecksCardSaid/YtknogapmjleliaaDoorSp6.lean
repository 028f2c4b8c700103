/- The document's Type over items: what it answers. No condition. -/
import Derived.Test.YtknogapmjleliaaDoorSp5
namespace Go.Proofs.YtknogapmjleliaaDoor
open Go Go.AM

def Cp (ts : List Ty) (es : List Int) : Nat → List (Ty × Nat) → Prop
  | _, [] => True
  | i, (t, e) :: w => ts[i]? = some t ∧ es[i]? = some (e : Int) ∧ Cp ts es e w

theorem Chain.cp {ts : List Ty} {es : List Int} {L : Nat} : ∀ {k : Nat} {st : List (Ty × Nat)} {i : Nat}, Chain ts es L i st → Cp ts es i (st.take k)
  | 0, st, i, _ => trivial
  | k + 1, [], i, _ => trivial
  | k + 1, (t, e) :: st, i, h => ⟨h.2.1, h.2.2.1, Chain.cp h.2.2.2.2⟩

def RJ (k : Nat) (t : Ty) (us : List Ty) : Option Ty := if k = 0 then foldJ us else foldBoth t us

def typeV (r : Ty × Bool) : Value := .tuple #[tyV r.1, .bool r.2]
def noT : Ty × Bool := ((0, 0), false)

theorem get_map {α : Type} {f : α → List Value} {l : List α} {j : Nat} {x : α} (h : l[j]? = some x) : (l.map f)[j]? = some (f x) := by rw [List.getElem?_map, h]; rfl

section
variable {a : Option Addr} {n c : Nat} {l : List It} {x2 x2_4 : Int} {a4 a5 : Option Addr} {n4 c4 n5 c5 : Nat} {ts : List Ty} {es : List Int} {H : Heap} {Q : Value → Heap → Prop} {i N : Nat}

theorem sp16_inner (h : Its H a n c l) (hi : i < l.length) (hN : l[i].n = (N : Int)) (hNb : N ≤ 65536) (ht : Sl H 2 a4 n4 c4 (ts.map Ty.c)) (he : Sl H 1 a5 n5 c5 (es.map intC)) :
    ∀ (w : List (Ty × Nat)) (k at_ : Nat) (t : Ty), Cp ts es at_ w → (k = 0 → t = (0, 0)) → k + w.length = N →
      (RJ k t (w.map (·.1)) = none → Q (typeV noT) H) →
      (∀ t', RJ k t (w.map (·.1)) = some t' → Ret (g16_L2 Tb same a n c x2 x2_4 a4 n4 c4 a5 n5 c5 (i : Int) t'.1 t'.2 true ((((w.getLast?.map (·.2)).getD at_ : Nat)) : Int) (N : Int) H) Q) →
      Ret (g16_L2 Tb same a n c x2 x2_4 a4 n4 c4 a5 n5 c5 (i : Int) t.1 t.2 true (at_ : Int) (k : Int) H) Q := by
  intro w
  induction w with
  | nil =>
    intro k at_ t _ hk hkN _ hd
    simp only [List.length_nil, Nat.add_zero] at hkN
    subst hkN
    refine hd t ?_
    unfold RJ
    split
    · rename_i h0; rw [hk h0]; rfl
    · rfl
  | cons p w ih =>
    intro k at_ t hcp hk hkN hf hd
    obtain ⟨u, e⟩ := p
    obtain ⟨h1, h2, h3⟩ := hcp
    simp only [List.length_cons] at hkN
    have rd := fun (g : List Value → Option (Value × Heap)) => Sl.get (R := Value × Heap) h (i := (i : Int)) rfl (Its.at hi) (d := 2) (m := 1) (k := 1) (by omega) (by omega) g
    have hc : cut (It.c l[i]) 2 1 = [Value.int .i64 l[i].n] := rfl
    have rt := fun (g : List Value → Option (Value × Heap)) => Sl.get0 (R := Value × Heap) ht (i := (at_ : Int)) rfl (get_map h1) (m := 2) (k := 2) (by omega) (by omega) g
    have re := fun (g : List Value → Option (Value × Heap)) => Sl.get0 (R := Value × Heap) he (i := (at_ : Int)) rfl (get_map h2) (m := 1) (k := 1) (by omega) (by omega) g
    refine g16_L2_ret ?_
    unfold s16_L2
    rw [rd, hc]
    simp only [aCons, aInt, aNil]
    rw [hN, show decide ((k : Int) < (N : Int)) = true by simp; omega, aT]
    -- behind the choice of the type
    have next : ∀ t1 : Ty, (RJ (k + 1) t1 (w.map (·.1)) = RJ k t ((u, e) :: w |>.map (·.1))) → Ret (g16_J3 Tb same a n c x2 x2_4 a4 n4 c4 a5 n5 c5 (i : Int) t1.1 t1.2 true (at_ : Int) (k : Int) H) Q := by
      intro t1 hr
      refine g16_J3_ret ?_
      unfold s16_J3
      rw [show (!true) = false from rfl, aF, re]
      simp only [intC, List.take_succ_cons, List.take_zero, aCons, aInt, aNil]
      rw [w64 (by omega) (by omega), show ((k : Int) + 1) = ((k + 1 : Nat) : Int) by omega]
      refine ih (k + 1) e t1 h3 (by omega) (by omega) (fun q => hf (by rw [← hr]; exact q)) (fun t' q => ?_)
      have := hd t' (by rw [← hr]; exact q)
      have e1 : ((((u, e) :: w).getLast?.map (·.2)).getD at_) = ((w.getLast?.map (·.2)).getD e) := by
        rw [List.getLast?_cons]
        cases w with
        | nil => rfl
        | cons v vs => simp [List.getLast?_cons]
      rw [e1] at this
      exact this
    refine Ret.cond (fun q => ?_) (fun q => ?_)
    · have hk0 : k = 0 := by simp at q; omega
      rw [rt]
      simp only [Ty.c, List.take_succ_cons, List.take_zero, aCons, aInt, aNil]
      refine next u ?_
      subst hk0
      simp [RJ, foldJ]
    · have hk0 : k ≠ 0 := by simp at q; omega
      rw [rt]
      simp only [Ty.c, List.take_succ_cons, List.take_zero, aCons, aInt, aNil]
      rw [show (Value.agg #[.int .i64 t.1, .int .i64 t.2]) = tyV t from rfl, show (Value.agg #[.int .i64 u.1, .int .i64 u.2]) = tyV u from rfl, sp28]
      simp only [bothV, tyV, aBind, same_self, aT, aTup, aAgg, aCons, aInt, aBool, aNil]
      cases hb : (bothP t u).2 with
      | true =>
        refine next (bothP t u).1 ?_
        simp only [RJ, if_neg hk0, if_neg (Nat.succ_ne_zero k), List.map_cons, foldBoth]
        rw [if_pos hb]
      | false =>
        refine g16_J3_ret ?_
        unfold s16_J3
        rw [show (!false) = true from rfl, aT]
        refine Ret.one (hf ?_)
        simp only [RJ, if_neg hk0, List.map_cons, foldBoth]
        rw [if_neg (by simp [hb])]
end

theorem foldJ_fit {m : Int} (hm : 0 ≤ m) {us : List Ty} {t' : Ty} (hu : ∀ u ∈ us, 0 ≤ u.2 ∧ u.2 ≤ m) (h : foldJ us = some t') : 0 ≤ t'.2 ∧ t'.2 ≤ m := by
  cases us with
  | nil => simp [foldJ] at h; subst h; exact ⟨Int.le_refl _, hm⟩
  | cons u us => exact foldBoth_fit (hu u (List.mem_cons_self ..)) (fun v hv => hu v (List.mem_cons_of_mem _ hv)) h

/-- Type's answer -/
def typeE : Option (List (Ty × Nat)) → Ty × Bool
  | some ((t, _) :: _) => (t, decide (t.2 ≤ 8))
  | _ => noT
def typeP (l : List It) : Ty × Bool := typeE (tk 0 l)

theorem cnt_drop {l : List It} {k : Nat} (h : cnt l = some k) : ∀ j, ∃ k', cnt (l.drop j) = some k' := by
  intro j
  induction j generalizing l k with
  | zero => exact ⟨k, h⟩
  | succ j ih =>
    cases l with
    | nil => exact ⟨0, rfl⟩
    | cons x r =>
      rw [List.drop_succ_cons]
      simp only [cnt] at h
      split at h
      · rename_i k' hk'; exact ih hk'
      · simp at h

theorem tk_none {l : List It} : ∀ {j : Nat}, j ≤ l.length → tk j (l.drop j) = none → tk 0 l = none := by
  intro j
  induction j with
  | zero => intro _ h; simpa using h
  | succ j ih =>
    intro hj h
    have hlt : j < l.length := by omega
    refine ih (by omega) ?_
    rw [List.drop_eq_getElem_cons hlt]
    simp only [tk, h]

theorem Own.rows {B : Nat} {H H' : Heap} {ty sz n c : Nat} {a a' : Option Addr} {xs : List (List Value)} (h : Own B H ty sz a n c xs) (k : Chd a' a' H H') (hne : rowOf a ≠ rowOf a') : Own B H' ty sz a n c xs :=
  h.keep k (fun g hg e => hne (by rw [hg, e]))

theorem sp16_loop {H0 : Heap} {a : Option Addr} {n c : Nat} {l : List It} (h0 : Its H0 a n c l) (hb : l.length ≤ 65536) (hit : ∀ x ∈ l, itemP x = true) {k0 : Nat} (hcnt : cnt l = some k0) (x2 x2_4 : Int) {a4 a5 : Option Addr} {c4 c5 : Nat} (hne : rowOf a4 ≠ rowOf a5) :
    ∀ (j : Nat) (H : Heap) (ts : List Ty) (es : List Int) (st : List (Ty × Nat)), j ≤ l.length → Pre H0 H → Own H0.length H 26 2 a4 n c4 (ts.map Ty.c) → Own H0.length H 3 1 a5 n c5 (es.map intC) → ts.length = n → es.length = n →
      tk j (l.drop j) = some st → Chain ts es l.length j st → (∀ p ∈ st, 0 ≤ p.1.2 ∧ p.1.2 ≤ ((l.length - j : Nat) : Int)) → l ≠ [] →
      Ret (g16_L0 Tb same a n c x2 x2_4 a4 n c4 a5 n c5 ((j : Int) - 1) H) fun v H' => v = typeV (typeP l) ∧ Pre H0 H' := by
  have hn := h0.len
  intro j
  induction j with
  | zero =>
    intro H ts es st hj hpre o4 o5 hts hes hst hch hfit hl
    rw [List.drop_zero] at hst
    refine g16_L0_ret ?_
    unfold s16_L0
    rw [show decide (((0 : Nat) : Int) - 1 ≥ 0) = false from rfl, aF]
    have hlen : 0 < l.length := List.length_pos_iff.2 hl
    obtain ⟨t, e, st', rfl⟩ : ∃ t e st', st = (t, e) :: st' := by
      cases st with
      | nil => have : (0 : Nat) = l.length := hch; omega
      | cons p st' => exact ⟨p.1, p.2, st', rfl⟩
    have h1 := hch.2.1
    rw [Sl.get0 o4.sl (i := 0) (j := 0) rfl (get_map h1) (Nat.le_refl _) (Nat.le_refl _)]
    simp only [Ty.c, List.take_succ_cons, List.take_zero, aCons, aInt, aNil]
    rw [Sl.get o4.sl (i := 0) (j := 0) rfl (get_map h1) (d := 1) (m := 1) (k := 1) (by omega) (by omega)]
    simp only [Ty.c, cut, List.drop_succ_cons, List.drop_zero, List.take_succ_cons, List.take_zero, aCons, aInt, aNil]
    refine Ret.one ⟨?_, hpre⟩
    unfold typeP; rw [hst]; rfl
  | succ j ih =>
    intro H ts es st hj hpre o4 o5 hts hes hst hch hfit hl
    have hlt : j < l.length := by omega
    have e1 : l.drop j = l[j] :: l.drop (j + 1) := List.drop_eq_getElem_cons hlt
    have htk : tk j (l.drop j) = if l[j].b ≠ 0 then some (((l[j].b, 0), j + 1) :: st) else match foldJ ((st.take l[j].n.toNat).map (·.1)) with
        | none => none
        | some t => some (((t.1, t.2 + 1), ((st.take l[j].n.toNat).getLast?.map (·.2)).getD (j + 1)) :: st.drop l[j].n.toNat) := by
      rw [e1]; unfold tk; rw [hst]; rfl
    obtain ⟨k1, hk1⟩ := cnt_drop hcnt j
    have hk1' := hk1
    rw [e1] at hk1'
    simp only [cnt] at hk1'
    obtain ⟨k2, hk2⟩ := cnt_drop hcnt (j + 1)
    rw [hk2] at hk1'
    simp only at hk1'
    have hNk : 0 ≤ l[j].n ∧ l[j].n ≤ k2 := by
      split at hk1'
      · assumption
      · simp at hk1'
    have hstl := tk_len (fun y hy => hit y (List.mem_of_mem_drop hy)) hk2 hst
    have hitj := hit l[j] (List.getElem_mem hlt)
    have hIts := h0.mono hpre
    generalize hx : l[j] = x at *
    rw [show (((j + 1 : Nat) : Int) - 1) = (j : Int) by omega]
    refine g16_L0_ret ?_
    unfold s16_L0
    have rd := fun (g : List Value → Option (Value × Heap)) => Sl.get (R := Value × Heap) hIts (i := (j : Int)) rfl (Its.at hlt) (d := 0) (m := 3) (k := 1) (by omega) (by omega) g
    rw [hx] at rd
    have hc : cut (It.c x) 0 1 = [Value.int .i64 x.b] := rfl
    rw [show decide ((j : Int) ≥ 0) = true by simp, aT, rd, hc]
    simp only [aCons, aInt, aNil]
    -- the two writes, and on
    have write : ∀ (t : Ty) (e : Nat) (st' : List (Ty × Nat)), e ≤ l.length → j < e → Chain ts es l.length e st' → tk j (l.drop j) = some ((t, e) :: st') → (∀ p ∈ st', 0 ≤ p.1.2 ∧ p.1.2 ≤ ((l.length - j : Nat) : Int)) → (0 ≤ t.2 ∧ t.2 ≤ ((l.length - j : Nat) : Int)) →
        Ret ((ixA H 2 (.slice a4 n c4) (j : Int)).bind fun q38 => (wrHp H q38.1 q38.2.1 q38.2.2 2 (Ty.c t)).bind fun H_1 => (ixA H_1 1 (.slice a5 n c5) (j : Int)).bind fun q43 =>
          (wrHp H_1 q43.1 q43.2.1 q43.2.2 1 (intC (e : Int))).bind fun H_2 => g16_J1 Tb same a n c x2 x2_4 a4 n c4 a5 n c5 (j : Int) H_2) fun v H' => v = typeV (typeP l) ∧ Pre H0 H' := by
      intro t e st' he hje hch' htk' hf' hft
      have hjn : j < ts.length := by omega
      have hjn' : j < es.length := by omega
      obtain ⟨H1, w1, o4', k1⟩ := o4.put0 (R := Value × Heap) (i := (j : Int)) (j := j) rfl (Ty.at hjn) (m := 2) (y := Ty.c t) (Nat.le_refl _) rfl
      rw [w1]
      have o5' := Own.rows o5 k1 hne.symm
      have p1 := o4.pre (Nat.le_refl _) hpre k1
      obtain ⟨H2, w2, o5'', k2⟩ := o5'.put0 (R := Value × Heap) (i := (j : Int)) (j := j) rfl (get_map (f := intC) (List.getElem?_eq_getElem hjn')) (m := 1) (y := intC (e : Int)) (Nat.le_refl _) rfl
      rw [w2]
      have o4'' := Own.rows o4' k2 hne
      have p2 := o5'.pre (Nat.le_refl _) p1 k2
      refine g16_J1_ret ?_
      unfold s16_J1
      rw [w64 (by omega) (by omega)]
      refine ih H2 (ts.set j t) (es.set j (e : Int)) ((t, e) :: st') (by omega) p2 (by rw [List.map_set]; exact o4'') (by rw [List.map_set]; exact o5'') (by simpa using hts) (by simpa using hes) htk' ?_ ?_ hl
      · exact ⟨by omega, by rw [List.getElem?_set_self hjn], by rw [List.getElem?_set_self hjn'], hje, Chain.set hje hch'⟩
      · intro p hp
        rcases List.mem_cons.1 hp with rfl | hp
        · exact hft
        · exact hf' p hp
    have hwide : ∀ p ∈ st, 0 ≤ p.1.2 ∧ p.1.2 ≤ ((l.length - j : Nat) : Int) := fun p hp => by have := hfit p hp; omega
    refine Ret.cond (fun q => ?_) (fun q => ?_)
    · have hb0 : x.b ≠ 0 := by simpa using q
      rw [rd, hc]
      simp only [aCons, aInt, aNil]
      rw [w64 (by omega) (by omega), show ((j : Int) + 1) = ((j + 1 : Nat) : Int) by omega]
      exact write (x.b, 0) (j + 1) st (by omega) (by omega) hch (by rw [htk, if_pos hb0]) hwide (by simp)
    · have hb0 : x.b = 0 := by simpa using q
      obtain ⟨N, hN⟩ : ∃ N : Nat, x.n = (N : Int) := ⟨x.n.toNat, by omega⟩
      have hNl : N ≤ st.length := by omega
      have hk2l : k2 ≤ l.length := by
        have : ∀ (r : List It) (k : Nat), cnt r = some k → k ≤ r.length := by
          intro r
          induction r with
          | nil => intro k hk; simp [cnt] at hk; omega
          | cons y r ihr =>
            intro k hk
            simp only [cnt] at hk
            split at hk
            · rename_i k' hk'
              have := ihr k' hk'
              split at hk
              · simp only [Option.some.injEq] at hk; simp only [List.length_cons]; omega
              · simp at hk
            · simp at hk
        have := this _ _ hk2
        simp only [List.length_drop] at this; omega
      have hNt : x.n.toNat = N := by omega
      rw [if_neg (by simp [hb0]), hNt] at htk
      have hcd := Chain.drop hNl hch
      rw [w64 (by omega) (by omega), show ((j : Int) + 1) = ((j + 1 : Nat) : Int) by omega]
      refine sp16_inner (l := l) (ts := ts) (es := es) (N := N) hIts hlt (by rw [hx]; exact hN) (by omega) o4.sl o5.sl (Q := fun v H' => v = typeV (typeP l) ∧ Pre H0 H') (st.take N) 0 (j + 1) (0, 0) hch.cp (fun _ => rfl) (by rw [List.length_take]; omega) ?_ ?_
      · intro hnone
        refine ⟨?_, hpre⟩
        have : foldJ ((st.take N).map (·.1)) = none := by simpa [RJ] using hnone
        rw [this] at htk
        unfold typeP; rw [tk_none (by omega) htk]; rfl
      · intro t' ht'
        have hJ : foldJ ((st.take N).map (·.1)) = some t' := by simpa [RJ] using ht'
        rw [hJ] at htk
        have hft : 0 ≤ t'.2 ∧ t'.2 ≤ ((l.length - (j + 1) : Nat) : Int) := by
          refine foldJ_fit (by omega) ?_ hJ
          intro u hu
          obtain ⟨p, hp, rfl⟩ := List.mem_map.1 hu
          exact hfit p (List.mem_of_mem_take hp)
        refine g16_L2_ret ?_
        unfold s16_L2
        have rd2 := fun (g : List Value → Option (Value × Heap)) => Sl.get (R := Value × Heap) hIts (i := (j : Int)) rfl (Its.at hlt) (d := 2) (m := 1) (k := 1) (by omega) (by omega) g
        rw [hx] at rd2
        have hc2 : cut (It.c x) 2 1 = [Value.int .i64 x.n] := rfl
        rw [rd2, hc2]
        simp only [aCons, aInt, aNil]
        rw [hN, show decide ((N : Int) < (N : Int)) = false by simp, aF, w64 (by omega) (by omega)]
        exact write (t'.1, t'.2 + 1) _ (st.drop N) (Chain.le hcd.1) (by omega) hcd.1 htk (fun p hp => hwide p (List.mem_of_mem_drop hp)) (by simp only; omega)

theorem sp16 {H : Heap} {a : Option Addr} {n c : Nat} {l : List It} (h : Its H a n c l) (hb : l.length ≤ 65536) (hit : ∀ x ∈ l, itemP x = true) {k0 : Nat} (hcnt : cnt l = some k0) (hl : l ≠ []) :
    Ret (CT Tb same 16 [.slice a n c] H) fun v H' => v = typeV (typeP l) ∧ Pre H H' := by
  have hn := h.len
  refine c16 ?_
  unfold s16
  obtain ⟨a4, H1, e1, o4, p1, g1, r1, _⟩ := mk_own (B := H.length) (H := H) (ty := 26) (sz := 2) (bytes := 16) (z := [.int .i64 0, .int .i64 0]) (i := (n : Int)) (n := n) (Nat.le_refl _) rfl rfl (by omega) (by omega)
  rw [e1]
  simp only [aBind, aSl]
  obtain ⟨a5, H2, e2, o5, p2, g2, r2, hg2⟩ := mk_own (B := H.length) (H := H1) (ty := 3) (sz := 1) (bytes := 8) (z := [.int .i64 0]) (i := (n : Int)) (n := n) p1.len rfl rfl (by omega) (by omega)
  rw [e2]
  simp only [aBind, aSl]
  have hg1 := (o4.base g1 r1).2
  rw [w64 (by omega) (by omega), show ((n : Int) - 1) = ((l.length : Int) - 1) by omega]
  refine sp16_loop h hb hit hcnt 0 0 (by rw [r1, r2]; intro e; simp at e; omega) l.length H2 (List.replicate n (0, 0)) (List.replicate n 0) [] (Nat.le_refl _) (p1.trans p2) ?_ ?_ (by simp) (by simp) (by rw [List.drop_length]; rfl) rfl (by simp) hl
  · have := o4.mono p2
    rw [List.map_replicate]; exact this
  · rw [List.map_replicate]; exact o5

end Go.Proofs.YtknogapmjleliaaDoor
