/- More fuel does no harm; the limit. No condition. -/
import Derived.Test.YtknogapmjleliaaDoorAmR
namespace Go.AM
open Go

def CLe (C D : Callee) : Prop := ∀ f xs H r, C f xs H = some r → D f xs H = some r
def HLe (hs ht : Heap → Heap → Bool) : Prop := ∀ A B, hs A B = true → ht A B = true

theorem CLe.refl (C : Callee) : CLe C C := fun _ _ _ _ h => h
theorem CLe.trans {A B C : Callee} (h : CLe A B) (k : CLe B C) : CLe A C := fun f xs H r q => k f xs H r (h f xs H r q)
theorem HLe.refl (hs : Heap → Heap → Bool) : HLe hs hs := fun _ _ h => h

variable {C D : Callee} {hs ht : Heap → Heap → Bool} {fr : Fr} {H : Heap}

theorem stepA_mono (hC : CLe C D) {op : AOp} {r : SC × Fr × Heap} (h : stepA C fr H op = some r) : stepA D fr H op = some r := by
  cases op with
  | call f args =>
    simp only [stepA] at h ⊢
    split at h
    · split at h
      · rename_i hc; rw [hC _ _ _ _ hc]; exact h
      · simp at h
    · simp at h
  | callV f args =>
    simp only [stepA] at h ⊢
    split at h
    · split at h
      · rename_i hf
        split at h
        · rename_i hc; rw [hC _ _ _ _ hc]; exact h
        · simp at h
      · simp at h
    · simp at h
  | _ => exact h

theorem operA_mono (hC : CLe C D) {o : AOper} {r : Fr × Heap} (h : operA C fr H o = some r) : operA D fr H o = some r := by
  have go : ∀ r, (match stepA C fr H o.op with | some (x, fr', H') => some (putO fr' o.dst x, H') | none => none) = some r → (match stepA D fr H o.op with | some (x, fr', H') => some (putO fr' o.dst x, H') | none => none) = some r := by
    intro r h
    split at h
    · rename_i hst; rw [stepA_mono hC hst]; exact h
    · simp at h
  unfold operA at h ⊢
  cases hg : o.guard with
  | none => rw [hg] at h; exact go _ h
  | some p =>
    rw [hg] at h
    obtain ⟨s, w⟩ := p
    simp only at h ⊢
    split at h
    · rename_i hv
      split at h
      · rename_i hw; rw [if_pos hw]; exact go _ h
      · rename_i hw; rw [if_neg hw]; exact h
    · exact h
    · simp at h

theorem runOps_mono (hC : CLe C D) : ∀ {os : List AOper} {fr : Fr} {H : Heap} {r : Fr × Heap}, runOps C os fr H = some r → runOps D os fr H = some r
  | [], _, _, _, h => h
  | o :: os, fr, H, r, h => by
    simp only [runOps] at h ⊢
    split at h
    · rename_i ho; rw [operA_mono hC ho]; exact runOps_mono hC h
    · simp at h

theorem goA_mono (hC : CLe C D) (hh : HLe hs ht) {o : AOper} {r : List (Nat × SC) × Heap} (h : goA C hs fr H o = some r) : goA D ht fr H o = some r := by
  unfold goA at h ⊢
  split at h
  · rename_i hl
    rw [if_pos hl]
    split at h
    · rename_i hst
      rw [stepA_mono hC hst]
      simp only
      split at h
      · rename_i hc
        rw [if_pos]
        · exact h
        · simp only [Bool.or_eq_true, Bool.not_eq_true'] at hc ⊢
          rcases hc with h1 | h1 | h1
          · exact .inl h1
          · exact .inr (.inl h1)
          · exact .inr (.inr (hh _ _ h1))
      · simp at h
    · simp at h
  · simp at h

theorem effA_mono (hC : CLe C D) (hh : HLe hs ht) {o : AOper} {r : List (Nat × SC) × Heap} (h : effA C hs fr H o = some r) : effA D ht fr H o = some r := by
  unfold effA at h ⊢
  cases hg : o.guard with
  | none => rw [hg] at h; exact goA_mono hC hh h
  | some p =>
    rw [hg] at h
    obtain ⟨s, w⟩ := p
    simp only at h ⊢
    split at h
    · rename_i hv
      split at h
      · rename_i hw; rw [if_pos hw]; exact goA_mono hC hh h
      · rename_i hw; rw [if_neg hw]; exact h
    · exact h
    · simp at h

theorem eqU_mono (hh : HLe hs ht) : ∀ (a b : List (Nat × SC)), eqU hs a b = true → eqU ht a b = true
  | [], [], _ => rfl
  | (d, c) :: r, (e, k) :: l, h => by
    simp only [eqU, Bool.and_eq_true] at h ⊢
    exact ⟨h.1, hh _ _ h.2.1, eqU_mono hh r l h.2.2⟩
  | [], _ :: _, h => by simp [eqU] at h
  | _ :: _, [], h => by simp [eqU] at h

theorem again_mono (hC : CLe C D) (hh : HLe hs ht) {p : Pend} (h : p.again C hs H = true) : p.again D ht H = true := by
  unfold Pend.again at h ⊢
  split at h
  · rename_i he
    rw [effA_mono hC hh he]
    exact eqU_mono hh _ _ h
  · simp at h

theorem runD_mono (hC : CLe C D) (hh : HLe hs ht) : ∀ {os : List AOper} {i : Nat} {ps : List Pend} {fr : Fr} {H : Heap} {r : Fr × Heap}, runD C hs os i ps fr H = some r → runD D ht os i ps fr H = some r
  | [], _, _, _, _, _, h => h
  | o :: os, i, ps, fr, H, r, h => by
    simp only [runD] at h ⊢
    split at h
    · rename_i he
      rw [effA_mono hC hh he]
      simp only
      split at h
      · rename_i hc
        rw [if_pos]
        · exact runD_mono hC hh h
        · simp only [Bool.or_eq_true, List.all_eq_true] at hc ⊢
          rcases hc with h1 | h1
          · exact .inl h1
          · refine .inr fun p hp => ?_
            rcases h1 p hp with h2 | h2
            · exact .inl h2
            · exact .inr (again_mono hC hh h2)
      · simp at h
    · simp at h

theorem iter_mono {b d : Fr → Heap → Option (AExit × Fr × Heap)} (hb : ∀ fr H r, b fr H = some r → d fr H = some r) (keep : List Nat) : ∀ {n m : Nat} (_ : n ≤ m) {fr : Fr} {H : Heap} {r : AExit × Fr × Heap}, iter b keep n fr H = some r → iter d keep m fr H = some r
  | 0, _, _, _, _, _, h => by simp [iter] at h
  | n + 1, 0, hnm, _, _, _, _ => by omega
  | n + 1, m + 1, hnm, fr, H, r, h => by
    simp only [iter] at h ⊢
    split at h
    · rename_i hq
      rw [hb _ _ _ hq]
      exact iter_mono hb keep (by omega) h
    · rename_i hne
      cases hq : b (forget keep fr) H with
      | none => rw [hq] at h; simp at h
      | some x =>
        rw [hq] at h; simp at h; subst h
        rw [hb _ _ _ hq]
        obtain ⟨e, f, H'⟩ := x
        cases e with
        | nrm => exact (hne _ _ hq).elim
        | _ => rfl

theorem runC_mono (hC : CLe C D) (hh : HLe hs ht) {n m : Nat} (hnm : n ≤ m) : ∀ (c : ACode) {fr : Fr} {H : Heap} {r : AExit × Fr × Heap}, runC C hs n c fr H = some r → runC D ht m c fr H = some r := by
  intro c
  induction c with
  | skip => intro fr H r h; exact h
  | reg os =>
    intro fr H r h
    simp only [runC] at h ⊢
    split at h
    · rename_i ho; rw [runOps_mono hC ho]; exact h
    · simp at h
  | regD os =>
    intro fr H r h
    simp only [runC] at h ⊢
    split at h
    · rename_i ho; rw [runD_mono hC hh ho]; exact h
    · simp at h
  | seq a b iha ihb =>
    intro fr H r h
    simp only [runC] at h ⊢
    split at h
    · rename_i ha; rw [iha ha]; exact ihb h
    · rename_i hne
      rw [iha h]
      obtain ⟨e, f, H'⟩ := r
      cases e with
      | nrm => exact (hne _ _ h).elim
      | _ => rfl
  | seqj keep a b iha ihb =>
    intro fr H r h
    simp only [runC] at h ⊢
    split at h
    · rename_i ha; rw [iha ha]; exact ihb h
    · rename_i hne
      rw [iha h]
      obtain ⟨e, f, H'⟩ := r
      cases e with
      | nrm => exact (hne _ _ h).elim
      | _ => rfl
  | cond c a b iha ihb =>
    intro fr H r h
    simp only [runC] at h ⊢
    split at h
    · rename_i t hv
      split at h
      · rename_i ht; rw [if_pos ht]; exact iha h
      · rename_i ht; rw [if_neg ht]; exact ihb h
    · simp at h
  | block id b ih =>
    intro fr H r h
    simp only [runC] at h ⊢
    split at h
    · rename_i hb; rw [ih hb]; exact h
    · rename_i hne
      rw [ih h]
      obtain ⟨e, f, H'⟩ := r
      cases e with
      | ex i => exact (hne _ _ _ h).elim
      | _ => rfl
  | loop keep b ih =>
    intro fr H r h
    simp only [runC] at h ⊢
    exact iter_mono (fun fr H r q => ih q) keep hnm h
  | exit id => intro fr H r h; exact h
  | ret => intro fr H r h; exact h
  | scope b ih => intro fr H r h; simp only [runC] at h ⊢; exact ih h
  | stuckC => intro fr H r h; simp [runC] at h

theorem runF_mono (hC : CLe C D) (hh : HLe hs ht) {n m : Nat} (hnm : n ≤ m) {af : AFunc} {xs : List Value} {r : Value × Heap} (h : runF C hs n af xs H = some r) : runF D ht m af xs H = some r := by
  unfold runF at h ⊢
  split at h
  · rename_i hl
    rw [if_pos hl]
    cases hq : runC C hs n af.body (xs.map .v ++ List.replicate (af.nt - af.np) .no) H with
    | none => rw [hq] at h; simp at h
    | some x => rw [hq] at h; rw [runC_mono hC hh hnm _ hq]; exact h
  · simp at h

theorem callN_mono {T : Nat → Option AFn} (hh : HLe hs ht) : ∀ {k m : Nat} (_ : k ≤ m), CLe (callN T hs k) (callN T ht m)
  | 0, _, _ => fun f xs H r h => by simp [callN] at h
  | k + 1, 0, h => by omega
  | k + 1, m + 1, hkm => fun f xs H r h => by
    simp only [callN] at h ⊢
    split at h
    · exact runF_mono (callN_mono hh (by omega)) hh (by omega) h
    · exact h
    · simp at h

/-- the limit -/
noncomputable def CT (T : Nat → Option AFn) (hs : Heap → Heap → Bool) : Callee := fun f xs H =>
  open Classical in if h : ∃ r k, callN T hs k f xs H = some r then some (Classical.choose h) else none

theorem CT_of {T : Nat → Option AFn} {k f : Nat} {xs : List Value} {r : Value × Heap} (hh : HLe hs ht) (h : callN T hs k f xs H = some r) : CT T ht f xs H = some r := by
  have h0 := callN_mono (T := T) hh (Nat.le_refl k) _ _ _ _ h
  have hex : ∃ r k, callN T ht k f xs H = some r := ⟨r, k, h0⟩
  unfold CT
  rw [dif_pos hex]
  obtain ⟨k', h'⟩ := Classical.choose_spec hex
  have e1 := callN_mono (T := T) (HLe.refl ht) (Nat.le_max_left k k') _ _ _ _ h0
  have e2 := callN_mono (T := T) (HLe.refl ht) (Nat.le_max_right k k') _ _ _ _ h'
  rw [e1] at e2
  exact e2.symm

theorem of_CT {T : Nat → Option AFn} {f : Nat} {xs : List Value} {r : Value × Heap} (h : CT T hs f xs H = some r) : ∃ k, callN T hs k f xs H = some r := by
  unfold CT at h
  split at h
  · rename_i hex
    simp at h; subst h
    exact Classical.choose_spec hex
  · simp at h

theorem CT_ok {P : Program} {T : Nat → Option AFn} (hT : TableOk P T) (hhs : ∀ A B, hs A B = true → A = B) : CalleeOk P (CT T hs) := fun f xs H v H' h => by
  obtain ⟨k, h⟩ := of_CT h
  exact callN_ok hT hhs k f xs H v H' h

/-- heaps that are one -/
noncomputable def same : Heap → Heap → Bool := fun A B => open Classical in decide (A = B)
theorem same_ok : ∀ A B, same A B = true → A = B := fun A B h => by simpa [same] using h
theorem same_self (A : Heap) : same A A = true := by simp [same]
theorem le_same (h : ∀ A B, hs A B = true → A = B) : HLe hs same := fun A B q => by rw [h A B q]; exact same_self B

end Go.AM
