/- Regions that draw their order: every order comes to what the text's order comes to. No condition. -/
import Derived.Test.YtknogapmjleliaaDoorAmT
namespace Go.AM
open Go

variable {P : Program} {L0 L : Locs} {w0 w : World} {lam : Nat → Nat} {fr fr' fr1 : Fr} {H H' H1 : Heap} {a : Act} {C : Callee} {c : SC} {hs : Heap → Heap → Bool}

def AOper.reads (o : AOper) : List Nat := o.op.slots ++ ((match o.guard with | some (s, _) => [s] | none => []) ++ o.loc.toList)
def AOper.writes (o : AOper) : List Nat := (storesAt o).toList ++ o.dst.toList

def keys (us : List (Nat × SC)) : List Nat := us.map (·.1)

theorem applyU_length (fr : Fr) (us : List (Nat × SC)) : (applyU fr us).length = fr.length := by
  induction us generalizing fr with
  | nil => rfl
  | cons u us ih => unfold applyU at ih ⊢; simp only [List.foldl_cons]; rw [ih]; simp

theorem applyU_out {fr : Fr} {us : List (Nat × SC)} {s : Nat} (h : s ∉ keys us) : (applyU fr us)[s]? = fr[s]? := by
  induction us generalizing fr with
  | nil => rfl
  | cons u us ih =>
    simp only [keys, List.map_cons, List.mem_cons, not_or] at h
    unfold applyU at ih ⊢
    simp only [List.foldl_cons]
    rw [ih h.2, List.getElem?_set_ne (Ne.symm h.1)]

theorem applyU_same {f g : Fr} {us : List (Nat × SC)} {s : Nat} (hl : f.length = g.length) (h : f[s]? = g[s]?) : (applyU f us)[s]? = (applyU g us)[s]? := by
  induction us generalizing f g with
  | nil => exact h
  | cons u us ih =>
    unfold applyU at ih ⊢
    simp only [List.foldl_cons]
    refine ih (by simp [hl]) ?_
    simp only [List.getElem?_set]
    split
    · rw [hl]
    · exact h

theorem applyU_in {f g : Fr} {us : List (Nat × SC)} {s : Nat} (hl : f.length = g.length) (h : s ∈ keys us) : (applyU f us)[s]? = (applyU g us)[s]? := by
  induction us generalizing f g with
  | nil => simp [keys] at h
  | cons u us ih =>
    by_cases hk : s ∈ keys us
    · unfold applyU at ih ⊢
      simp only [List.foldl_cons]
      exact ih (by simp [hl]) hk
    · simp only [keys, List.map_cons, List.mem_cons] at h
      have hu : s = u.1 := by
        rcases h with h | h
        · exact h
        · exact (hk h).elim
      have e1 := applyU_out (fr := f.set u.1 u.2) hk
      have e2 := applyU_out (fr := g.set u.1 u.2) hk
      unfold applyU at e1 e2 ⊢
      simp only [List.foldl_cons]
      rw [e1, e2]
      subst hu
      simp [List.getElem?_set, hl]

theorem keys_dst (o : AOper) (c : SC) : ∀ s ∈ keys (dstU o.dst c), s ∈ o.writes := by
  intro s h
  unfold AOper.writes
  rw [List.mem_append]
  right
  cases hd : o.dst with
  | none => rw [hd] at h; simp [dstU, keys] at h
  | some d => rw [hd] at h; simpa [dstU, keys] using h

theorem eff_keys {o : AOper} {us : List (Nat × SC)} (h : effA C hs fr H o = some (us, H1)) : ∀ s ∈ keys us, s ∈ o.writes := by
  intro s hk
  have go : goA C hs fr H o = some (us, H1) → s ∈ o.writes := by
    intro hr
    unfold goA at hr
    split at hr
    · split at hr
      · rename_i c fr1 H1 _
        split at hr
        · simp only [Option.some.injEq, Prod.mk.injEq] at hr
          obtain ⟨rfl, rfl⟩ := hr
          unfold keys at hk
          rw [List.map_append, List.mem_append] at hk
          rcases hk with hk | hk
          · unfold AOper.writes
            rw [List.mem_append]
            left
            cases hst : storesAt o with
            | none => rw [hst] at hk; simp [locU] at hk
            | some q => rw [hst] at hk; simpa [locU] using hk
          · exact keys_dst o c s hk
        · simp at hr
      · simp at hr
    · simp at hr
  unfold effA at h
  split at h
  · exact go h
  · split at h
    · split at h
      · exact go h
      · simp only [Option.some.injEq, Prod.mk.injEq] at h; obtain ⟨rfl, rfl⟩ := h
        exact keys_dst o _ s hk
    · simp only [Option.some.injEq, Prod.mk.injEq] at h; obtain ⟨rfl, rfl⟩ := h
      exact keys_dst o _ s hk
    · simp at h

/-- no variable is made in the region -/
def AOper.quietOp (o : AOper) : Bool := match o.op with
  | .allocL _ | .boxL _ _ => false
  | _ => true

theorem stepA_store {n : Nat} {p x : Opd} (h : stepA C fr H (.store n p x) = some (c, fr1, H1)) : c = .v undef ∧ ∃ av v cs, evO fr p = some av ∧ evV fr x = some v ∧ cellsV v = some cs ∧ cs.length = n ∧ wr fr H av cs = some (fr1, H1) := by
  simp only [stepA] at h
  split at h
  · rename_i av v hav hv
    split at h
    · rename_i cs hcs
      split at h
      · rename_i hn
        split at h
        · rename_i f1 h1 hw
          simp at h; obtain ⟨rfl, rfl, rfl⟩ := h
          exact ⟨rfl, av, v, cs, hav, hv, hcs, hn, hw⟩
        · simp at h
      · simp at h
    · simp at h
  · simp at h

theorem wr_cases {av : AV} {cs : List Value} (h : wr fr H av cs = some (fr1, H1)) :
    (∃ s off zs, av = .lp s off ∧ fr.getD s .no = .loc zs ∧ off + cs.length ≤ zs.length ∧ fr1 = fr.set s (.loc (splice zs off cs)) ∧ H1 = H) ∨ ((∀ s off, av ≠ .lp s off) ∧ fr1 = fr ∧ ∀ f2 : Fr, wr f2 H av cs = some (f2, H1)) := by
  unfold wr at h
  split at h
  · rename_i s off
    split at h
    · rename_i zs hz
      split at h
      · rename_i hl
        simp at h; obtain ⟨rfl, rfl⟩ := h
        exact .inl ⟨s, off, zs, rfl, hz, hl, rfl, rfl⟩
      · simp at h
    · simp at h
  · rename_i f off
    split at h
    · rename_i sz vals minv frz hf
      split at h
      · rename_i hl
        simp at h; obtain ⟨rfl, rfl⟩ := h
        exact .inr ⟨fun _ _ q => by simp at q, rfl, fun f2 => by simp [wr, hf, hl]⟩
      · simp at h
    · simp at h
  · rename_i f off c m
    split at h
    · rename_i sz vals cur minv frz hf
      split at h
      · rename_i hl
        simp at h; obtain ⟨rfl, rfl⟩ := h
        exact .inr ⟨fun _ _ q => by simp at q, rfl, fun f2 => by simp [wr, hf, hl]⟩
      · simp at h
    · simp at h
  · simp at h

theorem putS_noloc {d : Nat} {x : SC} (h : ¬ x.isLoc) (f : Fr) : putS f d x = f.set d x := putS_val h

theorem dst_put (o : AOper) (f : Fr) (c : SC) (hc : ¬ c.isLoc) : putO f o.dst c = applyU f (dstU o.dst c) := by
  cases o.dst with
  | none => rfl
  | some d => simp [putO, putS_noloc hc, applyU, dstU]

/-- the operation in the text's order does just that -/
theorem eff_oper {o : AOper} {us : List (Nat × SC)} (hq : o.quietOp = true) (h : effA C hs fr H o = some (us, H1)) : operA C fr H o = some (applyU fr us, H1) := by
  have go : goA C hs fr H o = some (us, H1) → (match stepA C fr H o.op with
    | some (x, fr', H') => some (putO fr' o.dst x, H')
    | none => none) = some (applyU fr us, H1) := by
    intro hr
    unfold goA at hr
    split at hr
    · rename_i hlo
      split at hr
      · rename_i c fr1 H2 hst
        split at hr
        · simp only [Option.some.injEq, Prod.mk.injEq] at hr
          obtain ⟨rfl, rfl⟩ := hr
          by_cases hp : o.op.plain = true
          · obtain ⟨rfl, hc⟩ := stepA_plain hp hst
            have hso : storesAt o = none := by
              unfold storesAt; cases hop : o.op <;> first | rfl | (rw [hop] at hp; simp [AOp.plain] at hp)
            rw [hso]
            simp only [hst, locU, List.nil_append]
            rw [dst_put o _ _ hc]
          · -- a store
            cases hop : o.op with
            | store n p x =>
              rw [hop] at hst
              have hst0 := hst
              obtain ⟨rfl, av, v, cs, hav, hv, hcs, hn, hw⟩ := stepA_store hst
              have hlo' := hlo
              simp only [locOk, hop, hav] at hlo'
              rw [hst0]
              simp only
              rcases wr_cases hw with ⟨s, off, zs, rfl, hz, hle, rfl, rfl⟩ | ⟨hne, rfl, _⟩
              · simp only [decide_eq_true_eq] at hlo'
                have hso : storesAt o = some s := by unfold storesAt; rw [hop]; exact hlo'
                have hlt : s < fr.length := by
                  rcases Nat.lt_or_ge s fr.length with q | q
                  · exact q
                  · rw [List.getD_eq_getElem?_getD, List.getElem?_eq_none q] at hz; simp at hz
                rw [hso]
                have hg : (fr.set s (SC.loc (splice zs off cs))).getD s .no = .loc (splice zs off cs) := by
                  rw [List.getD_eq_getElem?_getD, List.getElem?_set]; simp [hlt]
                simp only [locU, hg]
                rw [dst_put o _ (.v undef) (fun q => q)]
                simp [applyU]
              · have hnone : o.loc = none := by
                  cases av with
                  | lp s off => exact (hne s off rfl).elim
                  | v y => simpa using hlo'
                  | hp f o' c n => simpa using hlo'
                have hso : storesAt o = none := by unfold storesAt; rw [hop]; exact hnone
                rw [hso]
                simp only [locU, List.nil_append]
                rw [dst_put o _ (.v undef) (fun q => q)]
            | allocL z => unfold AOper.quietOp at hq; rw [hop] at hq; simp at hq
            | boxL n x => unfold AOper.quietOp at hq; rw [hop] at hq; simp at hq
            | _ => rw [hop] at hp; simp [AOp.plain] at hp
        · simp at hr
      · simp at hr
    · simp at hr
  unfold effA at h
  unfold operA
  cases hg : o.guard with
  | none =>
    rw [hg] at h
    exact go h
  | some sw =>
    obtain ⟨s, want⟩ := sw
    rw [hg] at h
    simp only at h ⊢
    cases hv : evV fr (.t s) with
    | none => rw [hv] at h; simp at h
    | some v =>
      rw [hv] at h
      have skip : some (dstU o.dst (.v undef), H) = some (us, H1) → some (putO fr o.dst (.v undef), H) = some (applyU fr us, H1) := by
        intro h
        simp only [Option.some.injEq, Prod.mk.injEq] at h; obtain ⟨rfl, rfl⟩ := h
        rw [dst_put o _ (.v undef) (fun q => q)]
      cases v with
      | bool b =>
        simp only at h ⊢
        split at h
        · rename_i hbw; rw [if_pos hbw]; exact go h
        · rename_i hbw; rw [if_neg hbw]; exact skip h
      | _ => exact skip h

end Go.AM
