/- An operation of a region that draws comes to the same over frames and heaps that agree on what it looks at. No condition. -/
import Derived.Test.YtknogapmjleliaaDoorAmU
namespace Go.AM
open Go

variable {P : Program} {L0 L : Locs} {w0 w : World} {lam : Nat → Nat} {fr fr' fr1 : Fr} {H H' H1 : Heap} {a : Act} {C : Callee} {c : SC} {hs : Heap → Heap → Bool}

/-- an operation that is none of the newest rows' makers, unless it is marked as a writer -/
def AOper.marked (o : AOper) : Bool := match o.op with
  | .allocH _ _ | .boxH _ _ _ | .buildSl _ _ _ _ _ | .convSB _ _ | .makeSl _ _ _ _ _ _ | .append _ _ _ _ _ | .copy _ _ _ | .mkMap | .mapUp _ _ _ _ => o.w
  | .store _ _ _ => o.w || o.loc.isSome
  | _ => true

theorem rd_agree {f g : Fr} {av : AV} {n : Nat} (h : ∀ s off, av = .lp s off → f.getD s .no = g.getD s .no) : rd f H av n = rd g H av n := by
  cases av with
  | lp s off => simp only [rd]; rw [h s off rfl]
  | v y => rfl
  | hp f o c n => rfl

theorem stepA_load {agg : Bool} {n : Nat} {p : Opd} (h : stepA C fr H (.load agg n p) = some (c, fr1, H1)) : fr1 = fr ∧ H1 = H ∧ ∃ av cs v, evO fr p = some av ∧ rd fr H av n = some cs ∧ mkV agg cs = some v ∧ c = .v v := by
  simp only [stepA] at h
  split at h
  · rename_i av hav
    split at h
    · rename_i cs hcs
      split at h
      · rename_i v hv
        simp at h; obtain ⟨rfl, rfl, rfl⟩ := h
        exact ⟨rfl, rfl, av, cs, v, hav, hcs, hv, rfl⟩
      · simp at h
    · simp at h
  · simp at h

theorem dry_of {o : AOper} (hh : o.heapy = false) (hl : ∀ a n p, o.op ≠ .load a n p) (hst : ∀ n p x, o.op ≠ .store n p x) : o.op.dry = true := by
  unfold AOper.heapy at hh
  cases hop : o.op <;> rw [hop] at hh hl hst <;> first | rfl | (exact (hl _ _ _ rfl).elim) | (exact (hst _ _ _ rfl).elim) | (simp at hh)

theorem go_local {o : AOper} {f g : Fr} {H2 : Heap} {us : List (Nat × SC)} (hq : o.quietOp = true) (hlen : f.length = g.length) (ha : Agree (o.op.slots ++ o.loc.toList) f g) (hH : o.heapy = true → H = H2) (h : goA C hs f H o = some (us, H1)) :
    ∃ H3, goA C hs g H2 o = some (us, H3) ∧ (o.heapy = true → H3 = H1) ∧ (o.heapy = false → H3 = H2 ∧ H1 = H) := by
  have hloc : ∀ s, o.loc = some s → f.getD s .no = g.getD s .no := fun s hs => ha s (by rw [hs]; simp)
  have hlo : ∀ p, Agree p.slots f g → evO f p = evO g p := fun p => evO_agree
  unfold goA at h
  split at h
  · rename_i hlk
    split at h
    · rename_i c fr1 H4 hst
      split at h
      · rename_i hw
        simp only [Option.some.injEq, Prod.mk.injEq] at h
        obtain ⟨rfl, rfl⟩ := h
        by_cases hld : ∃ agg n p, o.op = .load agg n p
        · obtain ⟨agg, n, p, hop⟩ := hld
          rw [hop] at hst ha
          obtain ⟨rfl, rfl, av, cs, v, hav, hcs, hv, rfl⟩ := stepA_load hst
          have hev : evO g p = some av := by rw [← evO_agree (ha.left)]; exact hav
          have hlk' : locOk g o = true := by
            have := hlk; simp only [locOk, hop, hav, hev] at this ⊢; exact this
          simp only [locOk, hop, hav] at hlk
          have hrd : rd g H2 av n = some cs := by
            cases av with
            | lp s off =>
              simp only [decide_eq_true_eq] at hlk
              rw [← hcs]; simp only [rd]; rw [hloc s hlk]
            | v y =>
              have hh : o.heapy = true := by unfold AOper.heapy; rw [hop]; simp at hlk; simp [hlk]
              rw [← hH hh, ← hcs]; rfl
            | hp f' o' c n' =>
              have hh : o.heapy = true := by unfold AOper.heapy; rw [hop]; simp at hlk; simp [hlk]
              rw [← hH hh, ← hcs]; rfl
          have hst2 : stepA C g H2 o.op = some (.v v, g, H2) := by rw [hop]; simp [stepA, hev, hrd, hv]
          have hso : storesAt o = none := by unfold storesAt; rw [hop]
          have hcall : o.op.isCall = false := by rw [hop]; rfl
          refine ⟨H2, ?_, fun e => (hH e).symm, fun _ => ⟨rfl, rfl⟩⟩
          unfold goA
          rw [if_pos hlk', hst2]
          simp [hcall, hso, locU]
        · by_cases hsto : ∃ n p x, o.op = .store n p x
          · obtain ⟨n, p, x, hop⟩ := hsto
            rw [hop] at hst ha
            obtain ⟨rfl, av, v, cs, hav, hv, hcs, hn, hwr⟩ := stepA_store hst
            have ha' : Agree (p.slots ++ x.slots) f g := by have := ha.left; simpa [AOp.slots] using this
            have hev : evO g p = some av := by rw [← evO_agree ha'.left]; exact hav
            have hevx : evV g x = some v := by rw [← evV_agree ha'.right]; exact hv
            have hlk' : locOk g o = true := by
              have := hlk; simp only [locOk, hop, hav, hev] at this ⊢; exact this
            simp only [locOk, hop, hav] at hlk
            have hcall : o.op.isCall = false := by rw [hop]; rfl
            rcases wr_cases hwr with ⟨s, off, zs, rfl, hz, hle, rfl, rfl⟩ | ⟨hne, rfl, hany⟩
            · simp only [decide_eq_true_eq] at hlk
              have hso : storesAt o = some s := by unfold storesAt; rw [hop]; exact hlk
              have hzg : g.getD s .no = .loc zs := by rw [← hloc s hlk]; exact hz
              have hwg : wr g H2 (.lp s off) cs = some (g.set s (.loc (splice zs off cs)), H2) := by simp only [wr, hzg, if_pos hle]
              have hst2 : stepA C g H2 o.op = some (.v undef, g.set s (.loc (splice zs off cs)), H2) := by rw [hop]; simp only [stepA, hev, hevx, hcs, hn, if_true, hwg]
              have hlt : s < f.length := by
                rcases Nat.lt_or_ge s f.length with q | q
                · exact q
                · rw [List.getD_eq_getElem?_getD, List.getElem?_eq_none q] at hz; simp at hz
              have e : (f.set s (SC.loc (splice zs off cs))).getD s .no = (g.set s (SC.loc (splice zs off cs))).getD s .no := by
                rw [List.getD_eq_getElem?_getD, List.getElem?_set, List.getD_eq_getElem?_getD, List.getElem?_set]
                simp [hlt, show s < g.length by omega]
              have hh : o.heapy = false := by unfold AOper.heapy; rw [hop]; simp [hlk]
              refine ⟨H2, ?_, fun e => by rw [hh] at e; simp at e, fun _ => ⟨rfl, rfl⟩⟩
              unfold goA
              rw [if_pos hlk', hst2]
              simp only [hcall, Bool.not_false, Bool.true_or, Bool.or_true, if_true, hso, locU, e]
            · have hnone : o.loc = none := by
                cases av with
                | lp s off => exact (hne s off rfl).elim
                | v y => simpa using hlk
                | hp f o' c n => simpa using hlk
              have hh : o.heapy = true := by unfold AOper.heapy; rw [hop]; simp [hnone]
              have hso : storesAt o = none := by unfold storesAt; rw [hop]; exact hnone
              obtain rfl := hH hh
              have hst2 : stepA C g H o.op = some (.v undef, g, H4) := by rw [hop]; simp only [stepA, hev, hevx, hcs, hn, if_true, hany g]
              refine ⟨H4, ?_, fun _ => rfl, fun e => by rw [hh] at e; simp at e⟩
              unfold goA
              rw [if_pos hlk', hst2]
              simp only [hcall, Bool.not_false, Bool.true_or, Bool.or_true, if_true, hso, locU]
          · have hl : ∀ a n p, o.op ≠ .load a n p := fun a n p e => hld ⟨a, n, p, e⟩
            have hs' : ∀ n p x, o.op ≠ .store n p x := fun n p x e => hsto ⟨n, p, x, e⟩
            have hp : o.op.plain = true := by
              unfold AOper.quietOp at hq
              cases hop : o.op <;> rw [hop] at hq hs' <;> first | rfl | (exact (hs' _ _ _ rfl).elim) | (simp at hq; done)
            have hlk' : locOk g o = true := by
              unfold locOk
              cases hop : o.op <;> first | rfl | (exact (hl _ _ _ hop).elim) | (exact (hs' _ _ _ hop).elim)
            have hso : storesAt o = none := by
              unfold storesAt
              cases hop : o.op <;> first | rfl | (exact (hs' _ _ _ hop).elim)
            obtain ⟨rfl, _⟩ := stepA_plain hp hst
            have hag := stepA_agree (C := C) (H := H) ha.left hl hs'
            rw [hst] at hag
            cases hsg : stepA C g H o.op with
            | none => rw [hsg] at hag; simp at hag
            | some r =>
              obtain ⟨c2, g2, H5⟩ := r
              rw [hsg] at hag
              simp [cH] at hag
              obtain ⟨rfl, rfl⟩ := hag
              obtain ⟨rfl, _⟩ := stepA_plain hp hsg
              by_cases hh : o.heapy = true
              · obtain rfl := hH hh
                refine ⟨H4, ?_, fun _ => rfl, fun e => by rw [hh] at e; simp at e⟩
                unfold goA
                rw [if_pos hlk', hsg]
                simp only [hw, if_true, hso, locU]
              · have hh' : o.heapy = false := by simpa using hh
                obtain ⟨rfl, hany⟩ := stepA_dry (dry_of hh' hl hs') hsg
                have hcall : o.op.isCall = false := by
                  unfold AOper.heapy at hh'
                  cases hop : o.op <;> rw [hop] at hh' <;> first | rfl | (simp at hh')
                refine ⟨H2, ?_, fun e => by rw [hh'] at e; simp at e, fun _ => ⟨rfl, rfl⟩⟩
                unfold goA
                rw [if_pos hlk', hany H2]
                simp only [hcall, Bool.not_false, Bool.true_or, Bool.or_true, if_true, hso, locU]
      · simp at h
    · simp at h
  · simp at h

theorem eff_local {o : AOper} {f g : Fr} {H2 : Heap} {us : List (Nat × SC)} (hq : o.quietOp = true) (hlen : f.length = g.length) (ha : Agree o.reads f g) (hH : o.heapy = true → H = H2) (h : effA C hs f H o = some (us, H1)) :
    ∃ H3, effA C hs g H2 o = some (us, H3) ∧ (o.heapy = true → H3 = H1) ∧ (o.heapy = false → H3 = H2 ∧ H1 = H) := by
  have ha1 : Agree (o.op.slots ++ o.loc.toList) f g := by
    intro s hs
    refine ha s ?_
    unfold AOper.reads
    simp only [List.mem_append] at hs ⊢
    rcases hs with h | h
    · exact .inl h
    · exact .inr (.inr h)
  unfold effA at h ⊢
  cases hg : o.guard with
  | none =>
    rw [hg] at h
    exact go_local hq hlen ha1 hH h
  | some sw =>
    obtain ⟨s, want⟩ := sw
    rw [hg] at h
    simp only at h ⊢
    have hs : evV f (.t s) = evV g (.t s) := evV_agree (x := .t s) (fun t ht => ha t (by unfold AOper.reads; rw [hg]; simp [Opd.slots] at ht; subst ht; simp))
    rw [← hs]
    cases hv : evV f (.t s) with
    | none => rw [hv] at h; simp at h
    | some v =>
      rw [hv] at h
      have skip : some (dstU o.dst (.v undef), H) = some (us, H1) → ∃ H3, some (dstU o.dst (.v undef), H2) = some (us, H3) ∧ (o.heapy = true → H3 = H1) ∧ (o.heapy = false → H3 = H2 ∧ H1 = H) := by
        intro h
        simp only [Option.some.injEq, Prod.mk.injEq] at h; obtain ⟨rfl, rfl⟩ := h
        exact ⟨H2, rfl, fun e => (hH e).symm, fun _ => ⟨rfl, rfl⟩⟩
      cases v with
      | bool b =>
        simp only at h ⊢
        split at h
        · rename_i hbw; rw [if_pos hbw]; exact go_local hq hlen ha1 hH h
        · rename_i hbw; rw [if_neg hbw]; exact skip h
      | _ => exact skip h

/-- what is no writer leaves the heap -/
theorem eff_still {o : AOper} {us : List (Nat × SC)} (hhs : ∀ A B, hs A B = true → A = B) (hm : o.marked = true) (hw : o.w = false) (h : effA C hs fr H o = some (us, H1)) : H1 = H := by
  have go : goA C hs fr H o = some (us, H1) → H1 = H := by
    intro h
    unfold goA at h
    split at h
    · rename_i hlk
      split at h
      · rename_i c fr1 H4 hst
        split at h
        · rename_i hc
          simp only [Option.some.injEq, Prod.mk.injEq] at h
          obtain ⟨rfl, rfl⟩ := h
          rw [hw] at hc
          simp only [Bool.false_or] at hc
          by_cases hcall : o.op.isCall = true
          · rw [hcall] at hc; simp at hc; exact (hhs _ _ hc).symm
          · unfold AOper.marked at hm
            cases hop : o.op <;> rw [hop] at hst hm hcall <;> first
              | (exact (stepA_load hst).2.1)
              | (simp [hw] at hm; done)
              | (simp [AOp.isCall] at hcall; done)
              | (exact (stepA_dry (by rfl) hst).1)
              | skip
            · rename_i n p x
              obtain ⟨_, av, v, cs, hav, hv, hcs, hn, hwr⟩ := stepA_store hst
              simp only [hw, Bool.false_or] at hm
              rcases wr_cases hwr with ⟨s, off, zs, rfl, hz, hle, rfl, rfl⟩ | ⟨hne, rfl, hany⟩
              · rfl
              · simp only [locOk, hop, hav] at hlk
                cases av with
                | lp s off => exact (hne s off rfl).elim
                | v y => simp at hlk; rw [hlk] at hm; simp at hm
                | hp f o' c n => simp at hlk; rw [hlk] at hm; simp at hm
            all_goals
              simp only [stepA] at hst
              repeat' (split at hst)
              all_goals first | (simp at hst; done) | (simp at hst; exact hst.2.2.symm)
        · simp at h
      · simp at h
    · simp at h
  unfold effA at h
  split at h
  · exact go h
  · split at h
    · split at h
      · exact go h
      · simp at h; exact h.2.symm
    · simp at h; exact h.2.symm
    · simp at h

end Go.AM
