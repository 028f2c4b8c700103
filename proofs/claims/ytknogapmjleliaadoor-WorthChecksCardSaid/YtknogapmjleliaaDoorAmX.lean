/- Code: what the abstract machine comes to, the model comes to. No condition. -/
import Derived.Test.YtknogapmjleliaaDoorAmW
import Derived.Scope
import Derived.Deep.LoopGhost
namespace Go.AM
open Go

variable {P : Program} {L0 L : Locs} {w0 w : World} {lam : Nat → Nat} {fr fr' : Fr} {H H' : Heap} {a : Act}

def chkCode (P : Program) : Code → ACode → Bool
  | .skip, .skip => true
  | .region _ ops false, .reg as => chkOps P ops ops.toList as
  | .region _ ops true, .regD as => P.follows .mixedOrders && (chkOps P ops ops.toList as && chkDraw ops.toList as)
  | .seq a b, .seq x y => chkCode P a x && chkCode P b y
  | .cond c a b, .cond d x y => chkOpd c d && (chkCode P a x && chkCode P b y)
  | .block i a, .block j x => i == j && chkCode P a x
  | .loop a, .loop _ x => chkCode P a x
  | .exit i, .exit j => i == j
  | .ret, .ret => true
  | .scope a, .scope x => chkCode P a x
  | .label _, .skip => true
  | _, .stuckC => true
  | .seq a b, .seqj _ x y => chkCode P a x && chkCode P b y
  | _, _ => false

def ExR : AExit → Exit → Prop
  | .nrm, .normal => True
  | .ex i, .exit j => i = j
  | .ret, .ret => True
  | _, _ => False

theorem Inv.forget (h : Inv L0 w0 L lam fr H a w) (keep : List Nat) : Inv L0 w0 L lam (forget keep fr) H a w := by
  have get : ∀ (s : Nat) (c : SC), (AM.forget keep fr)[s]? = some c → c = .no ∨ fr[s]? = some c := by
    intro s c q
    unfold AM.forget at q
    simp only [List.getElem?_map, List.getElem?_zipIdx, Option.map_map, Option.map_eq_some_iff] at q
    obtain ⟨c0, h0, rfl⟩ := q
    simp only [Function.comp]
    split
    · exact .inr h0
    · exact .inl rfl
  have loc : ∀ (s : Nat) (cs : List Value), (AM.forget keep fr)[s]? = some (SC.loc cs) → fr[s]? = some (SC.loc cs) := by
    intro s cs q
    rcases get s _ q with e | e
    · simp at e
    · exact e
  refine ⟨⟨by simp [AM.forget, h.rel.len], h.rel.dfr, ?_, h.rel.heap, fun s cs q => h.rel.own s cs (loc s cs q), fun s cs s' cs' q q' => h.rel.inj s cs s' cs' (loc s cs q) (loc s' cs' q')⟩, h.keep, fun s cs q => h.low s cs (loc s cs q)⟩
  intro s c q
  rcases get s c q with rfl | e
  · trivial
  · exact h.rel.slot s c e

theorem code_ok {C : Callee} (hC : CalleeOk P C) (hB : Bodies P C) {hs : Heap → Heap → Bool} (hhs : ∀ A B, hs A B = true → A = B) (n : Nat) : ∀ (x : ACode) (c : Code), chkCode P c x = true → ∀ (L : Locs) (lam : Nat → Nat) (fr fr' : Fr) (H H' : Heap) (e : AExit) (a : Act) (w : World), Inv L0 w0 L lam fr H a w →
    runC C hs n x fr H = some (e, fr', H') → c.wp P (fun ex a w => ExR e ex ∧ Left L0 w0 fr' H' a w) a w := by
  intro x
  induction x with
  | skip =>
    intro c hk L lam fr fr' H H' e a w h hr
    cases c <;> simp [chkCode] at hk
    · simp [runC] at hr; obtain ⟨rfl, rfl, rfl⟩ := hr
      exact wp_skip ⟨trivial, L, lam, h⟩
    · simp [runC] at hr; obtain ⟨rfl, rfl, rfl⟩ := hr
      exact wp_label ⟨trivial, L, lam, h⟩
  | reg as =>
    intro c hk L lam fr fr' H H' e a w h hr
    cases c with
    | region id ops draw =>
      cases draw with
      | true => simp [chkCode] at hk
      | false =>
        simp only [chkCode] at hk
        simp only [runC] at hr
        split at hr
        · rename_i fr1 H1 ho
          simp at hr; obtain ⟨rfl, rfl, rfl⟩ := hr
          refine wp_region ?_
          have := ops_ok (Q := fun ex a w => ExR .nrm ex ∧ Left L0 w0 fr1 H1 a w) hC hB ops.toList as 0 L lam fr fr1 H H1 a w (fun j => by simp) h hk ho (fun a w hl => ⟨trivial, hl⟩)
          simpa [List.range_eq_range'] using this
        · simp at hr
    | _ => simp [chkCode] at hk
  | regD as =>
    intro c hk L lam fr fr' H H' e a w h hr
    cases c with
    | region id ops draw =>
      cases draw with
      | false => simp [chkCode] at hk
      | true =>
        simp only [chkCode, Bool.and_eq_true] at hk
        obtain ⟨hm, hk, hd⟩ := hk
        simp only [runC] at hr
        split at hr
        · rename_i fr1 H1 ho
          simp at hr; obtain ⟨rfl, rfl, rfl⟩ := hr
          obtain ⟨U, HH, e1, e2, e3, e4, _, e6⟩ := runD_steps hhs as 0 [] fr fr1 H H1 ho
          refine wp_region_any hm ?_
          have hi : Inv L0 w0 L lam fr H a { w with drawn := w.drawn + 1 } := h.same (Same.drewd w _)
          have hnone : ∀ j, inL (Array.replicate ops.size false) j = false := by
            intro j
            unfold inL
            rw [Array.getD_eq_getD_getElem?, Array.getElem?_replicate]
            split <;> rfl
          refine draw_any (Q := fun ex a w => ExR .nrm ex ∧ Left L0 w0 fr1 H1 a w) hC hB hhs hk hd e3 e2 e4 (fun i o q j h1 h2 h3 h4 => e6 i o q j h1 h2 h3 (by omega)) (fun a w hl => ⟨trivial, hl⟩) ops.size _ a _ (by simp) (by simp [unl]) ?_ ?_
          · intro j o _ hj
            rw [hnone j] at hj; simp at hj
          · refine ⟨0, Nat.zero_le _, ?_, L, lam, ?_⟩
            · intro j _ _
              rw [hnone j]; simp
            · rw [e1]
              have : frS fr U (inL (Array.replicate ops.size false)) as.length = fr := by
                generalize as.length = m
                induction m with
                | zero => rfl
                | succ m ih => rw [frS, hnone m, ih]; rfl
              rw [this]; exact hi
        · simp at hr
    | _ => simp [chkCode] at hk
  | seq x y ihx ihy =>
    intro c hk L lam fr fr' H H' e a w h hr
    cases c with
    | seq p q =>
      simp only [chkCode, Bool.and_eq_true] at hk
      simp only [runC] at hr
      split at hr
      · rename_i fr1 H1 h1
        refine wp_seq (wp_mono (ihx p hk.1 L lam fr fr1 H H1 .nrm a w h h1) ?_)
        rintro ex a1 w1 ⟨hex, L1, lam1, hi⟩
        cases ex <;> simp [ExR] at hex
        exact ihy q hk.2 L1 lam1 fr1 fr' H1 H' e a1 w1 hi hr
      · rename_i r hne
        refine wp_seq (wp_mono (ihx p hk.1 L lam fr fr' H H' e a w h hr) ?_)
        rintro ex a1 w1 ⟨hex, hl⟩
        cases ex with
        | normal =>
          cases e <;> simp [ExR] at hex
          exact (hne _ _ hr).elim
        | _ => exact ⟨hex, hl⟩
    | _ => simp [chkCode] at hk
  | cond d x y ihx ihy =>
    intro c hk L lam fr fr' H H' e a w h hr
    cases c with
    | cond c p q =>
      simp only [chkCode, Bool.and_eq_true] at hk
      simp only [runC] at hr
      split at hr
      · rename_i t ht
        have hb := (evV_ok h hk.1 ht).bool_inv
        refine wp_cond hb ?_
        cases t with
        | true => simp at hr ⊢; exact ihx p hk.2.1 L lam fr fr' H H' e a w h hr
        | false => simp at hr ⊢; exact ihy q hk.2.2 L lam fr fr' H H' e a w h hr
      · simp at hr
    | _ => simp [chkCode] at hk
  | block id x ih =>
    intro c hk L lam fr fr' H H' e a w h hr
    cases c with
    | block i p =>
      simp only [chkCode, Bool.and_eq_true, beq_iff_eq] at hk
      obtain ⟨rfl, hk⟩ := hk
      simp only [runC] at hr
      split at hr
      · rename_i j fr1 H1 h1
        refine wp_block (wp_mono (ih p hk L lam fr fr1 H H1 (.ex j) a w h h1) ?_)
        rintro ex a1 w1 ⟨hex, hl⟩
        cases ex <;> simp [ExR] at hex
        subst hex
        simp only [Exit.inBlock]
        split at hr
        · rename_i hj
          simp at hr; obtain ⟨rfl, rfl, rfl⟩ := hr
          rw [if_pos hj]
          exact ⟨trivial, hl⟩
        · rename_i hj
          simp at hr; obtain ⟨rfl, rfl, rfl⟩ := hr
          rw [if_neg hj]
          exact ⟨rfl, hl⟩
      · rename_i r hne
        refine wp_block (wp_mono (ih p hk L lam fr fr' H H' e a w h hr) ?_)
        rintro ex a1 w1 ⟨hex, hl⟩
        cases ex with
        | exit j =>
          cases e <;> simp [ExR] at hex
          exact (hne _ _ _ hr).elim
        | _ => exact ⟨hex, hl⟩
    | _ => simp [chkCode] at hk
  | loop keep x ih =>
    intro c hk L lam fr fr' H H' e a w h hr
    cases c with
    | loop p =>
      simp only [chkCode] at hk
      simp only [runC] at hr
      refine wp_loop_ghost (fun m a w => ∃ fr H, Left L0 w0 fr H a w ∧ iter (runC C hs n x) keep m fr H = some (e, fr', H')) n ⟨fr, H, ⟨L, lam, h⟩, hr⟩ ?_
      rintro m a1 w1 ⟨fr1, H1, ⟨L1, lam1, hi⟩, hit⟩
      cases m with
      | zero => simp [iter] at hit
      | succ m =>
        simp only [iter] at hit
        split at hit
        · rename_i fr2 H2 h2
          refine wp_mono (ih p hk L1 lam1 _ fr2 H1 H2 .nrm a1 w1 (hi.forget keep) h2) ?_
          rintro ex a2 w2 ⟨hex, hl⟩
          cases ex <;> simp [ExR] at hex
          exact ⟨m, by omega, fr2, H2, hl, hit⟩
        · rename_i r hne
          refine wp_mono (ih p hk L1 lam1 _ fr' H1 H' e a1 w1 (hi.forget keep) hit) ?_
          rintro ex a2 w2 ⟨hex, hl⟩
          cases ex with
          | normal =>
            cases e <;> simp [ExR] at hex
            exact (hne _ _ hit).elim
          | _ => exact ⟨hex, hl⟩
    | _ => simp [chkCode] at hk
  | exit id =>
    intro c hk L lam fr fr' H H' e a w h hr
    cases c with
    | exit i =>
      simp only [chkCode, beq_iff_eq] at hk
      subst hk
      simp [runC] at hr; obtain ⟨rfl, rfl, rfl⟩ := hr
      exact wp_exit ⟨rfl, L, lam, h⟩
    | _ => simp [chkCode] at hk
  | ret =>
    intro c hk L lam fr fr' H H' e a w h hr
    cases c <;> simp [chkCode] at hk
    simp [runC] at hr; obtain ⟨rfl, rfl, rfl⟩ := hr
    exact wp_ret ⟨trivial, L, lam, h⟩
  | seqj keep x y ihx ihy =>
    intro c hk L lam fr fr' H H' e a w h hr
    cases c with
    | seq p q =>
      simp only [chkCode, Bool.and_eq_true] at hk
      simp only [runC] at hr
      split at hr
      · rename_i fr1 H1 h1
        refine wp_seq (wp_mono (ihx p hk.1 L lam fr fr1 H H1 .nrm a w h h1) ?_)
        rintro ex a1 w1 ⟨hex, L1, lam1, hi⟩
        cases ex <;> simp [ExR] at hex
        exact ihy q hk.2 L1 lam1 _ fr' H1 H' e a1 w1 (hi.forget keep) hr
      · rename_i r hne
        refine wp_seq (wp_mono (ihx p hk.1 L lam fr fr' H H' e a w h hr) ?_)
        rintro ex a1 w1 ⟨hex, hl⟩
        cases ex with
        | normal =>
          cases e <;> simp [ExR] at hex
          exact (hne _ _ hr).elim
        | _ => exact ⟨hex, hl⟩
    | _ => simp [chkCode] at hk
  | stuckC =>
    intro c hk L lam fr fr' H H' e a w h hr
    simp [runC] at hr
  | scope x ih =>
    intro c hk L lam fr fr' H H' e a w h hr
    cases c with
    | scope p =>
      simp only [chkCode] at hk
      simp only [runC] at hr
      refine wp_scope_straight (wp_mono (ih p hk L lam fr fr' H H' e a w h hr) ?_)
      rintro ex a1 w1 ⟨hex, hl⟩
      cases e <;> cases ex <;> simp [ExR] at hex
      all_goals (refine ⟨?_, hl⟩; first | (simp [ExR]; done) | simpa [ExR] using hex)
    | _ => simp [chkCode] at hk

end Go.AM
