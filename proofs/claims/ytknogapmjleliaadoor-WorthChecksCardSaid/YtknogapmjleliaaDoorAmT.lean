/- What an operation of a region that draws leaves alone. No condition. -/
import Derived.Test.YtknogapmjleliaaDoorAmS
namespace Go.AM
open Go

variable {P : Program} {L0 L : Locs} {w0 w : World} {lam : Nat → Nat} {fr fr' fr1 : Fr} {H H' H1 : Heap} {a : Act} {C : Callee} {c : SC}

theorem one_some {v : Option (Value × Heap)} {f : Fr} {r : SC × Fr × Heap} (h : one (v.map fun r => (SC.v r.1, r.2)) f = some r) : ∃ u, r.1 = .v u ∧ r.2.1 = f := by
  cases v with
  | none => simp [one] at h
  | some q => simp [one] at h; subst h; exact ⟨q.1, rfl, rfl⟩

def AOp.plain : AOp → Bool
  | .allocL _ | .boxL _ _ | .store _ _ _ => false
  | _ => true

theorem AV.sc_noloc (x : AV) : ¬ x.sc.isLoc := by cases x <;> exact fun h => h

/-- no variable is made, and the frame is as it was -/
theorem stepA_plain {op : AOp} (hp : op.plain = true) (h : stepA C fr H op = some (c, fr1, H1)) : fr1 = fr ∧ ¬ c.isLoc := by
  cases op with
  | allocL z => simp [AOp.plain] at hp
  | boxL n x => simp [AOp.plain] at hp
  | store n p x => simp [AOp.plain] at hp
  | mov x => simp only [stepA] at h; split at h <;> simp at h; obtain ⟨rfl, rfl, rfl⟩ := h; exact ⟨rfl, AV.sc_noloc _⟩
  | pick c x y =>
    simp only [stepA] at h
    repeat' (split at h)
    all_goals first | (simp at h; done) | (simp at h; obtain ⟨rfl, rfl, rfl⟩ := h; exact ⟨rfl, AV.sc_noloc _⟩)
  | append ty sz b s x =>
    simp only [stepA] at h
    repeat' (split at h)
    all_goals first | (simp at h; done) | (obtain ⟨u, e1, e2⟩ := one_some h; simp at e1 e2; subst e1; subst e2; exact ⟨rfl, fun q => q⟩)
  | _ =>
    simp only [stepA] at h
    repeat' (split at h)
    all_goals first | (simp at h; done) | (simp at h; obtain ⟨rfl, rfl, rfl⟩ := h; exact ⟨rfl, fun q => q⟩)

/-- what looks at the heap, or turns it -/
def AOper.heapy (o : AOper) : Bool := match o.op with
  | .load _ _ _ | .store _ _ _ => o.loc.isNone
  | .allocH _ _ | .boxH _ _ _ | .buildSl _ _ _ _ _ | .convBS _ | .convSB _ _ | .makeSl _ _ _ _ _ _ | .slSl _ _ _ _ | .indexA _ _ _ | .append _ _ _ _ _ | .copy _ _ _ | .call _ _ | .callV _ _ | .mkMap | .look _ _ _ _ _ | .mapUp _ _ _ _ | .lenM _ => true
  | _ => false

def AOp.dry : AOp → Bool
  | .load _ _ _ | .store _ _ _ | .allocH _ _ | .boxH _ _ _ | .buildSl _ _ _ _ _ | .convBS _ | .convSB _ _ | .makeSl _ _ _ _ _ _ | .slSl _ _ _ _ | .indexA _ _ _ | .append _ _ _ _ _ | .copy _ _ _ | .call _ _ | .callV _ _ | .mkMap | .look _ _ _ _ _ | .mapUp _ _ _ _ | .lenM _ => false
  | _ => true

theorem stepA_dry {op : AOp} (hp : op.dry = true) (h : stepA C fr H op = some (c, fr1, H1)) : H1 = H ∧ ∀ H2, stepA C fr H2 op = some (c, fr1, H2) := by
  cases op <;> simp [AOp.dry] at hp
  all_goals
    simp only [stepA] at h ⊢
    repeat' (split at h)
    all_goals first | (simp at h; done) | (simp at h; obtain ⟨rfl, rfl, rfl⟩ := h; exact ⟨rfl, fun H2 => by first | (simp_all; done) | (simp_all; omega)⟩)

end Go.AM
