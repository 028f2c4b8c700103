/- An operation of a region that draws its order looks at few slots, and turns few. No condition. -/
import Derived.Test.YtknogapmjleliaaDoorAmQ
namespace Go.AM
open Go

variable {P : Program} {L0 L : Locs} {w0 w : World} {lam : Nat → Nat} {fr fr' : Fr} {H H' : Heap} {a : Act}

def Opd.slots : Opd → List Nat
  | .t i => [i]
  | _ => []

def oslots : Option Opd → List Nat
  | some x => x.slots
  | none => []

def lslots (l : List Opd) : List Nat := l.flatMap Opd.slots
def pslots (l : List (Nat × Nat × Opd)) : List Nat := l.flatMap fun p => p.2.2.slots

def AOp.slots : AOp → List Nat
  | .mov x | .boxL _ x | .boxH _ _ x | .nilChk x | .un _ x | .convI _ x | .convS x | .convBS x | .convSB _ x | .convIS x | .fieldA _ x | .field _ _ _ x | .extract x _ | .len _ x | .cap x | .eqNil _ _ x | .load _ _ x | .lenM x => x.slots
  | .pick c x y => c.slots ++ (x.slots ++ y.slots)
  | .allocL _ | .allocH _ _ | .stuck | .mkMap => []
  | .mapUp _ m k x => m.slots ++ (k.slots ++ x.slots)
  | .build _ ps | .buildSl _ _ _ _ ps => pslots ps
  | .store _ p x => p.slots ++ x.slots
  | .bin _ x y | .eqS _ _ _ x y | .eqB _ x y | .makeSl _ _ _ _ x y | .indexA _ x y | .indexP _ _ x y | .indexStr x y | .indexArr _ _ _ x y | .append _ _ _ x y | .copy _ x y | .mx x y | .mn x y | .look _ _ _ x y => x.slots ++ y.slots
  | .mkFunc _ x y => lslots x ++ lslots y
  | .slStr x lo hi | .slSl _ x lo hi => x.slots ++ (oslots lo ++ oslots hi)
  | .call _ args => lslots args
  | .callV f args => f.slots ++ lslots args

/-- frames that agree on some slots -/
def Agree (l : List Nat) (f g : Fr) : Prop := ∀ s ∈ l, f.getD s .no = g.getD s .no

theorem Agree.left {l m : List Nat} {f g : Fr} (h : Agree (l ++ m) f g) : Agree l f g := fun s hs => h s (List.mem_append_left _ hs)
theorem Agree.right {l m : List Nat} {f g : Fr} (h : Agree (l ++ m) f g) : Agree m f g := fun s hs => h s (List.mem_append_right _ hs)

theorem evO_agree {x : Opd} {f g : Fr} (h : Agree x.slots f g) : evO f x = evO g x := by
  cases x with
  | t i => simp only [evO]; rw [h i (by simp [Opd.slots])]
  | c v => rfl
  | f k => rfl
theorem evV_agree {x : Opd} {f g : Fr} (h : Agree x.slots f g) : evV f x = evV g x := by unfold evV; rw [evO_agree h]
theorem evVs_agree : ∀ {l : List Opd} {f g : Fr}, Agree (lslots l) f g → evVs f l = evVs g l
  | [], _, _, _ => rfl
  | x :: l, f, g, h => by
    simp only [lslots, List.flatMap_cons] at h
    simp only [evVs]; rw [evV_agree h.left, evVs_agree (l := l) h.right]
theorem evPs_agree : ∀ {l : List (Nat × Nat × Opd)} {f g : Fr}, Agree (pslots l) f g → evPs f l = evPs g l
  | [], _, _, _ => rfl
  | (_, _, x) :: l, f, g, h => by
    simp only [pslots, List.flatMap_cons] at h
    simp only [evPs]; rw [evV_agree h.left, evPs_agree (l := l) h.right]
theorem bnds_agree {lo hi : Option Opd} {f g : Fr} (h : Agree (oslots lo ++ oslots hi) f g) (n c : Nat) : bnds f n c lo hi = bnds g n c lo hi := by
  have h1 : hiB f n c hi = hiB g n c hi := by
    cases hi with
    | none => rfl
    | some x => simp only [hiB]; rw [evV_agree h.right]
  have h2 : ∀ m, loB f m lo = loB g m lo := by
    intro m
    cases lo with
    | none => rfl
    | some x => simp only [loB]; rw [evV_agree h.left]
  unfold bnds; rw [h1]; split
  · rfl
  · rw [h2]

def cH (r : SC × Fr × Heap) : SC × Heap := (r.1, r.2.2)

theorem one_cH (v : Option (SC × Heap)) (f g : Fr) : (one v f).map cH = (one v g).map cH := by
  cases v <;> rfl

/-- what an operation that is no load and no store comes to hangs on the slots that it looks at -/
theorem stepA_agree {C : Callee} {f g : Fr} {op : AOp} (h : Agree op.slots f g) (hl : ∀ a n p, op ≠ .load a n p) (hs : ∀ n p x, op ≠ .store n p x) : (stepA C f H op).map cH = (stepA C g H op).map cH := by
  cases op with
  | load a n p => exact (hl _ _ _ rfl).elim
  | store n p x => exact (hs _ _ _ rfl).elim
  | mov x => simp only [stepA]; rw [evO_agree h]; split <;> rfl
  | pick c x y =>
    simp only [AOp.slots] at h
    simp only [stepA]; rw [evV_agree h.left, evO_agree h.right.left, evO_agree h.right.right]
    repeat' (first | rfl | split)
  | allocL z => rfl
  | allocH ty z => rfl
  | boxL n x => simp only [stepA]; rw [evV_agree h]; repeat' (first | rfl | split)
  | boxH ty n x => simp only [stepA]; rw [evV_agree h]; repeat' (first | rfl | split)
  | build z ps => simp only [stepA]; rw [evPs_agree h]; repeat' (first | rfl | split)
  | buildSl ty sz n z ps => simp only [stepA]; rw [evPs_agree h]; repeat' (first | rfl | split)
  | nilChk x => simp only [stepA]; rw [evO_agree h]; repeat' (first | rfl | split)
  | bin op x y => simp only [stepA]; rw [evV_agree h.left, evV_agree h.right]; repeat' (first | rfl | split)
  | eqS neq n sh x y => simp only [stepA]; rw [evV_agree h.left, evV_agree h.right]; repeat' (first | rfl | split)
  | eqB neq x y => simp only [stepA]; rw [evV_agree h.left, evV_agree h.right]; repeat' (first | rfl | split)
  | eqNil neq k x => simp only [stepA]; rw [evV_agree h]; repeat' (first | rfl | split)
  | stuck => rfl
  | mkMap => rfl
  | lenM x => simp only [stepA]; rw [evV_agree h]; repeat' (first | rfl | split)
  | look kd ok z x y => simp only [stepA]; rw [evV_agree h.left, evV_agree h.right]; repeat' (first | rfl | split)
  | mapUp kd m k x => simp only [AOp.slots] at h; simp only [stepA]; rw [evV_agree h.left, evV_agree h.right.left, evV_agree h.right.right]; repeat' (first | rfl | split)
  | un op x => simp only [stepA]; rw [evV_agree h]; repeat' (first | rfl | split)
  | convI k x => simp only [stepA]; rw [evV_agree h]; repeat' (first | rfl | split)
  | convS x => simp only [stepA]; rw [evV_agree h]; repeat' (first | rfl | split)
  | convBS x => simp only [stepA]; rw [evV_agree h]; repeat' (first | rfl | split)
  | convSB ty x => simp only [stepA]; rw [evV_agree h]; repeat' (first | rfl | split)
  | convIS x => simp only [stepA]; rw [evV_agree h]; repeat' (first | rfl | split)
  | mkFunc fn x y => simp only [stepA]; rw [evVs_agree h.left, evVs_agree h.right]; repeat' (first | rfl | split)
  | makeSl ty sz b z x y => simp only [stepA]; rw [evV_agree h.left, evV_agree h.right]; repeat' (first | rfl | split)
  | slStr x lo hi =>
    simp only [stepA]; rw [evV_agree h.left]
    split
    · rw [bnds_agree h.right]; repeat' (first | rfl | split)
    · rfl
  | slSl sz x lo hi =>
    simp only [stepA]; rw [evV_agree h.left]
    split
    · rw [bnds_agree h.right]; repeat' (first | rfl | split)
    · rw [bnds_agree h.right]; repeat' (first | rfl | split)
    · rfl
  | fieldA off x => simp only [stepA]; rw [evO_agree h]; repeat' (first | rfl | split)
  | field agg off n x => simp only [stepA]; rw [evV_agree h]; repeat' (first | rfl | split)
  | indexA sz x y => simp only [stepA]; rw [evV_agree h.left, evV_agree h.right]; repeat' (first | rfl | split)
  | indexP len sz x y => simp only [stepA]; rw [evO_agree h.left, evV_agree h.right]; repeat' (first | rfl | split)
  | indexStr x y => simp only [stepA]; rw [evV_agree h.left, evV_agree h.right]; repeat' (first | rfl | split)
  | indexArr agg len sz x y => simp only [stepA]; rw [evV_agree h.left, evV_agree h.right]; repeat' (first | rfl | split)
  | extract x i => simp only [stepA]; rw [evV_agree h]; repeat' (first | rfl | split)
  | len str x => simp only [stepA]; rw [evV_agree h]; repeat' (first | rfl | split)
  | cap x => simp only [stepA]; rw [evV_agree h]; repeat' (first | rfl | split)
  | append sz b x y => simp only [stepA]; rw [evV_agree h.left, evV_agree h.right]; repeat' (first | rfl | (exact one_cH _ _ _) | split)
  | copy sz x y => simp only [stepA]; rw [evV_agree h.left, evV_agree h.right]; repeat' (first | rfl | split)
  | mx x y => simp only [stepA]; rw [evV_agree h.left, evV_agree h.right]; repeat' (first | rfl | split)
  | mn x y => simp only [stepA]; rw [evV_agree h.left, evV_agree h.right]; repeat' (first | rfl | split)
  | call f args => simp only [stepA]; rw [evVs_agree h]; repeat' (first | rfl | split)
  | callV fv args => simp only [stepA]; rw [evV_agree h.left, evVs_agree h.right]; repeat' (first | rfl | split)

end Go.AM
