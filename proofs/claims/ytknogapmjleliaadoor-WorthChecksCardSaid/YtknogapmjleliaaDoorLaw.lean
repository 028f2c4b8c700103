/- WorthChecks, whatever list of items it is called with, returns true, and the list reads as it did. Conditions: none beyond the given card's own. -/
import Derived.Test.YtknogapmjleliaaDoorRows
import Derived.Test.YtknogapmjleliaaDoorTie
import Derived.Test.YtknogapmjleliaaDoorCards
import Derived.Test.YtknogapmjleliaaDoorSp11
import Derived.Test.YtknogapmjleliaaDoorAmGl
import Derived.WalkKit
import Derived.ProofKit
import Derived.LaidMore
import Derived.OpenShut
import Derived.ChangeOld
import Derived.SizedLaws
import Derived.Stop.Joined
import Derived.SevenTiedAt
namespace Go.Proofs.YtknogapmjleliaaDoor
open Go Go.AM Go.ChangeShapes Go.WideShapes Go.ChangeAt Go.RowKit
set_option linter.unusedVariables false
set_option maxRecDepth 100000

theorem own : ownKnob Tryd.prog.godebug = none := by kernel_rfl
theorem laidOut : laidOutB Tryd.prog = true := by kernel_rfl

abbrev laid3 : List (String × DataW Unit) := [("math/bits.deBruijn32tab", Rows.laid_math_bits_deBruijn32tab), ("math/bits.deBruijn64tab", Rows.laid_math_bits_deBruijn64tab), ("internal/strconv.uint64pow10", Rows.laid_internal_strconv_uint64pow10)]

/-- The door's own heap meets the condition. -/
theorem door_met (os : Os) (args : Array Value) : laidMetH Tryd.prog laid3 ((World.doorLaid Tryd.prog 400 os).forCall (fun _ _ => 0) ⟨#[], args, []⟩).memory :=
  laidMetH_of_parts3 (fuel := 8) (laidMet_of_run' 8 (by kernel_rfl) (by kernel_rfl)) (by kernel_rfl) (by kernel_rfl)

theorem list_of {α : Type} {p : Nat → α → Prop} : ∀ (n : Nat), (∀ i, i < n → ∃ x, p i x) → ∃ l : List α, l.length = n ∧ ∀ i x, l[i]? = some x → p i x
  | 0, _ => ⟨[], rfl, fun i x h => by simp at h⟩
  | n + 1, h => by
    obtain ⟨l, hl, hp⟩ := list_of n (fun i hi => h i (by omega))
    obtain ⟨x, hx⟩ := h n (by omega)
    refine ⟨l ++ [x], by simp [hl], fun i y hy => ?_⟩
    rw [List.getElem?_append] at hy
    split at hy
    · exact hp i y hy
    · rename_i hi
      have : i = n := by
        rcases Nat.lt_or_ge (i - l.length) 1 with q | q
        · omega
        · rw [List.getElem?_eq_none (by simpa using q)] at hy; simp at hy
      subst this
      rw [hl] at hy
      simp at hy; subst hy; exact hx

section
variable {H : Type} {enc : TypeId × Value → H} {W : World}

theorem item_of {fuel : Nat} {cs : List Value} {x : DataW H × List MemPlace} (h : DataW.trod enc Tryd.prog W 0 (fun _ => true) true fuel 38 cs = some x) : ∃ it : It, cs = it.c := by
  obtain ⟨xs, n, rfl, _, hlen, hxl, hel⟩ := DataW.trod_struct Tryd.underlying38 h
  have c38 : Tryd.prog.cellsOf 38 = 3 := by kernel_rfl
  have c3 : Tryd.prog.cellsOf 3 = 1 := by kernel_rfl
  have c9 : Tryd.prog.cellsOf 9 = 1 := by kernel_rfl
  rw [c38] at hlen
  match cs, hlen with
  | [u, v, w], _ =>
    have h0 := hel 0 { name := "Base", type := 3, offset := 0, embedded := false, tag := "", pkgPath := "", byteOffset := 0 } rfl
    have h1 := hel 1 { name := "Text", type := 9, offset := 1, embedded := false, tag := "", pkgPath := "", byteOffset := 8 } rfl
    have h2 := hel 2 { name := "N", type := 3, offset := 2, embedded := false, tag := "", pkgPath := "", byteOffset := 24 } rfl
    try dsimp only at h0 h1 h2
    rw [c3] at h0 h2
    rw [c9] at h1
    replace hxl : xs.length = 3 := hxl
    have x0 : xs[0]? = some (xs[0]'(by omega)) := List.getElem?_eq_getElem (by omega)
    have x1 : xs[1]? = some (xs[1]'(by omega)) := List.getElem?_eq_getElem (by omega)
    have x2 : xs[2]? = some (xs[2]'(by omega)) := List.getElem?_eq_getElem (by omega)
    rw [x0] at h0; rw [x1] at h1; rw [x2] at h2
    obtain ⟨b, e0, _⟩ := DataW.trod_int Tryd.underlying3 h0
    obtain ⟨s, e1, _⟩ := DataW.trod_string Tryd.underlying9 h1
    obtain ⟨m, e2, _⟩ := DataW.trod_int Tryd.underlying3 h2
    simp at e0 e1 e2
    subst e0; subst e1; subst e2
    exact ⟨⟨b, s.data.toList, m⟩, by simp [It.c, bs_of]⟩

/-- the list that came in, as a row of items -/
theorem arg_in {v : Value} {d : DataW H} {p : List MemPlace} (h : DataW.Trod enc Tryd.prog W 0 (fun _ => true) true 23 v d p) {base : Nat} (hv : Value.okWide Tryd.prog W .any base 23 v) :
    ∃ L H' a n c l, HR L H' W ∧ Ro L ∧ VR L (.slice a n c) v ∧ Its H' a n c l := by
  obtain ⟨a0, len, cap, rfl⟩ := okWide_slice Tryd.underlying23 hv
  obtain ⟨fuel, hf⟩ := h
  rcases DataW.trod_slice Tryd.underlying23 hf with ⟨hcs, _⟩ | ⟨a, len', cap', elems, rest, n, _, hcs, _, _, hl, _, hlen, hel, hrest, _⟩
  · simp [Value.cells] at hcs
    obtain ⟨rfl, rfl, rfl⟩ := hcs
    exact ⟨noLocs, [], none, 0, 0, [], HR.no W, Ro.no, .snil, rfl, Nat.le_refl _, by simp, .inl ⟨rfl, rfl, rfl⟩⟩
  · simp [Value.cells] at hcs
    obtain ⟨rfl, rfl, rfl⟩ := hcs
    have c38 : Tryd.prog.cellsOf 38 = 3 := by kernel_rfl
    rw [c38] at hel hrest
    obtain ⟨hr1, hr2⟩ := hrest rfl
    have each : ∀ i, i < cap → ∃ it : It, W.cells? 0 (a.add (i * 3)) 3 = some it.c := by
      intro i hi
      have two : ∃ y, (W.cells? 0 (a.add (i * 3)) 3).bind (DataW.trod enc Tryd.prog W 0 (fun _ => true) true n 38) = some y := by
        by_cases q : i < len
        · exact ⟨_, (hel i q).trans (List.getElem?_eq_getElem (by omega))⟩
        · have := hr2 (i - len) (by omega)
          rw [show len + (i - len) = i by omega] at this
          exact ⟨_, this.trans (List.getElem?_eq_getElem (by omega))⟩
      obtain ⟨y, hy⟩ := two
      obtain ⟨cs, hcs, ht⟩ := Option.bind_eq_some_iff.1 hy
      obtain ⟨it, rfl⟩ := item_of ht
      exact ⟨it, hcs⟩
    obtain ⟨its, hil, hic⟩ := list_of cap each
    have hblk : ∃ (B : Nat) (cs : Array Value) (T : TypeId) (fz : Nat × Nat), W.heap[B]? = some (Obj.cells cs T fz) := by
      simp only [Value.okWide, Tryd.underlying23, Cell.okWide, Cell.ok] at hv
      obtain ⟨_, _, _, _, row, cells, hsh, _⟩ := hv
      unfold World.shape? at hsh
      split at hsh
      · rename_i cs T fz hb; exact ⟨_, cs, T, fz, hb⟩
      · simp at hsh
    obtain ⟨L', H', a', h1, h2, _, _, h5, h6⟩ := (HR.no W).slice Ro.no (a := a) (len := len) (cap := cap) (sz := 3) (by omega) (xs := its.map It.c) hl (by simpa using hil) (by
      intro x hx
      obtain ⟨it, _, rfl⟩ := List.mem_map.1 hx
      exact ⟨rfl, by simp [It.c, plain1]⟩) (by
      intro i x hx
      rw [List.getElem?_map] at hx
      obtain ⟨it, hit, rfl⟩ := Option.map_eq_some_iff.1 hx
      exact hic i it hit) hblk
    refine ⟨L', H', a', len, cap, its.take len, h1, h2, h5, ?_⟩
    unfold Its
    rw [List.map_take]; exact h6
end

/-- the call itself -/
theorem walk {L : Locs} {H : Heap} {W : World} {v : Value} {a : Option Addr} {n c : Nat} {l : List It} (h : HR L H W) (hr : Ro L) (hv : VR L (.slice a n c) v) (hi : Its H a n c l) :
    Calls Tryd.prog 3 #[v] W fun e W' => e = .returned (.bool true) ∧ Old W W' := by
  obtain ⟨u, H', e, rfl⟩ := sp3 hi
  refine (CT_ok tb_ok same_ok 3 [.slice a n c] H (.bool true) H' e L W [v] h (AR.cons hv (AR.nil _))).mono ?_
  rintro e w' ⟨x, L', rfl, hx, _, k⟩
  cases hx
  exact ⟨rfl, k.oldAll hr⟩

theorem lifted (os : Os) (started : os.Started) (H : Type) (enc : TypeId × Value → H) :
    ReturnsInHanded {} Tryd.checked os 3 .any (fun w args => (Rows.worthChecksSpec.pre enc Tryd.prog Tryd.f3 [] false w args ∧ laidMetH Tryd.prog laid3 w) ∧ sizedMet enc Tryd.prog Tryd.f3 (OpenSpec.ofChange Rows.worthChecksSpec) false w args)
      (Rows.worthChecksSpec.post enc Tryd.prog Tryd.f3 false true false false) := by
  refine returnsInHanded_of_change_and (C := Tryd.checked) (X := fun w _ => laidMetH Tryd.prog laid3 w) (fun _ _ _ hh h => h.of_heap hh) own started (by kernel_rfl) Tryd.func3
    (ChangeSpec.witness_shaped (enc := enc) (C := Tryd.checked) (os := os) (X := fun w _ => laidMetH Tryd.prog laid3 w) false (World.doorLaid Tryd.prog 400 os) #[.slice none 0 0] 8 rfl (World.shaped_of_RefB (by kernel_rfl) (by kernel_rfl)) (by kernel_rfl) (by kernel_rfl) (by kernel_rfl) (door_met os _)) ?_
  intro W base args ds gs before hval0 hW _ _ _ _
  have hval : ∀ (j : Nat) t v, Tryd.f3.params[j]? = some t → args[j]? = some v → Value.okWide Tryd.prog W .any base t v := hval0
  have hW' := hW
  obtain ⟨p, q, hA0, hV, rfl, hfz, hnd⟩ := hW
  have hA : DataW.TrodAll enc Tryd.prog W 0 (fun _ => true) true Tryd.f3.params.toList args.toList ds p := hA0
  rw [Tryd.params3] at hA hval
  obtain ⟨v0, d0, rfl, rfl, h0⟩ := trodAll_one hA
  obtain ⟨rfl, rfl⟩ := trodVars_none hV
  have lt0 : ∀ x ∈ p, x.block < W.heap.size := by obtain ⟨m, hm⟩ := h0; exact DataW.trod_lt m _ _ _ hm
  obtain ⟨L, H1, a, n, c, l, g1, g2, g3, g4⟩ := arg_in h0 (hval 0 23 v0 rfl rfl)
  clear hA0 hval0
  refine (walk g1 g2 g3 g4).mono fun e W' ⟨he, bel⟩ => ?_
  subst he
  exact ⟨_, rfl, _, _, _, [], _, [], hW', trodAll_mk1 (shut_bool Tryd.underlying4 _), trodAll_mk1 (Old.trod laidOut (by kernel_rfl) (of_decide_eq_true (by kernel_rfl)) h0 bel lt0), rfl, bel.frame _, fun h => by cases h⟩

theorem row_holds : Rows.WorthChecksSaid :=
  OpenClaim.holds_of_wide 3 Tryd.f3 rfl rfl rfl rfl rfl rfl rfl ⟨rfl, rfl, rfl, rfl, rfl⟩ rfl rfl rfl rfl rfl (by kernel_rfl) Tryd.func3 (by kernel_rfl)
    (of_decide_eq_true (by kernel_rfl)) (by unfold Func.isWrapper; first | (rw [if_pos (by decide +kernel)]; kernel_rfl) | (rw [if_neg (by decide +kernel)]; exact ⟨rfl, rfl⟩))
    (fun os started H enc _ => lifted os started H enc)

/-- THE CARD. -/
theorem WorthChecks_holds : Rows.WorthChecksCardSaid :=
  Claim7.holds_tied_plain_at .later [] [.data, .data, .data] true (true, "a3def5a016ba4395c3f2ad286e349fbfe0e4e4904da399eb431a273634182421") false
    row_holds (fun _ h => by cases h) (by kernel_rfl) (fun _ h => by cases h) worthChecks_row_tie rfl ⟨rfl, rfl⟩ (by kernel_rfl) rfl
    (fun f fn hf hfn => by
      obtain rfl : f = 3 := Option.some.inj ((show Tryd.prog.funcNamed "dowel/dowellaw26.WorthChecks" = some 3 by kernel_rfl).symm.trans hf) |>.symm
      obtain rfl : fn = Tryd.f3 := (Option.some.inj (Tryd.func3.symm.trans hfn)).symm
      exact ⟨by kernel_rfl, fun j t ht => by
        rw [Tryd.params3] at ht
        have hm : t ∈ [23] := by simpa using Array.mem_of_getElem? ht
        have hall : ([23].all fun u => !Tryd.prog.wantsStandIn u) = true := by kernel_rfl
        exact (show Tryd.prog.wantsStandIn t = false by simpa using List.all_eq_true.1 hall t hm)⟩)
    (by kernel_rfl)
#print axioms WorthChecks_holds

end Go.Proofs.YtknogapmjleliaaDoor
