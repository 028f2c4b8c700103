/- A list of items lent, and looked at behind the calls. No condition. -/
import Derived.Test.YtknogapmjleliaaDoorSp2
namespace Go.Proofs.YtknogapmjleliaaDoor
open Go Go.AM

def mark : It := ⟨0, [], -78⟩
def more : It := ⟨0, [], -100077⟩

theorem sp4 {H : Heap} {a : Option Addr} {n c : Nat} {l : List It} (h : Its H a n c l) (hb : l.length ≤ 1048576) :
    Ret (CT Tb same 4 [.slice a n c] H) fun v H' => ∃ a', v = .slice a' n (n + 2) ∧ Pre H H' ∧ Sl H' 3 a' (n + 2) (n + 2) (l.map It.c ++ [mark.c, more.c]) := by
  have hn := h.len
  refine c4 ?_
  unfold s4
  rw [w64 (n := (n : Int) + 2) (by omega) (by omega), w64 (n := (n : Int) + 1) (by omega) (by omega), show ((n : Int) + 2) = ((n + 2 : Nat) : Int) by omega, show ((n : Int) + 1) = ((n + 1 : Nat) : Int) by omega]
  obtain ⟨a1, H1, e1, o1, p1, g1⟩ := mk_own (B := H.length) (H := H) (ty := 38) (sz := 3) (bytes := 32) (z := [.int .i64 0, .string ⟨#[]⟩, .int .i64 0]) (i := ((n + 2 : Nat) : Int)) (Nat.le_refl _) rfl rfl (by omega) (by omega)
  rw [e1]
  simp only [aBind, aSl]
  obtain ⟨H2, e2, o2, k2⟩ := o1.cpy (h.mono p1)
  rw [show min n (n + 2) = n by omega] at e2 o2
  rw [e2]
  simp only [aBind]
  have p2 : Pre H H2 := o1.pre (Nat.le_refl _) p1 k2
  rw [sp10]
  simp only [aBind, aAgg, aCons, aInt, aStr, aNil]
  have hx2 : (List.take n (l.map It.c) ++ List.drop n (List.replicate (n + 2) [Value.int .i64 0, .string ⟨#[]⟩, .int .i64 0])) = l.map It.c ++ [[Value.int .i64 0, .string ⟨#[]⟩, .int .i64 0], [Value.int .i64 0, .string ⟨#[]⟩, .int .i64 0]] := by
    rw [List.take_of_length_le (by simp; omega), List.drop_replicate, show n + 2 - n = 2 by omega]; rfl
  rw [hx2] at o2
  obtain ⟨H3, e3, o3, k3⟩ := o2.put0 (R := Value × Heap) (i := (n : Int)) (j := n) rfl (x := [Value.int .i64 0, .string ⟨#[]⟩, .int .i64 0]) (by rw [List.getElem?_append_right (by simp; omega)]; simp [hn]) (m := 3) (y := mark.c) (by decide) rfl
  have e3' := e3
  simp only [It.c, mark] at e3'
  rw [show IntKind.wrap .i64 (-1 - 77) = -78 from rfl, e3']
  have p3 : Pre H H3 := o2.pre (Nat.le_refl _) p2 k3
  rw [sp11]
  simp only [aBind, aAgg, aCons, aInt, aStr, aNil]
  have hx3 : (l.map It.c ++ [[Value.int .i64 0, .string ⟨#[]⟩, .int .i64 0], [Value.int .i64 0, .string ⟨#[]⟩, .int .i64 0]]).set n mark.c = l.map It.c ++ [mark.c, [Value.int .i64 0, .string ⟨#[]⟩, .int .i64 0]] := by
    rw [List.set_append_right _ _ (by simp; omega)]; simp [hn]
  rw [hx3] at o3
  obtain ⟨H4, e4, o4, k4⟩ := o3.put0 (R := Value × Heap) (i := ((n + 1 : Nat) : Int)) (j := n + 1) rfl (x := [Value.int .i64 0, .string ⟨#[]⟩, .int .i64 0]) (by rw [List.getElem?_append_right (by simp; omega)]; simp [hn]) (m := 3) (y := more.c) (by decide) rfl
  have e4' := e4
  simp only [It.c, more] at e4'
  rw [show IntKind.wrap .i64 (-100000 - 77) = -100077 from rfl, e4']
  have p4 : Pre H H4 := o3.pre (Nat.le_refl _) p3 k4
  have hx4 : (l.map It.c ++ [mark.c, [Value.int .i64 0, .string ⟨#[]⟩, .int .i64 0]]).set (n + 1) more.c = l.map It.c ++ [mark.c, more.c] := by
    rw [List.set_append_right _ _ (by simp; omega)]; simp [hn]
  rw [hx4] at o4
  rw [(o4.upto (i := (n : Int)) (j := n) rfl (by omega)).1]
  simp only [aBind, aSl]
  exact Ret.one ⟨a1, rfl, p4, o4.sl⟩

theorem sp9 {H : Heap} {a a' : Option Addr} {n n' c' : Nat} {l k : List It} (h : Sl H 3 a (n + 2) (n + 2) (l.map It.c ++ [mark.c, more.c])) (hn : n = l.length) (h' : Its H a' n' c' k) (hk : n' = n) (hb : l.length ≤ 1048576) :
    CT Tb same 9 [.slice a n (n + 2), .slice a' n' c'] H = some (.bool (l == k), H) := by
  subst hk
  have hl : Its H a n' (n' + 2) l := by
    have := (h.upto (i := (n' : Int)) (j := n') rfl (by omega)).2
    rw [List.take_append_of_le_length (by simp; omega), List.take_of_length_le (by simp; omega)] at this
    exact this
  refine (c9 ?_).is
  unfold s9
  rw [w64 (n := (n' : Int) + 2) (by omega) (by omega), w64 (n := (n' : Int) + 1) (by omega) (by omega), show ((n' : Int) + 2) = ((n' + 2 : Nat) : Int) by omega, show ((n' : Int) + 1) = ((n' + 1 : Nat) : Int) by omega]
  rw [h.room (i := ((n' + 2 : Nat) : Int)) (j := n' + 2) rfl (Nat.le_refl _) (by omega)]
  simp only [aBind, aSl]
  rw [sp25 hl h' (by omega)]
  simp only [aBind, same_self, aT, aBool]
  have g1 : (l.map It.c ++ [mark.c, more.c])[n']? = some mark.c := by
    rw [List.getElem?_append_right (by simp; omega)]; simp [hn]
  have g2 : (l.map It.c ++ [mark.c, more.c])[n' + 1]? = some more.c := by
    rw [List.getElem?_append_right (by simp; omega)]; simp [hn]
  cases hlk : (l == k) with
  | false => exact g9_J0_ret (Ret.one ⟨rfl, rfl⟩)
  | true =>
    rw [aT]
    rw [h.get0 (i := (n' : Int)) rfl g1 (Nat.le_refl _) (Nat.le_refl _)]
    simp only [It.c, mark, List.take_succ_cons, List.take_zero, aCons, aInt, aStr, aNil]
    rw [sp10]
    simp only [aBind, same_self, aT, aAgg, aCons, aInt, aStr, aNil]
    rw [show IntKind.wrap .i64 (-1 - 77) = -78 from rfl, bs_beq, show (((0 : Int) == 0) && (([] : List UInt8) == [] && (((-78 : Int) == -78) && true))) = true from rfl]
    rw [aT]
    rw [h.get0 (i := ((n' + 1 : Nat) : Int)) rfl g2 (Nat.le_refl _) (Nat.le_refl _)]
    simp only [It.c, more, List.take_succ_cons, List.take_zero, aCons, aInt, aStr, aNil]
    rw [sp11]
    simp only [aBind, same_self, aT, aAgg, aCons, aInt, aStr, aNil]
    rw [show IntKind.wrap .i64 (-100000 - 77) = -100077 from rfl, bs_beq, show (((0 : Int) == 0) && (([] : List UInt8) == [] && (((-100077 : Int) == -100077) && true))) = true from rfl]
    exact g9_J0_ret (Ret.one ⟨rfl, rfl⟩)

end Go.Proofs.YtknogapmjleliaaDoor
