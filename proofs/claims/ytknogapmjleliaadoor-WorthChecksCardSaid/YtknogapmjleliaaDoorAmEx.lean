/- Two functions of strings.Builder whose contracts are given by hand: copyCheck, String: what they do to a row. No condition. -/
import Derived.Test.YtknogapmjleliaaDoorAmR
import Derived.Lib.Builder
import Derived.Lib.UnsafeStr
namespace Go.AM
open Go

/-- copyCheck: the builder's first cell is its own address behind it -/
def gCopy (ty : Nat) : List Value → Heap → Option (Value × Heap)
  | [.pointer (some ⟨f, 0, some 0⟩)], H => match H[f]? with
    | some (.cells ty' sz (p :: q :: r) 0 _ 0 false) => if ty' = ty then match p with
        | .pointer none => some (.tuple #[], H.set f (.cells ty' sz (.pointer (some ⟨f, 0, some 0⟩) :: q :: r) 0 0 0 false))
        | .pointer (some ⟨g, 0, some 0⟩) => if g = f then some (.tuple #[], H) else none
        | _ => none
      else none
    | _ => none
  | _, _ => none

/-- bytes as cells, told -/
def bytesIs : List Value → Option (List UInt8)
  | [] => some []
  | .int .u8 n :: r => if 0 ≤ n ∧ n < 256 then match bytesIs r with | some l => some (UInt8.ofNat n.toNat :: l) | none => none else none
  | _ => none

/-- String: the buffer's bytes; the buffer is not used again -/
def gStr (ty tb : Nat) : List Value → Heap → Option (Value × Heap)
  | [.pointer (some ⟨f, 0, some 0⟩)], H => match H[f]? with
    | some (.cells ty' _ [_, .slice a n c] 0 _ _ _) => if ty' = ty then match a with
        | none => if n = 0 ∧ c = 0 then some (.string ⟨#[]⟩, H) else none
        | some ⟨g, 0, some k⟩ => match H[g]? with
          | some (.cells tb' 1 vals cur minv _ false) => if tb' = tb ∧ minv ≤ k ∧ k ≤ cur ∧ n ≠ 0 ∧ n ≤ vals.length ∧ n ≤ 9223372036854775807 ∧ g ≠ f then match bytesIs (vals.take n) with
              | some l => some (.string ⟨l.toArray⟩, H.set g .dead)
              | none => none
            else none
          | _ => none
        | _ => none
      else none
    | _ => none
  | _, _ => none

theorem bytesIs_ok : ∀ {cs : List Value} {l : List UInt8}, bytesIs cs = some l → cs = l.map fun b => Value.int .u8 b.toNat
  | [], l, h => by simp [bytesIs] at h; subst h; rfl
  | v :: r, l, h => by
    unfold bytesIs at h
    split at h
    · rename_i e; simp at e
    · rename_i n r' e
      simp at e; obtain ⟨rfl, rfl⟩ := e
      split at h
      · rename_i hn
        split at h
        · rename_i l' hl
          simp at h; subst h
          rw [bytesIs_ok hl]
          simp only [List.map_cons, List.cons.injEq, Value.int.injEq, true_and, and_true]
          have : (UInt8.ofNat n.toNat).toNat = n.toNat := by simp; omega
          rw [this]; omega
        · simp at h
      · simp at h
    · simp at h

variable {P : Program}

theorem ar1 {L : Locs} {f : Nat} {ys : List Value} (h : AR L [.pointer (some ⟨f, 0, some 0⟩)] ys) : ∃ l, L f 0 = some l ∧ l.lo = 0 ∧ l.gap = 0 ∧ ys = [.pointer (some ⟨l.B, 0, none⟩)] := by
  obtain ⟨hl, h⟩ := h
  match ys, hl with
  | [y], _ =>
    obtain ⟨y', hy, r⟩ := h 0 _ rfl
    simp at hy; subst hy
    cases r with
    | ptr _ _ l hl h0 => exact ⟨l, hl, by omega, by omega, rfl⟩

theorem splice0 {p v : Value} {r : List Value} : splice (p :: r) 0 [v] = v :: r := by simp [splice]

theorem copy_ext {f ty : Nat} (hbody : ∃ fn, P.funcs[f]? = some fn ∧ ¬ fn.body = none ∧ ¬ fn.name = "runtime.NumGoroutine")
    (hused : ∀ (b : Nat) (w : World), w.cell? ⟨b, 0, none⟩ = some (.pointer (some ⟨b, 0, none⟩)) → Calls P f #[.pointer (some ⟨b, 0, none⟩)] w fun e w' => e = .returned (.tuple #[]) ∧ w' = w)
    (hfresh : ∀ (b n : Nat) (w : World), w.cell? ⟨b, 0, none⟩ = some (.pointer none) → w.shape? b = some (ty, n) → 2 ≤ n → w.frozen? ⟨b, 0, none⟩ = false → Calls P f #[.pointer (some ⟨b, 0, none⟩)] w fun e w' => e = .returned (.tuple #[]) ∧ w' = w.setCell ⟨b, 0, none⟩ (.pointer (some ⟨b, 0, none⟩))) :
    ExtOk P f (gCopy ty) := by
  refine ⟨hbody, fun xs H v H' hg L w ys hH ha => ?_⟩
  unfold gCopy at hg
  split at hg
  · rename_i f'
    split at hg
    · rename_i ty' sz p q r minv hf
      split at hg
      · rename_i hty
        subst hty
        obtain ⟨l, hl, hlo, hgap, rfl⟩ := ar1 ha
        have hm : minv ≤ 0 := (hH.obj f' _ hf).1
        obtain ⟨e1, e2, e3, e4, e5, e6, e7, g3, g2, xs, T, x, y, hb, hz, hs, rr⟩ := hH.copy hf hl hm (Nat.le_refl _)
        have e5' := e5 rfl
        obtain ⟨u, x0, h1, h2, h3⟩ := rr 0 (by omega) (by rw [e5']; simp)
        rw [hlo] at h2
        simp at h1 h2; subst h1
        obtain ⟨rfl, hz2⟩ := hz
        have hsz : 2 ≤ xs.size := by rw [hs]; rw [e5', hlo] at e6; simp at e6; omega
        have hcell : w.cell? ⟨l.B, 0, none⟩ = some x0 := by simp [World.cell?, hb, h2]
        split at hg
        · simp at hg; obtain ⟨rfl, rfl⟩ := hg
          cases h3
          refine (hfresh l.B xs.size w hcell (by simp [World.shape?, hb]) hsz ?_).mono ?_
          · have := hz2 0 (by omega) (by omega)
            simp [World.frozen?, hb]; omega
          · rintro e w' ⟨rfl, rfl⟩
            have hi := enter_inv hH ha 1
            have hst := hi.storeObj hf hl hb 0 [.pointer (some ⟨f', 0, some 0⟩)] [.pointer (some ⟨l.B, 0, none⟩)] (CR.cons trivial (.ptr f' 0 l hl (by omega)) (CR.nil _)) (by omega) (by simp)
            rw [splice0] at hst
            have e : (splice xs.toList (0 - l.lo) [Value.pointer (some ⟨l.B, 0, none⟩)]).toArray = xs.setIfInBounds 0 (.pointer (some ⟨l.B, 0, none⟩)) := by
              obtain ⟨xl⟩ := xs
              match xl, hsz with
              | c :: d, _ => simp [splice]
            rw [e, ← setCell_eq_setRow w l.B 0 xs T (x, y) _ hb] at hst
            exact ⟨_, L, rfl, VR.tup #[] #[] rfl (fun i p _ => absurd p (by simp)), hst.rel.heap, hst.keep⟩
        · rename_i g
          split at hg
          · rename_i hgf
            subst hgf
            simp at hg; obtain ⟨rfl, rfl⟩ := hg
            cases h3 with
            | ptr _ _ l' hl' h0' =>
              rw [hl] at hl'; simp at hl'; subst hl'
              refine (hused l.B w hcell).mono ?_
              rintro e w' ⟨rfl, rfl⟩
              exact ⟨_, L, rfl, VR.tup #[] #[] rfl (fun i p _ => absurd p (by simp)), hH, Keep.refl L _⟩
          · simp at hg
        · simp at hg
      · simp at hg
    · simp at hg
  · simp at hg

theorem str_ext {f ty tb : Nat} (hbody : ∃ fn, P.funcs[f]? = some fn ∧ ¬ fn.body = none ∧ ¬ fn.name = "runtime.NumGoroutine")
    (hnil : ∀ (b : Nat) (w : World), w.cell? ⟨b, 1, none⟩ = some (.slice none 0 0) → Calls P f #[.pointer (some ⟨b, 0, none⟩)] w fun e w' => e = .returned (.string ⟨#[]⟩) ∧ w' = w.drew)
    (hrow : ∀ (b g cap cells : Nat) (l : List UInt8) (w : World), w.cell? ⟨b, 1, none⟩ = some (.slice (some ⟨g, 0, none⟩) l.length cap) → w.shape? g = some (tb, cells) → l ≠ [] → cap ≠ 0 → l.length ≤ cells → l.length ≤ 9223372036854775807 →
      (∀ j x, l[j]? = some x → w.cell? ⟨g, j, none⟩ = some (.int .u8 x.toNat)) → Calls P f #[.pointer (some ⟨b, 0, none⟩)] w fun e w' => e = .returned (.string ⟨l.toArray⟩) ∧ w' = w.drew.freeze ⟨g, 0, none⟩ l.length) :
    ExtOk P f (gStr ty tb) := by
  refine ⟨hbody, fun xs H v H' hg L w ys hH ha => ?_⟩
  unfold gStr at hg
  split at hg
  · rename_i f'
    split at hg
    · rename_i ty' sz p a n c minv frz ro hf
      split at hg
      · rename_i hty
        subst hty
        obtain ⟨l, hl, hlo, hgap, rfl⟩ := ar1 ha
        have hm : minv ≤ 0 := (hH.obj f' _ hf).1
        obtain ⟨e1, e2, e3, e4, e5, e6, e7, g3, g2, xs, T, x, y, hb, hz, hs, rr⟩ := hH.copy hf hl hm (Nat.le_refl _)
        have e5' := e5 rfl
        obtain ⟨u, x1, h1, h2, h3⟩ := rr 1 (by omega) (by rw [e5']; simp)
        rw [hlo] at h2
        simp at h1 h2; subst h1
        have hcell : w.cell? ⟨l.B, 1, none⟩ = some x1 := by simp [World.cell?, hb, h2]
        split at hg
        · split at hg
          · rename_i hnc
            obtain ⟨rfl, rfl⟩ := hnc
            simp at hg; obtain ⟨rfl, rfl⟩ := hg
            cases h3
            refine (hnil l.B w hcell).mono ?_
            rintro e w' ⟨rfl, rfl⟩
            have hi := (enter_inv hH ha 1).same (Same.drew w)
            exact ⟨_, L, rfl, .str _, hi.rel.heap, hi.keep⟩
          · simp at hg
        · rename_i g k
          split at hg
          · rename_i tb' vals cur minv' frz' hgf
            split at hg
            · rename_i hc
              obtain ⟨rfl, c1, c2, c3, c4, c5, c6⟩ := hc
              split at hg
              · rename_i bs hbs
                simp at hg; obtain ⟨rfl, rfl⟩ := hg
                have hbe := bytesIs_ok hbs
                have hbl : bs.length = n := by
                  have := congrArg List.length hbe; simp at this; omega
                cases h3 with
                | sl0 => exact (c3 rfl).elim
                | sl _ _ _ _ _ cap' l2 hl2 a1 a2 a3 a4 a5 =>
                  obtain ⟨b1, b2, b3, b4, b5, b6, b7, b8, b9, ys2, T2, x2, y2, hb2, hz2, hs2, rr2⟩ := hH.copy hgf hl2 c1 c2
                  obtain ⟨rfl, _⟩ := hz2
                  have hlo2 : l2.lo = 0 := by omega
                  have hcell2 : w.cell? ⟨l.B, 1, none⟩ = some (.slice (some ⟨l2.B, 0, none⟩) n cap') := by simpa [hlo2] using hcell
                  have hsh : w.shape? l2.B = some (T2, ys2.size) := by simp [World.shape?, hb2]
                  rw [b1] at a2 a5
                  refine (hrow l.B l2.B cap' ys2.size bs w (by rw [hbl]; exact hcell2) hsh (by intro e; subst e; simp at hbl; omega) (by omega) (by omega) (by omega) ?_).mono ?_
                  · intro j b hj
                    have hjl : j < bs.length := (List.getElem?_eq_some_iff.1 hj).1
                    obtain ⟨v, z, r1, r2, r3⟩ := rr2 j (by omega) (by omega)
                    have hv : v = .int .u8 b.toNat := by
                      have : (vals.take n)[j]? = some v := by rw [List.getElem?_take, if_pos (by omega)]; exact r1
                      rw [hbe, List.getElem?_map, hj] at this
                      simpa using this.symm
                    subst hv
                    cases r3
                    simp [World.cell?, hb2]; simpa [hlo2] using r2
                  · rintro e w' ⟨rfl, rfl⟩
                    have hi := (enter_inv hH ha 1).same (Same.drew w)
                    have hchg : Chg L g w.drew (w.drew.freeze ⟨l2.B, 0, none⟩ bs.length) := by
                      unfold World.freeze
                      split
                      · exact ⟨Nat.le_refl _, rfl, rfl, fun _ _ _ => rfl⟩
                      · refine ⟨by simp, rfl, rfl, fun B hB hne => ?_⟩
                        simp only [Array.getElem?_modify]
                        rw [if_neg (hne _ l2 hl2 b2)]
                    have hd := hi.setObj hchg .dead trivial (fun _ _ _ _ _ _ _ q => by simp at q)
                    exact ⟨_, L, rfl, .str _, hd.rel.heap, hd.keep⟩
              · simp at hg
            · simp at hg
          · simp at hg
        · simp at hg
      · simp at hg
    · simp at hg
  · simp at hg

end Go.AM
