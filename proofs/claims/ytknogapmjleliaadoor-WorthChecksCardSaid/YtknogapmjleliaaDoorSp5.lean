/- The document's behind and Type over items, as functions of lists. No condition. -/
import Derived.Test.YtknogapmjleliaaDoorSp4
namespace Go.Proofs.YtknogapmjleliaaDoor
open Go Go.AM

/-- behind's loop: what is left of the list, how many are left to come, the place -/
def bh (L : Nat) : List It → Int → Nat → Int
  | [], left, i => if left > 0 then 0 else i
  | x :: r, left, i => if left > 0 then (if x.n < 0 ∨ x.n > L then 0 else bh L r (left + (x.n - 1)) (i + 1)) else i

theorem sp15_loop {H : Heap} {a : Option Addr} {n c : Nat} {l : List It} (h : Its H a n c l) (hb : l.length ≤ 65536) :
    ∀ (m j : Nat) (left : Int), m + j = l.length → -(65536 : Int) ≤ left → left ≤ 1 + 65536 * (j : Int) → Ret (g15_L0 Tb same a n c (j : Int) left H) fun v K => v = .int .i64 (bh l.length (l.drop j) left j) ∧ K = H := by
  have hn := h.len
  intro m
  induction m with
  | zero =>
    intro j left hj h0 h1
    refine g15_L0_ret ?_
    unfold s15_L0
    rw [show decide ((j : Int) < (n : Int)) = false by simp; omega, aF]
    refine g15_J1_ret ?_
    unfold s15_J1
    rw [aF, List.drop_of_length_le (by omega)]
    refine Ret.cond (fun q => Ret.one ⟨?_, rfl⟩) (fun q => Ret.one ⟨?_, rfl⟩)
    · simp only [decide_eq_true_eq] at q; simp only [bh]; rw [if_pos q]
    · simp only [decide_eq_false_iff_not] at q; simp only [bh]; rw [if_neg q]
  | succ m ih =>
    intro j left hj h0 h1
    have hlt : j < l.length := by omega
    have e1 : l.drop j = l[j] :: l.drop (j + 1) := List.drop_eq_getElem_cons hlt
    refine g15_L0_ret ?_
    unfold s15_L0
    rw [show decide ((j : Int) < (n : Int)) = true by simp; omega, aT, e1]
    refine g15_J1_ret ?_
    unfold s15_J1
    refine Ret.cond (fun q => ?_) (fun q => ?_)
    · simp only [decide_eq_true_eq] at q
      simp only [bh]; rw [if_pos q]
      have rd := fun (g : List Value → Option (Value × Heap)) => Sl.get (R := Value × Heap) h (i := (j : Int)) rfl (Its.at hlt) (d := 2) (m := 1) (k := 1) (by omega) (by omega) g
      have hc : cut (It.c l[j]) 2 1 = [Value.int .i64 l[j].n] := rfl
      rw [rd, hc]
      simp only [aCons, aInt, aNil]
      have bad : (l[j].n < 0 ∨ l[j].n > (l.length : Int)) → Ret (g15_J2 Tb same a n c (j : Int) left true H) fun v K => v = .int .i64 (if l[j].n < 0 ∨ l[j].n > (l.length : Int) then 0 else bh l.length (l.drop (j + 1)) (left + (l[j].n - 1)) (j + 1)) ∧ K = H := fun e => by
        rw [if_pos e]; exact g15_J2_ret (Ret.one ⟨rfl, rfl⟩)
      refine Ret.cond (fun q1 => bad (.inl (by simpa using q1))) (fun q1 => ?_)
      rw [rd, hc]
      simp only [aCons, aInt, aNil]
      simp only [decide_eq_false_iff_not] at q1
      by_cases q2 : l[j].n > (n : Int)
      · rw [decide_eq_true q2]; exact bad (.inr (by omega))
      · rw [decide_eq_false q2, if_neg (by omega)]
        refine g15_J2_ret ?_
        unfold s15_J2
        rw [aF, rd, hc]
        simp only [aCons, aInt, aNil]
        rw [w64 (n := (j : Int) + 1) (by omega) (by omega), w64 (n := l[j].n - 1) (by omega) (by omega), w64 (by omega) (by omega), show ((j : Int) + 1) = ((j + 1 : Nat) : Int) by omega]
        exact ih (j + 1) _ (by omega) (by omega) (by omega)
    · simp only [decide_eq_false_iff_not] at q
      simp only [bh]; rw [if_neg q, decide_eq_false q, aF]
      exact Ret.one ⟨rfl, rfl⟩

theorem sp15 {H : Heap} {a : Option Addr} {n c : Nat} {l : List It} (h : Its H a n c l) (hb : l.length ≤ 65536) : CT Tb same 15 [.slice a n c, .int .i64 0] H = some (.int .i64 (bh l.length l 1 0), H) := by
  refine (c15 ?_).is
  unfold s15
  exact sp15_loop h hb l.length 0 1 rfl (by omega) (by omega)

/-- how many values cover a list of items; none: it isn't cut into values -/
def cnt : List It → Option Nat
  | [] => some 0
  | x :: r => match cnt r with
    | some k => if 0 ≤ x.n ∧ x.n ≤ k then some (k - x.n.toNat + 1) else none
    | none => none

def foldJ : List Ty → Option Ty
  | [] => some (0, 0)
  | t :: ts => foldBoth t ts

/-- types and ends, the nearest one first -/
def tk (i : Nat) : List It → Option (List (Ty × Nat))
  | [] => some []
  | x :: r => match tk (i + 1) r with
    | none => none
    | some st => if x.b ≠ 0 then some (((x.b, 0), i + 1) :: st) else match foldJ ((st.take x.n.toNat).map (·.1)) with
      | none => none
      | some t => some (((t.1, t.2 + 1), ((st.take x.n.toNat).getLast?.map (·.2)).getD (i + 1)) :: st.drop x.n.toNat)

/-- a chain of values in the tables of types and ends -/
def Chain (ts : List Ty) (es : List Int) (L : Nat) : Nat → List (Ty × Nat) → Prop
  | i, [] => i = L
  | i, (t, e) :: st => i < L ∧ ts[i]? = some t ∧ es[i]? = some (e : Int) ∧ i < e ∧ Chain ts es L e st

def intC (n : Int) : List Value := [.int .i64 n]

theorem Chain.le {ts : List Ty} {es : List Int} {L : Nat} : ∀ {st : List (Ty × Nat)} {i : Nat}, Chain ts es L i st → i ≤ L
  | [], i, h => by have : i = L := h; omega
  | (t, e) :: st, i, h => Nat.le_of_lt h.1

theorem Chain.set {ts : List Ty} {es : List Int} {L k : Nat} {t : Ty} {e : Int} : ∀ {st : List (Ty × Nat)} {i : Nat}, k < i → Chain ts es L i st → Chain (ts.set k t) (es.set k e) L i st
  | [], i, _, h => h
  | (u, e') :: st, i, hk, h => ⟨h.1, by rw [List.getElem?_set_ne (by omega)]; exact h.2.1, by rw [List.getElem?_set_ne (by omega)]; exact h.2.2.1, h.2.2.2.1, Chain.set (by have := h.2.2.2.1; omega) h.2.2.2.2⟩

theorem Chain.drop {ts : List Ty} {es : List Int} {L : Nat} : ∀ {k : Nat} {st : List (Ty × Nat)} {i : Nat}, k ≤ st.length → Chain ts es L i st → Chain ts es L (((st.take k).getLast?.map (·.2)).getD i) (st.drop k) ∧ i ≤ ((st.take k).getLast?.map (·.2)).getD i
  | 0, st, i, _, h => by simpa using h
  | k + 1, [], i, hk, h => by simp at hk
  | k + 1, (t, e) :: st, i, hk, h => by
    have := Chain.drop (k := k) (st := st) (i := e) (by simpa using hk) h.2.2.2.2
    have h4 := h.2.2.2.1
    have e1 : ((((t, e) :: st).take (k + 1)).getLast?.map (·.2)).getD i = ((st.take k).getLast?.map (·.2)).getD e := by
      rw [List.take_succ_cons, List.getLast?_cons]
      cases st.take k with
      | nil => rfl
      | cons u us => simp [List.getLast?_cons]
    rw [e1, List.drop_succ_cons]
    exact ⟨this.1, by omega⟩

theorem tk_len : ∀ {l : List It} {i k : Nat} {st : List (Ty × Nat)}, (∀ x ∈ l, itemP x = true) → cnt l = some k → tk i l = some st → st.length = k
  | [], i, k, st, _, hc, ht => by simp [cnt] at hc; simp [tk] at ht; subst ht; simpa using hc
  | x :: r, i, k, st, hx, hc, ht => by
    simp only [cnt] at hc
    simp only [tk] at ht
    split at hc
    · rename_i k' hk'
      split at hc
      · rename_i hn
        simp only [Option.some.injEq] at hc
        split at ht
        · simp at ht
        · rename_i st' hst'
          have ih := tk_len (fun y hy => hx y (List.mem_cons_of_mem _ hy)) hk' hst'
          split at ht
          · rename_i hb
            have h0 := hx x (List.mem_cons_self ..)
            unfold itemP bareP at h0
            rw [if_neg hb] at h0
            simp only [Bool.and_eq_true, beq_iff_eq] at h0
            simp only [Option.some.injEq] at ht; subst ht
            have : x.n.toNat = 0 := by omega
            simp; omega
          · split at ht
            · simp at ht
            · simp only [Option.some.injEq] at ht; subst ht
              simp only [List.length_cons, List.length_drop]; omega
      · simp at hc
    · simp at hc

end Go.Proofs.YtknogapmjleliaaDoor
