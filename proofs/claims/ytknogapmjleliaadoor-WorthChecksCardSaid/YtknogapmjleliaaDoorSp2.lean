/- Items and types: what bare, item, both, joined answer; two lists of items compared. No condition. -/
import Derived.Test.YtknogapmjleliaaDoorSp1
namespace Go.Proofs.YtknogapmjleliaaDoor
open Go Go.AM

structure It where
  b : Int
  t : List UInt8
  n : Int
  deriving DecidableEq

def It.c (x : It) : List Value := [.int .i64 x.b, .string (bs x.t), .int .i64 x.n]
def It.v (x : It) : Value := .agg #[.int .i64 x.b, .string (bs x.t), .int .i64 x.n]

abbrev Ty := Int × Int
def tyV (t : Ty) : Value := .agg #[.int .i64 t.1, .int .i64 t.2]
def Ty.c (t : Ty) : List Value := [.int .i64 t.1, .int .i64 t.2]

def tTrue : List UInt8 := [116, 114, 117, 101]
def tFalse : List UInt8 := [102, 97, 108, 115, 101]

def bareP (x : It) : Bool := (if x.b = 1 then numP x.t else if x.b = 2 then decide (x.t.length ≤ 65536) else if x.b = 3 then x.t == tTrue || x.t == tFalse else false) && x.n == 0

theorem sp12_end (x : It) (ok : Bool) (H : Heap) : Ret (g12_J0 Tb same x.b (bs x.t) x.n 0 0 ok H) fun v K => v = .tuple #[tyV (x.b, 0), .bool (ok && x.n == 0)] ∧ K = H := by
  refine g12_J0_ret ?_
  unfold s12_J0
  refine Ret.cond (fun h => ?_) (fun h => ?_)
  · exact g12_J1_ret (Ret.one ⟨by rw [h]; rfl, rfl⟩)
  · exact g12_J1_ret (Ret.one ⟨by rw [h]; rfl, rfl⟩)

theorem sp12 (x : It) (H : Heap) : CT Tb same 12 [x.v] H = some (.tuple #[tyV (x.b, 0), .bool (bareP x)], H) := by
  refine (c12 ?_).is
  unfold s12
  rw [sp26]
  simp only [Option.bind_some, ifBool, bs_size, bs_toList, show (⟨#[116, 114, 117, 101]⟩ : ByteArray) = bs tTrue from rfl, show (⟨#[102, 97, 108, 115, 101]⟩ : ByteArray) = bs tFalse from rfl]
  have fin : ∀ ok, ok = (if x.b = 1 then numP x.t else if x.b = 2 then decide (x.t.length ≤ 65536) else if x.b = 3 then x.t == tTrue || x.t == tFalse else false) → Ret (g12_J0 Tb same x.b (bs x.t) x.n 0 0 ok H) fun v K => v = .tuple #[tyV (x.b, 0), .bool (bareP x)] ∧ K = H := by
    intro ok hok
    refine (sp12_end x ok H).mono ?_
    rintro v K ⟨rfl, rfl⟩
    exact ⟨by rw [hok]; rfl, rfl⟩
  refine Ret.cond (fun h1 => fin _ ?_) (fun h1 => Ret.cond (fun h2 => fin _ ?_) (fun h2 => Ret.cond (fun h3 => Ret.cond (fun h4 => fin _ ?_) (fun h4 => fin _ ?_)) (fun h3 => fin _ ?_)))
  · simp only [beq_iff_eq] at h1; rw [if_pos h1]
  · simp only [beq_iff_eq, beq_eq_false_iff_ne] at h1 h2; rw [if_neg h1, if_pos h2]
    exact decide_eq_decide.2 (by omega)
  · simp only [beq_iff_eq, beq_eq_false_iff_ne] at h1 h2 h3; rw [if_neg h1, if_neg h2, if_pos h3, h4]; rfl
  · simp only [beq_iff_eq, beq_eq_false_iff_ne] at h1 h2 h3; rw [if_neg h1, if_neg h2, if_pos h3, h4]; rfl
  · simp only [beq_eq_false_iff_ne] at h1 h2 h3; rw [if_neg h1, if_neg h2, if_neg h3]

def itemP (x : It) : Bool := if x.b = 0 then x.t == [] && decide (0 ≤ x.n) else bareP x

theorem sp14 (x : It) (H : Heap) : CT Tb same 14 [x.v] H = some (.bool (itemP x), H) := by
  refine (c14 ?_).is
  unfold s14
  rw [sp27]
  simp only [Option.bind_some, ifBool, bs_size, bs_toList, show (⟨#[116, 114, 117, 101]⟩ : ByteArray) = bs tTrue from rfl, show (⟨#[102, 97, 108, 115, 101]⟩ : ByteArray) = bs tFalse from rfl, show (⟨#[]⟩ : ByteArray) = bs [] from rfl]
  refine Ret.cond (fun h0 => ?_) (fun h0 => ?_)
  · simp only [beq_iff_eq] at h0
    refine Ret.cond (fun h => g14_J0_ret (Ret.one ⟨?_, rfl⟩)) (fun h => g14_J0_ret (Ret.one ⟨?_, rfl⟩))
    · unfold itemP; rw [if_pos h0, h]; simp
    · unfold itemP; rw [if_pos h0, h]; simp
  · simp only [beq_eq_false_iff_ne] at h0
    unfold itemP bareP
    rw [if_neg h0]
    refine Ret.cond (fun h1 => ?_) (fun h1 => Ret.cond (fun h2 => ?_) (fun h2 => Ret.cond (fun h3 => ?_) (fun h3 => ?_)))
    · simp only [beq_iff_eq] at h1
      rw [if_pos h1]
      refine Ret.cond (fun h => g14_J1_ret (Ret.one ⟨?_, rfl⟩)) (fun h => g14_J1_ret (Ret.one ⟨?_, rfl⟩))
      · rw [h]; simp
      · rw [h]; simp
    · simp only [beq_iff_eq, beq_eq_false_iff_ne] at h1 h2
      rw [if_neg h1, if_pos h2]
      refine Ret.cond (fun h => g14_J2_ret (Ret.one ⟨?_, rfl⟩)) (fun h => g14_J2_ret (Ret.one ⟨?_, rfl⟩))
      · rw [h, Bool.and_true]; congr 1; exact decide_eq_decide.2 (by omega)
      · rw [h]; simp
    · simp only [beq_iff_eq, beq_eq_false_iff_ne] at h1 h2 h3
      rw [if_neg h1, if_neg h2, if_pos h3]
      refine Ret.cond (fun h => Ret.cond (fun h4 => g14_J3_ret (Ret.one ⟨?_, rfl⟩)) (fun h4 => g14_J3_ret (Ret.one ⟨?_, rfl⟩))) (fun h => g14_J3_ret (Ret.one ⟨?_, rfl⟩))
      · rw [h, h4]; simp
      · rw [h, h4]; simp
      · rw [h]; simp
    · simp only [beq_eq_false_iff_ne] at h1 h2 h3
      rw [if_neg h1, if_neg h2, if_neg h3]
      exact Ret.one ⟨by simp, rfl⟩

def bothP (a b : Ty) : Ty × Bool :=
  if a.1 = 0 ∧ b.1 = 0 then ((0, if b.2 > a.2 then b.2 else a.2), true)
  else if a.1 = 0 then (b, decide (a.2 ≤ b.2))
  else if b.1 = 0 then (a, decide (b.2 ≤ a.2))
  else (a, a.1 == b.1 && a.2 == b.2)

def bothV (r : Ty × Bool) : Value := .tuple #[tyV r.1, .bool r.2]

theorem sp13 (a b : Ty) (H : Heap) : CT Tb same 13 [tyV a, tyV b] H = some (bothV (bothP a b), H) := by
  refine (c13 ?_).is
  unfold s13
  have fin : ∀ x6, x6 = decide (a.1 = 0 ∧ b.1 = 0) → Ret (g13_J0 Tb same a.1 a.2 b.1 b.2 0 0 x6 H) fun v K => v = bothV (bothP a b) ∧ K = H := by
    intro x6 hx
    refine g13_J0_ret ?_
    unfold s13_J0 bothP
    refine Ret.cond (fun h => Ret.one ⟨?_, rfl⟩) (fun h => Ret.cond (fun h1 => Ret.one ⟨?_, rfl⟩) (fun h1 => Ret.cond (fun h2 => Ret.one ⟨?_, rfl⟩) (fun h2 => Ret.one ⟨?_, rfl⟩)))
    · rw [hx] at h; simp only [decide_eq_true_eq] at h; rw [if_pos h]; rfl
    · rw [hx] at h; simp only [decide_eq_false_iff_not, beq_iff_eq] at h h1; rw [if_neg h, if_pos h1]; rfl
    · rw [hx] at h; simp only [decide_eq_false_iff_not, beq_iff_eq, beq_eq_false_iff_ne] at h h1 h2; rw [if_neg h, if_neg h1, if_pos h2]; rfl
    · rw [hx] at h; simp only [decide_eq_false_iff_not, beq_eq_false_iff_ne] at h h1 h2; rw [if_neg h, if_neg h1, if_neg h2, Bool.and_true]; rfl
  refine Ret.cond (fun h => fin _ ?_) (fun h => fin _ ?_)
  · simp only [beq_iff_eq] at h; simp [h]
    by_cases q : b.1 = 0 <;> simp [q]
  · simp only [beq_eq_false_iff_ne] at h; simp [h]

theorem sp28 (a b : Ty) (H : Heap) : CT Tb same 28 [tyV a, tyV b] H = some (bothV (bothP a b), H) := by
  refine (c28 ?_).is
  unfold s28
  have fin : ∀ x6, x6 = decide (a.1 = 0 ∧ b.1 = 0) → Ret (g28_J0 Tb same a.1 a.2 b.1 b.2 0 0 x6 H) fun v K => v = bothV (bothP a b) ∧ K = H := by
    intro x6 hx
    refine g28_J0_ret ?_
    unfold s28_J0 bothP
    refine Ret.cond (fun h => Ret.one ⟨?_, rfl⟩) (fun h => Ret.cond (fun h1 => Ret.one ⟨?_, rfl⟩) (fun h1 => Ret.cond (fun h2 => Ret.one ⟨?_, rfl⟩) (fun h2 => Ret.one ⟨?_, rfl⟩)))
    · rw [hx] at h; simp only [decide_eq_true_eq] at h; rw [if_pos h]; rfl
    · rw [hx] at h; simp only [decide_eq_false_iff_not, beq_iff_eq] at h h1; rw [if_neg h, if_pos h1]; rfl
    · rw [hx] at h; simp only [decide_eq_false_iff_not, beq_iff_eq, beq_eq_false_iff_ne] at h h1 h2; rw [if_neg h, if_neg h1, if_pos h2]; rfl
    · rw [hx] at h; simp only [decide_eq_false_iff_not, beq_eq_false_iff_ne] at h h1 h2; rw [if_neg h, if_neg h1, if_neg h2, Bool.and_true]; rfl
  refine Ret.cond (fun h => fin _ ?_) (fun h => fin _ ?_)
  · simp only [beq_iff_eq] at h; simp [h]
    by_cases q : b.1 = 0 <;> simp [q]
  · simp only [beq_eq_false_iff_ne] at h; simp [h]

/-- a slice shows items -/
def Its (H : Heap) (a : Option Addr) (n c : Nat) (l : List It) : Prop := Sl H 3 a n c (l.map It.c)

theorem Its.mono {H H' : Heap} {a : Option Addr} {n c : Nat} {l : List It} (h : Its H a n c l) (p : Pre H H') : Its H' a n c l := Sl.mono h p
theorem Its.len {H : Heap} {a : Option Addr} {n c : Nat} {l : List It} (h : Its H a n c l) : n = l.length := by simpa using h.1
theorem Its.at {l : List It} {j : Nat} (h : j < l.length) : (l.map It.c)[j]? = some (It.c l[j]) := by
  rw [List.getElem?_map, List.getElem?_eq_getElem h]; rfl

theorem bs_beq (a b : List UInt8) : ((bs a).toList == (bs b).toList) = (a == b) := by rw [bs_toList, bs_toList]

theorem sp25_loop {H : Heap} {a a' : Option Addr} {n c n' c' : Nat} {l k : List It} (h : Its H a n c l) (h' : Its H a' n' c' k) (hl : l.length = k.length) (hb : l.length ≤ 4611686018427387904) : ∀ (m j : Nat), m + j = l.length → Ret (g25_L0 Tb same a n c a' n' c' j H) fun v K => v = .bool (l.drop j == k.drop j) ∧ K = H := by
  intro m
  induction m with
  | zero =>
    intro j hj
    refine g25_L0_ret ?_
    unfold s25_L0
    rw [h.len]
    refine Ret.cond (fun q => ?_) (fun q => ?_)
    · simp only [decide_eq_true_eq] at q; omega
    · rw [List.drop_of_length_le (by omega), List.drop_of_length_le (by omega)]
      exact Ret.one ⟨rfl, rfl⟩
  | succ m ih =>
    intro j hj
    have hlt : j < l.length := by omega
    have hlt' : j < k.length := by omega
    have e1 : l.drop j = l[j] :: l.drop (j + 1) := List.drop_eq_getElem_cons hlt
    have e2 : k.drop j = k[j] :: k.drop (j + 1) := List.drop_eq_getElem_cons hlt'
    refine g25_L0_ret ?_
    unfold s25_L0
    refine Ret.cond (fun _ => ?_) (fun q => ?_)
    · rw [Sl.get0 h rfl (Its.at hlt) (Nat.le_refl _) (Nat.le_refl _)]
      simp only [It.c, List.take_succ_cons, List.take_zero, ifCons, ifInt, ifStr, ifNil, if_true]
      rw [Sl.get0 h' rfl (Its.at hlt') (Nat.le_refl _) (Nat.le_refl _)]
      simp only [It.c, List.take_succ_cons, List.take_zero, if_true, bs_beq, Bool.and_true]
      have hx : (l[j].b == k[j].b && (l[j].t == k[j].t && l[j].n == k[j].n)) = decide (l[j] = k[j]) := by
        rw [Bool.eq_iff_iff]
        simp only [Bool.and_eq_true, beq_iff_eq, decide_eq_true_eq]
        constructor
        · rintro ⟨q1, q2, q3⟩
          cases hx : l[j]; cases hy : k[j]
          simp_all
        · rintro e; rw [e]; exact ⟨rfl, rfl, rfl⟩
      rw [hx, e1, e2]
      refine Ret.cond (fun q => ?_) (fun q => ?_)
      · refine Ret.one ⟨?_, rfl⟩
        have : l[j] ≠ k[j] := by simpa using q
        simp only [List.cons_beq_cons]
        rw [show (l[j] == k[j]) = false by simpa using this]; rfl
      · have : l[j] = k[j] := by simpa using q
        rw [w64 (by omega) (by omega), show ((j : Int) + 1) = ((j + 1 : Nat) : Int) by omega]
        refine (ih (j + 1) (by omega)).mono ?_
        rintro v K ⟨rfl, rfl⟩
        refine ⟨?_, rfl⟩
        rw [List.cons_beq_cons, show (l[j] == k[j]) = true by simpa using this, Bool.true_and]
    · rw [h.len] at q
      simp only [decide_eq_false_iff_not] at q; omega

theorem sp25 {H : Heap} {a a' : Option Addr} {n c n' c' : Nat} {l k : List It} (h : Its H a n c l) (h' : Its H a' n' c' k) (hb : l.length ≤ 4611686018427387904) : CT Tb same 25 [.slice a n c, .slice a' n' c'] H = some (.bool (l == k), H) := by
  refine (c25 ?_).is
  unfold s25
  rw [h.len, h'.len]
  refine Ret.cond (fun q => ?_) (fun q => ?_)
  · refine Ret.one ⟨?_, rfl⟩
    have : l.length ≠ k.length := by simp only [bne_iff_ne] at q; omega
    rw [show (l == k) = false by simp; rintro rfl; exact this rfl]
  · have : l.length = k.length := by simp at q; omega
    rw [← h.len, ← h'.len]
    exact sp25_loop h h' this hb l.length 0 rfl

end Go.Proofs.YtknogapmjleliaaDoor
