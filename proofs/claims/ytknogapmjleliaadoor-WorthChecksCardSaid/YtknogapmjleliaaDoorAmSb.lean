/- Slices of one's own: appended to, cut, written. No condition. -/
import Derived.Test.YtknogapmjleliaaDoorAmSa
namespace Go.AM
open Go

variable {B : Nat} {H H' : Heap} {ty sz n c : Nat} {a a' : Option Addr} {xs : List (List Value)}

theorem Chd.refl (a : Option Addr) (H : Heap) : Chd a a H H := ⟨Nat.le_refl _, fun _ _ _ => rfl, .inl rfl, id⟩

theorem Chd.trans {a b c : Option Addr} {H1 H2 H3 : Heap} (h : Chd a b H1 H2) (k : Chd b c H2 H3) : Chd a c H1 H3 where
  len := Nat.le_trans h.len k.len
  old g hg hr := by
    rw [k.old g (Nat.lt_of_lt_of_le hg h.len) ?_, h.old g hg hr]
    intro e
    rcases h.row with r | ⟨g', r, r1, r2⟩
    · rw [r] at e; exact hr e
    · rw [r] at e; simp at e; omega
  row := by
    rcases k.row with r | ⟨g, r, r1, r2⟩
    · rcases h.row with q | ⟨g, q, q1, q2⟩
      · exact .inl (r.trans q)
      · exact .inr ⟨g, r.trans q, q1, Nat.lt_of_lt_of_le q2 k.len⟩
    · exact .inr ⟨g, r, Nat.le_trans h.len r1, r2⟩
  off h0 := k.off (h.off h0)

/-- an own slice's row is at or above B -/
theorem Own.base (h : Own B H ty sz a n c xs) : ∀ g, rowOf a = some g → B ≤ g ∧ g < H.length := by
  intro g hg
  rcases h.2.2.2 with ⟨rfl, _⟩ | ⟨f, off, k, vals, minv, frz, rfl, hB, q, _⟩
  · simp [rowOf] at hg
  · simp [rowOf] at hg; subst hg; exact ⟨hB, (List.getElem?_eq_some_iff.1 q).1⟩

theorem Own.pre {H0 : Heap} (h : Own B H ty sz a n c xs) (hB : H0.length ≤ B) (p : Pre H0 H) (k : Chd a a' H H') : Pre H0 H' := fun g hg => by
  rw [k.old g (Nat.lt_of_lt_of_le hg p.len) (fun e => by have := (h.base g e).1; omega), p g hg]

/-- what shows rows keeps showing them where another row is turned -/
theorem Sl.keep {b : Option Addr} {m d : Nat} {ys : List (List Value)} {sz' : Nat} (h : Sl H sz' b m d ys) (k : Chd a a' H H') (hne : ∀ g, rowOf b = some g → rowOf a ≠ some g) : Sl H' sz' b m d ys := by
  obtain ⟨h1, h2, h3, h4⟩ := h
  refine ⟨h1, h2, h3, ?_⟩
  rcases h4 with h4 | ⟨f, off, kk, ty, vals, cur, minv, frz, ro, rfl, q, r⟩
  · exact .inl h4
  · exact .inr ⟨f, off, kk, ty, vals, cur, minv, frz, ro, rfl, by rw [k.old f (List.getElem?_eq_some_iff.1 q).1 (hne f rfl)]; exact q, r⟩

theorem Own.keep {b : Option Addr} {m d : Nat} {ys : List (List Value)} {ty' sz' : Nat} (h : Own B H ty' sz' b m d ys) (k : Chd a a' H H') (hne : ∀ g, rowOf b = some g → rowOf a ≠ some g) : Own B H' ty' sz' b m d ys := by
  obtain ⟨h1, h2, h3, h4⟩ := h
  refine ⟨h1, h2, h3, ?_⟩
  rcases h4 with h4 | ⟨f, off, kk, vals, minv, frz, rfl, hB, q, r⟩
  · exact .inl h4
  · exact .inr ⟨f, off, kk, vals, minv, frz, rfl, hB, by rw [k.old f (List.getElem?_eq_some_iff.1 q).1 (hne f rfl)]; exact q, r⟩

theorem Own.mono (h : Own B H ty sz a n c xs) (p : Pre H H') : Own B H' ty sz a n c xs := by
  obtain ⟨h1, h2, h3, h4⟩ := h
  refine ⟨h1, h2, h3, ?_⟩
  rcases h4 with h4 | ⟨f, off, k, vals, minv, frz, e, hB, q, r⟩
  · exact .inl h4
  · exact .inr ⟨f, off, k, vals, minv, frz, e, hB, p.at q, r⟩

theorem rdSl_sl {b : Option Addr} {m d : Nat} {ys : List (List Value)} (h : Sl H sz b m d ys) : rdSl H sz (.slice b m d) = some ys.flatten := by
  obtain ⟨h1, h2, h3, h4⟩ := h
  rcases h4 with ⟨rfl, rfl, rfl⟩ | ⟨f, off, k, ty, vals, cur, minv, frz, ro, rfl, q, r1, r2, r3, r4⟩
  · have : ys = [] := List.eq_nil_of_length_eq_zero h1.symm
    subst this; rfl
  · simp [rdSl, q, r1, r2, r3]

/-- append of rows' cells -/
theorem Own.appV (h : Own B H ty sz a n c xs) (hB : B ≤ H.length) {ns : List (List Value)} {bytes : Nat} (hns : ∀ x ∈ ns, x.length = sz) (hb : (n + ns.length) * bytes ≤ 1099511627776) :
    ∃ a' c' H', appendV H ty sz bytes (.slice a n c) ns.flatten ns.length = some (.slice a' (n + ns.length) c', H') ∧ Own B H' ty sz a' (n + ns.length) c' (xs ++ ns) ∧ Chd a a' H H' := by
  have h0 := h
  obtain ⟨h1, h2, h3, h4⟩ := h
  have hall : ∀ x ∈ xs ++ ns, x.length = sz := by
    intro x hx; rcases List.mem_append.1 hx with q | q
    · exact h3 x q
    · exact hns x q
  have hfl := flatten_len hns
  by_cases hz : ns.length = 0
  · have : ns = [] := List.eq_nil_of_length_eq_zero hz
    subst this
    refine ⟨a, c, H, ?_, by simpa using h0, Chd.refl _ _⟩
    rcases h4 with ⟨rfl, rfl, rfl⟩ | ⟨f, off, k, vals, minv, frz, rfl, hf, q, r0, r1, r3, r4⟩
    · simp [appendV]
    · simp [appendV]
  · rcases h4 with ⟨rfl, rfl, rfl⟩ | ⟨f, off, k, vals, minv, frz, rfl, hf, q, r0, r1, r3, r4⟩
    · have hx : xs = [] := List.eq_nil_of_length_eq_zero h1.symm
      subst hx
      refine ⟨some ⟨H.length, 0, some 0⟩, ns.length, H ++ [.cells ty sz ns.flatten 0 0 0 false], ?_, ?_, ?_⟩
      · simp only [Nat.zero_add] at hb
        simp [appendV, hz, hb]
      · refine ⟨by simp, by omega, hall, .inr ⟨H.length, 0, 0, ns.flatten, 0, 0, rfl, hB, by simp, Nat.le_refl _, Nat.le_refl _, ?_, ?_⟩⟩
        · simp only [cut, List.drop_zero, Nat.zero_add, List.nil_append]
          rw [← hfl, List.take_length]
        · simp only [Nat.zero_add]; omega
      · exact ⟨by simp, fun g hg _ => List.getElem?_append_left hg, .inr ⟨H.length, rfl, Nat.le_refl _, by simp⟩, fun _ => rfl⟩
    · have hlt := (List.getElem?_eq_some_iff.1 q).1
      have hm : (n + ns.length) * sz = n * sz + ns.length * sz := Nat.add_mul _ _ _
      have hfz : frz ≤ off + n * sz := by omega
      refine ⟨some ⟨f, off, some (k + 1)⟩, n + ns.length, H.set f (.cells ty sz (vals.take (off + n * sz) ++ ns.flatten) (k + 1) (if off + n * sz = vals.length then minv else k + 1) frz false), ?_, ?_, ?_⟩
      · simp [appendV, hz, q, hfz, hb]
      · refine ⟨by simp [h1], Nat.le_refl _, hall, .inr ⟨f, off, k + 1, _, _, frz, rfl, hf, by rw [List.getElem?_set_self hlt], by split <;> omega, r1, ?_, ?_⟩⟩
        · rw [List.flatten_append, ← r3, hm]
          have e1 : (vals.take (off + n * sz)).length = off + n * sz := by simp; omega
          simp only [cut]
          rw [List.drop_append_of_le_length (by omega), List.drop_take, show off + n * sz - off = n * sz by omega, List.take_append, List.take_of_length_le (by simp; omega)]
          congr 1
          rw [List.length_take, List.length_drop, show n * sz + ns.length * sz - min (n * sz) (vals.length - off) = ns.length * sz by omega, ← hfl, List.take_length]
        · rw [List.length_append, List.length_take, hfl]; omega
      · refine ⟨by simp, fun g hg hr => ?_, .inl rfl, id⟩
        rw [List.getElem?_set_ne]
        intro e; exact hr (by simp [rowOf, e])

theorem Own.app (h : Own B H ty sz a n c xs) (hB : B ≤ H.length) {b : Option Addr} {m d bytes : Nat} {ys : List (List Value)} (hs : Sl H sz b m d ys) (hb : (n + m) * bytes ≤ 1099511627776) :
    ∃ a' c' H', apA H ty sz bytes (.slice a n c) (.slice b m d) = some (.slice a' (n + m) c', H') ∧ Own B H' ty sz a' (n + m) c' (xs ++ ys) ∧ Chd a a' H H' := by
  have e := rdSl_sl hs
  obtain rfl := hs.1
  obtain ⟨a', c', H', q, r⟩ := h.appV hB hs.2.2.1 hb
  exact ⟨a', c', H', by simp [apA, e, slLen, q], r⟩

/-- append of one element, laid in a row of its own first -/
theorem Own.push (h : Own B H ty sz a n c xs) (hB : B ≤ H.length) {x : List Value} {ty' bytes : Nat} (hx : x.length = sz) (hb : (n + 1) * bytes ≤ 1099511627776) :
    ∃ a' c' H', apA (H ++ [.cells ty' sz x 0 0 0 false]) ty sz bytes (.slice a n c) (.slice (some ⟨H.length, 0, some 0⟩) 1 1) = some (.slice a' (n + 1) c', H') ∧ Own B H' ty sz a' (n + 1) c' (xs ++ [x]) ∧ Chd a a' H H' := by
  have p := Pre.app H [.cells ty' sz x 0 0 0 false]
  have hs : Sl (H ++ [.cells ty' sz x 0 0 0 false]) sz (some ⟨H.length, 0, some 0⟩) 1 1 [x] := by
    refine ⟨rfl, Nat.le_refl _, by simpa using hx, .inr ⟨H.length, 0, 0, ty', x, 0, 0, 0, false, rfl, by simp, Nat.le_refl _, Nat.le_refl _, ?_, by omega⟩⟩
    simp [cut, ← hx]
  obtain ⟨a', c', H', q, r, k⟩ := (h.mono p).app (bytes := bytes) (by simp; omega) hs hb
  refine ⟨a', c', H', q, r, ⟨?_, ?_, ?_, k.off⟩⟩
  · have := k.len; simp at this; omega
  · intro g hg hr
    rw [k.old g (by simp; omega) hr, List.getElem?_append_left hg]
  · rcases k.row with e | ⟨g, e, e1, e2⟩
    · exact .inl e
    · exact .inr ⟨g, e, by simp at e1; omega, e2⟩

/-- a text appended to bytes -/
theorem Own.text (h : Own B H ty 1 a n c xs) (hB : B ≤ H.length) {s : ByteArray} (hb : (n + s.size) * 1 ≤ 1099511627776) :
    ∃ a' c' H', apA H ty 1 1 (.slice a n c) (.string s) = some (.slice a' (n + s.size) c', H') ∧ Own B H' ty 1 a' (n + s.size) c' (xs ++ s.data.toList.map fun b => [Value.int .u8 b.toNat]) ∧ Chd a a' H H' := by
  have hl : (s.data.toList.map fun b => [Value.int .u8 b.toNat]).length = s.size := by simp
  obtain ⟨a', c', H', q, r, k⟩ := h.appV hB (ns := s.data.toList.map fun b => [Value.int .u8 b.toNat]) (bytes := 1) (by simp) (by rw [hl]; exact hb)
  rw [hl] at q r
  have hf : (s.data.toList.map fun b => [Value.int .u8 b.toNat]).flatten = s.data.toList.map fun b => Value.int .u8 b.toNat := by
    generalize s.data.toList = l
    induction l with
    | nil => rfl
    | cons x l ih => simp [ih]
  rw [hf] at q
  exact ⟨a', c', H', by simp [apA, q], r, k⟩

/-- xs[:i] -/
theorem Own.upto (h : Own B H ty sz a n c xs) {i : Int} {j : Nat} (hi : i = j) (hj : j ≤ n) :
    slA H sz (.slice a n c) none (some i) = some (.slice a j c) ∧ Own B H ty sz a j c (xs.take j) := by
  refine ⟨(h.sl.upto hi hj).1, ?_⟩
  obtain ⟨h1, h2, h3, h4⟩ := h
  have hx : ∀ x ∈ xs.take j, x.length = sz := fun x hx => h3 x (List.mem_of_mem_take hx)
  refine ⟨by simp; omega, by omega, hx, ?_⟩
  rcases h4 with ⟨rfl, rfl, rfl⟩ | ⟨f, off, k, vals, minv, frz, rfl, hB, q, r0, r1, r3, r4⟩
  · exact .inl ⟨rfl, by omega, rfl⟩
  · have hm : j * sz ≤ n * sz := Nat.mul_le_mul_right _ hj
    exact .inr ⟨f, off, k, vals, minv, frz, rfl, hB, q, r0, r1, by rw [flatten_take h3, ← r3, cut_take hm], by omega⟩

theorem flatten_set {sz : Nat} : ∀ {xs : List (List Value)} {j : Nat} {x y : List Value} {d : Nat}, (∀ x ∈ xs, x.length = sz) → xs[j]? = some x → d + y.length ≤ sz → splice xs.flatten (j * sz + d) y = (xs.set j (splice x d y)).flatten
  | [], j, x, y, d, _, hj, _ => by simp at hj
  | z :: xs, 0, x, y, d, h, hj, hd => by
    simp at hj; subst hj
    have hz := h z (List.mem_cons_self ..)
    simp only [splice, List.flatten_cons, Nat.zero_mul, Nat.zero_add, List.set_cons_zero]
    rw [List.take_append_of_le_length (by omega), List.drop_append_of_le_length (by omega)]
    simp
  | z :: xs, j + 1, x, y, d, h, hj, hd => by
    have hz := h z (List.mem_cons_self ..)
    have := flatten_set (fun z hz => h z (List.mem_cons_of_mem _ hz)) (show xs[j]? = some x by simpa using hj) hd
    rw [List.set_cons_succ, List.flatten_cons, List.flatten_cons, ← this]
    simp only [splice]
    have e : (j + 1) * sz = j * sz + sz := Nat.succ_mul _ _
    rw [List.take_append, List.drop_append, hz, List.take_of_length_le (by omega), List.drop_of_length_le (l := z) (by omega), show (j + 1) * sz + d - sz = j * sz + d by omega, show (j + 1) * sz + d + y.length - sz = j * sz + d + y.length by omega]
    simp [List.append_assoc]

theorem splice_cut {vs : List Value} {o n d : Nat} {y : List Value} (h : d + y.length ≤ n) (hl : o + n ≤ vs.length) : cut (splice vs (o + d) y) o n = splice (cut vs o n) d y := by
  apply List.ext_getElem?
  intro i
  have hs1 : o + d + y.length ≤ vs.length := by omega
  have hs2 : d + y.length ≤ (cut vs o n).length := by simp [cut]; omega
  have cg : ∀ (us : List Value) (j : Nat), (cut us o n)[j]? = if j < n then us[o + j]? else none := by
    intro us j
    simp only [cut, List.getElem?_take, List.getElem?_drop]
  have sg : ∀ (us : List Value) (p j : Nat), p + y.length ≤ us.length → (splice us p y)[j]? = if p ≤ j ∧ j < p + y.length then y[j - p]? else us[j]? := by
    intro us p j hp
    simp only [splice]
    by_cases h1 : j < p
    · rw [List.append_assoc, List.getElem?_append_left (by simp; omega), List.getElem?_take, if_pos h1, if_neg (by omega)]
    · by_cases h2 : j < p + y.length
      · rw [List.getElem?_append_left (by simp; omega), List.getElem?_append_right (by simp; omega), if_pos (by omega)]
        congr 1; simp; omega
      · rw [List.getElem?_append_right (by simp; omega), List.getElem?_drop, if_neg (by omega)]
        congr 1; simp; omega
  rw [cg, sg _ _ _ hs1, sg _ _ _ hs2, cg]
  by_cases hi : i < n
  · rw [if_pos hi, if_pos hi]
    by_cases h1 : d ≤ i ∧ i < d + y.length
    · rw [if_pos h1, if_pos (by omega)]; congr 1; omega
    · rw [if_neg h1, if_neg (by omega)]
  · rw [if_neg hi, if_neg hi, if_neg (by omega)]

section
variable {R : Type}

/-- an element is written -/
theorem Own.put (h : Own B H ty sz a n c xs) {i : Int} {j : Nat} (hi : i = j) {x : List Value} (hj : xs[j]? = some x) {d m : Nat} {y : List Value} (hm : y.length ≤ m) (hd : d + y.length ≤ sz) :
    ∃ H', (∀ g : Heap → Option R, ((ixA H sz (.slice a n c) i).bind fun q => (wrHp H q.1 (q.2.1 + d) q.2.2 m y).bind g) = g H') ∧ Own B H' ty sz a n c (xs.set j (splice x d y)) ∧ Chd a a H H' := by
  obtain ⟨h1, h2, h3, h4⟩ := h
  have hjn : j < n := by rw [h1]; exact (List.getElem?_eq_some_iff.1 hj).1
  have hxl : x.length = sz := h3 x (List.mem_of_getElem? hj)
  have hyl : (splice x d y).length = sz := by simp [splice]; omega
  rcases h4 with ⟨_, h4, _⟩ | ⟨f, off, k, vals, minv, frz, rfl, hB, q, r0, r1, r3, r4⟩
  · omega
  · have hlt := (List.getElem?_eq_some_iff.1 q).1
    have hix : idx i n = some j := by simp [idx, hi, hjn]
    have hle : j * sz + sz ≤ n * sz := by
      have := Nat.mul_le_mul_right sz (show j + 1 ≤ n by omega)
      rw [Nat.succ_mul] at this; exact this
    have hfz : frz ≤ off + j * sz + d := by omega
    refine ⟨H.set f (.cells ty sz (splice vals (off + j * sz + d) y) k k frz false), ?_, ?_, ?_⟩
    · intro g
      simp [ixA, hix, q, r0, wrHp, hm, hfz]
    · refine ⟨by simp [h1], h2, ?_, .inr ⟨f, off, k, _, k, frz, rfl, hB, by rw [List.getElem?_set_self hlt], Nat.le_refl _, r1, ?_, ?_⟩⟩
      · intro z hz
        rcases List.mem_or_eq_of_mem_set hz with q | q
        · exact h3 z q
        · rw [q]; exact hyl
      · rw [← flatten_set h3 hj hd, ← r3, show off + j * sz + d = off + (j * sz + d) by omega, splice_cut (by omega) r4]
      · simp [splice]; omega
    · refine ⟨by simp, fun g hg hr => ?_, .inl rfl, id⟩
      rw [List.getElem?_set_ne]
      intro e; exact hr (by simp [rowOf, e])

theorem Own.put0 (h : Own B H ty sz a n c xs) {i : Int} {j : Nat} (hi : i = j) {x : List Value} (hj : xs[j]? = some x) {m : Nat} {y : List Value} (hm : y.length ≤ m) (hd : y.length = sz) :
    ∃ H', (∀ g : Heap → Option R, ((ixA H sz (.slice a n c) i).bind fun q => (wrHp H q.1 q.2.1 q.2.2 m y).bind g) = g H') ∧ Own B H' ty sz a n c (xs.set j y) ∧ Chd a a H H' := by
  have hxl : x.length = sz := h.2.2.1 x (List.mem_of_getElem? hj)
  obtain ⟨H', e, o, k⟩ := h.put (R := R) hi hj (d := 0) hm (by omega)
  have : splice x 0 y = y := by simp [splice]; omega
  rw [this] at o
  exact ⟨H', by simpa using e, o, k⟩
end

theorem replicate_flat {z : List Value} : ∀ n : Nat, (List.replicate n z).flatten.length = n * z.length
  | 0 => by simp
  | n + 1 => by rw [List.replicate_succ, List.flatten_cons, List.length_append, replicate_flat n, Nat.succ_mul, Nat.add_comm]

/-- make -/
theorem mk_own {B : Nat} {H : Heap} {ty sz bytes : Nat} {z : List Value} {i : Int} {n : Nat} (hB : B ≤ H.length) (hz : z.length = sz) (hi : i = n) (hb : n * bytes ≤ 140737488355328) (hn : n ≤ 140737488355328) :
    ∃ a H', mkA H ty sz bytes z i i = some (.slice a n n, H') ∧ Own B H' ty sz a n n (List.replicate n z) ∧ Pre H H' ∧ (∃ g, rowOf a = some g ∧ H.length ≤ g) := by
  subst hi
  refine ⟨some ⟨H.length, 0, some 0⟩, H ++ [.cells ty sz (List.replicate n z).flatten 0 0 0 false], ?_, ?_, Pre.app _ _, ⟨_, rfl, Nat.le_refl _⟩⟩
  · unfold mkA
    have hb' : ((n : Int) * (bytes : Int)) ≤ 140737488355328 := by
      have : ((n * bytes : Nat) : Int) ≤ 140737488355328 := by omega
      rwa [Int.natCast_mul] at this
    rw [if_pos ⟨by omega, by omega, hb', by omega⟩, Int.toNat_natCast]
  · have hl := replicate_flat (z := z) n
    rw [hz] at hl
    refine ⟨by simp, Nat.le_refl _, fun x hx => by rw [List.eq_of_mem_replicate hx]; exact hz, .inr ⟨H.length, 0, 0, (List.replicate n z).flatten, 0, 0, rfl, hB, List.getElem?_concat_length, Nat.le_refl _, Nat.le_refl _, ?_, by rw [hl]; omega⟩⟩
    simp only [cut, List.drop_zero]
    rw [← hl, List.take_length]

/-- copy -/
theorem Own.cpy (h : Own B H ty sz a n c xs) {b : Option Addr} {m d : Nat} {ys : List (List Value)} (hs : Sl H sz b m d ys) :
    ∃ H', cpA H sz (.slice a n c) (.slice b m d) = some (((min m n : Nat) : Int), H') ∧ Own B H' ty sz a n c (ys.take (min m n) ++ xs.drop (min m n)) ∧ Chd a a H H' := by
  have e := rdSl_sl hs
  have hm := hs.1
  have h0 := h
  obtain ⟨h1, h2, h3, h4⟩ := h
  have hall : ∀ x ∈ ys.take (min m n) ++ xs.drop (min m n), x.length = sz := by
    intro x hx; rcases List.mem_append.1 hx with q | q
    · exact hs.2.2.1 x (List.mem_of_mem_take q)
    · exact h3 x (List.mem_of_mem_drop q)
  have hlen : n = (ys.take (min m n) ++ xs.drop (min m n)).length := by
    rw [List.length_append, List.length_take, List.length_drop]; omega
  rcases h4 with ⟨rfl, rfl, rfl⟩ | ⟨f, off, k, vals, minv, frz, rfl, hB, q, r0, r1, r3, r4⟩
  · refine ⟨H, ?_, ⟨hlen, h2, hall, .inl ⟨rfl, rfl, rfl⟩⟩, Chd.refl _ _⟩
    simp [cpA, e]
  · have hlt := (List.getElem?_eq_some_iff.1 q).1
    have hyl := flatten_len hs.2.2.1
    have hmn : min m n * sz ≤ n * sz := Nat.mul_le_mul_right _ (Nat.min_le_right _ _)
    have hmm : min m n * sz ≤ m * sz := Nat.mul_le_mul_right _ (Nat.min_le_left _ _)
    have htl : (ys.flatten.take (min m n * sz)).length = min m n * sz := by rw [List.length_take, hyl, ← hm]; omega
    refine ⟨H.set f (.cells ty sz (splice vals off (ys.flatten.take (min m n * sz))) k k frz false), ?_, ⟨hlen, h2, hall, .inr ⟨f, off, k, _, k, frz, rfl, hB, by rw [List.getElem?_set_self hlt], Nat.le_refl _, r1, ?_, ?_⟩⟩, ?_⟩
    · simp [cpA, e, slLen, q, r1]
    · have := splice_cut (vs := vals) (o := off) (n := n * sz) (d := 0) (y := ys.flatten.take (min m n * sz)) (by rw [htl]; omega) r4
      rw [Nat.add_zero] at this
      rw [this, r3, List.flatten_append, flatten_take hs.2.2.1, flatten_drop h3]
      unfold splice
      rw [htl]; simp
    · have : (splice vals off (ys.flatten.take (min m n * sz))).length = vals.length := by
        simp only [splice, List.length_append, List.length_take, List.length_drop, hyl, ← hm] at htl ⊢; omega
      omega
    · refine ⟨by simp, fun g hg hr => ?_, .inl rfl, id⟩
      rw [List.getElem?_set_ne]
      intro e; exact hr (by simp [rowOf, e])

/-- xs[:i] up to the room -/
theorem Sl.room {b : Option Addr} {m d : Nat} {ys : List (List Value)} (h : Sl H sz b m d ys) {i : Int} {j n : Nat} (hi : i = j) (hj : j ≤ d) (hn : n ≤ d) : slA H sz (.slice b n d) none (some i) = some (.slice b j d) := by
  obtain ⟨h1, h2, h3, h4⟩ := h
  subst hi
  rcases h4 with ⟨rfl, rfl, rfl⟩ | ⟨f, off, k, ty, vals, cur, minv, frz, ro, rfl, q, r1, r2, r3, r4⟩
  · obtain rfl : j = 0 := by omega
    obtain rfl : n = 0 := by omega
    simp [slA, bndI, hiI, loI]
  · have : ((j : Int) ≤ (d : Int)) := by omega
    simp [slA, bndI, hiI, loI, q, r1, r2, this]

end Go.AM
