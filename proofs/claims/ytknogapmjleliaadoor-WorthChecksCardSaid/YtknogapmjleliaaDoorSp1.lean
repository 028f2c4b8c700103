/- What the small functions answer: prefixes, numerals, bare items, types put together. No condition. -/
import Derived.Test.YtknogapmjleliaaDoorShTab
import Derived.Test.YtknogapmjleliaaDoorAmSc
namespace Go.Proofs.YtknogapmjleliaaDoor
open Go Go.AM

theorem sp10 (x : Int) (H : Heap) : CT Tb same 10 [.int .i64 x] H = some (.agg #[.int .i64 0, .string (bs []), .int .i64 (IntKind.wrap .i64 ((-1) - x))], H) :=
  (c10 (Ret.one (v := .agg #[.int .i64 0, .string (bs []), .int .i64 (IntKind.wrap .i64 ((-1) - x))]) (H := H) ⟨rfl, rfl⟩)).is
theorem sp11 (x : Int) (H : Heap) : CT Tb same 11 [.int .i64 x] H = some (.agg #[.int .i64 0, .string (bs []), .int .i64 (IntKind.wrap .i64 ((-100000) - x))], H) :=
  (c11 (Ret.one (v := .agg #[.int .i64 0, .string (bs []), .int .i64 (IntKind.wrap .i64 ((-100000) - x))]) (H := H) ⟨rfl, rfl⟩)).is

theorem sp49 (x y : List UInt8) (H : Heap) : CT Tb same 49 [.string (bs x), .string (bs y)] H = some (.bool (decide (y.length ≤ x.length) && x.take y.length == y), H) := by
  refine (c49 ?_).is
  unfold s49
  simp only [bs_size]
  refine Ret.cond (fun h => ?_) (fun h => ?_)
  · simp only [decide_eq_true_eq] at h
    have h' : y.length ≤ x.length := by omega
    rw [ssA_upto x rfl h']
    simp only [Option.bind_some]
    refine g49_J0_ret (Ret.one ⟨?_, rfl⟩)
    rw [bs_toList, bs_toList]; simp [h']
  · simp only [decide_eq_false_iff_not] at h
    refine g49_J0_ret (Ret.one ⟨?_, rfl⟩)
    have h' : ¬ y.length ≤ x.length := by omega
    simp [h']

def trim (x y : List UInt8) : List UInt8 := if (decide (y.length ≤ x.length) && x.take y.length == y) = true then x.drop y.length else x

theorem sp41 (x y : List UInt8) (H : Heap) : CT Tb same 41 [.string (bs x), .string (bs y)] H = some (.string (bs (trim x y)), H) := by
  refine (c41 ?_).is
  unfold s41
  rw [sp49]
  simp only [Option.bind_some, ifBool, bs_size]
  refine Ret.cond (fun h => ?_) (fun h => ?_)
  · have h2 := h
    simp only [Bool.and_eq_true, decide_eq_true_eq] at h2
    rw [ssA_from x rfl h2.1]
    exact Ret.one ⟨by simp only [trim, h, if_true], rfl⟩
  · exact Ret.one ⟨by simp only [trim, h, Bool.false_eq_true, if_false], rfl⟩

theorem sp33 (x y : List UInt8) (H : Heap) : CT Tb same 33 [.string (bs x), .string (bs y)] H = some (.string (bs (trim x y)), H) := by
  refine (c33 ?_).is
  unfold s33
  rw [sp41]
  exact Ret.one ⟨rfl, rfl⟩

def dig (b : UInt8) : Bool := decide (48 ≤ b.toNat) && decide (b.toNat ≤ 57)
def okD (d : List UInt8) : Bool := d != [] && (decide (d.length ≤ 10000) && d.all dig)
/-- a number as values have it -/
def numP : List UInt8 → Bool
  | 45 :: d => okD d && d.head? != some 48
  | d => okD d && !(d.head? == some 48 && decide (1 < d.length))

theorem sp26_loop (d : List UInt8) (hd : d.length ≤ 10000) (H : Heap) : ∀ (m j : Nat), m + j = d.length → Ret (g26_L1 Tb same (bs d) j H) fun v K => v = .bool ((d.drop j).all dig) ∧ K = H := by
  intro m
  induction m with
  | zero =>
    intro j hj
    refine g26_L1_ret ?_
    unfold s26_L1
    simp only [bs_size]
    refine Ret.cond (fun h => ?_) (fun h => ?_)
    · simp only [decide_eq_true_eq] at h; omega
    · rw [List.drop_of_length_le (by omega)]
      exact Ret.one ⟨rfl, rfl⟩
  | succ m ih =>
    intro j hj
    have hlt : j < d.length := by omega
    have hg : d[j]? = some d[j] := List.getElem?_eq_getElem hlt
    have hdr : d.drop j = d[j] :: d.drop (j + 1) := List.drop_eq_getElem_cons hlt
    refine g26_L1_ret ?_
    unfold s26_L1
    simp only [bs_size]
    refine Ret.cond (fun _ => ?_) (fun h => ?_)
    · rw [atS_bs d rfl, hg]
      simp only [Option.bind_some]
      have hnext : (48 ≤ d[j].toNat ∧ d[j].toNat ≤ 57) → Ret (s26_J2 Tb same (bs d) j false H) fun v K => v = .bool ((d.drop j).all dig) ∧ K = H := by
        intro hh
        unfold s26_J2
        simp only [cond]
        rw [w64 (by omega) (by omega), show ((j : Int) + 1) = ((j + 1 : Nat) : Int) by omega]
        refine (ih (j + 1) (by omega)).mono ?_
        rintro v K ⟨rfl, rfl⟩
        refine ⟨?_, rfl⟩
        rw [hdr, List.all_cons]
        have : dig d[j] = true := by simp [dig, hh.1, hh.2]
        rw [this, Bool.true_and]
      have hstop : ¬ (48 ≤ d[j].toNat ∧ d[j].toNat ≤ 57) → Ret (s26_J2 Tb same (bs d) j true H) fun v K => v = .bool ((d.drop j).all dig) ∧ K = H := by
        intro hh
        refine Ret.one ⟨?_, rfl⟩
        rw [hdr, List.all_cons]
        have : dig d[j] = false := by
          unfold dig
          by_cases h1 : 48 ≤ d[j].toNat
          · simp [h1]; omega
          · simp [h1]
        rw [this, Bool.false_and]
      refine Ret.cond (fun h => ?_) (fun h => ?_)
      · simp only [decide_eq_true_eq] at h
        exact g26_J2_ret (hstop (by omega))
      · simp only [decide_eq_false_iff_not] at h
        refine g26_J2_ret ?_
        by_cases h2 : d[j].toNat ≤ 57
        · rw [show decide ((d[j].toNat : Int) > 57) = false by simp; omega]
          exact hnext (by omega)
        · rw [show decide ((d[j].toNat : Int) > 57) = true by simp; omega]
          exact hstop (by omega)
    · simp only [decide_eq_false_iff_not] at h; omega

theorem sp26 (x : List UInt8) (H : Heap) : CT Tb same 26 [.string (bs x)] H = some (.bool (numP x), H) := by
  refine (c26 ?_).is
  unfold s26
  rw [show (⟨#[45]⟩ : ByteArray) = bs [45] from rfl, sp33]
  simp only [Option.bind_some, ifStr, bs_size, bs_toList, show (⟨#[]⟩ : ByteArray) = bs [] from rfl, show (⟨#[48]⟩ : ByteArray) = bs [48] from rfl]
  have key : ∀ d : List UInt8, ∀ r : Bool, (r = (okD d && !(d.head? == some 48 && decide (x ≠ [48])))) → Ret (cond (d == []) (g26_J0 Tb same (bs d) true H)
      (cond (decide ((d.length : Int) > 10000)) (g26_J0 Tb same (bs d) true H)
        ((atS (bs d) 0).bind fun b16 => cond ((b16.toNat : Int) == 48) (g26_J0 Tb same (bs d) (!(x == [48])) H) (g26_J0 Tb same (bs d) false H)))) fun v K => v = .bool r ∧ K = H := by
    intro d r hr
    refine Ret.cond (fun h => ?_) (fun h => ?_)
    · refine g26_J0_ret (Ret.one ⟨?_, rfl⟩)
      have : d = [] := by simpa using h
      subst this; subst hr; simp [okD]
    · have hne : d ≠ [] := by simpa using h
      refine Ret.cond (fun h => ?_) (fun h => ?_)
      · refine g26_J0_ret (Ret.one ⟨?_, rfl⟩)
        simp only [decide_eq_true_eq] at h
        have : ¬ d.length ≤ 10000 := by omega
        subst hr; simp [okD, this]
      · simp only [decide_eq_false_iff_not] at h
        have hl : d.length ≤ 10000 := by omega
        obtain ⟨b, e, rfl⟩ : ∃ b e, d = b :: e := by cases d with | nil => exact (hne rfl).elim | cons b e => exact ⟨b, e, rfl⟩
        rw [atS_bs (b :: e) (i := 0) (j := 0) rfl]
        simp only [List.getElem?_cons_zero, Option.bind_some]
        have hb : ((b.toNat : Int) == 48) = (some b == some 48) := by
          rw [Bool.eq_iff_iff]
          simp only [beq_iff_eq, Option.some.injEq]
          constructor
          · intro q; apply UInt8.toNat_inj.1; have : b.toNat = 48 := by omega
            exact this
          · rintro rfl; rfl
        have hloop : Ret (s26_J0 Tb same (bs (b :: e)) false H) fun v K => v = .bool ((b :: e).all dig) ∧ K = H := sp26_loop (b :: e) hl H (b :: e).length 0 rfl
        have hok : okD (b :: e) = (b :: e).all dig := by unfold okD; rw [decide_eq_true hl]; rfl
        refine Ret.cond (fun h => ?_) (fun h => ?_)
        · rw [hb] at h
          refine g26_J0_ret ?_
          by_cases hx : x = [48]
          · rw [show (!(x == [48])) = false by simp [hx]]
            refine hloop.mono ?_
            rintro v K ⟨rfl, rfl⟩
            exact ⟨by rw [hr, hok]; simp [hx], rfl⟩
          · rw [show (!(x == [48])) = true by simp [hx]]
            refine Ret.one ⟨?_, rfl⟩
            rw [hr, show (b :: e).head? = some b from rfl, h]; simp [hx]
        · rw [hb] at h
          refine g26_J0_ret (hloop.mono ?_)
          rintro v K ⟨rfl, rfl⟩
          exact ⟨by rw [hr, hok, show (b :: e).head? = some b from rfl, h]; simp, rfl⟩
  refine key _ _ ?_
  match x with
  | [] => rfl
  | b :: e =>
    by_cases hb : b = 45
    · subst hb
      simp [trim, numP]
      rfl
    · have ht : trim (b :: e) [45] = b :: e := by simp [trim, hb]
      rw [ht]
      have : numP (b :: e) = (okD (b :: e) && !((b :: e).head? == some 48 && decide (1 < (b :: e).length))) := by
        unfold numP
        split
        · rename_i h; simp at h; exact (hb h.1).elim
        · rfl
      rw [this]
      congr 2
      by_cases h48 : b = 48
      · subst h48
        cases e <;> simp
      · simp [h48]

theorem beq48 (b : UInt8) (n : Nat) (hn : n < 256) : ((b.toNat : Int) == (n : Int)) = (b == UInt8.ofNat n) := by
  rw [Bool.eq_iff_iff]
  simp only [beq_iff_eq]
  constructor
  · intro q
    apply UInt8.toNat_inj.1
    have : b.toNat = n := by omega
    rw [this]; simp; omega
  · rintro rfl
    have : (UInt8.ofNat n).toNat = n := by simp; omega
    rw [this]

theorem sp27_loop (d : List UInt8) (hd : d.length ≤ 10000) (H : Heap) : ∀ (m j : Nat), m + j = d.length → Ret (g27_L3 Tb same (bs d) j H) fun v K => v = .bool ((d.drop j).all dig) ∧ K = H := by
  intro m
  induction m with
  | zero =>
    intro j hj
    refine g27_L3_ret ?_
    unfold s27_L3
    simp only [bs_size]
    refine Ret.cond (fun h => ?_) (fun h => ?_)
    · simp only [decide_eq_true_eq] at h; omega
    · rw [List.drop_of_length_le (by omega)]
      exact Ret.one ⟨rfl, rfl⟩
  | succ m ih =>
    intro j hj
    have hlt : j < d.length := by omega
    have hg : d[j]? = some d[j] := List.getElem?_eq_getElem hlt
    have hdr : d.drop j = d[j] :: d.drop (j + 1) := List.drop_eq_getElem_cons hlt
    refine g27_L3_ret ?_
    unfold s27_L3
    simp only [bs_size]
    refine Ret.cond (fun _ => ?_) (fun h => ?_)
    · rw [atS_bs d rfl, hg]
      simp only [Option.bind_some]
      have hnext : (48 ≤ d[j].toNat ∧ d[j].toNat ≤ 57) → Ret (s27_J4 Tb same (bs d) j false H) fun v K => v = .bool ((d.drop j).all dig) ∧ K = H := by
        intro hh
        unfold s27_J4
        simp only [cond]
        rw [w64 (by omega) (by omega), show ((j : Int) + 1) = ((j + 1 : Nat) : Int) by omega]
        refine (ih (j + 1) (by omega)).mono ?_
        rintro v K ⟨rfl, rfl⟩
        refine ⟨?_, rfl⟩
        rw [hdr, List.all_cons]
        have : dig d[j] = true := by simp [dig, hh.1, hh.2]
        rw [this, Bool.true_and]
      have hstop : ¬ (48 ≤ d[j].toNat ∧ d[j].toNat ≤ 57) → Ret (s27_J4 Tb same (bs d) j true H) fun v K => v = .bool ((d.drop j).all dig) ∧ K = H := by
        intro hh
        refine Ret.one ⟨?_, rfl⟩
        rw [hdr, List.all_cons]
        have : dig d[j] = false := by
          unfold dig
          by_cases h1 : 48 ≤ d[j].toNat
          · simp [h1]; omega
          · simp [h1]
        rw [this, Bool.false_and]
      refine Ret.cond (fun h => ?_) (fun h => ?_)
      · simp only [decide_eq_true_eq] at h
        exact g27_J4_ret (hstop (by omega))
      · simp only [decide_eq_false_iff_not] at h
        refine g27_J4_ret ?_
        by_cases h2 : d[j].toNat ≤ 57
        · rw [show decide ((d[j].toNat : Int) > 57) = false by simp; omega]
          exact hnext (by omega)
        · rw [show decide ((d[j].toNat : Int) > 57) = true by simp; omega]
          exact hstop (by omega)
    · simp only [decide_eq_false_iff_not] at h; omega

/-- what stands behind the sign -/
theorem sp27_rest (d : List UInt8) (H : Heap) : Ret (g27_J1 Tb same (bs d) H) fun v K => v = .bool (okD d && !(d.head? == some 48 && decide (1 < d.length))) ∧ K = H := by
  refine g27_J1_ret ?_
  unfold s27_J1
  simp only [bs_size, bs_toList, show (⟨#[]⟩ : ByteArray) = bs [] from rfl]
  refine Ret.cond (fun h => ?_) (fun h => ?_)
  · have : d = [] := by simpa using h
    subst this
    exact g27_J2_ret (Ret.one ⟨by simp [okD], rfl⟩)
  · have hne : d ≠ [] := by simpa using h
    refine Ret.cond (fun h => ?_) (fun h => ?_)
    · simp only [decide_eq_true_eq] at h
      have : ¬ d.length ≤ 10000 := by omega
      exact g27_J2_ret (Ret.one ⟨by simp [okD, this], rfl⟩)
    · simp only [decide_eq_false_iff_not] at h
      have hl : d.length ≤ 10000 := by omega
      obtain ⟨b, e, rfl⟩ : ∃ b e, d = b :: e := by cases d with | nil => exact (hne rfl).elim | cons b e => exact ⟨b, e, rfl⟩
      rw [atS_bs (b :: e) (i := 0) (j := 0) rfl]
      simp only [List.getElem?_cons_zero, Option.bind_some]
      have hloop : Ret (g27_L3 Tb same (bs (b :: e)) 0 H) fun v K => v = .bool ((b :: e).all dig) ∧ K = H := sp27_loop (b :: e) hl H (b :: e).length 0 rfl
      have hok : okD (b :: e) = (b :: e).all dig := by unfold okD; rw [decide_eq_true hl]; rfl
      have hh : (b :: e).head? = some b := rfl
      rw [show (48 : Int) = ((48 : Nat) : Int) from rfl, beq48 b 48 (by omega)]
      refine Ret.cond (fun h => ?_) (fun h => ?_)
      · have hb : b = 48 := by simpa using h
        refine g27_J2_ret ?_
        refine Ret.cond (fun h => ?_) (fun h => ?_)
        · simp only [decide_eq_true_eq] at h
          have : 1 < (b :: e).length := by omega
          exact Ret.one ⟨by rw [hh, hb]; simp [hb] at this ⊢; intro _; exact this, rfl⟩
        · simp only [decide_eq_false_iff_not] at h
          have : ¬ 1 < (b :: e).length := by omega
          refine hloop.mono ?_
          rintro v K ⟨rfl, rfl⟩
          exact ⟨by rw [hok, decide_eq_false this]; simp, rfl⟩
      · have hb : b ≠ 48 := by simpa using h
        refine g27_J2_ret (hloop.mono ?_)
        rintro v K ⟨rfl, rfl⟩
        exact ⟨by rw [hok, hh]; simp [hb], rfl⟩

theorem sp27 (x : List UInt8) (H : Heap) : CT Tb same 27 [.string (bs x)] H = some (.bool (numP x), H) := by
  refine (c27 ?_).is
  unfold s27
  simp only [bs_toList, show (⟨#[]⟩ : ByteArray) = bs [] from rfl]
  match x with
  | [] => 
    refine g27_J0_ret ?_
    unfold s27_J0
    exact (sp27_rest [] H).mono fun v K h => ⟨h.1, h.2⟩
  | b :: e =>
    rw [show (!(b :: e == [])) = true from rfl, atS_bs (b :: e) (i := 0) (j := 0) rfl]
    simp only [List.getElem?_cons_zero, Option.bind_some, cond]
    rw [show (45 : Int) = ((45 : Nat) : Int) from rfl, beq48 b 45 (by omega)]
    refine g27_J0_ret ?_
    unfold s27_J0
    refine Ret.cond (fun h => ?_) (fun h => ?_)
    · have hb : b = 45 := by simpa using h
      subst hb
      rw [ssA_from (45 :: e) (i := 1) (j := 1) rfl (by simp)]
      simp only [Option.bind_some, List.drop_succ_cons, List.drop_zero, bs_toList, show (⟨#[48]⟩ : ByteArray) = bs [48] from rfl]
      refine Ret.cond (fun h => ?_) (fun h => ?_)
      · have he : e = [48] := by simpa using h
        subst he
        exact Ret.one ⟨by simp [numP], rfl⟩
      · refine (sp27_rest e H).mono ?_
        rintro v K ⟨rfl, rfl⟩
        refine ⟨?_, rfl⟩
        simp only [numP]
        congr 1
        cases e with
        | nil => rfl
        | cons c e =>
          by_cases hc : c = 48
          · subst hc
            cases e with
            | nil => simp at h
            | cons c2 e => simp
          · have h1 : (c == 48) = false := by simpa using hc
            have h2 : (some c != some 48) = true := by simpa using hc
            rw [show (c :: e).head? = some c from rfl, h2, show (some c == some (48 : UInt8)) = (c == 48) from rfl, h1]; simp
    · have hb : b ≠ 45 := by simpa using h
      refine (sp27_rest (b :: e) H).mono ?_
      rintro v K ⟨rfl, rfl⟩
      refine ⟨?_, rfl⟩
      congr 1
      unfold numP
      split
      · rename_i h; simp at h; exact (hb h.1).elim
      · rfl

end Go.Proofs.YtknogapmjleliaaDoor
