/- Regions that draw their order. No condition. -/
import Derived.Test.YtknogapmjleliaaDoorAmV
namespace Go.AM
open Go

variable {P : Program} {L0 L : Locs} {w0 w : World} {lam : Nat → Nat} {fr fr' fr1 : Fr} {H H' H1 : Heap} {a : Act} {C : Callee} {c : SC} {hs : Heap → Heap → Bool}

theorem snoc_ind {α : Type} {p : List α → Prop} (h0 : p []) (h1 : ∀ l a, p l → p (l ++ [a])) (l : List α) : p l := by
  have h : ∀ l : List α, p l.reverse := by
    intro l
    induction l with
    | nil => exact h0
    | cons a l ih => rw [List.reverse_cons]; exact h1 _ _ ih
  have := h l.reverse
  rwa [List.reverse_reverse] at this

def preds (o : Oper) : List Nat := (o.after.toList.filter (Region.binds .any ·)).map (·.on)

def ancStep (acc : List (List Nat)) (o : Oper) : List (List Nat) := acc ++ [preds o ++ (preds o).flatMap fun p => acc.getD p []]
def ancs (ops : List Oper) : List (List Nat) := ops.foldl ancStep []

/-- an operation x ahead of the operation y, the j-th, in the text's order -/
def confl (x : AOper) (j : Nat) (y : AOper) : Bool := (x.writes.any fun s => y.reads.contains s || y.writes.contains s) || ((y.writes.any fun s => x.reads.contains s) || ((x.w && y.heapy) || (x.heapy && (y.w && !decide (j < x.lz)))))

def dfl : AOper := ⟨none, .mov (.t 0), none, false, none, 0⟩

def chkDraw (ops : List Oper) (as : List AOper) : Bool :=
  (as.all fun o => o.quietOp && (o.marked && ((!o.w || o.heapy) && (!o.w || o.lz == 0)))) && ((ops.zipIdx.all fun (o, j) => (preds o).all fun p => decide (p < j)) &&
  ((List.range as.length).all fun j => (List.range j).all fun i => !confl (as.getD i dfl) j (as.getD j dfl) || ((ancs ops).getD j []).contains i))

theorem ancs_snoc (ops : List Oper) (o : Oper) : ancs (ops ++ [o]) = ancs ops ++ [preds o ++ (preds o).flatMap fun p => (ancs ops).getD p []] := by
  simp [ancs, ancStep]

theorem ancs_length (ops : List Oper) : (ancs ops).length = ops.length := by
  refine snoc_ind (p := fun ops => (ancs ops).length = ops.length) rfl (fun l o ih => ?_) ops
  rw [ancs_snoc]; simp [ih]

/-- what is closed under the edges holds all that an operation hangs on -/
theorem anc_closed (S : Nat → Bool) : ∀ (ops : List Oper), (∀ j o, ops[j]? = some o → S j = true → ∀ p ∈ preds o, S p = true) → (∀ j o, ops[j]? = some o → ∀ p ∈ preds o, p < j) → ∀ j, S j = true → ∀ i ∈ (ancs ops).getD j [], S i = true := by
  intro ops
  refine snoc_ind (p := fun ops => (∀ j o, ops[j]? = some o → S j = true → ∀ p ∈ preds o, S p = true) → (∀ j o, ops[j]? = some o → ∀ p ∈ preds o, p < j) → ∀ j, S j = true → ∀ i ∈ (ancs ops).getD j [], S i = true) (fun _ _ j _ i hi => by simp [ancs] at hi) (fun l o ih => ?_) ops
  · intro hc hp j hj i hi
    have hc' : ∀ j o, l[j]? = some o → S j = true → ∀ p ∈ preds o, S p = true := by
      intro j o q
      exact hc j o (by rw [List.getElem?_append_left (List.getElem?_eq_some_iff.1 q).1]; exact q)
    have hp' : ∀ j o, l[j]? = some o → ∀ p ∈ preds o, p < j := by
      intro j o q
      exact hp j o (by rw [List.getElem?_append_left (List.getElem?_eq_some_iff.1 q).1]; exact q)
    rw [ancs_snoc] at hi
    rw [List.getD_eq_getElem?_getD] at hi
    by_cases h1 : j < (ancs l).length
    · rw [List.getElem?_append_left h1] at hi
      exact ih hc' hp' j hj i (by rw [List.getD_eq_getElem?_getD]; exact hi)
    · rw [List.getElem?_append_right (by omega)] at hi
      rw [ancs_length] at hi h1
      by_cases h2 : j = l.length
      · subst h2
        simp only [Nat.sub_self, List.getElem?_cons_zero, Option.getD_some, List.mem_append, List.mem_flatMap] at hi
        have ho : (l ++ [o])[l.length]? = some o := by simp
        rcases hi with hi | ⟨p, hp1, hp2⟩
        · exact hc _ o ho hj i hi
        · exact ih hc' hp' p (hc _ o ho hj p hp1) i hp2
      · have : j - l.length ≠ 0 := by omega
        rw [List.getElem?_eq_none (by simp; omega)] at hi
        simp at hi

/-- the frame behind some of the operations -/
def frS (fr : Fr) (U : Nat → List (Nat × SC)) (S : Nat → Bool) : Nat → Fr
  | 0 => fr
  | k + 1 => if S k then applyU (frS fr U S k) (U k) else frS fr U S k

theorem frS_length (U : Nat → List (Nat × SC)) (S : Nat → Bool) (k : Nat) : (frS fr U S k).length = fr.length := by
  induction k with
  | zero => rfl
  | succ k ih => simp only [frS]; split <;> simp [applyU_length, ih]

/-- a slot hangs on those that turn it -/
theorem frS_get (U : Nat → List (Nat × SC)) (S S' : Nat → Bool) (s : Nat) (k : Nat) (h : ∀ j, j < k → s ∈ keys (U j) → S j = S' j) : (frS fr U S k)[s]? = (frS fr U S' k)[s]? := by
  induction k with
  | zero => rfl
  | succ k ih =>
    have ih' := ih fun j hj => h j (by omega)
    simp only [frS]
    by_cases hk : s ∈ keys (U k)
    · rw [h k (by omega) hk]
      split
      · exact applyU_in (by rw [frS_length, frS_length]) hk
      · exact ih'
    · have e1 : ∀ f : Fr, (applyU f (U k))[s]? = f[s]? := fun f => applyU_out hk
      split <;> split <;> (try rw [e1]) <;> (try rw [e1]) <;> exact ih'

/-- the later ones that don't turn a slot -/
theorem frS_stop (U : Nat → List (Nat × SC)) (S : Nat → Bool) (s : Nat) (k m : Nat) (hkm : k ≤ m) (h : ∀ j, k ≤ j → j < m → S j = true → s ∉ keys (U j)) : (frS fr U S m)[s]? = (frS fr U S k)[s]? := by
  induction m with
  | zero =>
    obtain rfl : k = 0 := by omega
    rfl
  | succ m ih =>
    by_cases e : k = m + 1
    · subst e; rfl
    · simp only [frS]
      split
      · rename_i hS
        rw [applyU_out (h m (by omega) (by omega) hS)]
        exact ih (by omega) fun j h1 h2 => h j h1 (by omega)
      · exact ih (by omega) fun j h1 h2 => h j h1 (by omega)

def ins (S : Nat → Bool) (i : Nat) : Nat → Bool := fun j => if j = i then true else S j

theorem frS_ins (U : Nat → List (Nat × SC)) (S : Nat → Bool) (i m : Nat) (him : i < m) (hlater : ∀ j, i < j → j < m → S j = true → ∀ s ∈ keys (U j), s ∉ keys (U i)) : applyU (frS fr U S m) (U i) = frS fr U (ins S i) m := by
  apply List.ext_getElem?
  intro s
  by_cases hk : s ∈ keys (U i)
  · have e1 : (frS fr U (ins S i) m)[s]? = (frS fr U (ins S i) (i + 1))[s]? := by
      refine frS_stop U _ s (i + 1) m (by omega) ?_
      intro j h1 h2 h3 h4
      have h3' : S j = true := by unfold ins at h3; rw [if_neg (by omega)] at h3; exact h3
      exact hlater j (by omega) h2 h3' s h4 hk
    rw [e1]
    simp only [frS, ins, if_true]
    exact applyU_in (by rw [frS_length, frS_length]) hk
  · rw [applyU_out hk]
    refine frS_get U _ _ s m ?_
    intro j hj hs
    unfold ins
    split
    · rename_i e; subst e; exact (hk hs).elim
    · rfl

theorem scH_inj {c k : SC} (h : scH c = scH k) : c = k := by
  cases c <;> cases k <;> simp_all [scH]

theorem eqU_sound (hhs : ∀ A B, hs A B = true → A = B) : ∀ (a b : List (Nat × SC)), eqU hs a b = true → a = b
  | [], [], _ => rfl
  | (d, c) :: r, (e, k) :: l, h => by
    simp only [eqU, Bool.and_eq_true, beq_iff_eq] at h
    rw [h.1, scH_inj (hhs _ _ h.2.1), eqU_sound hhs r l h.2.2]
  | [], _ :: _, h => by simp [eqU] at h
  | _ :: _, [], h => by simp [eqU] at h

theorem again_ok (hhs : ∀ A B, hs A B = true → A = B) {p : Pend} (h : p.again C hs H = true) : ∃ H2, effA C hs p.fr H p.o = some (p.us, H2) := by
  unfold Pend.again at h
  split at h
  · rename_i us H2 he
    exact ⟨H2, by rw [he, eqU_sound hhs _ _ h]⟩
  · simp at h

/-- the text's order, step by step -/
theorem runD_steps (hhs : ∀ A B, hs A B = true → A = B) : ∀ (as : List AOper) (n : Nat) (ps : List Pend) (fr frF : Fr) (H HF : Heap), runD C hs as n ps fr H = some (frF, HF) → ∃ (U : Nat → List (Nat × SC)) (HH : Nat → Heap), HH 0 = H ∧ HH as.length = HF ∧ frS fr U (fun _ => true) as.length = frF ∧
    (∀ i o, as[i]? = some o → effA C hs (frS fr U (fun _ => true) i) (HH i) o = some (U i, HH (i + 1))) ∧
    (∀ p ∈ ps, ∀ j, j < as.length → (as.getD j dfl).w = true → n + j < p.o.lz → ∃ H2, effA C hs p.fr (HH (j + 1)) p.o = some (p.us, H2)) ∧
    (∀ i o, as[i]? = some o → ∀ j, i < j → j < as.length → (as.getD j dfl).w = true → n + j < o.lz → ∃ H2, effA C hs (frS fr U (fun _ => true) i) (HH (j + 1)) o = some (U i, H2)) := by
  intro as
  induction as with
  | nil =>
    intro n ps fr frF H HF h
    simp [runD] at h; obtain ⟨rfl, rfl⟩ := h
    exact ⟨fun _ => [], fun _ => H, rfl, rfl, rfl, fun i o q => by simp at q, fun p _ j q => by simp at q, fun i o q => by simp at q⟩
  | cons o as ih =>
    intro n ps fr frF H HF h
    simp only [runD] at h
    split at h
    · rename_i us H1 he
      split at h
      · rename_i hchk
        obtain ⟨U, HH, e1, e2, e3, e4, e5, e6⟩ := ih _ _ _ _ _ _ h
        have gen : ∀ k, frS fr (fun i => match i with | 0 => us | i + 1 => U i) (fun _ => true) (k + 1) = frS (applyU fr us) U (fun _ => true) k := by
          intro k
          induction k with
          | zero => rfl
          | succ k ihk => rw [frS, ihk]; rfl
        refine ⟨fun i => match i with | 0 => us | i + 1 => U i, fun i => match i with | 0 => H | i + 1 => HH i, rfl, e2, ?_, ?_, ?_, ?_⟩
        · rw [List.length_cons, gen]; exact e3
        · intro i o' q
          cases i with
          | zero => simp at q; subst q; simp only [frS]; rw [he]; simp [e1]
          | succ i => rw [gen]; exact e4 i o' (by simpa using q)
        · intro p hp j hj hw hlt
          cases j with
          | zero =>
            simp only [List.getD_eq_getElem?_getD, List.getElem?_cons_zero, Option.getD_some] at hw
            rw [hw] at hchk
            simp only [Bool.not_true, Bool.false_or, List.all_eq_true, Bool.or_eq_true, decide_eq_true_eq] at hchk
            rcases hchk p hp with g | g
            · omega
            · simp only [e1]; exact again_ok hhs g
          | succ j =>
            refine e5 p ?_ j (by simpa using hj) (by simpa using hw) (by omega)
            split
            · exact hp
            · exact List.mem_cons_of_mem _ hp
        · intro i o' q j hij hj hw hlt
          obtain ⟨j, rfl⟩ : ∃ j', j = j' + 1 := ⟨j - 1, by omega⟩
          cases i with
          | zero =>
            simp at q; subst q
            have hz : ¬ o.lz = 0 := by omega
            have := e5 ⟨fr, o, us⟩ (by rw [if_neg hz]; exact List.mem_cons_self ..) j (by simpa using hj) (by simpa using hw) (by simp only; omega)
            exact this
          | succ i =>
            have := e6 i o' (by simpa using q) j (by omega) (by simpa using hj) (by simpa using hw) (by omega)
            rw [gen]; exact this
      · simp at h
    · simp at h


/-- what was listed, as a set -/
def inL (listed : Array Bool) : Nat → Bool := fun j => listed.getD j false

theorem inL_set {listed : Array Bool} {i : Nat} (hi : i < listed.size) : inL (listed.setIfInBounds i true) = ins (inL listed) i := by
  funext j
  unfold inL ins
  simp only [Array.getD_eq_getD_getElem?, Array.getElem?_setIfInBounds]
  by_cases e : i = j
  · subst e; simp [hi]
  · rw [if_neg e, if_neg (Ne.symm e)]

def unl (listed : Array Bool) : Nat := (listed.toList.filter fun b => !b).length

theorem chkOps_get {ops : Array Oper} : ∀ {os : List Oper} {as : List AOper}, chkOps P ops os as = true → os.length = as.length ∧ ∀ (j : Nat) (o : Oper) (x : AOper), os[j]? = some o → as[j]? = some x → chkOper P ops o x = true
  | [], [], _ => ⟨rfl, fun j o x h => by simp at h⟩
  | o :: os, x :: as, h => by
    simp only [chkOps, Bool.and_eq_true] at h
    obtain ⟨h1, h2⟩ := chkOps_get h.2
    refine ⟨by simp [h1], fun j o' x' q q' => ?_⟩
    cases j with
    | zero => simp at q q'; subst q; subst q'; exact h.1
    | succ j => exact h2 j o' x' (by simpa using q) (by simpa using q')
  | [], _ :: _, h => by simp [chkOps] at h
  | _ :: _, [], h => by simp [chkOps] at h

theorem still_between {HH : Nat → Heap} {as : List AOper} {U : Nat → List (Nat × SC)} {F : Nat → Fr} (hhs : ∀ A B, hs A B = true → A = B) (hm : ∀ o ∈ as, o.marked = true) (he : ∀ i o, as[i]? = some o → effA C hs (F i) (HH i) o = some (U i, HH (i + 1))) (p q : Nat) (hpq : p ≤ q) (hq : q ≤ as.length)
    (hw : ∀ j, p ≤ j → j < q → (as.getD j dfl).w = false) : HH q = HH p := by
  induction q with
  | zero => obtain rfl : p = 0 := by omega
            rfl
  | succ q ih =>
    by_cases e : p = q + 1
    · rw [e]
    · have ih' := ih (by omega) (by omega) fun j h1 h2 => hw j h1 (by omega)
      have hlt : q < as.length := by omega
      have h0 := he q as[q] (List.getElem?_eq_getElem hlt)
      have hw0 := hw q (by omega) (by omega)
      rw [List.getD_eq_getElem?_getD, List.getElem?_eq_getElem hlt] at hw0
      rw [eff_still hhs (hm _ (List.getElem_mem hlt)) hw0 h0, ih']

theorem draw_any {ops : Array Oper} {as : List AOper} {frF : Fr} {HF : Heap} {Q : Exit → Act → World → Prop} (hC : CalleeOk P C) (hB : Bodies P C) (hhs : ∀ A B, hs A B = true → A = B) (hk : chkOps P ops ops.toList as = true) (hd : chkDraw ops.toList as = true)
    {U : Nat → List (Nat × SC)} {HH : Nat → Heap} (hF : frS fr U (fun _ => true) as.length = frF) (hHF : HH as.length = HF) (he : ∀ i o, as[i]? = some o → effA C hs (frS fr U (fun _ => true) i) (HH i) o = some (U i, HH (i + 1)))
    (hlz : ∀ i o, as[i]? = some o → ∀ j, i < j → j < as.length → (as.getD j dfl).w = true → j < o.lz → ∃ H2, effA C hs (frS fr U (fun _ => true) i) (HH (j + 1)) o = some (U i, H2))
    (hQ : ∀ a w, Left L0 w0 frF HF a w → Q .normal a w) : ∀ (fuel : Nat) (listed : Array Bool) (a : Act) (w : World), listed.size = ops.size → unl listed = fuel →
      (∀ j o, ops[j]? = some o → inL listed j = true → ∀ p ∈ preds o, inL listed p = true) →
      (∃ k, k ≤ as.length ∧ (∀ j, j < as.length → (as.getD j dfl).w = true → (inL listed j = true ↔ j < k)) ∧ Left L0 w0 (frS fr U (inL listed) as.length) (HH k) a w) → wpAny P .any ops Q fuel listed a w := by
  obtain ⟨hlen, hget⟩ := chkOps_get hk
  simp only [Array.length_toList] at hlen
  simp only [chkDraw, Bool.and_eq_true, List.all_eq_true] at hd
  obtain ⟨hd1, hd2, hd3⟩ := hd
  have hq : ∀ o ∈ as, o.quietOp = true ∧ o.marked = true ∧ (o.w = true → o.heapy = true ∧ o.lz = 0) := by
    intro o ho
    have := hd1 o ho
    simp only [Bool.or_eq_true, Bool.not_eq_true', beq_iff_eq] at this
    refine ⟨this.1, this.2.1, fun hw => ⟨?_, ?_⟩⟩
    · rcases this.2.2.1 with h | h
      · rw [hw] at h; simp at h
      · exact h
    · rcases this.2.2.2 with h | h
      · rw [hw] at h; simp at h
      · exact h
  have hpre : ∀ j o, ops[j]? = some o → ∀ p ∈ preds o, p < j := by
    intro j o ho p hp
    have hmem : (o, j) ∈ ops.toList.zipIdx := by
      rw [List.mem_zipIdx_iff_getElem?]; simpa using ho
    have := hd2 (o, j) hmem
    simp only [decide_eq_true_eq] at this
    exact this p hp
  have hconf : ∀ i j, i < j → j < as.length → confl (as.getD i dfl) j (as.getD j dfl) = true → i ∈ (ancs ops.toList).getD j [] := by
    intro i j hij hj hc
    have := hd3 j (List.mem_range.2 hj) i (List.mem_range.2 hij)
    simp only [Bool.or_eq_true, Bool.not_eq_true', List.contains_iff_mem] at this
    rcases this with h | h
    · rw [hc] at h; simp at h
    · exact h
  have hgd : ∀ i (o : AOper), as[i]? = some o → as.getD i dfl = o := fun i o h => by rw [List.getD_eq_getElem?_getD, h]; rfl
  intro fuel
  induction fuel with
  | zero =>
    intro listed a w hsz hun hcl ⟨k, hk1, hk2, hl⟩
    have hall : ∀ j, j < ops.size → inL listed j = true := by
      intro j hj
      have hjl : j < listed.size := by omega
      unfold inL
      rw [Array.getD_eq_getD_getElem?, Array.getElem?_eq_getElem hjl]
      simp only [Option.getD_some]
      cases hb : listed[j] with
      | true => rfl
      | false =>
        exfalso
        unfold unl at hun
        have : false ∈ listed.toList.filter fun b => !b := by
          rw [List.mem_filter]; exact ⟨by rw [← hb]; simp, rfl⟩
        rw [List.eq_nil_of_length_eq_zero hun] at this
        simp at this
    refine ⟨?_, hQ a w ?_⟩
    · apply List.eq_nil_iff_forall_not_mem.2
      intro j hj
      rw [mem_ready] at hj
      obtain ⟨h0, o, ho, _⟩ := hj
      have hjl : j < ops.size := (Array.getElem?_eq_some_iff.1 ho).1
      have h1 := hall j hjl
      unfold inL at h1
      rw [Array.getD_eq_getD_getElem?, Array.getElem?_eq_getElem (by omega : j < listed.size)] at h0 h1
      simp at h0 h1
      rw [h0] at h1; simp at h1
    · have e1 : frS fr U (inL listed) as.length = frF := by
        rw [← hF]
        apply List.ext_getElem?
        intro s
        exact frS_get U _ _ s _ fun j hj _ => hall j (by omega)
      have e2 : HH k = HF := by
        rw [← hHF]
        refine (still_between hhs (fun o ho => (hq o ho).2.1) he k as.length hk1 (Nat.le_refl _) ?_).symm
        intro j h1 h2
        cases hw : (as.getD j dfl).w with
        | false => rfl
        | true => have := (hk2 j h2 hw).1 (hall j (by omega)); omega
      rw [e1, e2] at hl
      exact hl
  | succ fuel ih =>
    intro listed a w hsz hun hcl ⟨k, hk1, hk2, hl⟩
    have hclosed := anc_closed (inL listed) ops.toList (fun j o h => hcl j o (by simpa using h)) (fun j o h => hpre j o (by simpa using h))
    constructor
    · -- something is ready
      intro hr
      exfalso
      -- the least operation that is not listed
      have hex : ∃ j, j < ops.size ∧ inL listed j = false := by
        unfold unl at hun
        have : ∃ b, b ∈ listed.toList.filter fun b => !b := by
          cases hq : listed.toList.filter fun b => !b with
          | nil => rw [hq] at hun; simp at hun
          | cons b r => exact ⟨b, by simp⟩
        obtain ⟨b, hb⟩ := this
        rw [List.mem_filter] at hb
        obtain ⟨i, hi, hbi⟩ := List.getElem_of_mem hb.1
        have hi' : i < listed.size := by simpa using hi
        refine ⟨i, by omega, ?_⟩
        unfold inL
        rw [Array.getD_eq_getD_getElem?, Array.getElem?_eq_getElem hi']
        have : listed[i] = b := by simpa using hbi
        simp [this]; simpa using hb.2
      have hleast : ∀ n, (∃ j, j ≤ n ∧ j < ops.size ∧ inL listed j = false) → ∃ j, j < ops.size ∧ inL listed j = false ∧ ∀ i, i < j → inL listed i = true := by
        intro n
        induction n with
        | zero => rintro ⟨j, hj, h1, h2⟩; exact ⟨j, h1, h2, fun i hi => by omega⟩
        | succ n ihn =>
          rintro ⟨j, hj, h1, h2⟩
          by_cases hsm : ∃ j, j ≤ n ∧ j < ops.size ∧ inL listed j = false
          · exact ihn hsm
          · refine ⟨j, h1, h2, fun i hi => ?_⟩
            cases hb : inL listed i with
            | true => rfl
            | false => exact (hsm ⟨i, by omega, by omega, hb⟩).elim
      obtain ⟨j0, hj0, hf0⟩ := hex
      obtain ⟨j, hj, hfj, hbelow⟩ := hleast j0 ⟨j0, Nat.le_refl _, hj0, hf0⟩
      have hready : j ∈ Region.ready .any ops listed := by
        rw [mem_ready]
        refine ⟨?_, ops[j], Array.getElem?_eq_getElem hj, ?_⟩
        · unfold inL at hfj
          rw [Array.getD_eq_getD_getElem?, Array.getElem?_eq_getElem (by omega : j < listed.size)] at hfj ⊢
          simpa using hfj
        · intro e hem hb
          have hp : e.on ∈ preds ops[j] := by
            unfold preds
            rw [List.mem_map]
            exact ⟨e, by rw [List.mem_filter]; exact ⟨by simpa using hem, hb⟩, rfl⟩
          exact hbelow _ (hpre j _ (Array.getElem?_eq_getElem hj) _ hp)
      rw [hr] at hready
      simp at hready
    · intro i hi
      have hi0 := hi
      rw [mem_ready] at hi
      obtain ⟨hnot, o, ho, hpreds⟩ := hi
      have hio : i < ops.size := (Array.getElem?_eq_some_iff.1 ho).1
      have hia : i < as.length := by omega
      have hil : i < listed.size := by omega
      have hnl : inL listed i = false := by
        unfold inL
        rw [Array.getD_eq_getD_getElem?, Array.getElem?_eq_getElem hil] at hnot ⊢
        simpa using hnot
      have hpl : ∀ p ∈ preds o, inL listed p = true := by
        intro p hp
        unfold preds at hp
        rw [List.mem_map] at hp
        obtain ⟨e, he1, rfl⟩ := hp
        rw [List.mem_filter] at he1
        exact hpreds e (by simpa using he1.1) he1.2
      -- all that i hangs on is listed
      have hanc : ∀ p ∈ (ancs ops.toList).getD i [], inL listed p = true := by
        have hS := anc_closed (ins (inL listed) i) ops.toList (fun j o' h hS p hp => ?_) (fun j o h => hpre j o (by simpa using h)) i (by simp [ins])
        · intro p hp
          have h1 := hS p hp
          unfold ins at h1
          split at h1
          · rename_i e
            subst e
            -- nothing hangs on itself
            have hlt : ∀ (l : List Oper), (∀ j o, l[j]? = some o → ∀ p ∈ preds o, p < j) → ∀ j, ∀ q ∈ (ancs l).getD j [], q < j := by
              intro l
              refine snoc_ind (p := fun l => (∀ j o, l[j]? = some o → ∀ p ∈ preds o, p < j) → ∀ j, ∀ q ∈ (ancs l).getD j [], q < j) (fun _ j q hq => by simp [ancs] at hq) (fun l o ih => ?_) l
              intro hp j q hq
              have hp' : ∀ j o, l[j]? = some o → ∀ p ∈ preds o, p < j := by
                intro j o q
                exact hp j o (by rw [List.getElem?_append_left (List.getElem?_eq_some_iff.1 q).1]; exact q)
              rw [ancs_snoc, List.getD_eq_getElem?_getD] at hq
              by_cases h1 : j < (ancs l).length
              · rw [List.getElem?_append_left h1] at hq
                exact ih hp' j q (by rw [List.getD_eq_getElem?_getD]; exact hq)
              · rw [List.getElem?_append_right (by omega)] at hq
                rw [ancs_length] at hq h1
                by_cases h2 : j = l.length
                · subst h2
                  simp only [Nat.sub_self, List.getElem?_cons_zero, Option.getD_some, List.mem_append, List.mem_flatMap] at hq
                  have ho : (l ++ [o])[l.length]? = some o := by simp
                  rcases hq with hq | ⟨p, hp1, hp2⟩
                  · exact hp _ o ho _ hq
                  · exact Nat.lt_trans (ih hp' p q hp2) (hp _ o ho p hp1)
                · rw [List.getElem?_eq_none (by simp; omega)] at hq
                  simp at hq
            have := hlt ops.toList (fun j o h => hpre j o (by simpa using h)) p p hp
            omega
          · exact h1
        · have h' : ops[j]? = some o' := by simpa using h
          by_cases e : j = i
          · subst e
            rw [ho] at h'; simp at h'; subst h'
            have := hpl p hp
            unfold ins; split
            · rfl
            · exact this
          · unfold ins at hS
            rw [if_neg e] at hS
            have := hcl j o' h' hS p hp
            unfold ins; split
            · rfl
            · exact this
      let x := as[i]
      have hx : as[i]? = some as[i] := List.getElem?_eq_getElem hia
      have hgi : as.getD i dfl = as[i] := hgd i _ hx
      have hxm := hq _ (List.getElem_mem hia)
      have hchk : chkOper P ops o as[i] = true := hget i o _ (by simpa using ho) hx
      -- an earlier one that it meets is listed, a later one is not
      have hearly : ∀ j, j < i → confl (as.getD j dfl) i as[i] = true → inL listed j = true := by
        intro j hj hc
        exact hanc j (hconf j i hj hia (by rw [hgi]; exact hc))
      have hlate : ∀ j, i < j → j < as.length → confl as[i] j (as.getD j dfl) = true → inL listed j = false := by
        intro j hj hjl hc
        cases hb : inL listed j with
        | false => rfl
        | true =>
          have := hclosed j hb i (hconf i j hj hjl (by rw [hgi]; exact hc))
          rw [hnl] at this; simp at this
      -- the slots that it looks at
      have hag : Agree as[i].reads (frS fr U (fun _ => true) i) (frS fr U (inL listed) as.length) := by
        intro s hs
        have hkw : ∀ j, j < as.length → s ∈ keys (U j) → s ∈ (as.getD j dfl).writes := by
          intro j hj hkj
          have hj' : as[j]? = some as[j] := List.getElem?_eq_getElem hj
          rw [hgd j _ hj']
          exact eff_keys (he j _ hj') s hkj
        have e1 : (frS fr U (inL listed) as.length)[s]? = (frS fr U (inL listed) i)[s]? := by
          refine frS_stop U _ s i as.length (by omega) ?_
          intro j h1 h2 h3 h4
          by_cases e : j = i
          · subst e; rw [hnl] at h3; simp at h3
          · have := hlate j (by omega) h2 ?_
            · rw [h3] at this; simp at this
            · unfold confl
              simp only [Bool.or_eq_true, List.any_eq_true]
              exact .inr (.inl ⟨s, hkw j h2 h4, by simpa using hs⟩)
        have e2 : (frS fr U (inL listed) i)[s]? = (frS fr U (fun _ => true) i)[s]? := by
          refine frS_get U _ _ s i ?_
          intro j hj hkj
          refine hearly j hj ?_
          unfold confl
          simp only [Bool.or_eq_true, List.any_eq_true]
          exact .inl ⟨s, hkw j (by omega) hkj, .inl (by simpa using hs)⟩
        rw [List.getD_eq_getElem?_getD, List.getD_eq_getElem?_getD, e1, e2]
      -- the heap
      have hwr : as[i].heapy = true → as[i].lz = 0 → ∀ j, j < as.length → (as.getD j dfl).w = true → j ≠ i → (inL listed j = true ↔ j < i) := by
        intro hh hz j hj hw hne
        constructor
        · intro hb
          rcases Nat.lt_or_ge j i with h1 | h1
          · exact h1
          · have := hlate j (by omega) hj (by unfold confl; rw [hh, hw, hz]; simp)
            rw [hb] at this; simp at this
        · intro h1
          exact hearly j h1 (by unfold confl; rw [hh, hw]; simp only [Bool.and_self, Bool.or_true, Bool.true_or])
      have hsrc : ∃ Hs H1, effA C hs (frS fr U (fun _ => true) i) Hs as[i] = some (U i, H1) ∧ (as[i].heapy = true → Hs = HH k) ∧ (as[i].w = true → H1 = HH (i + 1)) := by
        by_cases hz : as[i].lz = 0
        · refine ⟨HH i, HH (i + 1), he i _ hx, ?_, fun _ => rfl⟩
          intro hh
          have hno : ∀ j, (i ≤ j ∧ j < k ∨ k ≤ j ∧ j < i) → j ≠ i → (as.getD j dfl).w = false := by
            intro j hj hne
            cases hw : (as.getD j dfl).w with
            | false => rfl
            | true =>
              have h1 := hk2 j (by omega) hw
              have h2 := hwr hh hz j (by omega) hw hne
              rw [h1] at h2
              omega
          have hwi : i < k → (as.getD i dfl).w = false := by
            intro hik
            cases hw : (as.getD i dfl).w with
            | false => rfl
            | true => have := (hk2 i hia hw).2 hik; rw [hnl] at this; simp at this
          rcases Nat.le_total i k with h1 | h1
          · refine (still_between hhs (fun o ho => (hq o ho).2.1) he i k h1 hk1 ?_).symm
            intro j h2 h3
            by_cases e : j = i
            · subst e; exact hwi h3
            · exact hno j (.inl ⟨h2, h3⟩) e
          · refine still_between hhs (fun o ho => (hq o ho).2.1) he k i h1 (by omega) ?_
            intro j h2 h3
            exact hno j (.inr ⟨h2, h3⟩) (by omega)
        · have hnw : as[i].w = false := by
            cases hw : as[i].w with
            | false => rfl
            | true => exact (hz (hxm.2.2 hw).2).elim
          by_cases hh : as[i].heapy = true
          · have early : ∀ j, j < i → (as.getD j dfl).w = true → j < k := by
              intro j hj hw
              exact (hk2 j (by omega) hw).1 (hearly j hj (by unfold confl; rw [hh, hw]; simp only [Bool.and_self, Bool.or_true, Bool.true_or]))
            rcases Nat.le_total i k with h1 | h1
            · have go : ∀ n, i ≤ n → n ≤ k → ∃ H1, effA C hs (frS fr U (fun _ => true) i) (HH n) as[i] = some (U i, H1) := by
                intro n
                induction n with
                | zero => intro h2 _; obtain rfl : i = 0 := by omega
                          exact ⟨_, he _ _ hx⟩
                | succ n ihn =>
                  intro h2 h3
                  by_cases e : i = n + 1
                  · subst e; exact ⟨_, he _ _ hx⟩
                  · cases hw : (as.getD n dfl).w with
                    | false =>
                      have := still_between hhs (fun o ho => (hq o ho).2.1) he n (n + 1) (by omega) (by omega) (fun j g1 g2 => (show j = n by omega) ▸ hw)
                      rw [this]; exact ihn (by omega) (by omega)
                    | true =>
                      have hli := (hk2 n (by omega) hw).2 (by omega)
                      have hne : i ≠ n := by
                        intro e; subst e; rw [hgi] at hw; rw [hnw] at hw; simp at hw
                      refine hlz i _ hx n (by omega) (by omega) hw ?_
                      rcases Nat.lt_or_ge n as[i].lz with g | g
                      · exact g
                      · exfalso
                        have := hlate n (by omega) (by omega) (by unfold confl; rw [hh, hw]; simp [g])
                        rw [hli] at this; simp at this
              obtain ⟨H1, g⟩ := go k h1 (Nat.le_refl _)
              exact ⟨HH k, H1, g, fun _ => rfl, fun hw => by simp [hnw] at hw⟩
            · refine ⟨HH i, HH (i + 1), he i _ hx, fun _ => ?_, fun _ => rfl⟩
              refine still_between hhs (fun o ho => (hq o ho).2.1) he k i h1 (by omega) ?_
              intro j h2 h3
              cases hw : (as.getD j dfl).w with
              | false => rfl
              | true => have := early j h3 hw; omega
          · exact ⟨HH i, HH (i + 1), he i _ hx, fun h => (hh h).elim, fun hw => by simp [hnw] at hw⟩
      obtain ⟨Hs, H1s, hs1, hs2, hs3⟩ := hsrc
      obtain ⟨H3, heff, hh1, hh2⟩ := eff_local (g := frS fr U (inL listed) as.length) (H2 := HH k) hxm.1 (by rw [frS_length, frS_length]) hag hs2 hs1
      obtain ⟨L, lam, hinv⟩ := hl
      have hop := eff_oper hxm.1 heff
      unfold wpOp
      rw [ho]
      have hfr : applyU (frS fr U (inL listed) as.length) (U i) = frS fr U (inL (listed.setIfInBounds i true)) as.length := by
        rw [inL_set hil]
        refine frS_ins U _ i as.length hia ?_
        intro j h1 h2 h3 s h4 h5
        have hj' : as[j]? = some as[j] := List.getElem?_eq_getElem h2
        have := hlate j h1 h2 ?_
        · rw [h3] at this; simp at this
        · unfold confl
          simp only [Bool.or_eq_true, List.any_eq_true]
          refine .inl ⟨s, eff_keys (he i _ hx) s h5, .inr ?_⟩
          rw [hgd j _ hj']
          simpa using eff_keys (he j _ hj') s h4
      refine oper_ok (Q := Q) hC hB hinv hchk hop (fun a' w' hl' => ?_)
      refine ih _ a' w' (by simpa using hsz) ?_ ?_ ?_
      · -- one less
        unfold unl at hun ⊢
        have hb : listed[i] = false := by
          have := hnl; unfold inL at this
          rw [Array.getD_eq_getD_getElem?, Array.getElem?_eq_getElem hil] at this
          simpa using this
        have hset : ∀ (l : List Bool) (i : Nat) (hi : i < l.length), l[i] = false → ((l.set i true).filter fun b => !b).length + 1 = (l.filter fun b => !b).length := by
          intro l
          induction l with
          | nil => intro i hi; simp at hi
          | cons b l ihl =>
            intro i hi hb
            cases i with
            | zero => simp at hb; subst hb; simp
            | succ i =>
              simp at hb hi
              have := ihl i hi hb
              cases b <;> simp <;> omega
        have := hset listed.toList i (by simpa using hil) (by simpa using hb)
        rw [Array.toList_setIfInBounds]
        omega
      · intro j o' ho' hj p hp
        rw [inL_set hil] at hj ⊢
        unfold ins at hj ⊢
        by_cases e : j = i
        · subst e
          rw [ho] at ho'; simp at ho'; subst ho'
          split
          · rfl
          · exact hpl p hp
        · rw [if_neg e] at hj
          split
          · rfl
          · exact hcl j o' ho' hj p hp
      · rw [← hfr]
        by_cases hw : as[i].w = true
        · have hh := (hxm.2.2 hw).1
          refine ⟨i + 1, by omega, ?_, by rw [← hs3 hw, ← hh1 hh]; exact hl'⟩
          intro j hj hwj
          rw [inL_set hil]
          unfold ins
          by_cases e : j = i
          · subst e; simp
          · rw [if_neg e, hwr hh (hxm.2.2 hw).2 j hj hwj e]; omega
        · have hw' : as[i].w = false := by simpa using hw
          refine ⟨k, hk1, ?_, ?_⟩
          · intro j hj hwj
            rw [inL_set hil]
            unfold ins
            by_cases e : j = i
            · subst e; rw [hgi] at hwj; rw [hw'] at hwj; simp at hwj
            · rw [if_neg e]; exact hk2 j hj hwj
          · by_cases hh : as[i].heapy = true
            · have e1 := hh1 hh
              have e2 := eff_still hhs hxm.2.1 hw' hs1
              have e3 := hs2 hh
              rw [e2, e3] at e1
              rw [← e1]; exact hl'
            · have e1 := (hh2 (by simpa using hh)).1
              rw [← e1]; exact hl'

end Go.AM
