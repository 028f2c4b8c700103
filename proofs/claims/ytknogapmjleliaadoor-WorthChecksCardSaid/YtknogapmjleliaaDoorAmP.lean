/- One operation: comparisons of aggregates. No condition. -/
import Derived.Test.YtknogapmjleliaaDoorAmO
namespace Go.AM
open Go

variable {P : Program} {L0 L : Locs} {w0 w : World} {lam : Nat → Nat} {fr fr' : Fr} {H H' : Heap} {a : Act}

/-- the cells of a type that '==' looks at -/
def flat (P : Program) : Nat → TypeId → Nat → Option (List (Nat × SK))
  | 0, _, _ => none
  | d + 1, t, off => match P.underlying t with
    | some (.int k) => some [(off, .int k)]
    | some .bool => some [(off, .bool)]
    | some .string => some [(off, .str)]
    | some (.struct fields) => if P.stoodInHeld t then none else
        fields.toList.foldr (fun f acc => if f.name = "_" then none else match acc, P.info? f.type, P.info? t with
          | some l, some i, some it => if f.offset + i.size ≤ it.size ∧ 0 < i.size then match flat P d f.type (off + f.offset) with | some m => some (m ++ l) | none => none else none
          | _, _, _ => none) (some [])
    | some (.array n e) => match P.info? e, P.info? t with
      | some i, some it => if n * i.size ≤ it.size ∧ 0 < i.size then
          (List.range n).foldr (fun k acc => match acc with
            | some l => match flat P d e (off + k * i.size) with | some m => some (m ++ l) | none => none
            | none => none) (some [])
        else none
      | _, _ => none
    | _ => none

theorem eqFlat_append {f g : List (Nat × SK)} {X Y : List Value} {r : Bool} (h : eqFlat (f ++ g) X Y = some r) : ∃ p q, eqFlat f X Y = some p ∧ eqFlat g X Y = some q ∧ r = (p && q) := by
  induction f generalizing r with
  | nil => exact ⟨true, r, rfl, h, by simp⟩
  | cons a f ih =>
    obtain ⟨o, k⟩ := a
    simp only [List.cons_append, eqFlat] at h
    split at h
    · rename_i p q hp hq
      simp at h; subst h
      obtain ⟨p', q', h1, h2, rfl⟩ := ih hq
      exact ⟨p && p', q', by simp [eqFlat, hp, h1], h2, by simp [Bool.and_assoc]⟩
    · simp at h

/-- the value of type t at place i of a list of cells -/
def At (P : Program) (t : TypeId) (X : List Value) (i : Nat) (x : Value) : Prop :=
  match tyAgg P t with
  | some true => ∃ n, szIs P t n = true ∧ x = .agg ((X.drop i).take n).toArray
  | some false => X[i]? = some x
  | none => False

theorem szIs_fun {t : TypeId} {n m : Nat} (h : szIs P t n = true) (h' : szIs P t m = true) : n = m := by
  unfold szIs at h h'
  split at h
  · rename_i i hi
    rw [hi] at h'
    have := eq_of_beq h; have := eq_of_beq h'; omega
  · simp at h

theorem part_at {t' : TypeId} {X : List Value} {i off n m : Nat} (hs' : szIs P t' m = true) (hm : 0 < m) (hle : off + m ≤ n) {y : Value} (hy : At P t' X (i + off) y) : (part t' ((X.drop i).take n).toArray off).run P w = .ok y w := by
  unfold At at hy
  split at hy
  · rename_i ha
    obtain ⟨m', hm', rfl⟩ := hy
    obtain rfl := szIs_fun hs' hm'
    have hagg := aggIs_run (P := P) (t := t') (b := true) (by simp [aggIs, ha]) w
    have hsz := szIs_run hs' w
    simp [part, hagg, hsz]
    rw [List.drop_take, List.drop_drop, List.take_take]
    congr 1; omega
  · rename_i ha
    have hagg := aggIs_run (P := P) (t := t') (b := false) (by simp [aggIs, ha]) w
    have : ((X.drop i).take n)[off]? = some y := by
      rw [List.getElem?_take, if_pos (by omega), List.getElem?_drop]; exact hy
    simp [part, hagg, this]
  · exact hy.elim

theorem SK.eq_some {k : SK} {x y : Option Value} {r : Bool} (h : k.eq x y = some r) : ∃ u v, x = some u ∧ y = some v := by
  unfold SK.eq at h
  split at h <;> first | exact ⟨_, _, rfl, rfl⟩ | simp at h

theorem eqFlat_one {o : Nat} {k : SK} {X Y : List Value} {r : Bool} (h : eqFlat [(o, k)] X Y = some r) : k.eq X[o]? Y[o]? = some r := by
  simp only [eqFlat] at h
  split at h
  · rename_i p q hp hq; simp at hq; subst hq; simp at h; subst h; exact hp
  · simp at h

theorem at_exists {d : Nat} {t : TypeId} {off : Nat} {fl : List (Nat × SK)} (hf : flat P d t off = some fl) {X Y : List Value} {r : Bool} (h : eqFlat fl X Y = some r) : ∃ x y, At P t X off x ∧ At P t Y off y := by
  cases d with
  | zero => simp [flat] at hf
  | succ d =>
    simp only [flat] at hf
    split at hf
    · rename_i k hu
      simp at hf; subst hf
      obtain ⟨u, v, h1, h2⟩ := SK.eq_some (eqFlat_one h)
      exact ⟨u, v, by simp [At, tyAgg, hu, h1], by simp [At, tyAgg, hu, h2]⟩
    · rename_i hu
      simp at hf; subst hf
      obtain ⟨u, v, h1, h2⟩ := SK.eq_some (eqFlat_one h)
      exact ⟨u, v, by simp [At, tyAgg, hu, h1], by simp [At, tyAgg, hu, h2]⟩
    · rename_i hu
      simp at hf; subst hf
      obtain ⟨u, v, h1, h2⟩ := SK.eq_some (eqFlat_one h)
      exact ⟨u, v, by simp [At, tyAgg, hu, h1], by simp [At, tyAgg, hu, h2]⟩
    · rename_i fields hu
      cases hi : P.info? t with
      | none => unfold Program.underlying at hu; simp [hi] at hu
      | some it => exact ⟨_, _, by simp only [At, tyAgg, hu]; exact ⟨it.size, by simp [szIs, hi], rfl⟩, by simp only [At, tyAgg, hu]; exact ⟨it.size, by simp [szIs, hi], rfl⟩⟩
    · rename_i n e hu
      cases hi : P.info? t with
      | none => unfold Program.underlying at hu; simp [hi] at hu
      | some it => exact ⟨_, _, by simp only [At, tyAgg, hu]; exact ⟨it.size, by simp [szIs, hi], rfl⟩, by simp only [At, tyAgg, hu]; exact ⟨it.size, by simp [szIs, hi], rfl⟩⟩
    · simp at hf

theorem SK.eq_int {k : IntKind} {x y : Value} {r : Bool} (h : SK.eq (.int k) (some x) (some y) = some r) : ∃ a b, x = .int k a ∧ y = .int k b ∧ r = (a == b) := by
  unfold SK.eq at h
  split at h
  · rename_i k' k1 a k2 b h1 h2 h3
    split at h
    · rename_i hc
      obtain ⟨rfl, rfl⟩ := hc
      simp at h1 h2 h3 h
      subst h1; subst h2; subst h3; subst h
      exact ⟨_, _, rfl, rfl, rfl⟩
    · simp at h
  · rename_i h1 _ _; simp at h1
  · rename_i h1 _ _; simp at h1
  · simp at h

theorem SK.eq_bool {x y : Value} {r : Bool} (h : SK.eq .bool (some x) (some y) = some r) : ∃ a b, x = .bool a ∧ y = .bool b ∧ r = (a == b) := by
  unfold SK.eq at h
  split at h
  · rename_i h1 _ _; simp at h1
  · rename_i a b h1 h2 h3; simp at h2 h3 h; exact ⟨_, _, h2, h3, h.symm⟩
  · rename_i h1 _ _; simp at h1
  · simp at h

theorem SK.eq_str {x y : Value} {r : Bool} (h : SK.eq .str (some x) (some y) = some r) : ∃ a b, x = .string a ∧ y = .string b ∧ r = (a.toList == b.toList) := by
  unfold SK.eq at h
  split at h
  · rename_i h1 _ _; simp at h1
  · rename_i h1 _ _; simp at h1
  · rename_i a b h1 h2 h3; simp only [Option.some.injEq] at h2 h3 h; exact ⟨_, _, h2, h3, h.symm⟩
  · simp at h

theorem eq_run (d : Nat) : ∀ (t : TypeId) (off : Nat) (fl : List (Nat × SK)), flat P d t off = some fl → ∀ (X Y : List Value) (r : Bool), eqFlat fl X Y = some r → ∀ x y, At P t X off x → At P t Y off y → ∀ D, d ≤ D → (Op.equalIn D t x y).run P w = .ok r w := by
  induction d with
  | zero => intro t off fl h; simp [flat] at h
  | succ d ih =>
    intro t off fl hf X Y r h x y hx hy D hD
    obtain ⟨D, rfl⟩ : ∃ D', D = D' + 1 := ⟨D - 1, by omega⟩
    simp only [flat] at hf
    split at hf
    · rename_i k hu
      simp at hf; subst hf
      have h1 := eqFlat_one h
      simp only [At, tyAgg, hu] at hx hy
      rw [hx, hy] at h1
      obtain ⟨a, b, rfl, rfl, rfl⟩ := SK.eq_int h1
      exact run_equalIn_int w D t k k a b hu
    · rename_i hu
      simp at hf; subst hf
      have h1 := eqFlat_one h
      simp only [At, tyAgg, hu] at hx hy
      rw [hx, hy] at h1
      obtain ⟨a, b, rfl, rfl, rfl⟩ := SK.eq_bool h1
      exact run_equalIn_bool' w D t a b hu
    · rename_i hu
      simp at hf; subst hf
      have h1 := eqFlat_one h
      simp only [At, tyAgg, hu] at hx hy
      rw [hx, hy] at h1
      obtain ⟨a, b, rfl, rfl, rfl⟩ := SK.eq_str h1
      exact run_equalIn_string w D t a b hu
    · rename_i fields hu
      split at hf
      · simp at hf
      · rename_i hst
        simp only [At, tyAgg, hu] at hx hy
        obtain ⟨n, hn, rfl⟩ := hx
        obtain ⟨n', hn', rfl⟩ := hy
        obtain rfl := szIs_fun hn hn'
        have hfo : P.fieldsOf t = fields := by simp [Program.fieldsOf, hu]
        rw [run_equalIn_struct w D t _ _ (by rw [hfo]; exact hu) (by simpa using hst), hfo]
        clear hfo hu
        generalize fields.toList = fds at hf
        induction fds generalizing fl r with
        | nil => simp at hf; subst hf; simp [eqFlat] at h; subst h; simp [Op.eqFields]
        | cons f fs ihf =>
          simp only [List.foldr_cons] at hf
          split at hf
          · simp at hf
          · rename_i hname
            split at hf
            · rename_i l i it hacc hi hit
              split at hf
              · rename_i hle
                split at hf
                · rename_i m hm
                  simp at hf; subst hf
                  obtain ⟨p, q, h1, h2, rfl⟩ := eqFlat_append h
                  have hsn : n = it.size := szIs_fun hn (by simp [szIs, hit])
                  obtain ⟨u, v, hu, hv⟩ := at_exists hm h1
                  have hsi : szIs P f.type i.size = true := by simp [szIs, hi]
                  have hp1 := part_at (w := w) (n := n) hsi hle.2 (by rw [hsn]; exact hle.1) hu
                  have hp2 := part_at (w := w) (n := n) hsi hle.2 (by rw [hsn]; exact hle.1) hv
                  have he := ih f.type _ m hm X Y p h1 u v hu hv D (by omega)
                  have hrest := ihf l q h2 hacc
                  simp only [Op.eqFields, ne_eq, hname, not_false_eq_true, if_true, Sem.run_bind, hp1, hp2, he, Result.andThen_ok]
                  cases p
                  · simp
                  · simp [hrest]
                · simp at hf
              · simp at hf
            · simp at hf
    · rename_i n e hu
      split at hf
      · rename_i i it hi hit
        split at hf
        · rename_i hle
          simp only [At, tyAgg, hu] at hx hy
          obtain ⟨n1, hn, rfl⟩ := hx
          obtain ⟨n2, hn', rfl⟩ := hy
          obtain rfl := szIs_fun hn hn'
          have hc : P.cellsOf e = i.size := by simp [Program.cellsOf, hi]
          rw [run_equalIn_array w D _ _ hu hi, hc]
          have hsn : n1 = it.size := szIs_fun hn (by simp [szIs, hit])
          have hsi : szIs P e i.size = true := by simp [szIs, hi]
          have hall : ∀ k ∈ List.range n, k < n := fun k hk => by simpa using hk
          generalize List.range n = ks at hf hall
          clear hu
          induction ks generalizing fl r with
          | nil => simp at hf; subst hf; simp [eqFlat] at h; subst h; simp [Op.eqItems]
          | cons k ks ihk =>
            simp only [List.foldr_cons] at hf
            split at hf
            · rename_i l hacc
              split at hf
              · rename_i m hm
                simp at hf; subst hf
                obtain ⟨p, q, h1, h2, rfl⟩ := eqFlat_append h
                obtain ⟨u, v, hu, hv⟩ := at_exists hm h1
                have hk : k * i.size + i.size ≤ n1 := by
                  have : (k + 1) * i.size ≤ n * i.size := Nat.mul_le_mul_right _ (hall k (by simp))
                  rw [Nat.succ_mul] at this
                  rw [hsn]; omega
                have hp1 := part_at (w := w) hsi hle.2 hk hu
                have hp2 := part_at (w := w) hsi hle.2 hk hv
                have he := ih e _ m hm X Y p h1 u v hu hv D (by omega)
                have hrest := ihk l q h2 hacc (fun k hk => hall k (by simp [hk]))
                simp only [Op.eqItems, Sem.run_bind, hp1, hp2, he, Result.andThen_ok]
                cases p
                · simp
                · simp [hrest]
              · simp at hf
            · simp at hf
        · simp at hf
      · simp at hf
    · simp at hf


theorem eqFlat_CR : ∀ {fl : List (Nat × SK)} {xs ys X Y : List Value} {r : Bool}, CR L xs X → CR L ys Y → eqFlat fl xs ys = some r → eqFlat fl X Y = some r
  | [], _, _, _, _, _, _, _, h => h
  | (o, k) :: fl, xs, ys, X, Y, r, hx, hy, h => by
    simp only [eqFlat] at h ⊢
    split at h
    · rename_i p q hp hq
      obtain ⟨u, v, hu, hv⟩ := SK.eq_some hp
      obtain ⟨_, u', hu', ru⟩ := hx.2 o u hu
      obtain ⟨_, v', hv', rv⟩ := hy.2 o v hv
      rw [eqFlat_CR hx hy hq, hu', hv']
      rw [hu, hv] at hp
      have : k.eq (some u') (some v') = some p := by
        cases k with
        | int k => obtain ⟨a, b, rfl, rfl, rfl⟩ := SK.eq_int hp; rw [ru.int_inv, rv.int_inv]; exact hp
        | bool => obtain ⟨a, b, rfl, rfl, rfl⟩ := SK.eq_bool hp; rw [ru.bool_inv, rv.bool_inv]; exact hp
        | str => obtain ⟨a, b, rfl, rfl, rfl⟩ := SK.eq_str hp; rw [ru.str_inv, rv.str_inv]; exact hp
      rw [this]; exact h
    · simp at h

def chkEqS (P : Program) (o : Op) (neq : Bool) (n : Nat) (sh : List (Nat × SK)) (x y : Opd) : Bool := match o with
  | .binOp op t x' y' _ => decide (op = if neq then .neq else .eql) && (chkOpd x' x && (chkOpd y' y && (szIs P t n && (decide (flat P 50 t 0 = some sh) && (aggIs P t true && !(P.eqGuardType P.depth t))))))
  | _ => false

theorem equal_run {t : TypeId} {sh : List (Nat × SK)} (hf : flat P 50 t 0 = some sh) {X Y : List Value} {r : Bool} (h : eqFlat sh X Y = some r) {x y : Value} (hx : At P t X 0 x) (hy : At P t Y 0 y) : (Op.equal t x y).run P w = .ok r w :=
  eq_run 50 t 0 sh hf X Y r h x y hx hy Op.maxDepth (by decide)

theorem at_whole {t : TypeId} (ha : aggIs P t true = true) {n : Nat} (hs : szIs P t n = true) {X : List Value} (hl : X.length = n) : At P t X 0 (.agg X.toArray) := by
  unfold aggIs at ha
  split at ha
  · rename_i c hc
    have := eq_of_beq ha; subst this
    simp only [At, hc]
    exact ⟨n, hs, by rw [List.drop_zero, List.take_of_length_le (by omega)]⟩
  · simp at ha

theorem step_eqS {o : Oper} {Q : Exit → Act → World → Prop} {neq : Bool} {n : Nat} {sh : List (Nat × SK)} {x y : Opd} {c : SC} (h : Inv L0 w0 L lam fr H a w) (hk : chkEqS P o.op neq n sh x y = true) {C : Callee} (hs : stepA C fr H (.eqS neq n sh x y) = some (c, fr', H')) : Done P L0 w0 o a w Q c fr' H' := by
  unfold chkEqS at hk
  split at hk
  · rename_i op t x' y' t' hop
    simp only [Bool.and_eq_true, decide_eq_true_eq, Bool.not_eq_true'] at hk
    obtain ⟨hopk, hx, hy, hsz, hfl, hagg, hguard⟩ := hk
    simp only [stepA] at hs
    split at hs
    · rename_i u v hu hv
      split at hs
      · rename_i hlen
        split at hs
        · rename_i r hr
          simp at hs; obtain ⟨rfl, rfl, rfl⟩ := hs
          obtain ⟨X, ex, cx⟩ := (evV_ok h hx hu).agg_inv
          obtain ⟨Y, ey, cy⟩ := (evV_ok h hy hv).agg_inv
          have hr2 := eqFlat_CR cx cy hr
          have hX : X.length = n := by rw [← cx.1]; simpa using hlen.1
          have hY : Y.length = n := by rw [← cy.1]; simpa using hlen.2
          have he := equal_run (w := w) hfl hr2 (at_whole hagg hsz hX) (at_whole hagg hsz hY)
          have hg := fun op => run_eqGuard_agg (P := P) w op t x' y' X.toArray Y.toArray hguard
          cases neq with
          | true =>
            simp at hopk; subst hopk
            exact done_v h (by simp [execOp, hop, ex, ey, hg, binOp, he]) (.bool _)
          | false =>
            simp at hopk; subst hopk
            exact done_v h (by simp [execOp, hop, ex, ey, hg, binOp, he]) (.bool _)
        · simp at hs
      · simp at hs
    · simp at hs
  · simp at hk

def chkEqB (P : Program) (o : Op) (neq : Bool) (x y : Opd) : Bool := match o with
  | .binOp op t x' y' _ => decide (op = if neq then .neq else .eql) && (chkOpd x' x && (chkOpd y' y && (match P.underlying t with | some .bool => true | _ => false)))
  | _ => false

theorem step_eqB {o : Oper} {Q : Exit → Act → World → Prop} {neq : Bool} {x y : Opd} {c : SC} (h : Inv L0 w0 L lam fr H a w) (hk : chkEqB P o.op neq x y = true) {C : Callee} (hs : stepA C fr H (.eqB neq x y) = some (c, fr', H')) : Done P L0 w0 o a w Q c fr' H' := by
  unfold chkEqB at hk
  split at hk
  · rename_i op t x' y' t' hop
    simp only [Bool.and_eq_true, decide_eq_true_eq] at hk
    obtain ⟨hopk, hx, hy, ht⟩ := hk
    split at ht
    · rename_i hund
      simp only [stepA] at hs
      split at hs
      · rename_i b1 b2 h1 h2
        simp at hs; obtain ⟨rfl, rfl, rfl⟩ := hs
        have e1 := (evV_ok h hx h1).bool_inv
        have e2 := (evV_ok h hy h2).bool_inv
        have he : (Op.equal t (.bool b1) (.bool b2)).run P w = .ok (b1 == b2) w := run_equalIn_bool' w 9999 t b1 b2 hund
        have hg : ∀ op, (eqGuard op t x' y' (.bool b1) (.bool b2)).run P w = .ok () w := fun op => by unfold eqGuard; cases op <;> rfl
        cases neq with
        | true =>
          simp at hopk; subst hopk
          exact done_v h (by simp [execOp, hop, e1, e2, hg, binOp, he]) (.bool _)
        | false =>
          simp at hopk; subst hopk
          exact done_v h (by simp [execOp, hop, e1, e2, hg, binOp, he]) (.bool _)
      · simp at hs
    · simp at ht
  · simp at hk

def chkCap (P : Program) (o : Op) (x : Opd) : Bool := match o with
  | .call ⟨.builtin .cap, args, ts⟩ => chkOpds args.toList [x] && (match ts[0]? with
      | some t => (match P.underlying t with | some (.slice _) => true | _ => false) | none => false)
  | _ => false

theorem step_cap {o : Oper} {Q : Exit → Act → World → Prop} {x : Opd} {c : SC} (h : Inv L0 w0 L lam fr H a w) (hk : chkCap P o.op x = true) {C : Callee} (hs : stepA C fr H (.cap x) = some (c, fr', H')) : Done P L0 w0 o a w Q c fr' H' := by
  unfold chkCap at hk
  split at hk
  · rename_i args ts hop
    simp only [Bool.and_eq_true] at hk
    obtain ⟨hx, ht⟩ := hk
    obtain ⟨y, rfl, hy⟩ := opds1 hx
    split at ht
    · rename_i t hts
      split at ht
      · rename_i e hu
        simp only [stepA] at hs
        split at hs
        · rename_i hv
          simp at hs; obtain ⟨rfl, rfl, rfl⟩ := hs
          have r := evV_ok h hy hv
          generalize he : a.eval y = z at r
          cases r
          exact done_v h (by simp [execOp, hop, he, resolve, invoke, builtin, Builtin.cap_, hts, run_underlying hu, goInt]) (.int _ _)
        · simp at hs
      · simp at ht
    · simp at ht
  · simp at hk

end Go.AM
