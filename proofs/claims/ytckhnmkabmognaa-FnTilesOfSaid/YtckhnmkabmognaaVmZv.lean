/- Regions whose order is drawn, told by all sets of operations that may be done: calls that change an argument among them. -/
import Derived.Test.YtckhnmkabmognaaVmZ
set_option linter.unusedVariables false
set_option linter.unusedSimpArgs false
namespace Go.Vm
open Go
abbrev AlT := List (Nat × Nat × Nat × Nat)
def alsAt (Al : AlT) (m : Nat) : List (Nat × Nat) := (Al.filter fun x => m.testBit x.2.2.1 && !(m.testBit x.2.2.2)).map fun x => (x.1, x.2.1)
def addC : List (Nat × Nat) → SS → SS
  | [], S => S
  | (q, k) :: r, S => addC r (S.put q (.copy k []))
def stV (Ev : List VEnt) (Al : AlT) (m : Nat) : SS := addC (alsAt Al m) (view Ev m)
def tgtV (Ev : List VEnt) (Al : AlT) (m : Nat) (o : Oper) : SS := view Ev m ++ ((alsAt Al m).filter fun x => match o.dst with | some d => Nat.beq x.1 d | none => false).map fun x => (x.1, SV.copy x.2 [])
def slC (cs : List (Nat × Nat × Nat)) (c : List Prop) (i : Nat) : List Prop := match cs.find? fun x => Nat.beq x.1 i with
  | some x => (c.drop x.2.1).take x.2.2
  | none => []
def isVal : Option SV → Bool
  | some (.val _ _) => true
  | _ => false
def nodeB (Ev : List VEnt) (Al : AlT) (m : Nat) : Bool :=
  ((view Ev m).all fun e => e.2.homes.all fun k => ((view Ev m).get k).isSome) &&
  ((alsAt Al m).all fun x => !(Nat.beq x.1 x.2) && isVal ((view Ev m).get x.2) && (alsAt Al m).all fun y => !(Nat.beq y.2 x.1))
def edgeB (Al : AlT) (ms : List Nat) (m i : Nat) (o : Oper) : Bool :=
  (ms.any fun k => Nat.beq k (m ||| (1 <<< i))) && (match o.dst with
    | some d => (alsAt Al (m ||| (1 <<< i))).all fun x => Nat.beq x.1 d || (((alsAt Al m).any fun y => Nat.beq y.1 x.1 && Nat.beq y.2 x.2) && !(Nat.beq x.2 d))
    | none => (alsAt Al (m ||| (1 <<< i))).isEmpty)
def vB (orc : Nat → List TV) (md : Region.Mode) (ops : Array Oper) (Ev : List VEnt) (Al : AlT) (ms : List Nat) (full : Nat) : Bool :=
  ms.all fun m => nodeB Ev Al m && (match readyM md ops m with
    | [] => Nat.beq m full
    | is => is.all fun i => match ops[i]? with
      | some o => edgeB Al ms m i o && !(grownO (orc (keyO o)))
      | none => false)
section
variable (T : Tbl) (P : Program) (N : Fr) (orc : Nat → List TV) (md : Region.Mode) (ops : Array Oper) (Ev : List VEnt) (Al : AlT) (ms : List Nat) (cs : List (Nat × Nat × Nat)) (c : List Prop)
abbrev EO := Option (List (Option SV) × List Prop)
def eA : List (List EO) := ms.map fun m => (readyM md ops m).map fun i => match ops[i]? with
  | some o => (stepG T P N orc (stV Ev Al m) ops o).map fun r => ((tgtV Ev Al (m ||| (1 <<< i)) o).map fun e => r.1.get e.1, r.2)
  | none => none
def eB : List (List EO) := ms.map fun m => (readyM md ops m).map fun i => match ops[i]? with
  | some o => some ((tgtV Ev Al (m ||| (1 <<< i)) o).map fun e => some e.2, slC cs c i)
  | none => none
end
section
variable {P : Program} {T : Tbl} {w0 : World} {Wr Zi : Fp} {N : Fr} {S S' S1 : SS} {a : Act} {w : World} {Q : Exit → Act → World → Prop}
variable {orc : Nat → List TV} {md : Region.Mode} {ops : Array Oper} {Ev : List VEnt} {Al : AlT} {ms : List Nat} {cs : List (Nat × Nat × Nat)} {c : List Prop} {full : Nat}
theorem AllP.drop : ∀ {l : List Prop} (n : Nat), AllP l → AllP (l.drop n)
  | l, 0, h => h
  | [], n + 1, h => h
  | p :: l, n + 1, h => AllP.drop n h.2
theorem AllP.take : ∀ {l : List Prop} (n : Nat), AllP l → AllP (l.take n)
  | l, 0, h => trivial
  | [], n + 1, h => trivial
  | p :: l, n + 1, h => ⟨h.1, AllP.take n h.2⟩
theorem slC_all (h : AllP c) (i : Nat) : AllP (slC cs c i) := by
  unfold slC
  split
  · exact (h.drop _).take _
  · trivial
theorem Rel.alias (h : Rel w0 Wr Zi N S a w) {q k : Nat} {s : Sh} {x : s.den} (hk : (k, SV.val s x) ∈ S) (hqk : q ≠ k) (he : a.tmps[q]? = a.tmps[k]?) : Rel w0 Wr Zi N (S.put q (.copy k [])) a w := by
  obtain ⟨Z, F, h⟩ := h
  obtain ⟨v, hv, _⟩ := h.rep k _ hk
  have hvq : a.tmps[q]? = some v := by rw [he, hv]
  have hlt : q < a.tmps.size := (Array.getElem?_eq_some_iff.1 hvq).1
  have := h.putR (d := q) (sv := .copy k []) (v := v) hlt (fun _ => hvq) ⟨fun _ => id, s, x, v, ⟨hk, hv⟩, .inl ⟨rfl, rfl⟩⟩ (by simp only [SV.refs]; simpa using Ne.symm hqk) rfl
  rw [put_idem hvq] at this
  exact ⟨_, _, this⟩
theorem addC_ok : ∀ {al : List (Nat × Nat)} {S : SS}, Rel w0 Wr Zi N S a w → (∀ x ∈ al, x.1 ≠ x.2 ∧ (∃ s y, (x.2, SV.val s y) ∈ S) ∧ (∀ y ∈ al, y.2 ≠ x.1) ∧ a.tmps[x.1]? = a.tmps[x.2]?) → Rel w0 Wr Zi N (addC al S) a w
  | [], S, h, _ => h
  | (q, k) :: r, S, h, hal => by
    obtain ⟨h1, ⟨s, y, h2⟩, h3, h4⟩ := hal (q, k) List.mem_cons_self
    refine addC_ok (al := r) (S := S.put q (.copy k [])) (h.alias h2 h1 h4) (fun x hx => ?_)
    obtain ⟨k1, ⟨s', y', k2⟩, k3, k4⟩ := hal x (List.mem_cons_of_mem _ hx)
    exact ⟨k1, ⟨s', y', SS.mem_put.2 (.inr ⟨k2, h3 x (List.mem_cons_of_mem _ hx), rfl, rfl⟩)⟩, fun z hz => k3 z (List.mem_cons_of_mem _ hz), k4⟩
def InvV (w0 : World) (Wr Zi : Fp) (N : Fr) (Ev : List VEnt) (Al : AlT) (m : Nat) (a : Act) (w : World) : Prop := Rel w0 Wr Zi N (view Ev m) a w ∧ ∀ x ∈ alsAt Al m, a.tmps[x.1]? = a.tmps[x.2]?
theorem beq_ne {a b : Nat} (h : (!(Nat.beq a b)) = true) : a ≠ b := by
  intro e; subst e; simp at h
theorem fewer_of (h : Rel w0 Wr Zi N S1 a w) (hg : ∀ e ∈ S, S1.get e.1 = some e.2) (hh : (S.all fun e => e.2.homes.all fun k => (S.get k).isSome) = true) : Rel w0 Wr Zi N S a w := by
  obtain ⟨Z, F, hX⟩ := h
  have hs : ∀ e, e ∈ S → e ∈ S1 := fun e he => SS.get_mem (hg e he)
  refine Rel.fewer ⟨Z, F, hX⟩ hs (fun s sv hm k hk s1 x1 h1 => ?_)
  have h2 := List.all_eq_true.1 (List.all_eq_true.1 hh _ hm) k (SV.homes_refs hk)
  obtain ⟨v, hv⟩ := Option.isSome_iff_exists.1 h2
  have := hX.uniq k _ _ h1 (hs _ (SS.get_mem hv))
  rw [this]
  exact SS.get_mem hv
theorem step_v (hT : TOk P T) (hB : vB orc md ops Ev Al ms full = true) (hE : eA T P N orc md ops Ev Al ms = eB md ops Ev Al ms cs c) (hc : AllP c) {m i : Nat} (hm : m ∈ ms) (hi : i ∈ readyM md ops m) (h : InvV w0 Wr Zi N Ev Al m a w)
    {K : Act → World → Prop} (hK : ∀ a' w', (m ||| (1 <<< i)) ∈ ms → InvV w0 Wr Zi N Ev Al (m ||| (1 <<< i)) a' w' → K a' w') : wpOp P ops Q i K a w := by
  have b := List.all_eq_true.1 hB m hm
  simp only [Bool.and_eq_true] at b
  obtain ⟨bn, be⟩ := b
  have be' : ∃ o, ops[i]? = some o ∧ edgeB Al ms m i o = true ∧ grownO (orc (keyO o)) = false := by
    split at be
    · rename_i hr; rw [hr] at hi; cases hi
    · have := List.all_eq_true.1 be i hi
      split at this
      · rename_i o ho
        simp only [Bool.and_eq_true, Bool.not_eq_true'] at this
        exact ⟨o, ho, this.1, this.2⟩
      · cases this
  obtain ⟨o, ho, he, hgr⟩ := be'
  unfold edgeB at he
  simp only [Bool.and_eq_true] at he
  obtain ⟨hin, hal⟩ := he
  have hm' : (m ||| (1 <<< i)) ∈ ms := by
    obtain ⟨k, hk, hb⟩ := List.any_eq_true.1 hin
    rw [← Nat.eq_of_beq_eq_true hb]; exact hk
  have e1 := List.map_inj_left.1 hE m hm
  have e2 := List.map_inj_left.1 e1 i hi
  simp only [ho] at e2
  unfold nodeB at bn
  simp only [Bool.and_eq_true] at bn
  have bn' := List.all_eq_true.1 hB _ hm'
  simp only [Bool.and_eq_true] at bn'
  have bn2 := bn'.1
  unfold nodeB at bn2
  simp only [Bool.and_eq_true] at bn2
  have hR : Rel w0 Wr Zi N (stV Ev Al m) a w := addC_ok h.1 (fun x hx => by
    have h1 := List.all_eq_true.1 bn.2 x hx
    simp only [Bool.and_eq_true] at h1
    obtain ⟨⟨q1, q2⟩, q3⟩ := h1
    refine ⟨beq_ne q1, ?_, fun y hy => beq_ne (List.all_eq_true.1 q3 y hy), h.2 x hx⟩
    unfold isVal at q2
    split at q2
    · rename_i s y hg; exact ⟨s, y, SS.get_mem hg⟩
    · cases q2)
  obtain ⟨Z, F, hX⟩ := hR
  cases hs : stepG T P N orc (stV Ev Al m) ops o with
  | none => rw [hs] at e2; cases e2
  | some r =>
    obtain ⟨S1, c1⟩ := r
    rw [hs] at e2
    simp only [Option.map_some, Option.some.injEq, Prod.mk.injEq] at e2
    obtain ⟨e3, e4⟩ := e2
    have hget : ∀ e ∈ tgtV Ev Al (m ||| (1 <<< i)) o, S1.get e.1 = some e.2 := fun e he => List.map_inj_left.1 e3 e he
    have hc1 : AllP c1 := by rw [e4]; exact slC_all hc i
    have hside : AllP (sideG (orc (keyO o)) (stV Ev Al m) o) := by rw [sideG_not hgr]; trivial
    have hdone := stepG_ok hT hX hs hc1 hside
    have fin : ∀ a' w', Rel w0 Wr Zi N S1 a' w' → (∀ x ∈ alsAt Al (m ||| (1 <<< i)), a'.tmps[x.1]? = a'.tmps[x.2]?) → K a' w' := fun a' w' hr hx =>
      hK a' w' hm' ⟨fewer_of hr (fun e he => hget e (List.mem_append_left _ he)) bn2.1, hx⟩
    have key : DoesG P ops o a w (fun a' w' => Rel w0 Wr Zi N S1 a' w' ∧ ∀ x ∈ alsAt Al (m ||| (1 <<< i)), a'.tmps[x.1]? = a'.tmps[x.2]?) := by
      cases hd : o.dst with
      | none =>
        rw [hd] at hal
        simp only at hal
        have hnil : alsAt Al (m ||| (1 <<< i)) = [] := List.isEmpty_iff.1 hal
        intro K' Q' hK'
        exact hdone K' Q' (fun a' w' hr => hK' a' w' ⟨hr, fun x hx => by rw [hnil] at hx; cases hx⟩)
      | some d =>
        rw [hd] at hal
        simp only at hal
        have post : ∀ a' w', Rel w0 Wr Zi N S1 a' w' → (∀ k, k ≠ d → a'.tmps[k]? = a.tmps[k]?) → ∀ x ∈ alsAt Al (m ||| (1 <<< i)), a'.tmps[x.1]? = a'.tmps[x.2]? := by
          intro a' w' hr hk x hx
          have h1 := List.all_eq_true.1 hal x hx
          cases hb : Nat.beq x.1 d with
          | true =>
            have hxd : x.1 = d := Nat.eq_of_beq_eq_true hb
            have h2 := hget (x.1, SV.copy x.2 []) (List.mem_append_right _ (List.mem_map.2 ⟨x, List.mem_filter.2 ⟨hx, by simp only [hd]; exact hb⟩, rfl⟩))
            obtain ⟨Z', F', hX'⟩ := hr
            obtain ⟨v, hv, _, s, xs, vh, hh, hor⟩ := hX'.rep _ _ (SS.get_mem h2)
            rcases hor with ⟨_, rfl⟩ | ⟨g, oo, s', x', cs', hroot, hp, _⟩
            · rw [hv]; exact hh.tmp.symm
            · exact absurd rfl hp
          | false =>
            rw [hb] at h1
            simp only [Bool.false_or, Bool.and_eq_true] at h1
            obtain ⟨y, hy, hyb⟩ := List.any_eq_true.1 h1.1
            simp only [Bool.and_eq_true] at hyb
            have g1 := Nat.eq_of_beq_eq_true hyb.1
            have g2 := Nat.eq_of_beq_eq_true hyb.2
            have g3 : x.1 ≠ d := fun e => by rw [e] at hb; simp at hb
            rw [hk _ g3, hk _ (beq_ne h1.2), ← g1, ← g2]
            exact h.2 y hy
        intro K' Q' hK'
        by_cases hw : Region.wanted o (yielded ops a.tmps) = true
        · have := wp_put (R := Rel w0 Wr Zi N S1) hd (fun K1 Q1 h1 => by have := hdone K1 Q1 h1; rw [if_pos hw] at this; exact this) K' Q' (fun a' w' hr => hK' a' w' ⟨hr.1, post a' w' hr.1 hr.2⟩)
          rw [if_pos hw]; exact this
        · rw [if_neg hw]
          have h1 := hdone (fun a' w' => Rel w0 Wr Zi N S1 a' w') Q' (fun _ _ h => h)
          rw [if_neg hw] at h1
          refine hK' _ _ ⟨h1, post _ _ h1 (fun k hk => ?_)⟩
          rw [hd]; exact put_other a d k undef hk
    have hfin := key K Q (fun a' w' hr => fin a' w' hr.1 hr.2)
    unfold wpOp
    rw [ho]
    simp only
    split
    · rename_i hw
      rw [if_pos hw] at hfin
      exact .inl hfin
    · rename_i hw
      rw [if_neg hw] at hfin
      exact hfin
theorem any_v (hT : TOk P T) (hB : vB orc md ops Ev Al ms full = true) (hE : eA T P N orc md ops Ev Al ms = eB md ops Ev Al ms cs c) (hc : AllP c) (hQ : ∀ a' w', Rel w0 Wr Zi N (view Ev full) a' w' → Q .normal a' w') :
    ∀ (fuel m : Nat) (listed : Array Bool) (a : Act) (w : World), remN m ops.size ≤ fuel → m ∈ ms → Listed ops listed m → InvV w0 Wr Zi N Ev Al m a w → wpAny P md ops Q fuel listed a w := by
  intro fuel
  have fin : ∀ (m : Nat) (a : Act) (w : World), m ∈ ms → readyM md ops m = [] → InvV w0 Wr Zi N Ev Al m a w → Q .normal a w := by
    intro m a w hm hr h
    have b := List.all_eq_true.1 hB m hm
    simp only [Bool.and_eq_true, hr] at b
    have := Nat.eq_of_beq_eq_true b.2
    subst this
    exact hQ _ _ h.1
  have bit : ∀ {m i : Nat}, i ∈ readyM md ops m → i < ops.size ∧ m.testBit i = false := fun {m i} hi => by
    refine ⟨ready_lt hi, ?_⟩
    unfold readyM at hi
    have := (List.mem_filter.1 hi).2
    simp only [Bool.and_eq_true, Bool.not_eq_true'] at this
    exact this.1
  induction fuel with
  | zero =>
    intro m listed a w hf hm hl h
    have hr : readyM md ops m = [] := by
      cases hr : readyM md ops m with
      | nil => rfl
      | cons i is =>
        obtain ⟨h1, h2⟩ := bit (m := m) (i := i) (by rw [hr]; exact List.mem_cons_self)
        have := remN_zero (Nat.le_zero.1 hf) i h1
        rw [h2] at this; cases this
    exact ⟨by rw [hl.ready]; exact hr, fin m a w hm hr h⟩
  | succ fuel ih =>
    intro m listed a w hf hm hl h
    refine ⟨fun hr => fin m a w hm (hl.ready ▸ hr) h, fun i hi => ?_⟩
    rw [hl.ready] at hi
    obtain ⟨h1, h2⟩ := bit hi
    refine step_v hT hB hE hc hm hi h (fun a' w' hm' h' => ih _ _ a' w' ?_ hm' (hl.step h1) h')
    have := remN_lt h2 h1; omega
theorem wp_regv (hT : TOk P T) {id : Nat} {ops : Array Oper} {orc : Nat → List TV} {c : List Prop} (Ev : List VEnt) (Al : AlT) (ms : List Nat) (full : Nat) (cs : List (Nat × Nat × Nat)) (h : Rel w0 Wr Zi N S a w)
    (h0 : (ms.any (Nat.beq 0) && (alsAt Al 0).isEmpty && (modesOf ops).all fun md => vB orc md ops Ev Al ms full) = true)
    (hS : (view Ev 0).map (fun e => S.get e.1) = (view Ev 0).map fun e => some e.2)
    (hE : (modesOf ops).map (fun md => eA T P N orc md ops Ev Al ms) = (modesOf ops).map fun md => eB md ops Ev Al ms cs c) (hc : AllP c)
    (hrest : ∀ a' w', Rel w0 Wr Zi N (view Ev full) a' w' → Q .normal a' w') : (Code.region id ops true).wp P Q a w := by
  simp only [Bool.and_eq_true] at h0
  obtain ⟨⟨z1, z2⟩, z3⟩ := h0
  have hm0 : 0 ∈ ms := by
    obtain ⟨k, hk, hb⟩ := List.any_eq_true.1 z1
    rw [Nat.eq_of_beq_eq_true hb]; exact hk
  have key : ∀ md ∈ modesOf ops, ∀ t, wpOps P ops Q (Region.linearise md ops t) a { w with drawn := w.drawn + 1 } := fun md hmd t => by
    have hB := List.all_eq_true.1 z3 md hmd
    have he := List.map_inj_left.1 hE md hmd
    have bn := List.all_eq_true.1 hB 0 hm0
    simp only [Bool.and_eq_true] at bn
    have bn1 := bn.1
    unfold nodeB at bn1
    simp only [Bool.and_eq_true] at bn1
    refine wpAny_sound ops.size t _ a _ (any_v hT hB he hc hrest ops.size 0 _ a _ ?_ hm0 Listed.none ⟨(fewer_of h (fun e he => List.map_inj_left.1 hS e he) bn1.1).drew, fun x hx => by rw [List.isEmpty_iff.1 z2] at hx; cases hx⟩)
    have : ∀ k, remN 0 k ≤ k := by
      intro k
      induction k with
      | zero => exact Nat.le_refl _
      | succ k ihk => simp only [remN, Nat.zero_testBit]; simp; omega
    exact this _
  refine wp_region_draw fun t => ?_
  unfold Region.schedule
  unfold modesOf at key
  split
  · exact key .any (by split <;> simp) t
  · rename_i hdep
    simp only [Bool.or_eq_true, Bool.not_eq_true', not_or, Bool.not_eq_false] at hdep
    rw [if_pos hdep.2] at key
    split
    · exact key .text (by simp) _
    · exact key .gc (by simp) _
theorem wp_regv_seq (hT : TOk P T) {id : Nat} {ops : Array Oper} {rest : Code} {orc : Nat → List TV} {c : List Prop} (Ev : List VEnt) (Al : AlT) (ms : List Nat) (full : Nat) (cs : List (Nat × Nat × Nat)) (h : Rel w0 Wr Zi N S a w)
    (h0 : (ms.any (Nat.beq 0) && (alsAt Al 0).isEmpty && (modesOf ops).all fun md => vB orc md ops Ev Al ms full) = true)
    (hS : (view Ev 0).map (fun e => S.get e.1) = (view Ev 0).map fun e => some e.2)
    (hE : (modesOf ops).map (fun md => eA T P N orc md ops Ev Al ms) = (modesOf ops).map fun md => eB md ops Ev Al ms cs c) (hc : AllP c)
    (hrest : ∀ a' w', Rel w0 Wr Zi N (view Ev full) a' w' → rest.wp P Q a' w') : ((Code.region id ops true).seq rest).wp P Q a w :=
  wp_seq (wp_regv hT Ev Al ms full cs h h0 hS hE hc hrest)
end
end Go.Vm
