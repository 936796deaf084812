/- Calls that write through one of their arguments. -/
import Derived.Test.YtijlnlonlmcdoaaVmMa
import Derived.Laws.BytesArg
set_option linter.unusedVariables false
set_option linter.unusedSimpArgs false
namespace Go.Vm
open Go

/-- A function's contract that writes through what it is lent: called with values that read as 'ins' it returns 'outs'; the same values read as 'fins' then. -/
def PMut (P : Program) (f : Nat) (ins outs fins : List TV) : Prop :=
  (∃ fn, P.funcs[f]? = some fn ∧ (fn.name == "runtime.NumGoroutine") = false ∧ fn.body.isNone = false) ∧
  ∀ (Z : Fp) (w : World) (args : List Value) (f0 : Fp), (∀ i, Z i → i < w.heap.size) → VReps Z w ins args f0 → (∀ i, f0 i → ¬ Z i) →
    Calls P f args.toArray w fun e w' => ∃ vs Fr f1 Zn, e = .returned (RetV vs) ∧ (∀ i, Zn i → i < w'.heap.size ∧ (i < w.heap.size → Z i)) ∧ VReps Zn w' outs vs Fr ∧ (∀ i, Fr i → w.heap.size ≤ i ∧ ¬ Zn i ∧ ¬ f1 i) ∧
      VReps Zn w' fins args f1 ∧ (∀ i, f1 i → (f0 i ∨ w.heap.size ≤ i) ∧ ¬ Zn i) ∧ Grow f0 w w'

section
variable {P : Program} {T : Tbl} {Z : Fp} {F : Nat → Fp} {w0 : World} {Wr Zi : Fp} {N : Fr} {S S' S1 : SS} {a : Act} {w : World} {o : Oper}

/-- What a slot owns turns, its value staying; the world has grown. -/
theorem RelX.turn (h : RelX Z F w0 Wr Zi N S a w) {k : Nat} {s : Sh} {x : s.den} {v : Value} {w' : World} {f U Zn : Fp} (hv : a.tmps[k]? = some v) (hg : Grow U w w') (hU : ∀ i, U i → F k i)
    (hz : ∀ i, Zn i → w.heap.size ≤ i ∧ i < w'.heap.size) (hf : ∀ i, f i → i < w'.heap.size ∧ (F k i ∨ w.heap.size ≤ i) ∧ ¬ Zn i) (hrep : VRep (fun i => Z i ∨ Zn i) w' s x v f) :
    RelX (fun i => Z i ∨ Zn i) (fun t => if t = k then f else F t) w0 Wr Zi N (S.put k (.val s x)) a w' := by
  have hlt : k < a.tmps.size := (Array.getElem?_eq_some_iff.1 hv).1
  have hZ : ∀ i, Z i → w'.heap[i]? = w.heap[i]? := fun i hi => hg.block i (h.zlt i hi) (fun hu => h.nz k i (hU i hu) hi)
  have hF : ∀ t, t ≠ k → ∀ i, F t i → w'.heap[i]? = w.heap[i]? := fun t ht i hi => hg.block i (h.lt t i hi) (fun hu => ht (h.apart t k i hi (hU i hu)))
  refine ⟨h.tsize, h.pins, uniq_put h.uniq, ?_, ?_, ?_, ?_, ?_, ?_, ?_, h.defers, ?_⟩
  · rintro i (hi | hi)
    · exact Nat.lt_of_lt_of_le (h.zlt i hi) hg.size
    · exact (hz i hi).2
  · rintro i (hi | hi) hlt'
    · exact h.zin i hi hlt'
    · have := (hz i hi).1; have := h.grow.size; omega
  · intro t i hi
    by_cases e : t = k
    · simp only [e, if_true] at hi
      rcases (hf i hi).2.1 with h' | h'
      · exact h.wr k i h'
      · exact .inr (Nat.le_trans h.grow.size h')
    · simp only [e, if_false] at hi; exact h.wr t i hi
  · intro t i hi hzz
    by_cases e : t = k
    · simp only [e, if_true] at hi
      rcases hzz with hzz | hzz
      · rcases (hf i hi).2.1 with h' | h'
        · exact h.nz k i h' hzz
        · have := h.zlt i hzz; omega
      · exact (hf i hi).2.2 hzz
    · simp only [e, if_false] at hi
      rcases hzz with hzz | hzz
      · exact h.nz t i hi hzz
      · have := h.lt t i hi; have := (hz i hzz).1; omega
  · intro t i hi
    by_cases e : t = k
    · simp only [e, if_true] at hi; exact (hf i hi).1
    · simp only [e, if_false] at hi; exact Nat.lt_of_lt_of_le (h.lt t i hi) hg.size
  · intro t u i ht hu
    by_cases e1 : t = k <;> by_cases e2 : u = k <;> simp only [e1, e2, if_true, if_false] at ht hu
    · rw [e1, e2]
    · exfalso
      rcases (hf i ht).2.1 with h' | h'
      · exact e2 (h.apart u k i hu h')
      · have := h.lt u i hu; omega
    · exfalso
      rcases (hf i hu).2.1 with h' | h'
      · exact e1 (h.apart t k i ht h')
      · have := h.lt t i ht; omega
    · exact h.apart t u i ht hu
  · exact h.grow.step hg (fun i hi => h.wr k i (hU i hi))
  · intro t sv' hm
    rcases SS.mem_put.1 hm with he | ⟨hm, hne, hr, ht⟩
    · simp only [Prod.mk.injEq] at he
      obtain ⟨rfl, rfl⟩ := he
      refine ⟨v, hv, ?_⟩
      simp only [if_true]
      exact hrep
    · obtain ⟨v', hv', hrep'⟩ := h.rep t sv' hm
      simp only at hne hr ht
      refine ⟨v', hv', ?_⟩
      simp only [hne, if_false]
      refine SV.rep_turn (Z := Z) (fun i => .inl) hZ (hF t hne) ?_ (fun g hg => rfl) hrep'
      intro q hq s1 x1 vh hh
      have hkd : q ≠ k := fun e => by rw [e, hr] at hq; cases hq
      refine ⟨⟨SS.mem_put.2 (.inr ⟨hh.get, hkd, rfl, rfl⟩), hh.tmp⟩, fun hs => ?_⟩
      obtain ⟨v1, hv1, hr1⟩ := h.rep q _ hh.get
      rw [hh.tmp] at hv1
      obtain rfl : vh = v1 := by simpa using hv1
      exact ⟨F q, root_cells hs hr1, hF q hkd⟩

/-- Nothing owned: the place has no blocks; one argument is lent. -/
def argsM (T : Tbl) (S : SS) (ty : Nat) : List Operand → Option (List TV × Option (Nat × Path × Nat))
  | [] => some ([], none)
  | X :: r => match opd T S ty X with
    | some (.copy k p) => match placeOf S k p, argsM T S ty r with
      | some tv, some (ts, none) => some (tv :: ts, some (k, p, 0))
      | _, _ => none
    | _ => match argO T S ty X, argsM T S ty r with
      | some (t, false), some (ts, l) => some (t :: ts, l.map fun q => (q.1, q.2.1, q.2.2 + 1))
      | _, _ => none

/-- The values of a list, one of them with a footprint. -/
theorem vreps_cons {Z : Fp} {w : World} {t : TV} {ts : List TV} {v : Value} {vs : List Value} {f : Fp} (h1 : VRep Z w t.sh t.x v (fun _ => False)) (h2 : VReps Z w ts vs f) : VReps Z w (t :: ts) (v :: vs) f :=
  ⟨v, vs, fun _ => False, f, rfl, fun i => ⟨.inr, fun h => h.elim False.elim id⟩, fun i h => h.elim, h1, h2⟩
theorem vreps_head {Z : Fp} {w : World} {t : TV} {ts : List TV} {v : Value} {vs : List Value} {f : Fp} (h1 : VRep Z w t.sh t.x v f) (h2 : VReps Z w ts vs (fun _ => False)) : VReps Z w (t :: ts) (v :: vs) f :=
  ⟨v, vs, f, fun _ => False, rfl, fun i => ⟨.inl, fun h => h.elim id False.elim⟩, fun i _ h => h.elim, h1, h2⟩

theorem argsM_none (h : RelX Z F w0 Wr Zi N S a w) {ty : Nat} : ∀ {l : List Operand} {ts : List TV}, argsM T S ty l = some (ts, none) → VReps Z w ts (l.map a.eval) (fun _ => False)
  | [], ts, ho => by cases ho; exact ⟨rfl, fun _ => id⟩
  | X :: r, ts, ho => by
    simp only [argsM] at ho
    split at ho
    · split at ho <;> cases ho
    · split at ho
      · rename_i t ts' l h1 h2
        cases l with
        | none =>
          cases ho
          exact vreps_cons ((argO_rep h h1).2 rfl) (argsM_none h h2)
        | some q => cases ho
      · cases ho

theorem argsM_some (h : RelX Z F w0 Wr Zi N S a w) {ty : Nat} : ∀ {l : List Operand} {ts : List TV} {k : Nat} {p : Path} {j : Nat}, argsM T S ty l = some (ts, some (k, p, j)) →
    ∃ X tv, l[j]? = some X ∧ opd T S ty X = some (.copy k p) ∧ placeOf S k p = some tv ∧ ts[j]? = some tv ∧ ∀ f, VRep Z w tv.sh tv.x (a.eval X) f → VReps Z w ts (l.map a.eval) f
  | [], ts, k, p, j, ho => by cases ho
  | X :: r, ts, k, p, j, ho => by
    simp only [argsM] at ho
    split at ho
    · rename_i k' p' hX
      split at ho
      · rename_i tv ts' h1 h2
        cases ho
        exact ⟨X, tv, rfl, hX, h1, rfl, fun f hf => vreps_head hf (argsM_none h h2)⟩
      · cases ho
    · split at ho
      · rename_i t ts' l h1 h2
        cases l with
        | none => cases ho
        | some q =>
          cases ho
          obtain ⟨X', tv, q1, q2, q3, q4, q5⟩ := argsM_some h h2
          exact ⟨X', tv, by simpa using q1, q2, q3, by simpa using q4, fun f hf => vreps_cons ((argO_rep h h1).2 rfl) (q5 f hf)⟩
      · cases ho

theorem vreps_nth {Z : Fp} {w : World} : ∀ {ts : List TV} {vs : List Value} {f : Fp} {j : Nat} {t : TV}, VReps Z w ts vs f → ts[j]? = some t → ∃ v fj, vs[j]? = some v ∧ VRep Z w t.sh t.x v fj ∧ ∀ i, fj i → f i
  | [], vs, f, j, t, _, hj => by simp at hj
  | u :: ts, vs, f, j, t, h, hj => by
    obtain ⟨v, vs', f1, f2, rfl, he, hd, h1, h2⟩ := h
    cases j with
    | zero =>
      simp only [List.getElem?_cons_zero, Option.some.injEq] at hj
      subst hj
      exact ⟨v, f1, rfl, h1, fun i hi => (he i).2 (.inl hi)⟩
    | succ j =>
      obtain ⟨v', fj, q1, q2, q3⟩ := vreps_nth h2 (by simpa using hj)
      exact ⟨v', fj, by simpa using q1, q2, fun i hi => (he i).2 (.inr (q3 i hi))⟩

theorem upd_root {s : Sh} {x : s.den} {p : Path} {v r : TV} (hs : IsRoot s) (hp : p ≠ []) (hu : upd s x p v = some r) : IsRoot r.sh := by
  cases p with
  | nil => exact absurd rfl hp
  | cons q p =>
    cases s with
    | sl ow te e =>
      cases ow with
      | false => exact hs.elim
      | true =>
        cases q <;> simp only [upd] at hu
        · cases hu
        · cases hu
        · split at hu
          · split at hu
            · cases hu; trivial
            · cases hu
          · cases hu
        · cases hu
    | pt ow te e =>
      cases ow with
      | false => exact hs.elim
      | true =>
        cases q <;> simp only [upd] at hu
        · cases hu
        · cases hu
        · cases hu
        · split at hu
          · cases hu; trivial
          · cases hu
    | mp ow mk mv => cases q <;> simp [upd] at hu
    | _ => exact hs.elim
theorem root_val {s : Sh} (hs : IsRoot s) (v : Value) : ValOf s v [v] := by
  cases s <;> first | exact hs.elim | rfl

/-- A copy's place, and what the whole is when it is another. -/
theorem copy_put (h : RelX Z F w0 Wr Zi N S a w) {k : Nat} {p : Path} {v : Value} {tv r fin : TV} (hr : CopyRep S w a.tmps k p v) (hpl : placeOf S k p = some tv) (hroot : IsRoot tv.sh) {s : Sh} {x : s.den} (hg : S.get k = some (.val s x)) (hu : upd s x p fin = some r) (hfr : IsRoot fin.sh) :
    ∃ vh f', a.tmps[k]? = some vh ∧ VRep Z w tv.sh tv.x v f' ∧ (∀ i, f' i → F k i) ∧ ∀ (Z2 : Fp) (w2 : World) (f2 : Fp), (∀ i, Z i → Z2 i) → Grow f' w w2 → CRep Z2 w2 fin.sh fin.x [v] f2 → (∀ i, f2 i → f' i ∨ w.heap.size ≤ i) →
      ∃ f3, VRep Z2 w2 r.sh r.x vh f3 ∧ ∀ i, f3 i → F k i ∨ f2 i := by
  obtain ⟨s0, x0, hg0, hroot0, hat⟩ := placeOf_some hpl
  rw [hg] at hg0
  simp only [Option.some.injEq, SV.val.injEq] at hg0
  obtain ⟨rfl, hx0⟩ := hg0
  obtain rfl := eq_of_heq hx0
  obtain ⟨s', x', vh, hhome, hpp⟩ := hr
  have heq := home_is h hhome hg
  simp only [TV.mk.injEq] at heq
  obtain ⟨rfl, heq⟩ := heq
  obtain rfl := eq_of_heq heq
  have hcr := root_cells hroot0 (home_rep h hhome)
  rcases hpp with ⟨rfl, hv⟩ | ⟨gg, oo, s1, x1, cs, _, hpn, hok, hat2, hl, hlen, hcells, hvo⟩
  · simp only [getAt, Option.some.injEq] at hat
    subst hat
    simp only [upd, Option.some.injEq] at hu
    subst hu
    subst hv
    refine ⟨v, F k, hhome.tmp, ⟨[v], hcr, ?_⟩, fun i => id, fun Z2 w2 f2 _ _ hc _ => ⟨f2, ⟨[v], hc, ?_⟩, fun i => .inr⟩⟩
    · exact root_val hroot0 v
    · exact root_val hfr v
  · rw [hat] at hat2
    simp only [Option.some.injEq] at hat2
    subst hat2
    obtain ⟨g', t', pre', cs', post', f', R⟩ := rfocus p s' x' vh (F k) ⟨s1, x1⟩ hcr hpn (by cases s' <;> first | exact hroot0.elim | trivial | exact absurd (mp_path hok) (by assumption)) hok hat
    have hgo := R.at_
    rw [hl] at hgo
    simp only [Option.some.injEq, Prod.mk.injEq] at hgo
    obtain ⟨rfl, rfl⟩ := hgo
    have hl1 : cs'.length = 1 := by rw [CRep.length R.rep]; cases s1 <;> first | exact hroot.elim | rfl
    have hcs : cs = [v] := by cases s1 <;> first | exact hroot.elim | simpa [ValOf] using hvo
    subst hcs
    have hcs' : cs' = [v] := by
      have h0 := cells_mid R.heap 0 (by omega)
      have hcv : w.cell? ⟨gg, pre'.length, none⟩ = some v := by simpa using hcells 0 v rfl
      rw [Nat.add_zero, hcv] at h0
      match cs', hl1, h0 with
      | [u], _, h0 => simp at h0; rw [h0]
    have hrep := R.rep
    rw [hcs'] at hrep
    refine ⟨vh, f', hhome.tmp, ⟨[v], hrep, ?_⟩, R.sub, fun Z2 w2 f2 hZ2 hgr hc hf2 => ?_⟩
    · exact root_val hroot v
    · have hfg : F k gg := R.in_
      have hnew : ∀ i, w.heap.size ≤ i → ¬ F k i := fun i hi hF => by have := h.lt k i hF; omega
      obtain ⟨f3, q1, q2⟩ := R.put Z2 w2 fin [v] f2 r hu hc (by rw [hl1]; rfl) hZ2 (fun i hi => hgr.block i (h.zlt i hi) (fun hh => h.nz k i (R.sub i hh) hi))
        (fun i hi hn _ => hgr.block i (h.lt k i hi) hn) (by rw [hgr.block gg (h.lt k gg hfg) R.out, R.heap, hcs']) (fun i hi hF => by
          rcases hf2 i hi with h' | h'
          · exact h'
          · exact absurd hF (hnew i h')) (fun hh => by
          rcases hf2 gg hh with h' | h'
          · exact R.out h'
          · exact hnew gg h' hfg)
      refine ⟨f3, ⟨[vh], q1, ?_⟩, fun i hi => ?_⟩
      · exact root_val (upd_root hroot0 hpn hu) vh
      · rcases (q2 i).1 hi with ⟨h1, _⟩ | h1
        · exact .inl h1
        · exact .inr h1

/-- What a call leaves of the home that it was lent a part of. -/
def lentS (S : SS) (k : Nat) (p : Path) (fin : TV) : Option SS :=
  match S.get k with
  | some (.val s x) => match upd s x p fin with
    | some r => some (S.put k (.val r.sh r.x))
    | none => none
  | _ => none

theorem callM_ok (h : RelX Z F w0 Wr Zi N S a w) {f : Nat} {xs : Array Operand} {tys : Array TypeId} {ins outs fins : List TV} {k j : Nat} {p : Path} {fin : TV} (ho : o.op = .call { callee := .value (.func f), args := xs, argTypes := tys })
    (hx : argsM T S o.type xs.toList = some (ins, some (k, p, j))) (hfin : fins[j]? = some fin) (hfr : fin.sh.isRoot = true) (hc : PMut P f ins outs fins) (hl : lentS S k p fin = some S1)
    (hp : (o.dst = none ∧ outs = [] ∧ S' = S1) ∨ putS N S1 o.dst (retS outs) = some S') (hroot : ∃ tv, placeOf S k p = some tv ∧ tv.sh.isRoot = true) : Does P o a w (Rel w0 Wr Zi N S') := by
  intro K Q hK
  obtain ⟨⟨fn, hfn, hname, hbody⟩, hcall⟩ := hc
  obtain ⟨X, tv, q1, q2, q3, q4, q5⟩ := argsM_some h hx
  obtain ⟨tv', e1, e2⟩ := hroot
  rw [q3] at e1
  cases e1
  have hroot := Sh.isRoot_iff e2
  unfold lentS at hl
  split at hl
  · rename_i s x hg
    split at hl
    · rename_i r hu
      cases hl
      have hev : a.eval (.func f) = .func (.func f) #[] #[] := rfl
      have hrun : (execOp a.eval o).run P w = .ok (.enter f (xs.toList.map a.eval).toArray) w := by
        have : (xs.map a.eval) = (xs.toList.map a.eval).toArray := by apply Array.toList_inj.1; simp
        have hname' : ¬ fn.name = "runtime.NumGoroutine" := by simpa using hname
        have hbody' : ¬ fn.body = none := by intro e; rw [e] at hbody; cases hbody
        simp [execOp, ho, resolve, hev, Deferred.ofValue, invoke, callFunc, hfn, hname', hbody', this]
      unfold Oper.wp
      rw [hrun, Oper.upon_enter]
      obtain ⟨vh, f', hvh, hplace, hsub, hput⟩ := copy_put h (opd_rep h q2).2 q3 hroot hg hu (Sh.isRoot_iff hfr)
      refine (hcall Z w _ f' h.zlt (q5 f' hplace) (fun i hi hz => h.nz k i (hsub i hi) hz)).mono ?_
      rintro e w' ⟨vs, Fr, f1, Zn, rfl, hzn, hvs, hfr', hfs, hf1, hgr⟩
      refine hK _ _ ?_
      obtain ⟨vj, fj, r1, r2, r3⟩ := vreps_nth hfs hfin
      have hvj : vj = a.eval X := by
        rw [List.getElem?_map, q1] at r1
        simpa using r1.symm
      subst hvj
      have hrc := root_cells (Sh.isRoot_iff hfr) r2
      -- what is read: old and new
      let Zx : Fp := fun i => Zn i ∧ w.heap.size ≤ i
      have hZx : ∀ i, Zn i → Z i ∨ Zx i := fun i hi => by
        by_cases hlt : i < w.heap.size
        · exact .inl ((hzn i hi).2 hlt)
        · exact .inr ⟨hi, by omega⟩
      have hsame : ∀ i, Zn i → w'.heap[i]? = w'.heap[i]? := fun i _ => rfl
      obtain ⟨f3, hr3, hf3⟩ := hput (fun i => Z i ∨ Zx i) w' fj (fun i => .inl) hgr (CRep.same hZx hsame (fun i _ => rfl) hrc) (fun i hi => (hf1 i (r3 i hi)).1)
      have h2 := h.turn (Zn := Zx) (f := f3) (U := f') hvh hgr hsub (fun i hi => ⟨hi.2, (hzn i hi.1).1⟩) (fun i hi => ?_) hr3
      · rcases hp with ⟨hd, ho', rfl⟩ | hp
        · rw [hd]
          exact ⟨_, _, h2⟩
        · obtain ⟨d, hd, hlt, hrd, htd, rfl⟩ := putS_some hp
          rw [hd]
          have hnz : ∀ i, Fr i → ¬ (Z i ∨ Zx i) := fun i hi hz => by
            rcases hz with hz | hz
            · have := h.zlt i hz; have := (hfr' i hi).1; omega
            · exact (hfr' i hi).2.1 hz.1
          have hvs' : VReps (fun i => Z i ∨ Zx i) w' outs vs Fr := VReps.same (Z := Zn) hZx (fun i _ => rfl) (fun i _ => rfl) hvs
          refine ⟨_, _, h2.putG (d := d) (sv := retS outs) (v := RetV vs) (f := Fr) (U := fun _ => False) (by rw [h.tsize]; exact hlt.1) (fun hm => absurd hm hlt.2) (Grow.refl _ _) (fun i hi => hi.elim) (fun i hi => ⟨VReps.lt hvs' i hi, .inr ⟨hnz i hi, fun t _ ht => ?_, .inr (Nat.le_trans h.grow.size (hfr' i hi).1)⟩⟩) ?_⟩
          · by_cases e : t = k
            · simp only [e, if_true] at ht
              rcases hf3 i ht with h' | h'
              · have := h.lt k i h'; have := (hfr' i hi).1; omega
              · exact (hfr' i hi).2.2 (r3 i h')
            · simp only [e, if_false] at ht
              have := h.lt t i ht; have := (hfr' i hi).1; omega
          · match outs, vs, hvs' with
            | [], vs, hv =>
              obtain ⟨rfl, h0⟩ := hv
              exact ⟨[], rfl, rfl, h0⟩
            | [t], vs, hv =>
              obtain ⟨v, vs', f1, f2, rfl, he, hdd, q1, rfl, q2⟩ := hv
              have : f1 = Fr := funext fun i => propext ⟨fun h => (he i).2 (.inl h), fun h => ((he i).1 h).elim id (fun h => absurd h (q2 i))⟩
              subst this
              exact q1
            | t :: u :: ts, vs, hv =>
              have hv' := hv
              obtain ⟨v, vs', f1, f2, rfl, he, hdd, q1, v2, vs2, g1, g2, rfl, _⟩ := hv
              exact ⟨_, rfl, hv'⟩
      · rcases hf3 i hi with h' | h'
        · refine ⟨Nat.lt_of_lt_of_le (h.lt k i h') hgr.size, .inl h', fun hz => ?_⟩
          have := h.lt k i h'; have := hz.2; omega
        · have hlt' := CRep.lt hrc i h'
          refine ⟨hlt', ?_, fun hz => (hf1 i (r3 i h')).2 hz.1⟩
          rcases (hf1 i (r3 i h')).1 with h'' | h''
          · exact .inl (hsub i h'')
          · exact .inr h''
    · cases hl
  · cases hl

/-! ### Calls that take an argument with all that it owns -/
/-- The function's contract: what is handed over is lost; what is returned may own of it. -/
def PCons (P : Program) (f : Nat) (ins outs : List TV) : Prop :=
  (∃ fn, P.funcs[f]? = some fn ∧ (fn.name == "runtime.NumGoroutine") = false ∧ fn.body.isNone = false) ∧
  ∀ (Z : Fp) (w : World) (args : List Value) (f0 : Fp), (∀ i, Z i → i < w.heap.size) → VReps Z w ins args f0 → (∀ i, f0 i → ¬ Z i) →
    Calls P f args.toArray w fun e w' => ∃ vs Fr Zn, e = .returned (RetV vs) ∧ (∀ i, Zn i → i < w'.heap.size ∧ (i < w.heap.size → Z i)) ∧ VReps Zn w' outs vs Fr ∧ (∀ i, Fr i → (f0 i ∨ w.heap.size ≤ i) ∧ ¬ Zn i) ∧ Grow f0 w w'

def argsC (T : Tbl) (S : SS) (ty : Nat) : List Operand → Option (List TV × Option SS)
  | [] => some ([], none)
  | X :: r => match argO T S ty X with
    | some (t, false) => match argsC T S ty r with
      | some (ts, l) => some (t :: ts, l)
      | none => none
    | _ => match takeO T S ty X, argsC T S ty r with
      | some (tv, S1), some (ts, none) => some (tv :: ts, some S1)
      | _, _ => none

theorem argsC_none (h : RelX Z F w0 Wr Zi N S a w) {ty : Nat} : ∀ {l : List Operand} {ts : List TV}, argsC T S ty l = some (ts, none) → VReps Z w ts (l.map a.eval) (fun _ => False)
  | [], ts, ho => by cases ho; exact ⟨rfl, fun _ => id⟩
  | X :: r, ts, ho => by
    simp only [argsC] at ho
    split at ho
    · rename_i t h1
      split at ho
      · rename_i ts' l h2
        cases ho
        exact vreps_cons ((argO_rep h h1).2 rfl) (argsC_none h h2)
      · cases ho
    · split at ho <;> cases ho

theorem argsC_some (h : RelX Z F w0 Wr Zi N S a w) {ty : Nat} : ∀ {l : List Operand} {ts : List TV} {S1 : SS}, argsC T S ty l = some (ts, some S1) →
    ∃ F1 f, VReps Z w ts (l.map a.eval) f ∧ RelX Z F1 w0 Wr Zi N S1 a w ∧ Held Z F1 w0 Wr w f
  | [], ts, S1, ho => by cases ho
  | X :: r, ts, S1, ho => by
    simp only [argsC] at ho
    split at ho
    · rename_i t h1
      split at ho
      · rename_i ts' l h2
        cases ho
        obtain ⟨F1, f, q1, q2, q3⟩ := argsC_some h h2
        exact ⟨F1, f, vreps_cons ((argO_rep h h1).2 rfl) q1, q2, q3⟩
      · cases ho
    · split at ho
      · rename_i tv S2 ts' h1 h2
        cases ho
        obtain ⟨F1, f, q1, q2, q3, _⟩ := takeO_rep h h1
        exact ⟨F1, f, vreps_head q1 (argsC_none h h2), q2, q3⟩
      · cases ho

/-- The world has grown, what is held beside may have turned. -/
theorem RelX.grownU (h : RelX Z F w0 Wr Zi N S a w) {w' : World} {U : Fp} (hg : Grow U w w') (hU : ∀ i, U i → i < w.heap.size → ¬ Z i ∧ (∀ s, ¬ F s i) ∧ (Wr i ∨ w0.heap.size ≤ i)) (Zn : Fp) (hz : ∀ i, Zn i → w.heap.size ≤ i ∧ i < w'.heap.size) : RelX (fun i => Z i ∨ Zn i) F w0 Wr Zi N S a w' where
  tsize := h.tsize
  pins := h.pins
  uniq := h.uniq
  zlt i hi := by
    rcases hi with hi | hi
    · exact Nat.lt_of_lt_of_le (h.zlt i hi) hg.size
    · exact (hz i hi).2
  zin i hi hlt := by
    rcases hi with hi | hi
    · exact h.zin i hi hlt
    · have := (hz i hi).1; have := h.grow.size; omega
  wr := h.wr
  nz s i hi hzz := by
    rcases hzz with hzz | hzz
    · exact h.nz s i hi hzz
    · have := h.lt s i hi; have := (hz i hzz).1; omega
  lt s i hi := Nat.lt_of_lt_of_le (h.lt s i hi) hg.size
  apart := h.apart
  grow := ⟨hg.os.trans h.grow.os, hg.tape.trans h.grow.tape, hg.output.trans h.grow.output, Nat.le_trans h.grow.size hg.size, fun i hi hn => by
    rw [hg.block i (Nat.lt_of_lt_of_le hi h.grow.size) (fun hu => by
      rcases (hU i hu (Nat.lt_of_lt_of_le hi h.grow.size)).2.2 with h' | h'
      · exact hn h'
      · omega)]
    exact h.grow.block i hi hn⟩
  defers := h.defers
  rep s sv hm := by
    have hZ : ∀ i, Z i → w'.heap[i]? = w.heap[i]? := fun i hi => hg.block i (h.zlt i hi) (fun hu => (hU i hu (h.zlt i hi)).1 hi)
    have hF : ∀ t i, F t i → w'.heap[i]? = w.heap[i]? := fun t i hi => hg.block i (h.lt t i hi) (fun hu => (hU i hu (h.lt t i hi)).2.1 t hi)
    obtain ⟨v, hv, hr⟩ := h.rep s sv hm
    refine ⟨v, hv, SV.rep_turn (Z := Z) (fun i => .inl) hZ (hF s) ?_ (fun g hg => rfl) hr⟩
    intro k hk s1 x1 vh hh
    refine ⟨hh, fun hs => ?_⟩
    obtain ⟨v1, hv1, hr1⟩ := h.rep k _ hh.get
    rw [hh.tmp] at hv1
    obtain rfl : vh = v1 := by simpa using hv1
    exact ⟨F k, root_cells hs hr1, hF k⟩

theorem retS_rep {Z : Fp} {w : World} {S : SS} {tmps : Array Value} : ∀ {outs : List TV} {vs : List Value} {Fr : Fp}, VReps Z w outs vs Fr → (retS outs).rep Z S w tmps (RetV vs) Fr
  | [], vs, Fr, hv => by
    obtain ⟨rfl, h0⟩ := hv
    exact ⟨[], rfl, rfl, h0⟩
  | [t], vs, Fr, hv => by
    obtain ⟨v, vs', f1, f2, rfl, he, hdd, q1, rfl, q2⟩ := hv
    have : f1 = Fr := funext fun i => propext ⟨fun h => (he i).2 (.inl h), fun h => ((he i).1 h).elim id (fun h => absurd h (q2 i))⟩
    subst this
    exact q1
  | t :: u :: ts, vs, Fr, hv => by
    have hv' := hv
    obtain ⟨v, vs', f1, f2, rfl, he, hdd, q1, v2, vs2, g1, g2, rfl, _⟩ := hv
    exact ⟨_, rfl, hv'⟩

theorem callC_ok (h : RelX Z F w0 Wr Zi N S a w) {f : Nat} {xs : Array Operand} {tys : Array TypeId} {ins outs : List TV} (ho : o.op = .call { callee := .value (.func f), args := xs, argTypes := tys })
    (hx : argsC T S o.type xs.toList = some (ins, some S1)) (hc : PCons P f ins outs) (hp : putS N S1 o.dst (retS outs) = some S') : Does P o a w (Rel w0 Wr Zi N S') := by
  intro K Q hK
  obtain ⟨d, hd, hlt, hrd, htd, rfl⟩ := putS_some hp
  obtain ⟨⟨fn, hfn, hname, hbody⟩, hcall⟩ := hc
  obtain ⟨F1, f', hargs, h1, hh⟩ := argsC_some h hx
  have hev : a.eval (.func f) = .func (.func f) #[] #[] := rfl
  have hrun : (execOp a.eval o).run P w = .ok (.enter f (xs.toList.map a.eval).toArray) w := by
    have : (xs.map a.eval) = (xs.toList.map a.eval).toArray := by apply Array.toList_inj.1; simp
    have hname' : ¬ fn.name = "runtime.NumGoroutine" := by simpa using hname
    have hbody' : ¬ fn.body = none := by intro e; rw [e] at hbody; cases hbody
    simp [execOp, ho, resolve, hev, Deferred.ofValue, invoke, callFunc, hfn, hname', hbody', this]
  unfold Oper.wp
  rw [hrun, Oper.upon_enter]
  refine (hcall Z w _ f' h1.zlt hargs (fun i hi => (hh i hi).2.1)).mono ?_
  rintro e w' ⟨vs, Fr, Zn, rfl, hzn, hvs, hfr, hgr⟩
  refine hK _ _ ?_
  rw [hd]
  let Zx : Fp := fun i => Zn i ∧ w.heap.size ≤ i
  have hZx : ∀ i, Zn i → Z i ∨ Zx i := fun i hi => by
    by_cases hlt : i < w.heap.size
    · exact .inl ((hzn i hi).2 hlt)
    · exact .inr ⟨hi, by omega⟩
  have h2 := h1.grownU hgr (fun i hi _ => (hh i hi).2) Zx (fun i hi => ⟨hi.2, (hzn i hi.1).1⟩)
  have hvs' : VReps (fun i => Z i ∨ Zx i) w' outs vs Fr := VReps.same (Z := Zn) hZx (fun i _ => rfl) (fun i _ => rfl) hvs
  have hnz : ∀ i, Fr i → ¬ (Z i ∨ Zx i) := fun i hi hz => by
    rcases hz with hz | hz
    · rcases (hfr i hi).1 with h' | h'
      · exact (hh i h').2.1 hz
      · have := h1.zlt i hz; omega
    · exact (hfr i hi).2 hz.1
  refine ⟨_, _, h2.putG (d := d) (sv := retS outs) (v := RetV vs) (f := Fr) (U := fun _ => False) (by rw [h1.tsize]; exact hlt.1) (fun hm => absurd hm hlt.2) (Grow.refl _ _) (fun i hi => hi.elim) (fun i hi => ⟨VReps.lt hvs' i hi, .inr ⟨hnz i hi, fun t _ ht => ?_, ?_⟩⟩) (retS_rep hvs')⟩
  · rcases (hfr i hi).1 with h' | h'
    · exact (hh i h').2.2.1 t ht
    · have := h1.lt t i ht; omega
  · rcases (hfr i hi).1 with h' | h'
    · exact (hh i h').2.2.2
    · exact .inr (Nat.le_trans h1.grow.size h')

/-! ### Bytes as a text -/
/-- Bytes of the call's own are made a text. -/
def bytesT (T : Tbl) (src dst : Nat) : Bool := match T.find src, T.find dst with
  | some i, some j => match i.kd, j.kd with
    | .slice e, .string => match T.find e with
      | some q => match q.kd with
        | .int .u8 => true
        | _ => false
      | none => false
    | _, _ => false
  | _, _ => false
def bytesV (S : SS) : SV → Option (List Int)
  | .copy k p => match placeOf S k p with
    | some ⟨.sl true _ (.int .u8), xs⟩ => some xs
    | _ => none
  | _ => none

theorem bytes_inner : ∀ {xs : List Int} {inner : List Value} {f : Fp}, RRep (CRep Z w (.int .u8)) xs inner f → inner = xs.map (Value.int .u8)
  | [], inner, f, h => h.1
  | x :: xs, inner, f, h => by
    obtain ⟨c1, c2, f1, f2, rfl, _, _, ⟨rfl, _⟩, h2⟩ := h
    rw [bytes_inner h2]; rfl

theorem bytes_ok (hT : TOk P T) (h : RelX Z F w0 Wr Zi N S a w) {src dst : Nat} {X : Operand} {sv : SV} {xs : List Int} (ho : o.op = .convert src dst X) (ht : bytesT T src dst = true) (hx : opd T S src X = some sv) (hb : bytesV S sv = some xs)
    (hp : putS N S o.dst (.val .str (strOfNums xs)) = some S') : Runs P o a w (Rel w0 Wr Zi N S') := by
  unfold bytesV at hb
  split at hb
  · rename_i k p
    split at hb
    · rename_i t ys hpl
      cases hb
      obtain ⟨f', hrep, _⟩ := copy_rep h (opd_rep h hx).2 hpl
      have hcr := root_cells (s := .sl true t (.int .u8)) trivial hrep
      unfold bytesT at ht
      split at ht
      · rename_i i j hi hj
        split at ht
        · rename_i e hik hjk
          split at ht
          · rename_i q hq
            split at ht
            · rename_i hqk
              obtain ⟨ti, hti⟩ := hT.find hi
              obtain ⟨d1, hd1, hdk1⟩ := hti.desc
              obtain ⟨tj, htj⟩ := hT.find hj
              obtain ⟨d2, hd2, hdk2⟩ := htj.desc
              obtain ⟨tq, htq⟩ := hT.find hq
              obtain ⟨d3, hd3, hdk3⟩ := htq.desc
              rw [ti] at hd1
              rw [tj] at hd2
              rw [tq] at hd3
              rw [hik] at hdk1
              rw [hjk] at hdk2
              rw [hqk] at hdk3
              have e1 : d1 = .slice e := by cases d1 <;> simp_all [kdOf]
              have e2 : d2 = .string := by cases d2 <;> simp_all [kdOf]
              have e3 : d3 = .int .u8 := by cases d3 <;> simp_all [kdOf]
              subst e1; subst e2; subst e3
              refine Runs.read h hp (v := .string (strOfNums xs)) ?_ ⟨_, ⟨rfl, fun _ => id⟩, rfl⟩
              have hrun : (convert src dst (a.eval X)).run P w = .ok (.string (strOfNums xs)) w := by
                obtain ⟨v', inner, fr, hvv, hrr, hown, _, _⟩ := hcr
                have hv : a.eval X = v' := by simpa using hvv
                rw [hv]
                rcases hown.2 with ⟨rfl, h0⟩ | ⟨g, cap, cur, rfl, _⟩
                · have : xs = [] := List.eq_nil_of_length_eq_zero h0
                  subst this
                  rw [run_convert_bytes_nil w src e hd1 hd3 _ _ dst hd2]
                  rfl
                · refine run_convert_bytes_arg w src e hd1 hd3 g 0 (List.length xs) cap xs rfl (fun i hi => ?_) dst hd2
                  have hin := bytes_inner hrr
                  have := hown.cells (g := g) rfl i (.int .u8 (xs.getD i 0)) (by rw [hin, List.getElem?_map, List.getD_eq_getElem?_getD, List.getElem?_eq_getElem hi]; rfl)
                  have hadd : (⟨g, 0, none⟩ : Addr).add i = ⟨g, 0 + i, none⟩ := by unfold Addr.add; split <;> simp_all
                  rw [hadd] at this
                  exact this
              simp only [execOp, ho, Sem.run_bind, hrun, Result.andThen_ok, Sem.run_pure]
            · cases ht
          · cases ht
        · cases ht
      · cases ht
    · cases hb
  · cases hb
end
end Go.Vm
