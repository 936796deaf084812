/- Calls of functions that only read what they are given. -/
import Derived.Test.YtjfledckleeoaaaVmN
set_option linter.unusedVariables false
set_option linter.unusedSimpArgs false
namespace Go.Vm
open Go

def RetV : List Value → Value
  | [v] => v
  | vs => .tuple vs.toArray

/-- A function's contract: called with values that read as 'ins' it returns 'outs', in memory of its own (or led to by what is read), and nothing that was there turns. -/
def PCall (P : Program) (f : Nat) (ins outs : List TV) : Prop :=
  (∃ fn, P.funcs[f]? = some fn ∧ (fn.name == "runtime.NumGoroutine") = false ∧ fn.body.isNone = false) ∧
  ∀ (Z : Fp) (w : World) (args : List Value), (∀ i, Z i → i < w.heap.size) → VReps Z w ins args (fun _ => False) →
    Calls P f args.toArray w fun e w' => ∃ vs Fr Zn, e = .returned (RetV vs) ∧ (∀ i, Zn i → i < w'.heap.size ∧ (i < w.heap.size → Z i)) ∧ VReps Zn w' outs vs Fr ∧ (∀ i, Fr i → w.heap.size ≤ i ∧ ¬ Zn i) ∧ Grow (fun _ => False) w w'

/-- Everything in this shape is owned. -/
def Sh.noRo : Sh → Bool
  | .pair a b => a.noRo && b.noRo
  | .st f => f.noRo
  | .sl o _ e => o && e.noRo
  | .pt o _ e => o && e.noRo
  | .mp o k v => o && k.noRo && v.noRo
  | _ => true

theorem CRep.noRo {Z Z' : Fp} {w : World} : ∀ {s : Sh} {x : s.den} {cs : List Value} {f : Fp}, s.noRo = true → CRep Z w s x cs f → CRep Z' w s x cs f
  | .int k, x, cs, f, _, h => h
  | .bool, x, cs, f, _, h => h
  | .str, x, cs, f, _, h => h
  | .unit, x, cs, f, _, h => h
  | .any, x, cs, f, _, h => h
  | .pair a b, x, cs, f, hn, h => by
    simp only [Sh.noRo, Bool.and_eq_true] at hn
    obtain ⟨c1, c2, f1, f2, rfl, he, hd, h1, h2⟩ := h
    exact ⟨c1, c2, f1, f2, rfl, he, hd, CRep.noRo hn.1 h1, CRep.noRo hn.2 h2⟩
  | .st s, x, cs, f, hn, h => CRep.noRo (s := s) hn h
  | .sl true t e, xs, cs, f, hn, h => by
    obtain ⟨v, inner, fr, rfl, hr, ho⟩ := h
    exact ⟨v, inner, fr, rfl, RRep.imp (P := fun _ => True) (fun _ _ => trivial) (fun x cs f _ h => CRep.noRo (by simpa [Sh.noRo] using hn) h) hr, ho⟩
  | .sl false t e, xs, cs, f, hn, h => by simp [Sh.noRo] at hn
  | .pt true _ _, none, cs, f, _, h => h
  | .pt false _ _, x, cs, f, hn, h => by simp [Sh.noRo] at hn
  | .pt true t e, some y, cs, f, hn, h => by
    obtain ⟨v, inner, fr, rfl, hr, ho⟩ := h
    exact ⟨v, inner, fr, rfl, CRep.noRo (by simpa [Sh.noRo] using hn) hr, ho⟩
  | .mp true _ _, none, cs, f, hn, h => h
  | .mp false _ _, x, cs, f, hn, h => by simp [Sh.noRo] at hn
  | .mp true k v, some l, cs, f, hn, h => by
    simp only [Sh.noRo, Bool.and_eq_true] at hn
    obtain ⟨g, es, clk, rfl, hg, hm, he⟩ := h
    exact ⟨g, es, clk, rfl, hg, hm.imp (fun x cs hx => CRep.noRo hn.1.2 hx) (fun x cs hx => CRep.noRo hn.2 hx), he⟩

theorem VReps.noRo {Z Z' : Fp} {w : World} : ∀ {ts : List TV} {vs : List Value} {f : Fp}, (ts.all fun t => t.sh.noRo) = true → VReps Z w ts vs f → VReps Z' w ts vs f
  | [], vs, f, _, h => h
  | t :: ts, vs, f, hn, h => by
    simp only [List.all_cons, Bool.and_eq_true] at hn
    obtain ⟨v, vs', f1, f2, rfl, he, hd, ⟨cs, hc, hv⟩, h2⟩ := h
    exact ⟨v, vs', f1, f2, rfl, he, hd, ⟨cs, CRep.noRo hn.1 hc, hv⟩, VReps.noRo hn.2 h2⟩

/-- An argument: as it is read. -/
def argR (T : Tbl) (S : SS) (ty : Nat) (X : Operand) : Option (TV × Bool) :=
  match opd T S ty X with
  | some (.val s x) => some (⟨s.ro, s.fz x⟩, false)
  | some (.copy k p) => match placeOf S k p with
    | some ⟨s1, x1⟩ => some (⟨s1.ro, s1.fz x1⟩, true)
    | none => none
  | some (.addr k p) => match placeOf S k p with
    | some ⟨s1, x1⟩ => some (⟨.pt false 0 s1.ro, some (s1.fz x1)⟩, true)
    | none => none
  | _ => match X with
    | .tmp s => match S.get s with
      | some (.val sh x) => some (⟨sh.ro, sh.fz x⟩, true)
      | _ => none
    | _ => none

/-- A pointer that is read alone: its type's number does not matter. -/
def pt0 : TV → TV
  | ⟨.pt false _ e, x⟩ => ⟨.pt false 0 e, x⟩
  | t => t
theorem pt0_rep {Z : Fp} {w : World} {t : TV} {v : Value} {f : Fp} (h : VRep Z w t.sh t.x v f) : VRep Z w (pt0 t).sh (pt0 t).x v f := by
  obtain ⟨s, x⟩ := t
  cases s with
  | pt ow te e =>
    cases ow with
    | true => exact h
    | false =>
      cases x with
      | none => exact h
      | some y => exact h
  | _ => exact h
def argO (T : Tbl) (S : SS) (ty : Nat) (X : Operand) : Option (TV × Bool) := (argR T S ty X).map fun q => (pt0 q.1, q.2)

def argsO (T : Tbl) (S : SS) (ty : Nat) : List Operand → Option (List TV × Bool)
  | [] => some ([], false)
  | X :: r => match argO T S ty X, argsO T S ty r with
    | some (t, b), some (ts, c) => some (t :: ts, b || c)
    | _, _ => none

section
variable {P : Program} {T : Tbl} {Z : Fp} {F : Nat → Fp} {w0 : World} {Wr Zi : Fp} {N : Fr} {S S' S1 : SS} {a : Act} {w : World} {o : Oper}

theorem valOf_ro {s : Sh} {v : Value} {cs : List Value} (h : ValOf s v cs) : ValOf s.ro v cs := by
  cases s <;> first | exact h | (rename_i o t e; cases o <;> exact h)

theorem argR_rep (h : RelX Z F w0 Wr Zi N S a w) {ty : Nat} {X : Operand} {tv : TV} {b : Bool} (ho : argR T S ty X = some (tv, b)) :
    VRep (fun i => Z i ∨ ∃ s, F s i) w tv.sh tv.x (a.eval X) (fun _ => False) ∧ (b = false → VRep Z w tv.sh tv.x (a.eval X) (fun _ => False)) := by
  unfold argR at ho
  split at ho
  · rename_i s x hx
    cases ho
    obtain ⟨cs, hc, hv⟩ := opd_rep h hx
    exact ⟨⟨cs, CRep.freeze (fun i => .inl) (fun i hi => hi.elim) hc, valOf_ro hv⟩, fun _ => ⟨cs, CRep.freeze (fun _ => id) (fun i hi => hi.elim) hc, valOf_ro hv⟩⟩
  · rename_i k p hx
    split at ho
    · rename_i s1 x1 hpl
      cases ho
      refine ⟨?_, fun hb => by cases hb⟩
      obtain ⟨f', ⟨cs, hc, hvo⟩, hin⟩ := copy_rep h (opd_rep h hx).2 hpl
      exact ⟨cs, CRep.freeze (fun i => .inl) (fun i hi => .inr ⟨k, hin i hi⟩) hc, valOf_ro hvo⟩
    · cases ho
  · rename_i k p hx
    split at ho
    · rename_i s1 x1 hpl
      cases ho
      refine ⟨?_, fun hb => by cases hb⟩
      obtain ⟨s, x, hg, hroot, hat⟩ := placeOf_some hpl
      obtain ⟨_, s', x', vh, g, oo, hh, _, hpn, hok, hl, hv⟩ := opd_rep h hx
      have he := home_is h hh hg
      simp only [TV.mk.injEq] at he
      obtain ⟨rfl, he⟩ := he
      obtain rfl := eq_of_heq he
      obtain ⟨g', t', pre', cs', post', f', R⟩ := rfocus p s' x' vh (F k) ⟨s1, x1⟩ (root_cells hroot (home_rep h hh)) hpn (by cases s' <;> first | exact hroot.elim | trivial | exact absurd (mp_path hok) (by assumption)) hok hat
      have hgo := R.at_
      rw [hl] at hgo
      simp only [Option.some.injEq, Prod.mk.injEq] at hgo
      obtain ⟨rfl, rfl⟩ := hgo
      rw [hv]
      refine ⟨_, ⟨_, cs', fun _ => False, rfl, CRep.freeze (fun i => .inl) (fun i hi => .inr ⟨k, R.sub i hi⟩) R.rep, fun _ => id, fun _ => id, _, rfl, fun j u hu => ⟨.inr ⟨k, R.in_⟩, ?_⟩⟩, rfl⟩
      rw [Addr.add_mid, cells_mid R.heap j (List.getElem?_eq_some_iff.1 hu).1]
      exact hu
    · cases ho
  · split at ho
    · rename_i s _ _ _
      split at ho
      · rename_i sh x hg
        cases ho
        refine ⟨?_, fun hb => by cases hb⟩
        obtain ⟨v, hv, cs, hc, hvo⟩ := h.rep s _ (SS.get_mem hg)
        rw [eval_of hv]
        exact ⟨cs, CRep.freeze (fun i => .inl) (fun i hi => .inr ⟨s, hi⟩) hc, valOf_ro hvo⟩
      · cases ho
    · cases ho

theorem argO_rep (h : RelX Z F w0 Wr Zi N S a w) {ty : Nat} {X : Operand} {tv : TV} {b : Bool} (ho : argO T S ty X = some (tv, b)) :
    VRep (fun i => Z i ∨ ∃ s, F s i) w tv.sh tv.x (a.eval X) (fun _ => False) ∧ (b = false → VRep Z w tv.sh tv.x (a.eval X) (fun _ => False)) := by
  obtain ⟨q, hq, e⟩ := Option.map_eq_some_iff.1 ho
  cases e
  obtain ⟨h1, h2⟩ := argR_rep h (tv := q.1) (b := q.2) hq
  exact ⟨pt0_rep h1, fun hb => pt0_rep (h2 hb)⟩

theorem argsO_rep (h : RelX Z F w0 Wr Zi N S a w) {ty : Nat} : ∀ {l : List Operand} {ts : List TV} {b : Bool}, argsO T S ty l = some (ts, b) →
    VReps (fun i => Z i ∨ ∃ s, F s i) w ts (l.map a.eval) (fun _ => False) ∧ (b = false → VReps Z w ts (l.map a.eval) (fun _ => False))
  | [], ts, b, ho => by cases ho; exact ⟨⟨rfl, fun _ => id⟩, fun _ => ⟨rfl, fun _ => id⟩⟩
  | X :: r, ts, b, ho => by
    simp only [argsO] at ho
    split at ho
    · rename_i t b1 ts' b2 h1 h2
      cases ho
      obtain ⟨q1, q2⟩ := argO_rep h h1
      obtain ⟨q3, q4⟩ := argsO_rep h h2
      refine ⟨⟨_, _, fun _ => False, fun _ => False, rfl, fun i => ⟨.inl, fun h => h.elim id id⟩, fun i h => h.elim, q1, q3⟩, fun hb => ?_⟩
      simp only [Bool.or_eq_false_iff] at hb
      exact ⟨_, _, fun _ => False, fun _ => False, rfl, fun i => ⟨.inl, fun h => h.elim id id⟩, fun i h => h.elim, q2 hb.1, q4 hb.2⟩
    · cases ho

/-- The world has grown; more of the new is only read from now on. -/
theorem RelX.grown (h : RelX Z F w0 Wr Zi N S a w) {w' : World} (hg : Grow (fun _ => False) w w') (Zn : Fp) (hz : ∀ i, Zn i → w.heap.size ≤ i ∧ i < w'.heap.size) : RelX (fun i => Z i ∨ Zn i) F w0 Wr Zi N S a w' where
  tsize := h.tsize
  pins := h.pins
  uniq := h.uniq
  zlt i hi := by
    rcases hi with hi | hi
    · exact Nat.lt_of_lt_of_le (h.zlt i hi) hg.size
    · exact (hz i hi).2
  zin i hi hlt := by
    rcases hi with hi | hi
    · exact h.zin i hi hlt
    · have := (hz i hi).1; have := h.grow.size; omega
  wr := h.wr
  nz s i hi hzz := by
    rcases hzz with hzz | hzz
    · exact h.nz s i hi hzz
    · have := h.lt s i hi; have := (hz i hzz).1; omega
  lt s i hi := Nat.lt_of_lt_of_le (h.lt s i hi) hg.size
  apart := h.apart
  grow := h.grow.step hg (fun i hi => hi.elim)
  defers := h.defers
  rep s sv hm := by
    obtain ⟨v, hv, hr⟩ := h.rep s sv hm
    refine ⟨v, hv, SV.rep_turn (Z := Z) (fun i => .inl) (fun i hi => hg.block i (h.zlt i hi) id) (fun i hi => hg.block i (h.lt s i hi) id) ?_ (fun g hg => rfl) hr⟩
    intro k hk s1 x1 vh hh
    refine ⟨hh, fun hs => ?_⟩
    obtain ⟨v1, hv1, hr1⟩ := h.rep k _ hh.get
    rw [hh.tmp] at hv1
    obtain rfl : vh = v1 := by simpa using hv1
    exact ⟨F k, root_cells hs hr1, fun i hi => hg.block i (h.lt k i hi) id⟩

/-- The entry of what a call returns. -/
def retS : List TV → SV
  | [t] => .val t.sh t.x
  | ts => .tup ts

theorem call_ok (h : RelX Z F w0 Wr Zi N S a w) {f : Nat} {xs : Array Operand} {tys : Array TypeId} {ins outs : List TV} {b : Bool} (ho : o.op = .call { callee := .value (.func f), args := xs, argTypes := tys })
    (hx : argsO T S o.type xs.toList = some (ins, b)) (hb : (!b || (outs.all fun t => t.sh.noRo)) = true) (hc : PCall P f ins outs) (hp : putS N S o.dst (retS outs) = some S') : Does P o a w (Rel w0 Wr Zi N S') := by
  intro K Q hK
  obtain ⟨d, hd, hlt, h1, h2, rfl⟩ := putS_some hp
  obtain ⟨⟨fn, hfn, hname, hbody⟩, hcall⟩ := hc
  obtain ⟨r1, r2⟩ := argsO_rep h hx
  have hev : a.eval (.func f) = .func (.func f) #[] #[] := rfl
  have hrun : (execOp a.eval o).run P w = .ok (.enter f (xs.toList.map a.eval).toArray) w := by
    have : (xs.map a.eval) = (xs.toList.map a.eval).toArray := by apply Array.toList_inj.1; simp
    have hname' : ¬ fn.name = "runtime.NumGoroutine" := by simpa using hname
    have hbody' : ¬ fn.body = none := by intro e; rw [e] at hbody; cases hbody
    simp [execOp, ho, resolve, hev, Deferred.ofValue, invoke, callFunc, hfn, hname', hbody', this]
  unfold Oper.wp
  rw [hrun, Oper.upon_enter]
  -- the callee's reading zone
  have key : ∀ (Zc : Fp), (∀ i, Zc i → i < w.heap.size) → VReps Zc w ins (xs.toList.map a.eval) (fun _ => False) → ((∀ i, Zc i → Z i) ∨ (outs.all fun t => t.sh.noRo) = true) →
      Calls P f (xs.toList.map a.eval).toArray w (fun | .returned v, w'' => K (a.put o.dst v) w'' | .panicked chain, w'' => Q (.panic chain) a w'' | .outgrown, _ => LetsOut Q) := by
    intro Zc hzc hargs hor
    refine (hcall Zc w _ hzc hargs).mono ?_
    rintro e w' ⟨vs, Fr, Zn, rfl, hzn, hvs, hfr, hg⟩
    refine hK _ _ ?_
    rw [hd]
    obtain ⟨Z', hZ', hrel, hvs', hnz⟩ : ∃ Z' : Fp, (∀ i, Z i → Z' i) ∧ RelX Z' F w0 Wr Zi N S a w' ∧ VReps Z' w' outs vs Fr ∧ ∀ i, Fr i → ¬ Z' i := by
      rcases hor with hsub | hno
      · refine ⟨fun i => Z i ∨ (Zn i ∧ w.heap.size ≤ i), fun i => .inl, h.grown hg _ (fun i hi => ⟨hi.2, (hzn i hi.1).1⟩), VReps.same (Z := Zn) (fun i hi => ?_) (fun i _ => rfl) (fun i _ => rfl) hvs, fun i hi hz => ?_⟩
        · by_cases hlt : i < w.heap.size
          · exact .inl (hsub i ((hzn i hi).2 hlt))
          · exact .inr ⟨hi, by omega⟩
        · rcases hz with hz | hz
          · have := h.zlt i hz; have := (hfr i hi).1; omega
          · exact (hfr i hi).2 hz.1
      · refine ⟨fun i => Z i ∨ False, fun i => .inl, h.grown hg _ (fun i hi => hi.elim), VReps.noRo hno hvs, fun i hi hz => ?_⟩
        rcases hz with hz | hz
        · have := h.zlt i hz; have := (hfr i hi).1; omega
        · exact hz
    refine ⟨Z', _, hrel.putG (d := d) (sv := retS outs) (v := RetV vs) (f := Fr) (U := fun _ => False) (by rw [h.tsize]; exact hlt.1) (fun hm => absurd hm hlt.2) (Grow.refl _ _) (fun i hi => hi.elim) (fun i hi => ⟨VReps.lt hvs' i hi, .inr ⟨hnz i hi, fun s _ hs => ?_, .inr (Nat.le_trans h.grow.size (hfr i hi).1)⟩⟩) ?_⟩
    · have := h.lt s i hs; have := (hfr i hi).1; omega
    · match outs, vs, hvs' with
      | [], vs, hv =>
        obtain ⟨rfl, h0⟩ := hv
        exact ⟨[], rfl, rfl, h0⟩
      | [t], vs, hv =>
        obtain ⟨v, vs', f1, f2, rfl, he, hdd, q1, rfl, q2⟩ := hv
        have : f1 = Fr := funext fun i => propext ⟨fun h => (he i).2 (.inl h), fun h => ((he i).1 h).elim id (fun h => absurd h (q2 i))⟩
        subst this
        exact q1
      | t :: u :: ts, vs, hv =>
        have hv' := hv
        obtain ⟨v, vs', f1, f2, rfl, he, hdd, q1, v2, vs2, g1, g2, rfl, _⟩ := hv
        exact ⟨_, rfl, hv'⟩
  cases b with
  | false => exact key Z h.zlt (r2 rfl) (.inl fun _ => id)
  | true =>
    refine key _ (fun i hi => ?_) r1 (.inr (by simpa using hb))
    rcases hi with hi | ⟨s, hi⟩
    · exact h.zlt i hi
    · exact h.lt s i hi

end
end Go.Vm
