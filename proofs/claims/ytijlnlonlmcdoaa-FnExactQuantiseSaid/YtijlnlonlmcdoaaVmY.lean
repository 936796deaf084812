/- Regions whose order is drawn: each operation is looked at once, on the part of the state that it reads. -/
import Derived.Test.YtijlnlonlmcdoaaVmX
set_option linter.unusedVariables false
set_option linter.unusedSimpArgs false
namespace Go.Vm
open Go

/-! ### An operation that only computes asks but what it reads -/
def inV (V : SS) : Operand → Bool
  | .tmp s => (V.get s).isSome
  | _ => true
def closedB (V : SS) : Bool := V.all fun e => e.2.homes.all fun h => (V.get h).isSome

structure Sub (V S : SS) : Prop where
  le : ∀ k v, V.get k = some v → S.get k = some v
  closed : closedB V = true

section
variable {T : Tbl} {P : Program} {N : Fr} {V S V' : SS}

theorem Sub.get (h : Sub V S) {k : Nat} (hk : (V.get k).isSome = true) : S.get k = V.get k := by
  obtain ⟨v, hv⟩ := Option.isSome_iff_exists.1 hk
  rw [hv]; exact h.le k v hv
theorem Sub.homes (h : Sub V S) {k : Nat} {v : SV} (hk : V.get k = some v) : ∀ q ∈ v.homes, (V.get q).isSome = true := by
  intro q hq
  have := List.all_eq_true.1 h.closed _ (SS.get_mem hk)
  exact List.all_eq_true.1 this q hq
theorem Sub.opd (h : Sub V S) {ty : Nat} {X : Operand} (hi : inV V X = true) : opd T S ty X = opd T V ty X := by
  cases X with
  | tmp s => simp only [Vm.opd, h.get (k := s) (by simpa [inV] using hi)]
  | _ => rfl
theorem Sub.opv (h : Sub V S) {ty : Nat} {X : Operand} (hi : inV V X = true) : opv T S ty X = opv T V ty X := by
  unfold Vm.opv; rw [h.opd hi]
theorem Sub.place (h : Sub V S) {k : Nat} {p : Path} (hk : (V.get k).isSome = true) : placeOf S k p = placeOf V k p := by
  unfold placeOf; rw [h.get hk]
theorem Sub.opdHomes (h : Sub V S) {ty : Nat} {X : Operand} {sv : SV} (ho : Vm.opd T V ty X = some sv) : ∀ q ∈ sv.homes, (V.get q).isSome = true := by
  cases X with
  | const v =>
    simp only [Vm.opd, Option.map_eq_some_iff] at ho
    obtain ⟨t, ht, rfl⟩ := ho
    intro q hq; simp [SV.homes] at hq
  | tmp s =>
    simp only [Vm.opd] at ho
    split at ho
    · rename_i sh x hg
      split at ho
      · cases ho; intro q hq; simp [SV.homes] at hq
      · split at ho
        · cases ho; intro q hq
          simp only [SV.homes, List.mem_singleton] at hq
          subst hq; rw [hg]; rfl
        · cases ho
    · cases ho; exact h.homes ‹_›
    · cases ho; exact h.homes ‹_›
    · cases ho; exact h.homes ‹_›
    · cases ho
  | func f =>
    simp only [Vm.opd, Option.some.injEq] at ho
    subst ho; intro q hq; simp [SV.homes] at hq
  | global g => simp [Vm.opd] at ho

theorem Sub.deref (h : Sub V S) {sv : SV} (hh : ∀ q ∈ sv.homes, (V.get q).isSome = true) : derefV S sv = derefV V sv := by
  cases sv with
  | copy k p => simp only [derefV, h.place (hh k (by simp [SV.homes]))]
  | _ => rfl
theorem deref_homes {sv : SV} (hh : ∀ q ∈ sv.homes, (V.get q).isSome = true) : ∀ q ∈ (derefV V sv).homes, (V.get q).isSome = true := by
  cases sv with
  | copy k p =>
    simp only [derefV]
    split <;> exact hh
  | _ => exact hh
theorem Sub.nil (h : Sub V S) {sv : SV} (hh : ∀ q ∈ sv.homes, (V.get q).isSome = true) : nilV S sv = nilV V sv := by
  cases sv with
  | copy k p => simp only [nilV, h.place (hh k (by simp [SV.homes]))]
  | val s x => cases s with
    | pt o t e => cases o <;> cases x <;> rfl
    | _ => rfl
  | _ => rfl
theorem Sub.len (h : Sub V S) {sv : SV} (hh : ∀ q ∈ sv.homes, (V.get q).isSome = true) : lenV S sv = lenV V sv := by
  cases sv with
  | copy k p => simp only [lenV, h.place (hh k (by simp [SV.homes]))]
  | val s x => cases s with
    | sl o t e => cases o <;> rfl
    | _ => rfl
  | _ => rfl
theorem Sub.load (h : Sub V S) {t : Nat} {sv : SV} (hh : ∀ q ∈ sv.homes, (V.get q).isSome = true) : loadV T S t sv = loadV T V t sv := by
  cases sv with
  | addr k p => simp only [loadV, h.place (hh k (by simp [SV.homes]))]
  | val s x => cases s with
    | pt o t e => cases o <;> cases x <;> rfl
    | _ => rfl
  | _ => rfl
theorem Sub.field (h : Sub V S) {st j : Nat} {sv : SV} (hh : ∀ q ∈ sv.homes, (V.get q).isSome = true) : fieldAddrV T S st j sv = fieldAddrV T V st j sv := by
  cases sv with
  | copy k p => simp only [fieldAddrV, h.place (hh k (by simp [SV.homes]))]
  | addr k p => simp only [fieldAddrV, h.place (hh k (by simp [SV.homes]))]
  | val s x => cases s with
    | pt o t e => cases o <;> cases x <;> rfl
    | _ => rfl
  | _ => rfl
theorem Sub.index (h : Sub V S) {t : Nat} {i : Int} {sv : SV} (hh : ∀ q ∈ sv.homes, (V.get q).isSome = true) : indexAddrV T S t i sv = indexAddrV T V t i sv := by
  cases sv with
  | copy k p => simp only [indexAddrV, h.place (hh k (by simp [SV.homes]))]
  | val s x => cases s with
    | sl o t e => cases o <;> rfl
    | _ => rfl
  | _ => rfl
theorem Sub.bytes (h : Sub V S) {sv : SV} (hh : ∀ q ∈ sv.homes, (V.get q).isSome = true) : bytesV S sv = bytesV V sv := by
  cases sv with
  | copy k p => simp only [bytesV, h.place (hh k (by simp [SV.homes]))]
  | _ => rfl
theorem Sub.map (h : Sub V S) {sv : SV} (hh : ∀ q ∈ sv.homes, (V.get q).isSome = true) : mapV S sv = mapV V sv := by
  cases sv with
  | copy k p => simp only [mapV, h.place (hh k (by simp [SV.homes]))]
  | val s x => cases s with
    | mp o k v => cases o <;> rfl
    | _ => rfl
  | _ => rfl
theorem Sub.arg (h : Sub V S) {ty : Nat} {X : Operand} (hi : inV V X = true) : argO T S ty X = argO T V ty X := by
  unfold argO
  rw [h.opd hi]
  cases ho : Vm.opd T V ty X with
  | none =>
    cases X with
    | tmp s => simp only [h.get (k := s) (by simpa [inV] using hi)]
    | _ => rfl
  | some sv =>
    have hh := h.opdHomes ho
    cases sv with
    | copy k p => simp only [h.place (hh k (by simp [SV.homes]))]
    | addr k p => simp only [h.place (hh k (by simp [SV.homes]))]
    | val s x => rfl
    | _ =>
      cases X with
      | tmp s => simp only [h.get (k := s) (by simpa [inV] using hi)]
      | _ => rfl
theorem Sub.args (h : Sub V S) {ty : Nat} : ∀ {l : List Operand}, l.all (inV V) = true → argsO T S ty l = argsO T V ty l
  | [], _ => rfl
  | X :: r, hi => by
    simp only [List.all_cons, Bool.and_eq_true] at hi
    simp only [argsO, h.arg hi.1, h.args hi.2]
theorem Sub.pick (h : Sub V S) {ty g : Nat} {b : Bool} {X : Operand} (hi : inV V X = true) : pickO T S ty g b X = pickO T V ty g b X := by
  cases X with
  | tmp s => simp only [pickO, h.get (k := s) (by simpa [inV] using hi), h.opv (X := .tmp s) hi]
  | const c => simp only [pickO, h.opv hi]
  | func c => simp only [pickO, h.opv hi]
  | global c => simp only [pickO, h.opv hi]
theorem Sub.bnd (h : Sub V S) {t d : Nat} {L : Option Operand} (hi : L.all (inV V) = true) : bnd T S t d L = bnd T V t d L := by
  cases L with
  | none => rfl
  | some L => simp only [Vm.bnd, h.opv (X := L) (by simpa using hi)]

def opsOf (o : Oper) : List Operand := match o.op with
  | .move X => [X]
  | .pick G X Y => [G, X, Y]
  | .load _ X => [X]
  | .nilCheck X => [X]
  | .binOp _ _ X Y _ => [X, Y]
  | .unOp _ _ X => [X]
  | .convert _ _ X => [X]
  | .makeSlice _ X Y => [X, Y]
  | .slice _ X L H _ => X :: (L.toList ++ H.toList)
  | .fieldAddr _ X _ => [X]
  | .indexAddr _ X I => [X, I]
  | .index _ X I => [X, I]
  | .call c => c.args.toList
  | .assign X => [X]
  | .build _ parts => parts.toList.map (·.2)
  | .buildSlice _ _ parts => parts.toList.map (·.2)
  | .box _ X => [X]
  | .extract X _ => [X]
  | .lookup _ X I _ => [X, I]
  | _ => []

theorem out_frame {dst : Option Nat} {sv : SV} {c c' : List Prop} (h : outS N V dst sv c = some (V', c')) :
    ∃ d, dst = some d ∧ V' = V.put d sv ∧ sv.refs d = false ∧ sv.tests d = false ∧ ∀ S, outS N S dst sv c = some (S.put d sv, c') := by
  obtain ⟨k, h1, h2, h3, h4, h5⟩ := putS_some (outS_some h).1
  refine ⟨k, h1, h5, h3, h4, fun S => ?_⟩
  have := (outS_some h).2
  subst this
  unfold outS putS
  subst h1
  have h6 : (N.keep.any fun q => Nat.beq q k) = false := by
    refine Bool.eq_false_iff.2 (fun hh => ?_)
    obtain ⟨q, hq, e⟩ := List.any_eq_true.1 hh
    have : q = k := by simpa using e
    exact h2.2 (this ▸ hq)
  simp only [h2.1, h6, h3, h4, decide_true, Bool.not_false, Bool.and_self, if_true]

def FrameOk (T : Tbl) (P : Program) (N : Fr) (orc : List TV) (V S V' : SS) (o : Oper) (c : List Prop) : Prop :=
  ∃ d sv, o.dst = some d ∧ V' = V.put d sv ∧ sv.refs d = false ∧ sv.tests d = false ∧ step T P N orc S o = some (S.put d sv, c)

theorem take_frame (h : Sub V S) {ty : Nat} {X : Operand} {tv : TV} {V1 : SS} (hi : inV V X = true) (hp : plainO V X = true) (ht : takeO T V ty X = some (tv, V1)) : V1 = V ∧ takeO T S ty X = some (tv, S) := by
  have h1 := plain_take hp ht
  refine ⟨h1, ?_⟩
  cases X with
  | const v =>
    subst h1
    simp only [takeO, Option.map_eq_some_iff, Prod.mk.injEq] at ht ⊢
    obtain ⟨t, e1, e2, _⟩ := ht
    exact ⟨t, e1, e2, trivial⟩
  | tmp s =>
    simp only [plainO] at hp
    split at hp
    · rename_i sh x hg
      simp only [takeO, hg, hp, if_true, Option.some.injEq, Prod.mk.injEq] at ht
      simp only [takeO, h.le _ _ hg, hp, if_true, ht.1]
    · cases hp
  | _ => simp [takeO] at ht
theorem takeL_frame (h : Sub V S) {ty : Nat} : ∀ {l : List Operand} {tvs : List TV} {V1 : SS}, l.all (inV V) = true → l.all (plainO V) = true → takeL T V ty l = some (tvs, V1) → V1 = V ∧ takeL T S ty l = some (tvs, S)
  | [], tvs, V1, _, _, ht => by cases ht; exact ⟨rfl, rfl⟩
  | X :: r, tvs, V1, hi, hp, ht => by
    simp only [List.all_cons, Bool.and_eq_true] at hi hp
    simp only [takeL] at ht
    split at ht
    · rename_i tv V2 h2
      obtain ⟨q2, k2⟩ := take_frame h hi.1 hp.1 h2
      rw [q2] at ht
      split at ht
      · rename_i tvs' V3 h3
        cases ht
        obtain ⟨q3, k3⟩ := takeL_frame h hi.2 hp.2 h3
        exact ⟨q3, by simp only [takeL, k2, k3]⟩
      · cases ht
    · cases ht
theorem ownAt_frame (h : Sub V S) {X : Operand} (hi : inV V X = true) : ownAt S X = ownAt V X := by
  cases X with
  | tmp s => simp only [ownAt, h.get (k := s) (by simpa [inV] using hi)]
  | const v => cases v <;> first | rfl | (rename_i A n c; cases A <;> cases n <;> cases c <;> rfl) | (rename_i A; cases A <;> rfl)
  | _ => rfl

theorem plainO_mono (h : Sub V S) {X : Operand} (hp : plainO V X = true) : plainO S X = true := by
  cases X with
  | tmp s =>
    simp only [plainO] at hp ⊢
    split at hp
    · rename_i hg; rw [h.le _ _ hg]; exact hp
    · cases hp
  | _ => exact hp
theorem pureOp_mono {orc : List TV} (h : Sub V S) {o : Oper} (hp : pureOp orc T V o = true) (hi : (opsOf o).all (inV V) = true) : pureOp orc T S o = true := by
  unfold pureOp at hp ⊢
  split at hp
  case h_1 X ho =>
    rw [ownAt_frame h (by simpa [opsOf, ho] using hi)]; exact hp
  case h_2 ho => exact List.all_eq_true.2 fun X hX => plainO_mono h (List.all_eq_true.1 hp X hX)
  case h_3 ho => exact List.all_eq_true.2 fun X hX => plainO_mono h (List.all_eq_true.1 hp X hX)
  case h_4 ho => exact plainO_mono h hp
  case h_5 s j ho =>
    split at hp
    · rename_i hg; rw [h.le _ _ hg]; exact hp
    · cases hp
  all_goals first
    | (simp_all; done)
    | skip
  rename_i t X L H ho
  have hX : inV V X = true := by
    simp only [opsOf, ho, List.all_cons, Bool.and_eq_true] at hi
    exact hi.1
  simp only [ho, h.opd hX]
  exact hp

theorem step_frame (h : Sub V S) {orc : List TV} {o : Oper} {c : List Prop} (hp : pureOp orc T V o = true) (hi : (opsOf o).all (inV V) = true)
    (hs : step T P N orc V o = some (V', c)) : FrameOk T P N orc V S V' o c := by
  have fin : ∀ {sv : SV} {c' : List Prop}, outS N V o.dst sv c' = some (V', c) → step T P N orc S o = outS N S o.dst sv c' → FrameOk T P N orc V S V' o c := by
    intro sv c' h1 h2
    obtain ⟨d, k1, k2, k3, k4, k5⟩ := out_frame h1
    exact ⟨d, sv, k1, k2, k3, k4, by rw [h2, k5]⟩
  unfold step at hs
  split at hs
  · rename_i X ho
    have hX : inV V X = true := by simpa [opsOf, ho] using hi
    unfold sMove at hs
    split at hs
    · rename_i sv he
      exact fin hs (by simp only [step, ho, sMove, h.opd hX, he])
    · rename_i he
      split at hs
      · rename_i s
        split at hs
        · rename_i ts hg
          split at hs
          · rename_i hall
            exact fin hs (by simp only [step, ho, sMove, h.opd hX, he, h.get (k := s) (by simpa [inV] using hX), hg, hall, if_true])
          · cases hs
        · cases hs
      · cases hs
  · rename_i X ho
    have hX : inV V X = true := by simpa [opsOf, ho] using hi
    have hn : ownAt V X = false := by simpa [pureOp, ho] using hp
    have hnS : ownAt S X = false := by rw [ownAt_frame h hX]; exact hn
    unfold sAssign at hs
    rw [if_neg (by simp [hn])] at hs
    unfold sMove at hs
    split at hs
    · rename_i sv he
      exact fin hs (by simp only [step, ho, sAssign, hnS, Bool.false_eq_true, if_false, sMove, h.opd hX, he])
    · rename_i he
      split at hs
      · rename_i s
        split at hs
        · rename_i ts hg
          split at hs
          · rename_i hall
            exact fin hs (by simp only [step, ho, sAssign, hnS, Bool.false_eq_true, if_false, sMove, h.opd hX, he, h.get (k := s) (by simpa [inV] using hX), hg, hall, if_true])
          · cases hs
        · cases hs
      · cases hs
  · rename_i G X Y ho
    simp only [opsOf, ho, List.all_cons, List.all_nil, Bool.and_true, Bool.and_eq_true] at hi
    obtain ⟨h1, h2, h3⟩ := hi
    unfold sPick at hs
    split at hs
    · rename_i g
      split at hs
      · rename_i cb hg
        split at hs
        · rename_i s x s' y e1 e2
          split at hs
          · rename_i hh
            exact fin hs (by simp only [step, ho, sPick, h.get (k := g) (by simpa [inV] using h1), hg, h.pick h2, h.pick h3, e1, e2, hh, dite_true])
          · cases hs
        · cases hs
      · cases hs
    · cases hs
  · rename_i t ho
    unfold sAlloc at hs
    split at hs
    · rename_i i e1
      split at hs
      · rename_i hh
        exact fin hs (by simp only [step, ho, sAlloc, e1, hh, if_true])
      · cases hs
    · cases hs
  · rename_i t X ho
    have hX : inV V X = true := by simpa [opsOf, ho] using hi
    have hn : plainO V X = true := by simpa only [pureOp, ho] using hp
    unfold sBox at hs
    split at hs
    · rename_i tv S1 e1
      obtain ⟨rfl, k1⟩ := take_frame h hX hn e1
      split at hs
      · cases hs
      · rename_i hne
        exact fin hs (by simp only [step, ho, sBox, k1, if_neg hne])
    · cases hs
  · rename_i t parts ho
    have hn : (parts.toList.map (·.2)).all (plainO V) = true := by simpa only [pureOp, ho] using hp
    have hI : (parts.toList.map (·.2)).all (inV V) = true := by simpa only [opsOf, ho] using hi
    unfold sBuild at hs
    split at hs
    · rename_i tvs S1 e1
      obtain ⟨rfl, k1⟩ := takeL_frame h hI hn e1
      split at hs
      · rename_i hl
        split at hs
        · rename_i r e2
          exact fin hs (by simp only [step, ho, sBuild, k1, hl, if_true, e2])
        · cases hs
      · cases hs
    · cases hs
  · rename_i t n parts ho
    have hn : (parts.toList.map (·.2)).all (plainO V) = true := by simpa only [pureOp, ho] using hp
    have hI : (parts.toList.map (·.2)).all (inV V) = true := by simpa only [opsOf, ho] using hi
    unfold sLit at hs
    split at hs
    · rename_i hl
      split at hs
      · rename_i tvs S1 e1
        obtain ⟨rfl, k1⟩ := takeL_frame h hI hn e1
        split at hs
        · rename_i r e2
          exact fin hs (by simp only [step, ho, sLit, hl, if_true, k1, e2])
        · cases hs
      · cases hs
    · cases hs
  · rename_i t X ho
    have hX : inV V X = true := by simpa [opsOf, ho] using hi
    unfold sLoad at hs
    split at hs
    · rename_i sv he
      obtain ⟨sv0, e0, rfl⟩ := Option.map_eq_some_iff.1 he
      have hh := h.opdHomes e0
      split at hs
      · rename_i r e1
        exact fin hs (by simp only [step, ho, sLoad, h.opd hX, e0, Option.map_some, h.deref hh, h.load (deref_homes hh), e1])
      · cases hs
    · cases hs
  · rename_i ho; simp [pureOp, ho] at hp
  · rename_i X ho
    have hX : inV V X = true := by simpa [opsOf, ho] using hi
    unfold sNil at hs
    split at hs
    · rename_i sv e0
      have hh := h.opdHomes e0
      split at hs
      · rename_i r e1
        exact fin hs (by simp only [step, ho, sNil, h.opd hX, e0, h.nil hh, e1])
      · cases hs
    · cases hs
  · rename_i op xt X Y yt ho
    simp only [opsOf, ho, List.all_cons, List.all_nil, Bool.and_true, Bool.and_eq_true] at hi
    have hst : stOp T S xt X = stOp T V xt X := by unfold stOp; rw [h.opv hi.1]
    split at hs
    · rename_i hso
      rw [← hst] at hso
      unfold sEq at hs
      split at hs
      · rename_i b s x s' y e0 e1 e2
        split at hs
        · rename_i hh
          exact fin hs (by simp only [step, ho, hso, if_true, sEq, h.opv hi.1, h.opv hi.2, e0, e1, e2, hh, dite_true])
        · cases hs
      · cases hs
    · rename_i hso
      rw [← hst] at hso
      unfold sBin at hs
      split at hs
      · rename_i x y e0 e1
        split at hs
        · rename_i r c' e2
          exact fin hs (by simp only [step, ho, if_neg hso, sBin, h.opv hi.1, h.opv hi.2, e0, e1, e2])
        · cases hs
      · cases hs
  · rename_i op xt X ho
    have hX : inV V X = true := by simpa [opsOf, ho] using hi
    unfold sUn at hs
    split at hs
    · rename_i x e0
      split at hs
      · rename_i r e2
        exact fin hs (by simp only [step, ho, sUn, h.opv hX, e0, e2])
      · cases hs
    · cases hs
  · rename_i src dst X ho
    have hX : inV V X = true := by simpa [opsOf, ho] using hi
    split at hs
    · rename_i hbt
      unfold sBytes at hs
      split at hs
      · rename_i sv e0
        have hh := h.opdHomes e0
        split at hs
        · rename_i xs e1
          exact fin hs (by simp only [step, ho, hbt, if_true, sBytes, h.opd hX, e0, h.bytes hh, e1])
        · cases hs
      · cases hs
    · rename_i hbt
      unfold sConv at hs
      split at hs
      · rename_i k n e0
        split at hs
        · rename_i i j e1 e2
          split at hs
          · rename_i k' e3
            exact fin hs (by simp only [step, ho, if_neg hbt, sConv, h.opv hX, e0, e1, e2, e3])
          · cases hs
        · cases hs
      · cases hs
  · rename_i t X Y ho
    simp only [opsOf, ho, List.all_cons, List.all_nil, Bool.and_true, Bool.and_eq_true] at hi
    unfold sMake at hs
    split at hs
    · rename_i hq
      split at hs
      · rename_i k n e0
        split at hs
        · rename_i r c' e1
          exact fin hs (by simp only [step, ho, sMake, hq, if_true, h.opv hi.1, e0, e1])
        · cases hs
      · cases hs
    · cases hs
  · rename_i t X L H ho
    have hi' : inV V X = true ∧ L.all (inV V) = true ∧ H.all (inV V) = true := by
      simp only [opsOf, ho, List.all_cons, List.all_append, Bool.and_eq_true] at hi
      refine ⟨hi.1, ?_, ?_⟩
      · cases L <;> simp_all
      · cases H <;> simp_all
    obtain ⟨h1, h2, h3⟩ := hi'
    unfold sSlice at hs
    split at hs
    · rename_i hstr
      split at hs
      · rename_i s e0
        split at hs
        · rename_i lo c1 hi c2 e1 e2
          exact fin hs (by simp only [step, ho, sSlice, hstr, if_true, h.opv h1, e0, h.bnd h2, h.bnd h3, e1, e2])
        · cases hs
      · cases hs
    · rename_i hstr
      split at hs
      · rename_i te e xs e0
        split at hs
        · rename_i hel
          split at hs
          · rename_i lo c1 hi c2 e1 e2
            exact fin hs (by simp only [step, ho, sSlice, if_neg hstr, h.opd h1, e0, hel, if_true, h.bnd h2, h.bnd h3, e1, e2])
          · cases hs
        · cases hs
      · rename_i hne
        exfalso
        simp only [pureOp, ho, hstr, Bool.false_or] at hp
        cases hp
  · rename_i st X j ho
    have hX : inV V X = true := by simpa [opsOf, ho] using hi
    unfold sField at hs
    split at hs
    · rename_i sv e0
      have hh := h.opdHomes e0
      split at hs
      · rename_i r c' e1
        exact fin hs (by simp only [step, ho, sField, h.opd hX, e0, h.field hh, e1])
      · cases hs
    · cases hs
  · rename_i t X I ho
    simp only [opsOf, ho, List.all_cons, List.all_nil, Bool.and_true, Bool.and_eq_true] at hi
    unfold sIndexAddr at hs
    split at hs
    · rename_i sv k i e0 e2
      have hh := h.opdHomes e0
      split at hs
      · rename_i r c' e1
        exact fin hs (by simp only [step, ho, sIndexAddr, h.opd hi.1, h.opv hi.2, e0, e2, h.index hh, e1])
      · cases hs
    · cases hs
  · rename_i t X I ho
    simp only [opsOf, ho, List.all_cons, List.all_nil, Bool.and_true, Bool.and_eq_true] at hi
    unfold sIndex at hs
    split at hs
    · rename_i hstr
      split at hs
      · rename_i s k i e0 e1
        exact fin hs (by simp only [step, ho, sIndex, hstr, if_true, h.opv hi.1, h.opv hi.2, e0, e1])
      · cases hs
    · cases hs
  · rename_i X j ho
    have hX : inV V X = true := by simpa [opsOf, ho] using hi
    unfold sExtract at hs
    split at hs
    · rename_i s
      split at hs
      · rename_i ts hg
        have hn : (ts.all fun t => t.sh.noOwn) = true := by simpa [pureOp, ho, hg] using hp
        split at hs
        · rename_i tv hj
          rw [if_pos hn] at hs
          exact fin hs (by simp only [step, ho, sExtract, h.le _ _ hg, hj, hn, if_true])
        · cases hs
      · cases hs
    · cases hs
  · rename_i cl ho
    have hA : cl.args.toList.all (inV V) = true := by simpa [opsOf, ho] using hi
    unfold sCall at hs
    split at hs
    · rename_i hcl
      split at hs
      · rename_i X t e0 e1
        have hX : inV V X = true := by simpa [e0] using hA
        split at hs
        · rename_i sv e2
          have hh := h.opdHomes e2
          split at hs
          · rename_i n e3
            split at hs
            · rename_i e4
              exact fin hs (by simp only [step, ho, sCall, hcl, e0, e1, h.opd hX, e2, h.len hh, e3, e4, if_true])
            · cases hs
          · cases hs
        · cases hs
      · cases hs
    · rename_i hcl
      simp [pureOp, ho, hcl] at hp
    · rename_i b hb1 hb2 hcl
      split at hs
      · rename_i X Y e0
        have hX : inV V X = true ∧ inV V Y = true := by simpa [e0] using hA
        split at hs
        · rename_i x y e1 e2
          split at hs
          · rename_i r e3
            exact fin hs (by simp only [step, ho, sCall, hcl, e0, h.opv hX.1, h.opv hX.2, e1, e2, e3])
          · cases hs
        · cases hs
      · cases hs
    · rename_i f hcl
      have hm : mutO orc = none ∧ consO orc = none := by simpa [pureOp, ho, hcl] using hp
      rw [hm.1, hm.2] at hs
      simp only at hs
      split at hs
      · rename_i ins b e0
        split at hs
        · rename_i e1
          exact fin hs (by simp only [step, ho, sCall, hcl, hm.1, hm.2, h.args hA, e0, e1, if_true])
        · cases hs
      · cases hs
    · cases hs
  · rename_i t ho
    unfold sMapMake at hs
    split at hs
    · rename_i kt et e0
      split at hs
      · rename_i ik ie e1 e2
        exact fin hs (by simp only [step, ho, sMapMake, e0, e1, e2])
      · cases hs
    · cases hs
  · rename_i t X I cok ho
    simp only [opsOf, ho, List.all_cons, List.all_nil, Bool.and_true, Bool.and_eq_true] at hi
    unfold sLookup at hs
    split at hs
    · rename_i kt et sv e0 e1
      have hh := h.opdHomes e1
      split at hs
      · rename_i ow k v m k' x e2 e3
        split at hs
        · rename_i hk
          split at hs
          · rename_i e4
            exact fin hs (by simp only [step, ho, sLookup, h.opd hi.1, h.opv hi.2, e0, e1, h.map hh, e2, e3, hk, dite_true, e4, if_true])
          · cases hs
        · cases hs
      · cases hs
    · cases hs
  · rename_i ho; simp [pureOp, ho] at hp
  · cases hs
end

/-! ### Guards -/
section
variable {T : Tbl} {P : Program} {N : Fr} {V S V' : SS}

theorem gprop_mono (h : Sub V S) : ∀ {n g : Nat} {b : Bool} {r : Prop × Chain}, gprop V n g b = some r → gprop S n g b = some r
  | 0, g, b, r, hp => by simp [gprop] at hp
  | n + 1, g, b, r, hp => by
    simp only [gprop] at hp ⊢
    split at hp
    · rename_i cb hg
      rw [h.le _ _ hg]; exact hp
    · rename_i g2 b2 cb hg
      rw [h.le _ _ hg]
      simp only
      split at hp
      · rename_i p ch e
        rw [gprop_mono h e]; exact hp
      · cases hp
    · cases hp

theorem get_strip {ch : Chain} : ∀ {S : SS} {k : Nat}, (S.strip ch).get k = (S.get k).map (SV.strip1 ch)
  | [], k => rfl
  | (q, v) :: r, k => by
    simp only [SS.strip, List.map_cons, SS.get]
    split
    · rfl
    · exact get_strip (S := r)
theorem strip1_homes {ch : Chain} {v : SV} : (v.strip1 ch).homes = v.homes := by
  cases v <;> simp only [SV.strip1]
  split <;> simp [SV.homes]
theorem Sub.strip (h : Sub V S) (ch : Chain) : Sub (V.strip ch) (S.strip ch) where
  le k v hv := by
    rw [get_strip] at hv ⊢
    obtain ⟨u, hu, rfl⟩ := Option.map_eq_some_iff.1 hv
    rw [h.le _ _ hu]; rfl
  closed := by
    refine List.all_eq_true.2 fun e he => ?_
    obtain ⟨v, hv, hev⟩ := mem_strip.1 he
    rw [hev, strip1_homes]
    refine List.all_eq_true.2 fun q hq => ?_
    rw [get_strip, Option.isSome_map]
    exact List.all_eq_true.1 (List.all_eq_true.1 h.closed _ hv) q hq
theorem refsIn_mono (h : Sub V S) {sv : SV} (hr : refsIn V sv = true) : refsIn S sv = true := by
  have one : ∀ k, (match V.get k with | some (.val _ _) => true | _ => false) = true → (match S.get k with | some (.val _ _) => true | _ => false) = true := by
    intro k hk
    split at hk
    · rename_i e; rw [h.le _ _ e]
    · cases hk
  cases sv <;> simp only [refsIn] at hr ⊢
  · exact one _ hr
  · exact one _ hr
  · exact List.all_eq_true.2 fun c hc => one _ (List.all_eq_true.1 hr c hc)
  · cases hr
theorem inV_strip {ch : Chain} {X : Operand} : inV (V.strip ch) X = inV V X := by
  cases X <;> simp [inV, get_strip]

theorem stepG_frame (h : Sub V S) {orc : Nat → List TV} {ops : Array Oper} {o : Oper} {c : List Prop} (hfl : (S.all fun e => e.2.flat) = true) (hp : (o.guard.isSome || pureOp (orc (o.dst.getD 0)) T V o) = true) (hi : (opsOf o).all (inV V) = true)
    (hs : stepG T P N orc V ops o = some (V', c)) : ∃ d sv, o.dst = some d ∧ V'.get d = some sv ∧ stepG T P N orc S ops o = some (S.put d sv, c) := by
  unfold stepG at hs ⊢
  split at hs
  · rename_i hg
    have hp' : pureOp (orc (o.dst.getD 0)) T V o = true := by simpa [hg] using hp
    obtain ⟨d, sv, h1, h2, _, _, h5⟩ := step_frame h hp' hi hs
    subst h2
    exact ⟨d, sv, h1, SS.get_put_same, h5⟩
  · rename_i j b hg
    unfold gstep at hs ⊢
    split at hs
    · rename_i g d hgd hd
      split at hs
      · rename_i p ch hpr
        split at hs
        · rename_i hchk
          simp only [Bool.and_eq_true] at hchk
          obtain ⟨⟨hpure, hflat⟩, hchd⟩ := hchk
          split at hs
          · rename_i S2 c2 hst
            split at hs
            · rename_i sv hsv
              split at hs
              · rename_i hck
                cases hs
                obtain ⟨d', sv', k1, k2, k3, k4, k5⟩ := step_frame (h.strip ch) hpure (by rw [← hi]; congr 1; funext X; exact inV_strip) hst
                rw [hd] at k1
                obtain rfl : d = d' := by simpa using k1
                subst k2
                rw [SS.get_put_same] at hsv
                obtain rfl : sv' = sv := by simpa using hsv
                simp only [Bool.and_eq_true, Bool.not_eq_true'] at hck
                have hpureS : pureOp (orc (o.dst.getD 0)) T (S.strip ch) o = true := pureOp_mono (h.strip ch) hpure (by rw [← hi]; congr 1; funext X; exact inV_strip)
                rw [hd] at k5 hpureS
                refine ⟨d, .cond g b sv', hd, SS.get_put_same, ?_⟩
                simp only [hgd, hd, gprop_mono h hpr, hpureS, hfl, hchd, Bool.and_self, if_true, k5, SS.get_put_same, refsIn_mono h hck.1.1, hck.1.2, hck.2, Bool.not_false, Bool.and_true]
              · cases hs
            · cases hs
          · cases hs
        · cases hs
      · cases hs
    · cases hs
end

/-! ### The part of a state that some operations leave -/
def ownI (ops : Array Oper) (p k : Nat) : Option Nat := (List.range p).find? fun j => match (ops[j]?).bind (·.dst) with
  | some d => Nat.beq d k
  | none => false
def okK (ops : Array Oper) (p m k : Nat) : Bool := match ownI ops p k with
  | none => true
  | some j => m.testBit j
def view (ops : Array Oper) (p : Nat) (Sn : SS) (m : Nat) : SS := Sn.filter fun e => okK ops p m e.1

theorem get_filter {f : Nat → Bool} : ∀ {S : SS} {k : Nat}, SS.get (S.filter fun e => f e.1) k = if f k then S.get k else none
  | [], k => by simp [SS.get]
  | (q, v) :: r, k => by
    rw [List.filter_cons]
    simp only
    by_cases hq : f q = true
    · rw [if_pos hq]
      simp only [SS.get]
      by_cases hk : q = k
      · subst hk; simp [hq]
      · simp only [hk, if_false]; exact get_filter
    · rw [if_neg hq, get_filter]
      by_cases hk : q = k
      · subst hk; simp [hq]
      · simp only [SS.get, hk, if_false]
theorem get_view {ops : Array Oper} {p m : Nat} {Sn : SS} {k : Nat} : (view ops p Sn m).get k = if okK ops p m k then Sn.get k else none := get_filter
theorem mem_view {ops : Array Oper} {p m : Nat} {Sn : SS} {e : Nat × SV} : e ∈ view ops p Sn m ↔ e ∈ Sn ∧ okK ops p m e.1 = true := by simp [view]

def nodupB : List Nat → Bool
  | [] => true
  | x :: r => !(r.any fun y => Nat.beq x y) && nodupB r
theorem nodup_uniq : ∀ {S : SS}, nodupB (S.map (·.1)) = true → ∀ k v1 v2, (k, v1) ∈ S → (k, v2) ∈ S → v1 = v2
  | [], _, k, v1, v2, h1, _ => absurd h1 List.not_mem_nil
  | (q, u) :: r, h, k, v1, v2, h1, h2 => by
    simp only [List.map_cons, nodupB, Bool.and_eq_true, Bool.not_eq_true'] at h
    have hne : ∀ v, (q, v) ∉ r := fun v hv => by
      have : (r.map (·.1)).any (fun y => Nat.beq q y) = true := List.any_eq_true.2 ⟨q, List.mem_map.2 ⟨_, hv, rfl⟩, by simp⟩
      rw [h.1] at this; cases this
    rcases List.mem_cons.1 h1 with e1 | m1 <;> rcases List.mem_cons.1 h2 with e2 | m2
    · simp only [Prod.mk.injEq] at e1 e2; rw [e1.2, e2.2]
    · simp only [Prod.mk.injEq] at e1; rw [e1.1] at m2; exact absurd m2 (hne _)
    · simp only [Prod.mk.injEq] at e2; rw [e2.1] at m1; exact absurd m1 (hne _)
    · exact nodup_uniq h.2 k v1 v2 m1 m2
theorem mem_get : ∀ {S : SS} {k : Nat} {v : SV}, nodupB (S.map (·.1)) = true → (k, v) ∈ S → S.get k = some v
  | (q, u) :: r, k, v, h, hm => by
    simp only [SS.get]
    split
    · rename_i hq
      subst hq
      rw [nodup_uniq h q v u hm List.mem_cons_self]
    · rename_i hq
      rcases List.mem_cons.1 hm with e | hm
      · simp only [Prod.mk.injEq] at e; exact absurd e.1.symm hq
      · simp only [List.map_cons, nodupB, Bool.and_eq_true] at h
        exact mem_get h.2 hm

theorem ownI_some {ops : Array Oper} {p k i : Nat} (h : ownI ops p k = some i) : i < p ∧ (ops[i]?).bind (·.dst) = some k := by
  unfold ownI at h
  have h1 := List.mem_of_find?_eq_some h
  have h2 := List.find?_some h
  refine ⟨by simpa using h1, ?_⟩
  split at h2
  · rename_i d e; rw [e]; simpa using h2
  · cases h2
theorem ownI_none {ops : Array Oper} {p k i : Nat} (h : ownI ops p k = none) (hi : i < p) : (ops[i]?).bind (·.dst) ≠ some k := by
  unfold ownI at h
  have := List.find?_eq_none.1 h i (by simpa using hi)
  intro e
  rw [e] at this
  simp at this

theorem testBit_add (m i j : Nat) : (m ||| (1 <<< i)).testBit j = (m.testBit j || decide (i = j)) := by
  rw [Nat.testBit_or, Nat.testBit_shiftLeft]
  by_cases e : i = j
  · subst e; simp
  · have : (decide (j ≥ i) && Nat.testBit 1 (j - i)) = false := by
      by_cases hle : i ≤ j
      · have hne : j - i ≠ 0 := by omega
        have h1 : Nat.testBit 1 (j - i) = false := Bool.eq_false_iff.2 (fun hh => hne (Nat.testBit_one_eq_true_iff_self_eq_zero.1 hh))
        simp [h1]
      · simp [hle]
    rw [this]; simp [e]

def remN (m : Nat) : Nat → Nat
  | 0 => 0
  | k + 1 => (if m.testBit k then 0 else 1) + remN m k
theorem remN_le (m i : Nat) : ∀ k, remN (m ||| (1 <<< i)) k ≤ remN m k
  | 0 => Nat.le_refl _
  | k + 1 => by
    have := remN_le m i k
    simp only [remN, testBit_add]
    cases h : m.testBit k <;> simp
    · split <;> omega
    · omega
theorem remN_lt {m i : Nat} (hi : m.testBit i = false) : ∀ {k}, i < k → remN (m ||| (1 <<< i)) k + 1 ≤ remN m k
  | 0, h => absurd h (Nat.not_lt_zero _)
  | k + 1, h => by
    simp only [remN, testBit_add]
    by_cases e : i = k
    · subst e
      have := remN_le m i i
      simp [hi]; omega
    · have := remN_lt hi (k := k) (by omega)
      cases hk : m.testBit k <;> simp [e] <;> omega
theorem remN_zero {m : Nat} : ∀ {k}, remN m k = 0 → ∀ j, j < k → m.testBit j = true
  | 0, _, j, hj => absurd hj (Nat.not_lt_zero _)
  | k + 1, h, j, hj => by
    simp only [remN] at h
    by_cases e : j = k
    · subst e
      cases hk : m.testBit j <;> simp [hk] at h ⊢
    · exact remN_zero (k := k) (by omega) j (by omega)

/-! ### The checks -/
def cloOf (md : Region.Mode) (ops : Array Oper) : List Nat :=
  ops.toList.foldl (fun acc o => acc ++ [o.after.toList.foldl (fun s e => if Region.binds md e then s ||| (1 <<< e.on) ||| acc.getD e.on 0 else s) 0]) []

def closOk (md : Region.Mode) (ops : Array Oper) (cl : List Nat) : Bool := (List.range ops.size).all fun i => match ops[i]? with
  | none => false
  | some o => (o.after.all fun e => !Region.binds md e || decide (e.on < i)) &&
    (List.range ops.size).all fun j => !((cl.getD i 0).testBit j) || o.after.any fun e => Region.binds md e && (Nat.beq e.on j || (cl.getD e.on 0).testBit j)
def dstsOk (ops : Array Oper) (p : Nat) : Bool := (List.range p).all fun i => match (ops[i]?).bind (·.dst) with
  | some d => (match ownI ops p d with | some j => Nat.beq j i | none => false)
  | none => false
def tailOk (ops : Array Oper) (p : Nat) (cl : List Nat) : Bool := (List.range ops.size).all fun q => decide (q < p) || (List.range q).all fun j => (cl.getD q 0).testBit j
def entOk (ops : Array Oper) (p : Nat) (Sn : SS) (cl : List Nat) : Bool := Sn.all fun e => (List.range p).all fun i => match (ops[i]?).bind (·.dst) with
  | some d => !(e.2.refs d || e.2.tests d) || (match ownI ops p e.1 with | some j => (cl.getD j 0).testBit i | none => false)
  | none => true
def opOk (orc : Nat → List TV) (T : Tbl) (ops : Array Oper) (p : Nat) (Sn : SS) (cl : List Nat) (i : Nat) : Bool := match ops[i]? with
  | none => false
  | some o => (o.guard.isSome || pureOp (orc (o.dst.getD 0)) T (view ops p Sn (cl.getD i 0)) o) && (opsOf o).all (inV (view ops p Sn (cl.getD i 0))) && closedB (view ops p Sn (cl.getD i 0))
def numOk (orc : Nat → List TV) (T : Tbl) (md : Region.Mode) (ops : Array Oper) (p : Nat) (Sn : SS) (cl : List Nat) : Bool :=
  decide (p ≤ ops.size) && closOk md ops cl && dstsOk ops p && tailOk ops p cl && entOk ops p Sn cl && nodupB (Sn.map (·.1)) && (Sn.all fun e => e.2.flat) && (List.range p).all (opOk orc T ops p Sn cl)

def valY (T : Tbl) (P : Program) (N : Fr) (orc : Nat → List TV) (ops : Array Oper) (p : Nat) (Sn : SS) (cl : List Nat) (i : Nat) : Option (Option SV) × List Prop := match ops[i]? with
  | none => (none, [False])
  | some o => match stepG T P N orc (view ops p Sn (cl.getD i 0)) ops o with
    | some (S', c) => (some (S'.get (o.dst.getD 0)), c)
    | none => (none, [False])
def expY (ops : Array Oper) (Sn : SS) (i : Nat) : Option (Option SV) := match ops[i]? with
  | none => none
  | some o => some (Sn.get (o.dst.getD 0))

/-- All that must be equal, side by side. -/
abbrev YS := List (Option (Option SV)) × List Prop × SS × Bool
def yA (T : Tbl) (P : Program) (N : Fr) (orc : Nat → List TV) (fz : List Nat) (ops : Array Oper) (p : Nat) (S : SS) (md : Region.Mode) : Option YS :=
  match S.freezeL fz with
  | some S0 => match steps T P N orc ops (ops.toList.take p) S0 with
    | some (Sn, c1) => some ((List.range p).map (fun i => (valY T P N orc ops p Sn (cloOf md ops) i).1), (List.range p).flatMap (fun i => (valY T P N orc ops p Sn (cloOf md ops) i).2), view ops p Sn 0, numOk orc T md ops p Sn (cloOf md ops))
    | none => none
  | none => none
def yB (T : Tbl) (P : Program) (N : Fr) (orc : Nat → List TV) (fz : List Nat) (ops : Array Oper) (p : Nat) (S : SS) (md : Region.Mode) : Option YS :=
  match S.freezeL fz with
  | some S0 => match steps T P N orc ops (ops.toList.take p) S0 with
    | some (Sn, c1) => some ((List.range p).map (expY ops Sn), c1, view ops p S0 0, true)
    | none => some ([], [], [], true)
  | none => some ([], [], [], true)

theorem AllP.flat {α : Type} {f : α → List Prop} : ∀ {l : List α}, AllP (l.flatMap f) → ∀ x ∈ l, AllP (f x)
  | [], _, x, hx => absurd hx List.not_mem_nil
  | y :: r, h, x, hx => by
    rw [List.flatMap_cons] at h
    rcases List.mem_cons.1 hx with rfl | hx
    · exact h.left
    · exact AllP.flat h.right x hx

theorem steps_append {T : Tbl} {P : Program} {N : Fr} {orc : Nat → List TV} {ops : Array Oper} : ∀ {l1 l2 : List Oper} {S S2 : SS} {c : List Prop}, steps T P N orc ops (l1 ++ l2) S = some (S2, c) →
    ∃ S1 c1 c2, steps T P N orc ops l1 S = some (S1, c1) ∧ steps T P N orc ops l2 S1 = some (S2, c2) ∧ c = c1 ++ c2
  | [], l2, S, S2, c, h => ⟨S, [], c, rfl, h, rfl⟩
  | o :: r, l2, S, S2, c, h => by
    simp only [List.cons_append, steps] at h
    split at h
    · rename_i S1 c1 h1
      split at h
      · rename_i S3 c3 h3
        cases h
        obtain ⟨S4, c4, c5, k1, k2, rfl⟩ := steps_append h3
        exact ⟨S4, c1 ++ c4, c5, by simp only [steps, h1, k1], k2, by simp⟩
      · cases h
    · cases h

section
variable {P : Program} {T : Tbl} {w0 : World} {Wr Zi : Fp} {N : Fr} {S S' S1 Sn Sf : SS} {a : Act} {w : World} {Q : Exit → Act → World → Prop}
variable {orc : Nat → List TV} {md : Region.Mode} {ops : Array Oper} {p : Nat} {cl : List Nat}

/-- The same entries, or fewer. -/
theorem Rel.fewer (h : Rel w0 Wr Zi N S a w) (hs : ∀ e, e ∈ S' → e ∈ S) (hh : ∀ s sv, (s, sv) ∈ S' → ∀ k, sv.refs k = true → ∀ s1 x1, (k, SV.val s1 x1) ∈ S → (k, SV.val s1 x1) ∈ S') : Rel w0 Wr Zi N S' a w := by
  obtain ⟨Z, F, h⟩ := h
  exact ⟨Z, F, h.sub hs hh⟩

structure NumOk (orc : Nat → List TV) (T : Tbl) (md : Region.Mode) (ops : Array Oper) (p : Nat) (Sn : SS) (cl : List Nat) : Prop where
  le : p ≤ ops.size
  clo : ∀ i o, ops[i]? = some o → (∀ e ∈ o.after, Region.binds md e = true → e.on < i) ∧ ∀ j, j < ops.size → (cl.getD i 0).testBit j = true → ∃ e ∈ o.after, Region.binds md e = true ∧ (e.on = j ∨ (cl.getD e.on 0).testBit j = true)
  dst : ∀ i, i < p → ∃ d, (ops[i]?).bind (·.dst) = some d ∧ ownI ops p d = some i
  tail : ∀ q, q < ops.size → p ≤ q → ∀ j, j < q → (cl.getD q 0).testBit j = true
  ent : ∀ e ∈ Sn, ∀ i d, i < p → (ops[i]?).bind (·.dst) = some d → e.2.refs d = true ∨ e.2.tests d = true → ∃ j, ownI ops p e.1 = some j ∧ (cl.getD j 0).testBit i = true
  nodup : nodupB (Sn.map (·.1)) = true
  flat : (Sn.all fun e => e.2.flat) = true
  op : ∀ i, i < p → opOk orc T ops p Sn cl i = true

theorem numOk_ok (h : numOk orc T md ops p Sn cl = true) : NumOk orc T md ops p Sn cl := by
  unfold numOk at h
  simp only [Bool.and_eq_true, decide_eq_true_eq] at h
  obtain ⟨⟨⟨⟨⟨⟨⟨h1, h2⟩, h3⟩, h4⟩, h5⟩, h6⟩, h7⟩, h8⟩ := h
  refine ⟨h1, ?_, ?_, ?_, ?_, h6, h7, ?_⟩
  · intro i o ho
    have hi : i < ops.size := (Array.getElem?_eq_some_iff.1 ho).1
    have := List.all_eq_true.1 h2 i (by simpa using hi)
    rw [ho] at this
    simp only [Bool.and_eq_true] at this
    refine ⟨fun e he hb => ?_, fun j hj hb => ?_⟩
    · obtain ⟨q, hq, rfl⟩ := Array.mem_iff_getElem.1 he
      have := Array.all_eq_true.1 this.1 q hq
      rw [hb] at this
      simpa using this
    · have h' := List.all_eq_true.1 this.2 j (by simpa using hj)
      rw [hb] at h'
      simp only [Bool.not_true, Bool.false_or] at h'
      obtain ⟨q, hq, he⟩ := Array.any_eq_true.1 h'
      simp only [Bool.and_eq_true, Bool.or_eq_true] at he
      exact ⟨_, Array.getElem_mem hq, he.1, he.2.imp (fun x => by simpa using x) id⟩
  · intro i hi
    have := List.all_eq_true.1 h3 i (by simpa using hi)
    split at this
    · rename_i d hd
      refine ⟨d, hd, ?_⟩
      split at this
      · rename_i j hj
        rw [hj]
        have : j = i := by simpa using this
        rw [this]
      · cases this
    · cases this
  · intro q hq hp j hj
    have := List.all_eq_true.1 h4 q (by simpa using hq)
    simp only [Bool.or_eq_true, decide_eq_true_eq] at this
    rcases this with h' | h'
    · omega
    · exact List.all_eq_true.1 h' j (by simpa using hj)
  · intro e he i d hi hd hr
    have := List.all_eq_true.1 (List.all_eq_true.1 h5 e he) i (by simpa using hi)
    rw [hd] at this
    simp only at this
    have hr' : (e.2.refs d || e.2.tests d) = true := by simpa using hr
    rw [hr'] at this
    simp only [Bool.not_true, Bool.false_or] at this
    split at this
    · exact ⟨_, ‹_›, this⟩
    · cases this
  · intro i hi
    exact List.all_eq_true.1 h8 i (by simpa using hi)

/-- What is done is closed. -/
def Closed (ops : Array Oper) (cl : List Nat) (m : Nat) : Prop := ∀ i, i < ops.size → m.testBit i = true → ∀ j, j < ops.size → (cl.getD i 0).testBit j = true → m.testBit j = true

theorem ready_clo (hN : NumOk orc T md ops p Sn cl) {m i : Nat} (hm : Closed ops cl m) (hi : i ∈ readyM md ops m) : i < ops.size ∧ m.testBit i = false ∧ (∃ o, ops[i]? = some o) ∧ ∀ j, j < ops.size → (cl.getD i 0).testBit j = true → m.testBit j = true := by
  have hlt := ready_lt hi
  unfold readyM at hi
  have h2 := (List.mem_filter.1 hi).2
  simp only [Bool.and_eq_true, Bool.not_eq_true'] at h2
  have ho : ops[i]? = some ops[i] := Array.getElem?_eq_getElem hlt
  rw [ho] at h2
  simp only [Option.map_some, Option.getD_some] at h2
  refine ⟨hlt, h2.1, ⟨_, ho⟩, fun j hj hb => ?_⟩
  obtain ⟨hlt', hc⟩ := hN.clo i _ ho
  obtain ⟨e, he, hbd, hor⟩ := hc j hj hb
  have hon : m.testBit e.on = true := by
    obtain ⟨q, hq, rfl⟩ := Array.mem_iff_getElem.1 he
    have := Array.all_eq_true.1 h2.2 q hq
    rw [hbd] at this
    simpa using this
  rcases hor with rfl | hor
  · exact hon
  · exact hm e.on (Nat.lt_trans (hlt' e he hbd) hlt) hon j hj hor

theorem closed_add (hN : NumOk orc T md ops p Sn cl) {m i : Nat} (hm : Closed ops cl m) (hi : i ∈ readyM md ops m) : Closed ops cl (m ||| (1 <<< i)) := by
  obtain ⟨hlt, h0, _, hc⟩ := ready_clo hN hm hi
  intro k hk hb j hj hcb
  rw [testBit_add] at hb ⊢
  simp only [Bool.or_eq_true, decide_eq_true_eq] at hb ⊢
  rcases hb with hb | rfl
  · exact .inl (hm k hk hb j hj hcb)
  · exact .inl (hc j hj hcb)

/-- When nothing may come up, all is done. -/
theorem ready_nil (hN : NumOk orc T md ops p Sn cl) {m : Nat} (h : readyM md ops m = []) : ∀ i, i < ops.size → m.testBit i = true := by
  intro i
  induction i using Nat.strongRecOn with
  | _ i ih =>
    intro hi
    cases hb : m.testBit i with
    | true => rfl
    | false =>
      exfalso
      have ho : ops[i]? = some ops[i] := Array.getElem?_eq_getElem hi
      have : i ∈ readyM md ops m := by
        unfold readyM
        refine List.mem_filter.2 ⟨by simpa using hi, ?_⟩
        rw [hb, ho]
        simp only [Bool.not_false, Bool.true_and, Option.map_some, Option.getD_some]
        refine Array.all_eq_true.2 fun q hq => ?_
        cases hbd : Region.binds md (ops[i].after[q]) with
        | false => rfl
        | true =>
          have hlt := (hN.clo i _ ho).1 _ (Array.getElem_mem hq) hbd
          simp [ih _ hlt (Nat.lt_trans hlt hi)]
      rw [h] at this
      exact absurd this List.not_mem_nil

theorem view_sub (hN : NumOk orc T md ops p Sn cl) {m i : Nat} (hp : i < p) (hc : ∀ j, j < ops.size → (cl.getD i 0).testBit j = true → m.testBit j = true) : Sub (view ops p Sn (cl.getD i 0)) (view ops p Sn m) where
  le k v hv := by
    rw [get_view] at hv ⊢
    split at hv
    · rename_i hk
      rw [if_pos ?_]; exact hv
      unfold okK at hk ⊢
      split at hk
      · rename_i e; simp only
      · rename_i j e
        exact hc j (Nat.lt_of_lt_of_le (ownI_some e).1 hN.le) hk
    · cases hv
  closed := by
    have := hN.op i hp
    unfold opOk at this
    split at this
    · cases this
    · simp only [Bool.and_eq_true] at this
      exact this.2

/-- One more is done. -/
theorem view_step (hT : TOk P T) (hN : NumOk orc T md ops p Sn cl) {m i : Nat} (hm : Closed ops cl m) (hi : i ∈ readyM md ops m) (hp : i < p) {K : Act → World → Prop}
    (hv : (valY T P N orc ops p Sn cl i).1 = expY ops Sn i) (hcd : AllP (valY T P N orc ops p Sn cl i).2) (h : Rel w0 Wr Zi N (view ops p Sn m) a w)
    (hK : ∀ a' w', Rel w0 Wr Zi N (view ops p Sn (m ||| (1 <<< i))) a' w' → K a' w') : wpOp P ops Q i K a w := by
  obtain ⟨hlt, h0, ⟨o, ho⟩, hc⟩ := ready_clo hN hm hi
  have hop := hN.op i hp
  unfold opOk at hop
  rw [ho] at hop
  simp only [Bool.and_eq_true] at hop
  obtain ⟨d, hd, hown⟩ := hN.dst i hp
  rw [ho] at hd
  simp only [Option.bind_some] at hd
  have hsub := view_sub hN (m := m) hp hc
  have hfl : ((view ops p Sn m).all fun e => e.2.flat) = true := List.all_eq_true.2 fun e he => List.all_eq_true.1 hN.flat e (mem_view.1 he).1
  unfold valY expY at hv
  unfold valY at hcd
  rw [ho] at hv hcd
  simp only at hv hcd
  split at hv
  · rename_i S2 c hst
    rw [hst] at hcd
    simp only at hcd
    simp only [Option.some.injEq] at hv
    obtain ⟨d', sv, k1, k2, k3⟩ := stepG_frame hsub hfl hop.1.1 hop.1.2 hst
    rw [hd] at k1
    obtain rfl : d = d' := by simpa using k1
    rw [hd] at hv
    simp only [Option.getD_some] at hv
    rw [k2] at hv
    obtain ⟨Z, F, hX⟩ := h
    have hdone := stepG_ok hT hX k3 hcd K Q (fun a' w' h' => hK a' w' ?_)
    · unfold wpOp
      rw [ho]
      simp only
      split
      · rename_i hw
        rw [if_pos hw] at hdone
        exact .inl hdone
      · rename_i hw
        rw [if_neg hw] at hdone
        exact hdone
    · have hself : (d, sv) ∈ view ops p Sn (m ||| (1 <<< i)) := by
        refine mem_view.2 ⟨SS.get_mem hv.symm, ?_⟩
        unfold okK
        simp only [hown, testBit_add]
        simp
      have hback : ∀ e, e ∈ view ops p Sn m → e ∈ view ops p Sn (m ||| (1 <<< i)) := by
        intro e he
        obtain ⟨h1, h2⟩ := mem_view.1 he
        refine mem_view.2 ⟨h1, ?_⟩
        unfold okK at h2 ⊢
        split at h2
        · simp only
        · simp only [testBit_add, h2, Bool.true_or]
      refine h'.fewer ?_ ?_
      · intro e he
        obtain ⟨h1, h2⟩ := mem_view.1 he
        by_cases e1 : e.1 = d
        · refine SS.mem_put.2 (.inl ?_)
          obtain ⟨k, v⟩ := e
          simp only at e1
          subst e1
          have := mem_get hN.nodup h1
          rw [← hv] at this
          simp only [Option.some.injEq] at this
          rw [this]
        · have hold : okK ops p m e.1 = true := by
            unfold okK at h2 ⊢
            split at h2
            · simp only
            · rename_i j hj
              simp only [testBit_add, Bool.or_eq_true, decide_eq_true_eq] at h2
              rcases h2 with h2 | rfl
              · exact h2
              · have := (ownI_some hj).2
                rw [ho] at this
                simp only [Option.bind_some, hd, Option.some.injEq] at this
                exact absurd this.symm e1
          have hno : ¬ (e.2.refs d = true ∨ e.2.tests d = true) := by
            intro hr
            obtain ⟨j, hj, hb⟩ := hN.ent e h1 i d hp (by rw [ho]; exact hd) hr
            unfold okK at hold
            rw [hj] at hold
            simp only at hold
            have := hm j (Nat.lt_of_lt_of_le (ownI_some hj).1 hN.le) hold i hlt hb
            rw [h0] at this; cases this
          simp only [not_or, Bool.not_eq_true] at hno
          exact SS.mem_put.2 (.inr ⟨mem_view.2 ⟨h1, hold⟩, e1, hno.1, hno.2⟩)
      · intro s sv' hm' k hk s1 x1 hmem
        rcases SS.mem_put.1 hmem with e | ⟨hmem, _⟩
        · rw [e]; exact hself
        · exact hback _ hmem
  · cases hv

theorem rel_ready {listed : Array Bool} {m : Nat} (h : Listed ops listed m) : Region.ready md ops listed = readyM md ops m := h.ready

/-- The last stretch: one after the other. -/
theorem tail_ok (hT : TOk P T) (hN : NumOk orc T md ops p Sn cl) (hQ : ∀ a' w', Rel w0 Wr Zi N Sf a' w' → Q .normal a' w') :
    ∀ (fuel q m : Nat) (S : SS) (c : List Prop) (listed : Array Bool) (a : Act) (w : World), p ≤ q → q ≤ ops.size → ops.size - q ≤ fuel → (∀ j, j < ops.size → (m.testBit j = true ↔ j < q)) → Closed ops cl m → Listed ops listed m →
      steps T P N orc ops (ops.toList.drop q) S = some (Sf, c) → AllP c → Rel w0 Wr Zi N S a w → wpAny P md ops Q fuel listed a w := by
  intro fuel
  have fin : ∀ (q m : Nat) (S : SS) (c : List Prop) (a : Act) (w : World), q ≤ ops.size → (∀ j, j < ops.size → (m.testBit j = true ↔ j < q)) → steps T P N orc ops (ops.toList.drop q) S = some (Sf, c) → readyM md ops m = [] → Rel w0 Wr Zi N S a w → Q .normal a w := by
    intro q m S c a w hqn hm hst hr hR
    have hall := ready_nil hN hr
    have : q = ops.size := by
      rcases Nat.lt_or_ge q ops.size with h' | h'
      · have := (hm q h').1 (hall q h'); omega
      · omega
    subst this
    rw [List.drop_of_length_le (by simp)] at hst
    cases hst
    exact hQ _ _ hR
  induction fuel with
  | zero =>
    intro q m S c listed a w hpq hqn hf hm hcl hl hst hc hR
    have hr : readyM md ops m = [] := by
      cases hr : readyM md ops m with
      | nil => rfl
      | cons i is =>
        have hi : i ∈ readyM md ops m := by rw [hr]; exact List.mem_cons_self
        obtain ⟨hlt, h0, _, _⟩ := ready_clo hN hcl hi
        have := (hm i hlt).2 (by omega)
        rw [h0] at this; cases this
    exact ⟨by rw [hl.ready]; exact hr, fin q m S c a w hqn hm hst hr hR⟩
  | succ fuel ih =>
    intro q m S c listed a w hpq hqn hf hm hcl hl hst hc hR
    refine ⟨fun hr => fin q m S c a w hqn hm hst (hl.ready ▸ hr) hR, fun i hi => ?_⟩
    rw [hl.ready] at hi
    obtain ⟨hlt, h0, ⟨o, ho⟩, hcb⟩ := ready_clo hN hcl hi
    have hge : q ≤ i := by
      rcases Nat.lt_or_ge i q with h' | h'
      · have := (hm i hlt).2 h'; rw [h0] at this; cases this
      · exact h'
    have hiq : i = q := by
      rcases Nat.lt_or_ge q i with h' | h'
      · have := (hm q (by omega)).1 (hcb q (by omega) (hN.tail i hlt (by omega) q h'))
        omega
      · omega
    subst hiq
    have hdrop : ops.toList.drop i = o :: ops.toList.drop (i + 1) := by
      rw [List.drop_eq_getElem_cons (by simpa using hlt)]
      congr 1
      have := Array.getElem?_eq_some_iff.1 ho
      simpa using this.2
    rw [hdrop] at hst
    simp only [steps] at hst
    split at hst
    · rename_i S1 c1 h1
      split at hst
      · rename_i S2 c2 h2
        cases hst
        obtain ⟨Z, F, hX⟩ := hR
        have hd := stepG_ok hT hX h1 hc.left (wpAny P md ops Q fuel (listed.setIfInBounds i true)) Q (fun a' w' h' =>
          ih (i + 1) (m ||| (1 <<< i)) S1 c2 _ a' w' (by omega) (by omega) (by omega) (fun j hj => by
            rw [testBit_add]
            simp only [Bool.or_eq_true, decide_eq_true_eq]
            rw [hm j hj]; omega) (closed_add hN hcl hi) (hl.step hlt) h2 hc.right h')
        unfold wpOp
        rw [ho]
        simp only
        split
        · rename_i hw
          rw [if_pos hw] at hd
          exact .inl hd
        · rename_i hw
          rw [if_neg hw] at hd
          exact hd
      · cases hst
    · cases hst

theorem view_full {m : Nat} (hall : ∀ j, j < p → m.testBit j = true) : view ops p Sn m = Sn := by
  unfold view
  refine List.filter_eq_self.2 fun e he => ?_
  unfold okK
  split
  · rfl
  · exact hall _ (ownI_some ‹_›).1

theorem pure_ok (hT : TOk P T) (hN : NumOk orc T md ops p Sn cl) (hv : ∀ i, i < p → (valY T P N orc ops p Sn cl i).1 = expY ops Sn i ∧ AllP (valY T P N orc ops p Sn cl i).2)
    {c : List Prop} (hst : steps T P N orc ops (ops.toList.drop p) Sn = some (Sf, c)) (hc : AllP c) (hQ : ∀ a' w', Rel w0 Wr Zi N Sf a' w' → Q .normal a' w') :
    ∀ (fuel m : Nat) (listed : Array Bool) (a : Act) (w : World), remN m ops.size ≤ fuel → (∀ j, j < ops.size → p ≤ j → m.testBit j = false) → Closed ops cl m → Listed ops listed m →
      Rel w0 Wr Zi N (view ops p Sn m) a w → wpAny P md ops Q fuel listed a w := by
  intro fuel
  induction fuel with
  | zero =>
    intro m listed a w hf hm hcl hl hR
    have hall := remN_zero (Nat.le_zero.1 hf)
    have hpn : ops.size ≤ p := by
      rcases Nat.lt_or_ge p ops.size with h' | h'
      · have := hm p h' (Nat.le_refl _); rw [hall p h'] at this; cases this
      · exact h'
    have := hN.le
    rw [view_full (fun j hj => hall j (by omega))] at hR
    exact tail_ok hT hN hQ 0 p m Sn c listed a w (Nat.le_refl _) hN.le (by omega) (fun j hj => ⟨fun _ => by omega, fun _ => hall j hj⟩) hcl hl hst hc hR
  | succ fuel ih =>
    intro m listed a w hf hm hcl hl hR
    by_cases hall : ∀ j, j < p → m.testBit j = true
    · rw [view_full hall] at hR
      refine tail_ok hT hN hQ (fuel + 1) p m Sn c listed a w (Nat.le_refl _) hN.le ?_ (fun j hj => ⟨fun hb => ?_, hall j⟩) hcl hl hst hc hR
      · have key : ∀ k, k ≤ ops.size → k - p ≤ remN m k := by
          intro k
          induction k with
          | zero => intro _; omega
          | succ k ihk =>
            intro hk
            have := ihk (by omega)
            simp only [remN]
            by_cases hkp : p ≤ k
            · simp [hm k (by omega) hkp]; omega
            · omega
        have := key ops.size (Nat.le_refl _)
        omega
      · rcases Nat.lt_or_ge j p with h' | h'
        · exact h'
        · rw [hm j hj h'] at hb; cases hb
    · refine ⟨fun hr => ?_, fun i hi => ?_⟩
      · exact absurd (fun j hj => ready_nil hN (hl.ready ▸ hr) j (Nat.lt_of_lt_of_le hj hN.le)) hall
      · rw [hl.ready] at hi
        obtain ⟨hlt, h0, _, hcb⟩ := ready_clo hN hcl hi
        have hip : i < p := by
          rcases Nat.lt_or_ge i p with h' | h'
          · exact h'
          · exact absurd (fun j hj => hcb j (by omega) (hN.tail i hlt h' j (by omega))) hall
        refine view_step hT hN hcl hi hip (hv i hip).1 (hv i hip).2 hR (fun a' w' h' => ih (m ||| (1 <<< i)) _ a' w' ?_ ?_ (closed_add hN hcl hi) (hl.step hlt) h')
        · have := remN_lt h0 hlt; omega
        · intro j hj hpj
          rw [testBit_add, hm j hj hpj]
          simp only [Bool.false_or, decide_eq_false_iff_not]
          omega

/-- A region whose order is drawn. -/
theorem wp_regy (hT : TOk P T) {id : Nat} {ops : Array Oper} {orc : Nat → List TV} {fz l : List Nat} {c : List Prop} (p : Nat) (hWr : fz = [] ∨ ∀ i, ¬ Wr i) (h : Rel w0 Wr Zi N S a w)
    (hall : (modesOf ops).map (yA T P N orc fz ops p S) = (modesOf ops).map (yB T P N orc fz ops p S)) (hcq : regC T P N orc fz ops l S = c) (hc : AllP c)
    (hrest : ∀ a' w', Rel w0 Wr Zi N (regS T P N orc fz ops l S) a' w' → Q .normal a' w') : (Code.region id ops true).wp P Q a w := by
  rw [← hcq] at hc
  unfold regC at hc
  cases hr : reg T P N orc fz ops l S with
  | none => rw [hr] at hc; exact hc.1.elim
  | some r =>
    obtain ⟨S2, c2⟩ := r
    rw [hr] at hc
    simp only at hc
    have hS2 : regS T P N orc fz ops l S = S2 := by unfold regS; rw [hr]
    rw [hS2] at hrest
    unfold reg at hr
    split at hr
    · rename_i S0 h0
      split at hr
      · rename_i S1 c1 h1
        split at hr
        · rename_i S3 h3
          cases hr
          have h0' := (Rel.freezeO hWr h h0).drew
          have h1' := h1
          rw [← List.take_append_drop p ops.toList] at h1'
          obtain ⟨Sn, ca, cb, k1, k2, rfl⟩ := steps_append h1'
          have key : ∀ md ∈ modesOf ops, ∀ t, wpOps P ops Q (Region.linearise md ops t) a { w with drawn := w.drawn + 1 } := fun md hmd t => by
            have he := List.map_inj_left.1 hall md hmd
            unfold yA yB at he
            simp only [h0, k1, Option.some.injEq, Prod.mk.injEq] at he
            obtain ⟨e1, e2, e3, e4⟩ := he
            have hN := numOk_ok e4
            have hv : ∀ i, i < p → (valY T P N orc ops p Sn (cloOf md ops) i).1 = expY ops Sn i ∧ AllP (valY T P N orc ops p Sn (cloOf md ops) i).2 := fun i hi =>
              ⟨List.map_inj_left.1 e1 i (by simpa using hi), AllP.flat (by rw [e2]; exact hc.left) i (by simpa using hi)⟩
            have hR0 : Rel w0 Wr Zi N (view ops p Sn 0) a { w with drawn := w.drawn + 1 } := by
              rw [e3]
              refine h0'.fewer (fun e he => (mem_view.1 he).1) (fun s sv hm k hk s1 x1 hmem => mem_view.2 ⟨hmem, ?_⟩)
              unfold okK
              cases ho : ownI ops p k with
              | none => rfl
              | some i =>
                exfalso
                rw [← e3] at hm
                obtain ⟨m1, m2⟩ := mem_view.1 hm
                obtain ⟨i1, i2⟩ := ownI_some ho
                obtain ⟨j, hj, _⟩ := hN.ent (s, sv) m1 i k i1 i2 (.inl hk)
                unfold okK at m2
                simp only at hj
                rw [hj] at m2
                simp at m2
            refine wpAny_sound ops.size t _ a _ (pure_ok hT hN hv k2 hc.right (fun a' w' h' => hrest a' w' (h'.forget h3)) ops.size 0 _ a _ ?_ (fun j _ _ => Nat.zero_testBit j) (fun i _ hb => by rw [Nat.zero_testBit] at hb; cases hb) Listed.none hR0)
            have : ∀ k, remN 0 k ≤ k := by
              intro k
              induction k with
              | zero => exact Nat.le_refl _
              | succ k ihk => simp only [remN, Nat.zero_testBit]; simp; omega
            exact this _
          refine wp_region_draw fun t => ?_
          unfold Region.schedule
          unfold modesOf at key
          split
          · exact key .any (by split <;> simp) t
          · rename_i hdep
            simp only [Bool.or_eq_true, Bool.not_eq_true', not_or, Bool.not_eq_false] at hdep
            rw [if_pos hdep.2] at key
            split
            · exact key .text (by simp) _
            · exact key .gc (by simp) _
        · cases hr
      · cases hr
    · cases hr

theorem wp_regy_seq (hT : TOk P T) {id : Nat} {ops : Array Oper} {rest : Code} {orc : Nat → List TV} {fz l : List Nat} {c : List Prop} (p : Nat) (hWr : fz = [] ∨ ∀ i, ¬ Wr i) (h : Rel w0 Wr Zi N S a w)
    (hall : (modesOf ops).map (yA T P N orc fz ops p S) = (modesOf ops).map (yB T P N orc fz ops p S)) (hcq : regC T P N orc fz ops l S = c) (hc : AllP c)
    (hrest : ∀ a' w', Rel w0 Wr Zi N (regS T P N orc fz ops l S) a' w' → rest.wp P Q a' w') : ((Code.region id ops true).seq rest).wp P Q a w :=
  wp_seq (wp_regy hT p hWr h hall hcq hc hrest)
end
end Go.Vm
