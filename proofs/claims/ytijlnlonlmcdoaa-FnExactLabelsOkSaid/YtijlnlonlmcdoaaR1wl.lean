/-
  'LabelsOk', 'Weight', 'Spaced': the specification's and the program's answers are the same plain words.
-/
import Derived.Test.YtijlnlonlmcdoaaR1wp
set_option linter.unusedVariables false
set_option linter.unusedSimpArgs false
namespace Go.Proofs.Ytijlnlonlmcdoaa
open Go Go.Vm Go.Proofs V

abbrev Lb := Int × ((Int × Int) × (Int × (Int × Int)))
abbrev dL : Lb := ((0 : Int), (((0 : Int), (0 : Int)), ((0 : Int), ((0 : Int), (0 : Int)))))

def idB (a : Int) : Bool := bif (decide ((a : Int) ≥ (1 : Int))) then (decide ((a : Int) ≤ (1000000000 : Int))) else false
def ptB (a : Int × Int) : Bool := bif (bif (bif (decide ((a.1 : Int) ≥ (-10000000 : Int))) then (decide ((a.1 : Int) ≤ (10000000 : Int))) else false) then (decide ((a.2 : Int) ≥ (-10000000 : Int))) else false) then (decide ((a.2 : Int) ≤ (10000000 : Int))) else false
theorem e114 (k : Nat) (a : Int) : f114 k a = some (idB a) := rfl
theorem e115 (k : Nat) (a : Int × Int) : f115 k a = some (ptB a) := rfl
theorem e120 (k : Nat) (a : Int) : f120 k a = some (idB a) := rfl
theorem e121 (k : Nat) (a : Int × Int) : f121 k a = some (ptB a) := rfl

def lOk (x : Lb) : Bool := (bif (bif (bif (bif (bif (bif (bif idB x.1 then ptB x.2.1 else false) then (decide ((x.2.2.1 : Int) ≥ (1 : Int))) else false) then (decide ((x.2.2.1 : Int) ≤ (100000 : Int))) else false) then (decide ((x.2.2.2.1 : Int) ≥ (1 : Int))) else false) then (decide ((x.2.2.2.1 : Int) ≤ (100000 : Int))) else false) then (decide ((x.2.2.2.2 : Int) ≥ (0 : Int))) else false) then (decide ((x.2.2.2.2 : Int) ≤ (1000 : Int))) else false)
theorem e75 (k : Nat) (x : Lb) : f75 k x = some (lOk x) := by
  unfold f75 lOk
  rw [e114, Option.bind_some]
  cases idB x.1 <;> simp [e115]
theorem e78 (k : Nat) (x : Lb) : f78 k x = some (lOk x) := by
  unfold f78 lOk
  rw [e120, Option.bind_some]
  cases idB x.1 <;> simp [e121]

def hasL (x : List Lb) (id : Int) : Bool := x.any fun l => l.1 == id
theorem hasL_drop {x : List Lb} {id : Int} {i : Nat} (h : i < x.length) : hasL (x.drop i) id = ((x.getD i dL).1 == id || hasL (x.drop (i + 1)) id) := by
  unfold hasL
  rw [List.drop_eq_getElem_cons h, List.any_cons, List.getD_eq_getElem?_getD, List.getElem?_eq_getElem h]
  rfl
theorem hasL_take {x : List Lb} {id : Int} {i : Nat} (h : i < x.length) : hasL (x.take (i + 1)) id = (hasL (x.take i) id || (x.getD i dL).1 == id) := by
  unfold hasL
  rw [List.take_add_one, List.any_append, List.getD_eq_getElem?_getD, List.getElem?_eq_getElem h]
  simp

theorem find85 (k : Nat) (x : List Lb) (id : Int) (hx : x.length ≤ 1048576) : ∀ (m i : Nat), i ≤ x.length → x.length - i < m → ∃ r, f85.l12 k x id m (i : Int) = some r ∧ decide (r ≥ 0) = hasL (x.drop i) id
  | 0, i, _, h => by omega
  | m + 1, i, hi, h => by
    rw [f85.l12]
    by_cases hlt : i < x.length
    · rw [if_t (by simpa using hlt), if_t ⟨by omega, by omega⟩, hasL_drop hlt, Int.toNat_natCast]
      cases hb : ((x.getD i dL).1 == id) with
      | true => rw [if_t rfl]; exact ⟨_, rfl, by simp⟩
      | false =>
        rw [if_f (by simp), wrap_s (by omega), Bool.false_or]
        exact find85 k x id hx m (i + 1) (by omega) (by omega)
    · rw [if_f (by simpa using hlt), List.drop_eq_nil_of_le (by omega)]
      exact ⟨_, rfl, by simp [hasL]⟩

def okL (x : List Lb) (i : Nat) : Bool := lOk (x.getD i dL) && !hasL (x.take i) (x.getD i dL).1
/-- What a row of labels is that is let in. -/
def labelsOk (x : List Lb) : Bool := decide (x.length ≤ 500) && allTo (okL x) x.length

theorem gt_lit (a c : Nat) (C : Int) (h : C = (c : Int)) : decide ((a : Int) > C) = !decide (a ≤ c) := by
  subst h; rw [← decide_not]; congr 1; apply propext; omega

theorem spec24 (k : Nat) (hk : 1048576 < k) (x : List Lb) (hx : x.length ≤ 1048576) : f24 k x = some (labelsOk x) := by
  have q := allLoop (L := f24.l48 k x) (n := x.length) (p := okL x) (fin := some true) (fun m i hi => by
    rw [f24.l48, if_t (by simpa using hi), if_t ⟨by omega, by omega⟩, wrap_s (by omega), e75, Option.bind_some]
    rw [if_t (fun _ => ⟨trivial, by omega, by omega, by simp; omega⟩), if_t (fun _ => ⟨by omega, by omega⟩)]
    obtain ⟨r, h1, h2⟩ := find85 k (List.drop 0 (List.take (Int.toNat (i : Int)) x)) (List.getD x (Int.toNat (i : Int)) dL).1 (by simp; omega) k 0 (by omega) (by simp; omega)
    have h1' : f85 k (List.drop 0 (List.take (Int.toNat (i : Int)) x)) (List.getD x (Int.toNat (i : Int)) dL).1 = some r := h1
    rw [h1']
    have hr : x.getD i dL = List.getD x (Int.toNat (i : Int)) dL := by rw [Int.toNat_natCast]
    unfold okL
    rw [hr]
    clear h1 h1' hr
    generalize List.getD x (Int.toNat (i : Int)) dL = e at h2 ⊢
    simp only [List.drop_zero, Int.toNat_natCast] at h2
    cases hA : lOk e
    · simp
    · simp only [Bool.not_true, if_true, Option.bind_some, h2, cond_false, Bool.true_and]
      cases hasL (x.take i) e.1 <;> simp) (fun m => by rw [f24.l48, if_f (by simp)]) (show x.length < k by omega)
  unfold f24 labelsOk
  have b1 := gt_lit x.length 500 500 rfl
  simp only [q, b1]
  cases decide (x.length ≤ 500) <;> cases allTo (okL x) x.length <;> rfl

theorem impl26 (k : Nat) (hk : 1048576 < k) (x : List Lb) (hx : x.length ≤ 1048576) : f26 k x = some (labelsOk x) := by
  have q := allLoopS (L := f26.l28 k x) (n := x.length) (p := okL x) (fin := some true) (Inv := fun i m => ∀ id, mget (Sh.beq (.int .i64)) (some m) id false = hasL (x.take i) id) (fun m i s hi hs => by
    refine ⟨mput (Sh.beq (.int .i64)) (x.getD i dL).1 true s, fun _ id => ?_, ?_⟩
    · rw [mget_put (beq_int _), hs id, hasL_take hi]
      have : Sh.beq (.int .i64) id (x.getD i dL).1 = ((x.getD i dL).1 == id) := by
        simp only [Sh.beq]
        by_cases e : id = (x.getD i dL).1
        · simp [e]
        · have e' : ¬ (x.getD i dL).1 = id := fun h => e h.symm
          rw [beq_eq_false_iff_ne.2 e, beq_eq_false_iff_ne.2 e']
      rw [this]
      cases ((x.getD i dL).1 == id) <;> simp
    · rw [f26.l28, if_t (by simpa using hi), if_t ⟨by omega, by omega⟩, wrap_s (by omega), e78, Option.bind_some]
      rw [hs]
      unfold okL
      simp only [Int.toNat_natCast]
      generalize lOk (x.getD i dL) = A
      generalize hasL (x.take i) (x.getD i dL).1 = B
      cases A <;> cases B <;> simp) (fun m s _ => by rw [f26.l28, if_f (by simp)]) k 0 ([] : List (Int × Bool)) (fun id => by simp [mget_nil, hasL]) (by omega) (by omega)
  unfold f26 labelsOk
  have b1 := gt_lit x.length 500 500 rfl
  have q' : f26.l28 k x k (([] : (List (Int × Bool))), (0 : Int)) = _ := q
  simp only [q', b1, Nat.sub_zero]
  change _ = some (decide (x.length ≤ 500) && allFrom (okL x) 0 x.length)
  cases decide (x.length ≤ 500) <;> cases allFrom (okL x) 0 x.length <;> rfl

theorem law5 (x0 : List Lb) (w0 : Sh.wf (.sl false 25 (.st (.pair (.int .i64) (.pair (.st (.pair (.int .i64) (.int .i64))) (.pair (.int .i64) (.pair (.int .i64) (.int .i64))))))) x0) : ∃ k, f5 k x0 = some true := by
  refine ⟨1048577, ?_⟩
  have hk : 1048576 < 1048577 := by decide
  obtain ⟨r, q1, q2, q3⟩ := sz23 1048577 hk x0 w0 1048576 (by decide) (by decide)
  have q1' : f23 1048577 x0 1048576 = some r := q1
  unfold f5
  rw [q1']
  simp only [Option.bind_some]
  by_cases hr : r < 0
  · rw [if_t (by simpa using hr)]
  · rw [if_f (by simpa using hr)]
    have hb := q3 (by omega)
    simp only [to25 _ hk x0 hb, spec24 _ hk x0 hb.1, impl26 _ hk x0 hb.1, eq27 _ hk x0 hb, Option.bind_some]
    simp
end Go.Proofs.Ytijlnlonlmcdoaa
