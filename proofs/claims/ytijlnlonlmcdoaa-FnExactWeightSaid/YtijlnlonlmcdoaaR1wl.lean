/-
  'LabelsOk', 'Weight', 'Spaced': the specification's and the program's answers are the same plain words.
-/
import Derived.Test.YtijlnlonlmcdoaaR1wp
set_option linter.unusedVariables false
set_option linter.unusedSimpArgs false
namespace Go.Proofs.Ytijlnlonlmcdoaa
open Go Go.Vm Go.Proofs V

abbrev Lb := Int × ((Int × Int) × (Int × (Int × Int)))
abbrev dL : Lb := ((0 : Int), (((0 : Int), (0 : Int)), ((0 : Int), ((0 : Int), (0 : Int)))))

def idB (a : Int) : Bool := bif (decide ((a : Int) ≥ (1 : Int))) then (decide ((a : Int) ≤ (1000000000 : Int))) else false
def ptB (a : Int × Int) : Bool := bif (bif (bif (decide ((a.1 : Int) ≥ (-10000000 : Int))) then (decide ((a.1 : Int) ≤ (10000000 : Int))) else false) then (decide ((a.2 : Int) ≥ (-10000000 : Int))) else false) then (decide ((a.2 : Int) ≤ (10000000 : Int))) else false
theorem e114 (k : Nat) (a : Int) : f114 k a = some (idB a) := rfl
theorem e115 (k : Nat) (a : Int × Int) : f115 k a = some (ptB a) := rfl
theorem e120 (k : Nat) (a : Int) : f120 k a = some (idB a) := rfl
theorem e121 (k : Nat) (a : Int × Int) : f121 k a = some (ptB a) := rfl

def lOk (x : Lb) : Bool := (bif (bif (bif (bif (bif (bif (bif idB x.1 then ptB x.2.1 else false) then (decide ((x.2.2.1 : Int) ≥ (1 : Int))) else false) then (decide ((x.2.2.1 : Int) ≤ (100000 : Int))) else false) then (decide ((x.2.2.2.1 : Int) ≥ (1 : Int))) else false) then (decide ((x.2.2.2.1 : Int) ≤ (100000 : Int))) else false) then (decide ((x.2.2.2.2 : Int) ≥ (0 : Int))) else false) then (decide ((x.2.2.2.2 : Int) ≤ (1000 : Int))) else false)
theorem e75 (k : Nat) (x : Lb) : f75 k x = some (lOk x) := by
  unfold f75 lOk
  rw [e114, Option.bind_some]
  cases idB x.1 <;> simp [e115]
theorem e78 (k : Nat) (x : Lb) : f78 k x = some (lOk x) := by
  unfold f78 lOk
  rw [e120, Option.bind_some]
  cases idB x.1 <;> simp [e121]

def hasL (x : List Lb) (id : Int) : Bool := x.any fun l => l.1 == id
theorem hasL_drop {x : List Lb} {id : Int} {i : Nat} (h : i < x.length) : hasL (x.drop i) id = ((x.getD i dL).1 == id || hasL (x.drop (i + 1)) id) := by
  unfold hasL
  rw [List.drop_eq_getElem_cons h, List.any_cons, List.getD_eq_getElem?_getD, List.getElem?_eq_getElem h]
  rfl
theorem hasL_take {x : List Lb} {id : Int} {i : Nat} (h : i < x.length) : hasL (x.take (i + 1)) id = (hasL (x.take i) id || (x.getD i dL).1 == id) := by
  unfold hasL
  rw [List.take_add_one, List.any_append, List.getD_eq_getElem?_getD, List.getElem?_eq_getElem h]
  simp

theorem find85 (k : Nat) (x : List Lb) (id : Int) (hx : x.length ≤ 1048576) : ∀ (m i : Nat), i ≤ x.length → x.length - i < m → ∃ r, f85.l12 k x id m (i : Int) = some r ∧ decide (r ≥ 0) = hasL (x.drop i) id
  | 0, i, _, h => by omega
  | m + 1, i, hi, h => by
    rw [f85.l12]
    by_cases hlt : i < x.length
    · rw [if_t (by simpa using hlt), if_t ⟨by omega, by omega⟩, hasL_drop hlt, Int.toNat_natCast]
      cases hb : ((x.getD i dL).1 == id) with
      | true => rw [if_t rfl]; exact ⟨_, rfl, by simp⟩
      | false =>
        rw [if_f (by simp), wrap_s (by omega), Bool.false_or]
        exact find85 k x id hx m (i + 1) (by omega) (by omega)
    · rw [if_f (by simpa using hlt), List.drop_eq_nil_of_le (by omega)]
      exact ⟨_, rfl, by simp [hasL]⟩

def okL (x : List Lb) (i : Nat) : Bool := lOk (x.getD i dL) && !hasL (x.take i) (x.getD i dL).1
/-- What a row of labels is that is let in. -/
def labelsOk (x : List Lb) : Bool := decide (x.length ≤ 500) && allTo (okL x) x.length

theorem gt_lit (a c : Nat) (C : Int) (h : C = (c : Int)) : decide ((a : Int) > C) = !decide (a ≤ c) := by
  subst h; rw [← decide_not]; congr 1; apply propext; omega

theorem spec24 (k : Nat) (hk : 1048576 < k) (x : List Lb) (hx : x.length ≤ 1048576) : f24 k x = some (labelsOk x) := by
  have q := allLoop (L := f24.l48 k x) (n := x.length) (p := okL x) (fin := some true) (fun m i hi => by
    rw [f24.l48, if_t (by simpa using hi), if_t ⟨by omega, by omega⟩, wrap_s (by omega), e75, Option.bind_some]
    rw [if_t (fun _ => ⟨trivial, by omega, by omega, by simp; omega⟩), if_t (fun _ => ⟨by omega, by omega⟩)]
    obtain ⟨r, h1, h2⟩ := find85 k (List.drop 0 (List.take (Int.toNat (i : Int)) x)) (List.getD x (Int.toNat (i : Int)) dL).1 (by simp; omega) k 0 (by omega) (by simp; omega)
    have h1' : f85 k (List.drop 0 (List.take (Int.toNat (i : Int)) x)) (List.getD x (Int.toNat (i : Int)) dL).1 = some r := h1
    rw [h1']
    have hr : x.getD i dL = List.getD x (Int.toNat (i : Int)) dL := by rw [Int.toNat_natCast]
    unfold okL
    rw [hr]
    clear h1 h1' hr
    generalize List.getD x (Int.toNat (i : Int)) dL = e at h2 ⊢
    simp only [List.drop_zero, Int.toNat_natCast] at h2
    cases hA : lOk e
    · simp
    · simp only [Bool.not_true, if_true, Option.bind_some, h2, cond_false, Bool.true_and]
      cases hasL (x.take i) e.1 <;> simp) (fun m => by rw [f24.l48, if_f (by simp)]) (show x.length < k by omega)
  unfold f24 labelsOk
  have b1 := gt_lit x.length 500 500 rfl
  simp only [q, b1]
  cases decide (x.length ≤ 500) <;> cases allTo (okL x) x.length <;> rfl

theorem impl26 (k : Nat) (hk : 1048576 < k) (x : List Lb) (hx : x.length ≤ 1048576) : f26 k x = some (labelsOk x) := by
  have q := allLoopS (L := f26.l28 k x) (n := x.length) (p := okL x) (fin := some true) (Inv := fun i m => ∀ id, mget (Sh.beq (.int .i64)) (some m) id false = hasL (x.take i) id) (fun m i s hi hs => by
    refine ⟨mput (Sh.beq (.int .i64)) (x.getD i dL).1 true s, fun _ id => ?_, ?_⟩
    · rw [mget_put (beq_int _), hs id, hasL_take hi]
      have : Sh.beq (.int .i64) id (x.getD i dL).1 = ((x.getD i dL).1 == id) := by
        simp only [Sh.beq]
        by_cases e : id = (x.getD i dL).1
        · simp [e]
        · have e' : ¬ (x.getD i dL).1 = id := fun h => e h.symm
          rw [beq_eq_false_iff_ne.2 e, beq_eq_false_iff_ne.2 e']
      rw [this]
      cases ((x.getD i dL).1 == id) <;> simp
    · rw [f26.l28, if_t (by simpa using hi), if_t ⟨by omega, by omega⟩, wrap_s (by omega), e78, Option.bind_some]
      rw [hs]
      unfold okL
      simp only [Int.toNat_natCast]
      generalize lOk (x.getD i dL) = A
      generalize hasL (x.take i) (x.getD i dL).1 = B
      cases A <;> cases B <;> simp) (fun m s _ => by rw [f26.l28, if_f (by simp)]) k 0 ([] : List (Int × Bool)) (fun id => by simp [mget_nil, hasL]) (by omega) (by omega)
  unfold f26 labelsOk
  have b1 := gt_lit x.length 500 500 rfl
  have q' : f26.l28 k x k (([] : (List (Int × Bool))), (0 : Int)) = _ := q
  simp only [q', b1, Nat.sub_zero]
  change _ = some (decide (x.length ≤ 500) && allFrom (okL x) 0 x.length)
  cases decide (x.length ≤ 500) <;> cases allFrom (okL x) 0 x.length <;> rfl

theorem law5 (x0 : List Lb) (w0 : Sh.wf (.sl false 25 (.st (.pair (.int .i64) (.pair (.st (.pair (.int .i64) (.int .i64))) (.pair (.int .i64) (.pair (.int .i64) (.int .i64))))))) x0) : ∃ k, f5 k x0 = some true := by
  refine ⟨1048577, ?_⟩
  have hk : 1048576 < 1048577 := by decide
  obtain ⟨r, q1, q2, q3⟩ := sz23 1048577 hk x0 w0 1048576 (by decide) (by decide)
  have q1' : f23 1048577 x0 1048576 = some r := q1
  unfold f5
  rw [q1']
  simp only [Option.bind_some]
  by_cases hr : r < 0
  · rw [if_t (by simpa using hr)]
  · rw [if_f (by simpa using hr)]
    have hb := q3 (by omega)
    simp only [to25 _ hk x0 hb, spec24 _ hk x0 hb.1, impl26 _ hk x0 hb.1, eq27 _ hk x0 hb, Option.bind_some]
    simp

/-! ### Weight -/
def hasI (ids : List Int) (id : Int) : Bool := ids.any fun x => x == id
theorem hasI_drop {ids : List Int} {id : Int} {i : Nat} (h : i < ids.length) : hasI (ids.drop i) id = (ids.getD i 0 == id || hasI (ids.drop (i + 1)) id) := by
  unfold hasI
  rw [List.drop_eq_getElem_cons h, List.any_cons, List.getD_eq_getElem?_getD, List.getElem?_eq_getElem h]
  rfl
theorem hasI_take {ids : List Int} {id : Int} {i : Nat} (h : i < ids.length) : hasI (ids.take (i + 1)) id = (hasI (ids.take i) id || ids.getD i 0 == id) := by
  unfold hasI
  rw [List.take_add_one, List.any_append, List.getD_eq_getElem?_getD, List.getElem?_eq_getElem h]
  simp
theorem find95 (k : Nat) (ids : List Int) (id : Int) (hx : ids.length ≤ 1048576) : ∀ (m i : Nat), i ≤ ids.length → ids.length - i < m → f95.l12 k ids id m (i : Int) = some (hasI (ids.drop i) id)
  | 0, i, _, h => by omega
  | m + 1, i, hi, h => by
    rw [f95.l12]
    by_cases hlt : i < ids.length
    · rw [if_t (by simpa using hlt), if_t ⟨by omega, by omega⟩, hasI_drop hlt, Int.toNat_natCast]
      cases hb : (ids.getD i 0 == id) with
      | true => rw [if_t rfl]; rfl
      | false =>
        rw [if_f (by simp), wrap_s (by omega), Bool.false_or]
        exact find95 k ids id hx m (i + 1) (by omega) (by omega)
    · rw [if_f (by simpa using hlt), List.drop_eq_nil_of_le (by omega)]
      rfl
theorem e95 (k : Nat) (hk : 1048576 < k) (ids : List Int) (hx : ids.length ≤ 1048576) (id : Int) : f95 k ids id = some (hasI ids id) :=
  find95 k ids id hx k 0 (by omega) (by omega)

theorem drop_cons {α : Type} {x : List α} {i : Nat} {d : α} (h : i < x.length) : x.drop i = x.getD i d :: x.drop (i + 1) := by
  rw [List.drop_eq_getElem_cons h, List.getD_eq_getElem?_getD, List.getElem?_eq_getElem h]; rfl
theorem take_snoc {α : Type} {x : List α} {i : Nat} {d : α} (h : i < x.length) : x.take (i + 1) = x.take i ++ [x.getD i d] := by
  rw [List.take_add_one, List.getD_eq_getElem?_getD, List.getElem?_eq_getElem h]; rfl

def wsum (ids : List Int) (x : List Lb) (a : Int) : Int := x.foldl (fun a e => if hasI ids e.1 = true then w64 (a + e.2.2.2.2) else a) a

theorem sum38 (k : Nat) (hk : 1048576 < k) (x : List Lb) (hx : x.length ≤ 1048576) (ids : List Int) (hi : ids.length ≤ 1048576) : ∀ (m i : Nat) (a : Int), i ≤ x.length → x.length - i < m → f38.l41 k x ids m (a, (i : Int)) = some (wsum ids (x.drop i) a)
  | 0, i, a, _, h => by omega
  | m + 1, i, a, hl, h => by
    rw [f38.l41]
    by_cases hlt : i < x.length
    · rw [if_t (by simpa using hlt), if_t ⟨by omega, by omega⟩, e95 k hk ids hi, Option.bind_some]
      simp only [f38.j75, wrap_s (show i < 9223372036854775807 by omega), Int.toNat_natCast]
      rw [if_t (c := 0 ≤ (i : Int) ∧ (i : Int) < (x.length : Int)) ⟨by omega, by omega⟩, sum38 k hk x hx ids hi m (i + 1) _ (by omega) (by omega), sum38 k hk x hx ids hi m (i + 1) _ (by omega) (by omega), drop_cons (d := dL) hlt]
      unfold wsum
      rw [List.foldl_cons]
      split
      · rfl
      · rfl
    · rw [if_f (by simpa using hlt), List.drop_eq_nil_of_le (by omega)]
      rfl

def chosen (ids : List Int) (x : List Lb) : List Lb := x.filter fun e => hasI ids e.1

theorem pick96 (k : Nat) (x : List Lb) (hx : x.length ≤ 1048576) (ids : List Int) (m : List (Int × Bool)) (hm : ∀ id, mget (Sh.beq (.int .i64)) (some m) id false = hasI ids id) : ∀ (n i : Nat) (acc : List Lb), acc = chosen ids (x.take i) → i ≤ x.length → x.length - i < n → f96.l58 k x m n (acc, (i : Int)) = some (chosen ids x)
  | 0, i, acc, _, _, h => by omega
  | n + 1, i, acc, ha, hl, h => by
    rw [f96.l58]
    by_cases hlt : i < x.length
    · have hlen : acc.length ≤ 1048576 := by
        rw [ha]
        refine Nat.le_trans (List.length_filter_le _ _) ?_
        rw [List.length_take]; omega
      rw [if_t (by simpa using hlt), if_t ⟨by omega, by omega⟩, hm]
      simp only [f96.j82, wrap_s (show i < 9223372036854775807 by omega), Int.toNat_natCast]
      have hs : chosen ids (x.take (i + 1)) = acc ++ (if hasI ids (x.getD i dL).1 = true then [x.getD i dL] else []) := by
        rw [take_snoc (d := dL) hlt]
        unfold chosen
        rw [List.filter_append, ← chosen.eq_def, ← ha]
        simp only [List.filter_cons, List.filter_nil]
      cases hb : hasI ids (x.getD i dL).1 with
      | true =>
        rw [hb] at hs
        simp only [if_true] at hs ⊢
        rw [if_t (by simp; omega)]
        exact pick96 k x hx ids m hm n (i + 1) _ hs.symm (by omega) (by omega)
      | false =>
        rw [hb] at hs
        simp only [Bool.false_eq_true, if_false, List.append_nil] at hs ⊢
        exact pick96 k x hx ids m hm n (i + 1) _ hs.symm (by omega) (by omega)
    · rw [if_f (by simpa using hlt), ha, List.take_of_length_le (by omega)]

theorem want96 (k : Nat) (hk : 1048576 < k) (x : List Lb) (hx : x.length ≤ 1048576) (ids : List Int) (hi : ids.length ≤ 1048576) : ∀ (n i : Nat) (m : List (Int × Bool)), (∀ id, mget (Sh.beq (.int .i64)) (some m) id false = hasI (ids.take i) id) → i ≤ ids.length → ids.length - i < n → f96.l16 k ids x n (m, (i : Int)) = some (chosen ids x)
  | 0, i, m, _, _, h => by omega
  | n + 1, i, m, hm, hl, h => by
    rw [f96.l16]
    by_cases hlt : i < ids.length
    · rw [if_t (by simpa using hlt), if_t ⟨by omega, by omega⟩, wrap_s (by omega), Int.toNat_natCast]
      refine want96 k hk x hx ids hi n (i + 1) _ (fun id => ?_) (by omega) (by omega)
      rw [mget_put (beq_int _), hm id, hasI_take hlt]
      have : Sh.beq (.int .i64) id (ids.getD i 0) = (ids.getD i 0 == id) := by
        simp only [Sh.beq]
        by_cases e : id = ids.getD i 0
        · simp [e]
        · have e' : ¬ ids.getD i 0 = id := fun h => e h.symm
          rw [beq_eq_false_iff_ne.2 e, beq_eq_false_iff_ne.2 e']
      rw [this]
      cases (ids.getD i 0 == id) <;> simp
    · rw [if_f (by simpa using hlt)]
      rw [List.take_of_length_le (by omega)] at hm
      exact pick96 k x hx ids m hm k 0 [] (by simp [chosen]) (by omega) (by omega)

theorem e96 (k : Nat) (hk : 1048576 < k) (x : List Lb) (hx : x.length ≤ 1048576) (ids : List Int) (hi : ids.length ≤ 1048576) : f96 k x ids = some (chosen ids x) :=
  want96 k hk x hx ids hi k 0 [] (fun id => by simp [mget_nil, hasI]) (by omega) (by omega)

theorem sum40 (k : Nat) (c : List Lb) (hc : c.length ≤ 1048576) : ∀ (m i : Nat) (a : Int), i ≤ c.length → c.length - i < m → f40.l18 k c m (a, (i : Int)) = some ((c.drop i).foldl (fun a e => w64 (a + e.2.2.2.2)) a)
  | 0, i, a, _, h => by omega
  | m + 1, i, a, hl, h => by
    rw [f40.l18]
    by_cases hlt : i < c.length
    · rw [if_t (by simpa using hlt), if_t ⟨by omega, by omega⟩, wrap_s (by omega), sum40 k c hc m (i + 1) _ (by omega) (by omega), drop_cons (d := dL) hlt, List.foldl_cons, Int.toNat_natCast]
    · rw [if_f (by simpa using hlt), List.drop_eq_nil_of_le (by omega)]
      rfl

theorem chosen_len (ids : List Int) (x : List Lb) : (chosen ids x).length ≤ x.length := List.length_filter_le _ _

theorem same_weight (k : Nat) (hk : 1048576 < k) (x : List Lb) (hx : x.length ≤ 1048576) (ids : List Int) (hi : ids.length ≤ 1048576) : ∃ r, f38 k x ids = some r ∧ f40 k x ids = some r := by
  unfold f38 f40
  rw [spec24 k hk x hx, impl26 k hk x hx]
  simp only [Option.bind_some]
  cases labelsOk x with
  | false => exact ⟨_, rfl, rfl⟩
  | true =>
    have h1 := sum38 k hk x hx ids hi k 0 0 (by omega) (by omega)
    have h1' : f38.l41 k x ids k ((0 : Int), (0 : Int)) = _ := h1
    have h2 := sum40 k (chosen ids x) (Nat.le_trans (chosen_len ids x) hx) k 0 0 (by omega) (by have := chosen_len ids x; omega)
    have h2' : f40.l18 k (chosen ids x) k ((0 : Int), (0 : Int)) = _ := h2
    simp only [Bool.not_true, Bool.false_eq_true, if_false, h1', e96 k hk x hx ids hi, Option.bind_some, h2']
    refine ⟨_, rfl, ?_⟩
    congr 1
    rw [List.drop_zero, List.drop_zero, chosen, wsum, List.foldl_filter]

theorem law8 (x0 : List Lb) (w0 : Sh.wf (.sl false 25 (.st (.pair (.int .i64) (.pair (.st (.pair (.int .i64) (.int .i64))) (.pair (.int .i64) (.pair (.int .i64) (.int .i64))))))) x0) (x1 : List Int) (w1 : Sh.wf (.sl false 2 (.int .i64)) x1) : ∃ k, f8 k x0 x1 = some true := by
  refine ⟨1048577, ?_⟩
  have hk : 1048576 < 1048577 := by decide
  obtain ⟨r, q1, q2, q3⟩ := sz23 1048577 hk x0 w0 1048576 (by decide) (by decide)
  have q1' : f23 1048577 x0 1048576 = some r := q1
  unfold f8
  rw [q1', gt_lit x1.length 1048576 1048576 rfl]
  by_cases hl : x1.length ≤ 1048576
  · rw [if_f (by simpa using hl)]
    simp only [Option.bind_some]
    by_cases hr : r < 0
    · rw [if_t (by simpa using hr)]
    · rw [if_f (by simpa using hr)]
      have hb := q3 (by omega)
      have hc : Sh.bd (.sl false 2 (.int .i64)) x1 := ⟨hl, fun y _ => trivial⟩
      obtain ⟨v, v1, v2⟩ := same_weight _ hk x0 hb.1 x1 hl
      simp only [to25 _ hk x0 hb, to39 _ hk x1 hc, v1, v2, eq27 _ hk x0 hb, eq41 _ hk x1 hc, Option.bind_some]
      simp
  · rw [if_t (by simpa using hl)]

/-! ### Spaced -/
def ov (x0 x1 : Lb) : Bool := (bif (bif (bif (decide ((x0.2.1.1 : Int) < (IntKind.i64.wrap (x1.2.1.1 + x1.2.2.1)))) then (decide ((x1.2.1.1 : Int) < (IntKind.i64.wrap (x0.2.1.1 + x0.2.2.1)))) else false) then (decide ((x0.2.1.2 : Int) < (IntKind.i64.wrap (x1.2.1.2 + x1.2.2.2.1)))) else false) then (decide ((x1.2.1.2 : Int) < (IntKind.i64.wrap (x0.2.1.2 + x0.2.2.2.1)))) else false)
theorem e76 (k : Nat) (a b : Lb) : f76 k a b = some (ov a b) := rfl
theorem e79 (k : Nat) (a b : Lb) : f79 k a b = some (ov a b) := rfl

/-- All pairs of a row, the later one first. -/
def pairsB {α : Type} (d : α) (p : α → α → Bool) (x : List α) : Bool := allTo (fun i => allTo (fun j => p (x.getD i d) (x.getD j d)) i) x.length
theorem pairsB_iff {α : Type} {d : α} {p : α → α → Bool} {x : List α} : pairsB d p x = true ↔ x.Pairwise (fun a b => p b a = true) := by
  unfold pairsB
  rw [allTo_iff, List.pairwise_iff_getElem]
  constructor
  · intro h i j hi hj hij
    have := allTo_iff.1 (h j hj) i hij
    simpa [List.getD_eq_getElem?_getD, hi, hj] using this
  · intro h i hi
    rw [allTo_iff]
    intro j hj
    have := h j i (by omega) hi hj
    simpa [List.getD_eq_getElem?_getD, hi, show j < x.length by omega] using this

theorem spec49 (k : Nat) (hk : 1048576 < k) (x : List Lb) (hx : x.length ≤ 1048576) (ids : List Int) (hi : ids.length ≤ 1048576) : f49 k x ids = some (labelsOk x && pairsB dL (fun a b => !(ov a b && hasI ids a.1 && hasI ids b.1)) x) := by
  have q := allLoop (L := f49.l397 k x ids) (n := x.length) (p := fun i => allTo (fun j => !(ov (x.getD i dL) (x.getD j dL) && hasI ids (x.getD i dL).1 && hasI ids (x.getD j dL).1)) i) (fin := some true) (fun m i hi' => by
    have q2 := allLoop (L := f49.l727 k (i : Int) x ids (f49.l397 k x ids m)) (n := i) (p := fun j => !(ov (x.getD i dL) (x.getD j dL) && hasI ids (x.getD i dL).1 && hasI ids (x.getD j dL).1)) (fin := f49.l397 k x ids m ((i + 1 : Nat) : Int)) (fun n j hj => by
      rw [f49.l727, if_t (by simpa using hj), if_t ⟨by omega, by omega⟩, if_t ⟨by omega, by omega⟩, wrap_s (show j < 9223372036854775807 by omega)]
      have hr1 : x.getD i dL = List.getD x (Int.toNat (i : Int)) dL := by rw [Int.toNat_natCast]
      have hr2 : x.getD j dL = List.getD x (Int.toNat (j : Int)) dL := by rw [Int.toNat_natCast]
      rw [hr1, hr2]
      generalize List.getD x (Int.toNat (i : Int)) dL = A
      generalize List.getD x (Int.toNat (j : Int)) dL = B
      have h1 : (0 : Int) ≤ (i : Int) ∧ (i : Int) < (x.length : Int) := ⟨by omega, by omega⟩
      have h2 : (0 : Int) ≤ (j : Int) ∧ (j : Int) < (x.length : Int) := ⟨by omega, by omega⟩
      simp only [e76, e95 k hk ids hi, Option.bind_some, h1, h2, and_self, implies_true, if_true]
      cases ov A B <;> cases hasI ids A.1 <;> cases hasI ids B.1 <;> simp) (fun n => by rw [f49.l727, if_f (by simp), wrap_s (by omega)]) (show i < k by omega)
    rw [f49.l397, if_t (by simpa using hi'), q2]) (fun m => by rw [f49.l397, if_f (by simp)]) (show x.length < k by omega)
  unfold f49
  rw [spec24 k hk x hx, Option.bind_some, q]
  change _ = some (labelsOk x && pairsB dL _ x)
  unfold pairsB
  cases labelsOk x
  · rfl
  · simp only [Bool.not_true, Bool.false_eq_true, if_false, Bool.true_and]
    generalize allTo _ x.length = A
    cases A <;> rfl

theorem impl50 (k : Nat) (hk : 1048576 < k) (x : List Lb) (hx : x.length ≤ 1048576) (ids : List Int) (hi : ids.length ≤ 1048576) : f50 k x ids = some (labelsOk x && pairsB dL (fun a b => !ov a b) (chosen ids x)) := by
  have hcl := chosen_len ids x
  have q := allLoop (L := f50.l182 k (chosen ids x)) (n := (chosen ids x).length) (p := fun i => allTo (fun j => !(ov ((chosen ids x).getD i dL) ((chosen ids x).getD j dL))) i) (fin := some true) (fun m i hi' => by
    have q2 := allLoop (L := f50.l332 k (i : Int) (chosen ids x) (f50.l182 k (chosen ids x) m)) (n := i) (p := fun j => !(ov ((chosen ids x).getD i dL) ((chosen ids x).getD j dL))) (fin := f50.l182 k (chosen ids x) m ((i + 1 : Nat) : Int)) (fun n j hj => by
      rw [f50.l332, if_t (by simpa using hj), if_t ⟨by omega, by omega⟩, if_t ⟨by omega, by omega⟩, wrap_s (show j < 9223372036854775807 by omega)]
      have hr1 : (chosen ids x).getD i dL = List.getD (chosen ids x) (Int.toNat (i : Int)) dL := by rw [Int.toNat_natCast]
      have hr2 : (chosen ids x).getD j dL = List.getD (chosen ids x) (Int.toNat (j : Int)) dL := by rw [Int.toNat_natCast]
      rw [hr1, hr2]
      generalize List.getD (chosen ids x) (Int.toNat (i : Int)) dL = A
      generalize List.getD (chosen ids x) (Int.toNat (j : Int)) dL = B
      simp only [e79, Option.bind_some]
      cases ov A B <;> simp) (fun n => by rw [f50.l332, if_f (by simp), wrap_s (by omega)]) (show i < k by omega)
    rw [f50.l182, if_t (by simpa using hi'), q2]) (fun m => by rw [f50.l182, if_f (by simp)]) (show (chosen ids x).length < k by omega)
  unfold f50
  rw [impl26 k hk x hx, Option.bind_some, e96 k hk x hx ids hi, Option.bind_some, q]
  unfold pairsB
  cases labelsOk x
  · rfl
  · simp only [Bool.not_true, Bool.false_eq_true, if_false, Bool.true_and]
    generalize allTo _ (chosen ids x).length = A
    cases A <;> rfl

theorem same_spaced (x : List Lb) (ids : List Int) : pairsB dL (fun a b => !(ov a b && hasI ids a.1 && hasI ids b.1)) x = pairsB dL (fun a b => !ov a b) (chosen ids x) := by
  apply Bool.eq_iff_iff.2
  rw [pairsB_iff, pairsB_iff, chosen, List.pairwise_filter]
  constructor
  · intro h
    refine h.imp ?_
    intro a b h1 ha hb
    rw [ha, hb] at h1
    simpa using h1
  · intro h
    refine h.imp ?_
    intro a b h1
    cases ha : hasI ids a.1 <;> cases hb : hasI ids b.1 <;> simp
    simpa using h1 ha hb

theorem law10 (x0 : List Lb) (w0 : Sh.wf (.sl false 25 (.st (.pair (.int .i64) (.pair (.st (.pair (.int .i64) (.int .i64))) (.pair (.int .i64) (.pair (.int .i64) (.int .i64))))))) x0) (x1 : List Int) (w1 : Sh.wf (.sl false 2 (.int .i64)) x1) : ∃ k, f10 k x0 x1 = some true := by
  refine ⟨1048577, ?_⟩
  have hk : 1048576 < 1048577 := by decide
  obtain ⟨r, q1, q2, q3⟩ := sz23 1048577 hk x0 w0 1048576 (by decide) (by decide)
  have q1' : f23 1048577 x0 1048576 = some r := q1
  unfold f10
  rw [q1', gt_lit x1.length 1048576 1048576 rfl]
  by_cases hl : x1.length ≤ 1048576
  · rw [if_f (by simpa using hl)]
    simp only [Option.bind_some]
    by_cases hr : r < 0
    · rw [if_t (by simpa using hr)]
    · rw [if_f (by simpa using hr)]
      have hb := q3 (by omega)
      have hc : Sh.bd (.sl false 2 (.int .i64)) x1 := ⟨hl, fun y _ => trivial⟩
      simp only [to25 _ hk x0 hb, to39 _ hk x1 hc, spec49 _ hk x0 hb.1 x1 hl, impl50 _ hk x0 hb.1 x1 hl, same_spaced, eq27 _ hk x0 hb, eq41 _ hk x1 hc, Option.bind_some]
      simp
  · rw [if_t (by simpa using hl)]
end Go.Proofs.Ytijlnlonlmcdoaa
