/-
  The best of some roads to go on with: the specification's choice and the program's choice. No condition.
-/
import Derived.Test.YtchbpdnaodicaaaR3fba
set_option linter.unusedVariables false
set_option linter.unusedSimpArgs false
namespace Go.Proofs.Ytchbpdnaodicaaa
open Go Go.Vm Go.Proofs V
abbrev St3 := Int × Int × Int
def pkS (key : Nat → Option (Int × Int)) (st : St3) (e : Nat) : St3 := match key e with
  | none => st
  | some (a, b) => if st.1 < 0 ∨ a < st.2.1 ∨ (a = st.2.1 ∧ b < st.2.2) then ((e : Int), a, b) else st
def pk (key : Nat → Option (Int × Int)) (l : List Nat) : St3 := l.foldl (pkS key) (-1, 0, 0)
theorem pk_snoc (key : Nat → Option (Int × Int)) {l : List Nat} {i : Nat} (h : i < l.length) : pk key (l.take (i + 1)) = pkS key (pk key (l.take i)) (l.getD i 0) := by
  unfold pk; rw [take_snoc h, List.foldl_append]; rfl
theorem pk_mem (key : Nat → Option (Int × Int)) (l : List Nat) : pk key l = (-1, 0, 0) ∨ ∃ e a b, e ∈ l ∧ key e = some (a, b) ∧ pk key l = ((e : Int), a, b) := by
  have go : ∀ (l' : List Nat) (st : St3), (∀ e ∈ l', e ∈ l) → (st = (-1, 0, 0) ∨ ∃ e a b, e ∈ l ∧ key e = some (a, b) ∧ st = ((e : Int), a, b)) →
      (l'.foldl (pkS key) st = (-1, 0, 0) ∨ ∃ e a b, e ∈ l ∧ key e = some (a, b) ∧ l'.foldl (pkS key) st = ((e : Int), a, b)) := by
    intro l'
    induction l' with
    | nil => intro st _ h; exact h
    | cons x l' ih =>
      intro st hm h
      rw [List.foldl_cons]
      refine ih _ (fun e he => hm e (List.mem_cons_of_mem _ he)) ?_
      unfold pkS
      cases hk : key x with
      | none => exact h
      | some ab =>
        obtain ⟨a, b⟩ := ab
        dsimp only
        split
        · exact .inr ⟨x, a, b, hm x List.mem_cons_self, hk, rfl⟩
        · exact h
  exact go l _ (fun _ h => h) (.inl rfl)
theorem first_split {P : Nat → Prop} : ∀ {l : List Nat}, (∃ e, e ∈ l ∧ P e) → ∃ l1 e l2, l = l1 ++ e :: l2 ∧ P e ∧ ∀ x ∈ l1, ¬ P x
  | [], h => by obtain ⟨e, h, _⟩ := h; cases h
  | x :: l, h => by
    by_cases hx : P x
    · exact ⟨[], x, l, rfl, hx, fun y hy => by cases hy⟩
    · obtain ⟨l1, e, l2, q1, q2, q3⟩ := first_split (l := l) (by
        obtain ⟨e, he, hp⟩ := h
        rcases List.mem_cons.1 he with rfl | he
        · exact absurd hp hx
        · exact ⟨e, he, hp⟩)
      exact ⟨x :: l1, e, l2, by rw [q1]; rfl, q2, fun y hy => by
        rcases List.mem_cons.1 hy with rfl | hy
        · exact hx
        · exact q3 y hy⟩
theorem pk_first {key : Nat → Option (Int × Int)} {A B : Int} {l1 l2 : List Nat} {e : Nat} (he : key e = some (A, B)) (h1 : ∀ x ∈ l1, key x ≠ some (A, B)) (hmin : ∀ x ∈ l1 ++ e :: l2, ∀ a b, key x = some (a, b) → Le A B a b) : pk key (l1 ++ e :: l2) = ((e : Int), A, B) := by
  have pre : ∀ (l : List Nat) (st : St3), (∀ x ∈ l, key x ≠ some (A, B) ∧ ∀ a b, key x = some (a, b) → Le A B a b) → (st.1 < 0 ∨ A < st.2.1 ∨ (A = st.2.1 ∧ B < st.2.2)) → ((l.foldl (pkS key) st).1 < 0 ∨ A < (l.foldl (pkS key) st).2.1 ∨ (A = (l.foldl (pkS key) st).2.1 ∧ B < (l.foldl (pkS key) st).2.2)) := by
    intro l
    induction l with
    | nil => intro st _ h; exact h
    | cons x l ih =>
      intro st hl h
      rw [List.foldl_cons]
      refine ih _ (fun y hy => hl y (List.mem_cons_of_mem _ hy)) ?_
      unfold pkS
      cases hk : key x with
      | none => exact h
      | some ab =>
        obtain ⟨a, b⟩ := ab
        dsimp only
        obtain ⟨q1, q2⟩ := hl x List.mem_cons_self
        have q3 := q2 a b hk
        split
        · dsimp only
          have hne : ¬ (a = A ∧ b = B) := fun h => q1 (by rw [hk, h.1, h.2])
          unfold Le at q3; omega
        · exact h
  have post : ∀ (l : List Nat), (∀ x ∈ l, ∀ a b, key x = some (a, b) → Le A B a b) → l.foldl (pkS key) ((e : Int), A, B) = ((e : Int), A, B) := by
    intro l
    induction l with
    | nil => intro _; rfl
    | cons x l ih =>
      intro hl
      rw [List.foldl_cons]
      have : pkS key ((e : Int), A, B) x = ((e : Int), A, B) := by
        unfold pkS
        cases hk : key x with
        | none => rfl
        | some ab =>
          obtain ⟨a, b⟩ := ab
          dsimp only
          have q3 := hl x List.mem_cons_self a b hk
          rw [if_neg (by unfold Le at q3; omega)]
      rw [this]
      exact ih (fun y hy => hl y (List.mem_cons_of_mem _ hy))
  unfold pk
  rw [List.foldl_append, List.foldl_cons]
  have h := pre l1 (-1, 0, 0) (fun x hx => ⟨h1 x hx, hmin x (List.mem_append_left _ hx)⟩) (.inl (by decide))
  have : pkS key (l1.foldl (pkS key) (-1, 0, 0)) e = ((e : Int), A, B) := by
    generalize l1.foldl (pkS key) (-1, 0, 0) = st at h ⊢
    unfold pkS; rw [he]; dsimp only; rw [if_pos h]
  rw [this]
  exact post l2 (fun x hx => hmin x (List.mem_append_right _ (List.mem_cons_of_mem _ hx)))
def keyOf (tm ct : List Int) (ex : Nat → Int) (e : Nat) : Option (Int × Int) := if T tm e < 0 ∨ ex e < 0 then none else some (T tm e + ex e, T ct e)
theorem keyOf_some {tm ct : List Int} {ex : Nat → Int} {e : Nat} {a b : Int} (h : keyOf tm ct ex e = some (a, b)) : 0 ≤ T tm e ∧ 0 ≤ ex e ∧ a = T tm e + ex e ∧ b = T ct e := by
  unfold keyOf at h
  by_cases hc : T tm e < 0 ∨ ex e < 0
  · rw [if_pos hc] at h; cases h
  · rw [if_neg hc] at h
    injection h with h; injection h with h1 h2
    omega
theorem e184 {n : Nat} (k : Nat) (hk : 1048576 < k) (tm ct : List Int) (l1 : tm.length = n) (l2 : ct.length = n) (hn : n ≤ 8000) (hb : ∀ e, e < n → T tm e ≤ 10000000000) (l : List Nat) (hl : ∀ e ∈ l, e < n) (hll : l.length ≤ 8000) (ex : Nat → Int) (hex : ∀ e ∈ l, ex e ≤ 20) :
    f184 k (tm, ct) (l.map fun (r : Nat) => (r : Int)) (l.map ex) = some (pk (keyOf tm ct ex) l).1 := by
  unfold f184
  have go : ∀ (d i m : Nat) (best cost : Int), i + d = l.length → d < m → ((pk (keyOf tm ct ex) (l.take i)).1 = best ∧ (0 ≤ best → (pk (keyOf tm ct ex) (l.take i)).2.1 = cost)) →
      f184.l77 k (l.map fun (r : Nat) => (r : Int)) (tm, ct) (l.map ex) m (best, cost, (i : Int)) = some (pk (keyOf tm ct ex) l).1 := by
    intro d
    induction d with
    | zero =>
      intro i m best cost h1 h2 h3
      obtain ⟨m, rfl⟩ : ∃ q, m = q + 1 := ⟨m - 1, by omega⟩
      obtain rfl : i = l.length := by omega
      rw [List.take_length] at h3
      rw [f184.l77, if_f (by simp), h3.1]
    | succ d ih =>
      intro i m best cost h1 h2 h3
      obtain ⟨m, rfl⟩ : ∃ q, m = q + 1 := ⟨m - 1, by omega⟩
      have hi : i < l.length := by omega
      have hci : decide ((i : Int) < ((l.map fun (r : Nat) => (r : Int)).length : Int)) = true := by simpa using hi
      have hbi : (0 : Int) ≤ (i : Int) ∧ (i : Int) < ((l.map fun (r : Nat) => (r : Int)).length : Int) := ⟨by omega, by simpa using hi⟩
      have hbi2 : (0 : Int) ≤ (i : Int) ∧ (i : Int) < ((l.map ex).length : Int) := ⟨by omega, by simpa using hi⟩
      have hcd := castD l i
      have hxd : (l.map ex).getD i 0 = ex (l.getD i 0) := by simp [List.getD_eq_getElem?_getD, hi]
      have he := getD_in' hi
      have hps := pk_snoc (keyOf tm ct ex) hi
      have hen := hl _ he
      have hxe := hex _ he
      have hmem := pk_mem (keyOf tm ct ex) (l.take i)
      generalize l.getD i 0 = e at *
      have hbe := hb e hen
      have be : (0 : Int) ≤ (e : Int) ∧ (e : Int) < (tm.length : Int) := ⟨by omega, by omega⟩
      have be2 : (0 : Int) ≤ (e : Int) ∧ (e : Int) < (ct.length : Int) := ⟨by omega, by omega⟩
      have w0 : IntKind.i64.wrap ((i : Int) + 1) = ((i + 1 : Nat) : Int) := wrap_s (by omega)
      have hbest : ∀ h : 0 ≤ best, ∃ b : Nat, best = (b : Int) ∧ b < n ∧ (pk (keyOf tm ct ex) (l.take i)).2.2 = T ct b := fun h => by
        rcases hmem with hm | ⟨b, x, y, m1, m2, m3⟩
        · rw [hm] at h3; have := h3.1; simp only at this; omega
        · rw [m3] at h3 ⊢
          exact ⟨b, h3.1.symm, hl b (List.mem_of_mem_take m1), (keyOf_some m2).2.2.2⟩
      rw [f184.l77]
      simp only [if_t hci, if_t hbi, Int.toNat_natCast, hcd, hxd, if_t be, f184.j143, w0]
      rw [if_t (fun _ => hbi2)]
      by_cases hv : T tm e < 0 ∨ ex e < 0
      · have hkey : keyOf tm ct ex e = none := by unfold keyOf; rw [if_pos hv]
        rw [if_t (by
          rcases hv with hv | hv
          · rw [show decide (tm.getD e 0 < 0) = true from decide_eq_true hv]; rfl
          · rw [decide_eq_true hv]; cases decide (tm.getD e 0 < 0) <;> rfl)]
        refine ih (i + 1) m best cost (by omega) (by omega) ?_
        rw [hps]; unfold pkS; rw [hkey]; exact h3
      · have hkey : keyOf tm ct ex e = some (T tm e + ex e, T ct e) := by unfold keyOf; rw [if_neg hv]
        have w1 : IntKind.i64.wrap (tm.getD e 0 + ex e) = T tm e + ex e := wrap_in (show -9223372036854775808 ≤ T tm e + ex e by omega) (show T tm e + ex e ≤ 9223372036854775807 by omega)
        rw [if_f (by rw [show decide (tm.getD e 0 < 0) = false from decide_eq_false (show ¬ T tm e < 0 by omega), decide_eq_false (show ¬ ex e < 0 by omega)]; decide)]
        simp only [w1, if_t hbi2]
        by_cases hb0 : best < 0
        · rw [show decide (best < 0) = true from decide_eq_true hb0]
          simp only [cond_true, Bool.true_eq_false, false_and, false_implies, if_true, Option.bind_some]
          refine ih (i + 1) m _ _ (by omega) (by omega) ?_
          rw [hps]; unfold pkS; rw [hkey]; dsimp only
          rw [if_pos (.inl (by rw [h3.1]; exact hb0))]
          exact ⟨rfl, fun _ => rfl⟩
        · obtain ⟨b, b1, b2, b3⟩ := hbest (by omega)
          have hcost := h3.2 (by omega)
          have bb : (0 : Int) ≤ best ∧ best < (ct.length : Int) := ⟨by omega, by omega⟩
          rw [if_t (fun _ => be2), if_t (fun _ => bb), show decide (best < 0) = false from decide_eq_false hb0, cond_false, Option.bind_some]
          subst b1
          simp only [Int.toNat_natCast]
          have hstep : pkS (keyOf tm ct ex) (pk (keyOf tm ct ex) (l.take i)) e = if T tm e + ex e < cost ∨ (T tm e + ex e = cost ∧ T ct e < T ct b) then ((e : Int), T tm e + ex e, T ct e) else pk (keyOf tm ct ex) (l.take i) := by
            unfold pkS; rw [hkey]; dsimp only; rw [h3.1, hcost, b3]
            by_cases hc : T tm e + ex e < cost ∨ (T tm e + ex e = cost ∧ T ct e < T ct b)
            · rw [if_pos (.inr hc), if_pos hc]
            · rw [if_neg (by omega), if_neg hc]
          by_cases hc : T tm e + ex e < cost ∨ (T tm e + ex e = cost ∧ T ct e < T ct b)
          · rw [if_t (by
              rcases hc with hc | ⟨hc, hc2⟩
              · rw [decide_eq_true hc]; rfl
              · rw [beq_iff_eq.2 hc, show decide (ct.getD e 0 < ct.getD b 0) = true from decide_eq_true hc2]; cases decide (T tm e + ex e < cost) <;> rfl)]
            refine ih (i + 1) m _ _ (by omega) (by omega) ?_
            rw [hps, hstep, if_pos hc]
            exact ⟨rfl, fun _ => rfl⟩
          · rw [if_f (by
              rw [decide_eq_false (show ¬ T tm e + ex e < cost by omega)]
              by_cases h4 : T tm e + ex e = cost
              · rw [beq_iff_eq.2 h4, show decide (ct.getD e 0 < ct.getD b 0) = false from decide_eq_false (show ¬ T ct e < T ct b by omega)]; decide
              · rw [beq_false_of_ne h4]; simp)]
            refine ih (i + 1) m _ _ (by omega) (by omega) ?_
            rw [hps, hstep, if_neg hc]
            exact h3
  have := go l.length 0 k (-1) 0 (by omega) (by omega) ⟨rfl, fun h => by omega⟩
  rw [show ((0 : Nat) : Int) = 0 from rfl] at this
  exact this
theorem e186 {n : Nat} (k : Nat) (hk : 1048576 < k) (tm ct : List Int) (l1 : tm.length = n) (l2 : ct.length = n) (hn : n ≤ 8000) (hb : ∀ e, e < n → T tm e ≤ 10000000000) (l : List Nat) (hl : ∀ e ∈ l, e < n) (hll : l.length ≤ 8000) :
    f186 k (l.map fun (r : Nat) => (r : Int)) tm ct = some (pk (keyOf tm ct fun _ => 0) l).1 := by
  unfold f186
  have go : ∀ (d i m : Nat) (best cost c : Int), i + d = l.length → d < m → pk (keyOf tm ct fun _ => 0) (l.take i) = (best, cost, c) →
      f186.l68 k (l.map fun (r : Nat) => (r : Int)) tm ct m (best, cost, c, (i : Int)) = some (pk (keyOf tm ct fun _ => 0) l).1 := by
    intro d
    induction d with
    | zero =>
      intro i m best cost c h1 h2 h3
      obtain ⟨m, rfl⟩ : ∃ q, m = q + 1 := ⟨m - 1, by omega⟩
      obtain rfl : i = l.length := by omega
      rw [List.take_length] at h3
      rw [f186.l68, if_f (by simp), h3]
    | succ d ih =>
      intro i m best cost c h1 h2 h3
      obtain ⟨m, rfl⟩ : ∃ q, m = q + 1 := ⟨m - 1, by omega⟩
      have hi : i < l.length := by omega
      have hci : decide ((i : Int) < ((l.map fun (r : Nat) => (r : Int)).length : Int)) = true := by simpa using hi
      have hbi : (0 : Int) ≤ (i : Int) ∧ (i : Int) < ((l.map fun (r : Nat) => (r : Int)).length : Int) := ⟨by omega, by simpa using hi⟩
      have hcd := castD l i
      have he := getD_in' hi
      have hps := pk_snoc (keyOf tm ct fun _ => 0) hi
      have hen := hl _ he
      generalize l.getD i 0 = e at *
      have hbe := hb e hen
      have be : (0 : Int) ≤ (e : Int) ∧ (e : Int) < (tm.length : Int) := ⟨by omega, by omega⟩
      have be2 : (0 : Int) ≤ (e : Int) ∧ (e : Int) < (ct.length : Int) := ⟨by omega, by omega⟩
      have w0 : IntKind.i64.wrap ((i : Int) + 1) = ((i + 1 : Nat) : Int) := wrap_s (by omega)
      have d0 : decide ((0 : Int) < 0) = false := by decide
      rw [f186.l68]
      simp only [if_t hci, if_t hbi, Int.toNat_natCast, hcd, if_t be, if_t be2, f186.j130, f187, Option.bind_some, w0, d0, cond_false]
      rw [if_t (fun _ => be)]
      by_cases hv : T tm e < 0
      · have hkey : keyOf tm ct (fun _ => 0) e = none := by unfold keyOf; rw [if_pos (.inl hv)]
        rw [if_t (show decide (tm.getD e 0 < 0) = true from decide_eq_true hv)]
        refine ih (i + 1) m best cost c (by omega) (by omega) ?_
        rw [hps]; unfold pkS; rw [hkey]; exact h3
      · have hkey : keyOf tm ct (fun _ => 0) e = some (T tm e + 0, T ct e) := by unfold keyOf; rw [if_neg (fun h => h.elim (fun h => hv h) (fun h => absurd (show (0 : Int) < 0 from h) (by decide)))]
        have w1 : IntKind.i64.wrap (tm.getD e 0 + 0) = T tm e + 0 := wrap_in (show -9223372036854775808 ≤ T tm e + 0 by omega) (show T tm e + 0 ≤ 9223372036854775807 by omega)
        rw [if_f (by rw [show decide (tm.getD e 0 < 0) = false from decide_eq_false hv]; decide)]
        simp only [w1]
        have hstep : pkS (keyOf tm ct fun _ => 0) (best, cost, c) e = if best < 0 ∨ T tm e + 0 < cost ∨ (T tm e + 0 = cost ∧ T ct e < c) then ((e : Int), T tm e + 0, T ct e) else (best, cost, c) := by
          unfold pkS; rw [hkey]
        rw [h3, hstep] at hps
        by_cases hc : best < 0 ∨ T tm e + 0 < cost ∨ (T tm e + 0 = cost ∧ T ct e < c)
        · rw [if_pos hc] at hps
          rw [if_t (by
            rcases hc with hc | hc | ⟨hc, hc2⟩
            · rw [decide_eq_true hc]; rfl
            · rw [decide_eq_true hc]; cases decide (best < 0) <;> rfl
            · rw [beq_iff_eq.2 hc, show decide (ct.getD e 0 < c) = true from decide_eq_true hc2]; cases decide (best < 0) <;> cases decide (T tm e + 0 < cost) <;> rfl)]
          exact ih (i + 1) m _ _ _ (by omega) (by omega) hps
        · rw [if_neg hc] at hps
          rw [if_f (by
            rw [decide_eq_false (show ¬ best < 0 by omega), decide_eq_false (show ¬ T tm e + 0 < cost by omega)]
            by_cases h4 : T tm e + 0 = cost
            · rw [beq_iff_eq.2 h4, show decide (ct.getD e 0 < c) = false from decide_eq_false (show ¬ T ct e < c by omega)]; decide
            · rw [beq_false_of_ne h4]; simp)]
          exact ih (i + 1) m _ _ _ (by omega) (by omega) hps
  have := go l.length 0 k (-1) 0 0 (by omega) (by omega) rfl
  rw [show ((0 : Nat) : Int) = 0 from rfl] at this
  exact this
theorem e186b {n : Nat} (k : Nat) (hk : 1048576 < k) (net : Net) (x : Int) (tm ct : List Int) (l1 : tm.length = n) (l2 : ct.length = n) (hn : n ≤ 8000) (hb : ∀ e, e < n → T tm e ≤ 10000000000) (l : List Nat) (hl : ∀ e ∈ l, e < n) (hll : l.length ≤ 8000) (ex : Nat → Int)
    (hex : ∀ e ∈ l, f170 k net x (e : Int) = some (ex e) ∧ ex e ≤ 20) :
    f186b k (l.map fun (r : Nat) => (r : Int)) net x tm ct = some (pk (keyOf tm ct ex) l).1 := by
  unfold f186b
  have go : ∀ (d i m : Nat) (best cost c : Int), i + d = l.length → d < m → pk (keyOf tm ct ex) (l.take i) = (best, cost, c) →
      f186b.l68 k (l.map fun (r : Nat) => (r : Int)) net x tm ct m (best, cost, c, (i : Int)) = some (pk (keyOf tm ct ex) l).1 := by
    intro d
    induction d with
    | zero =>
      intro i m best cost c h1 h2 h3
      obtain ⟨m, rfl⟩ : ∃ q, m = q + 1 := ⟨m - 1, by omega⟩
      obtain rfl : i = l.length := by omega
      rw [List.take_length] at h3
      rw [f186b.l68, if_f (by simp), h3]
    | succ d ih =>
      intro i m best cost c h1 h2 h3
      obtain ⟨m, rfl⟩ : ∃ q, m = q + 1 := ⟨m - 1, by omega⟩
      have hi : i < l.length := by omega
      have hci : decide ((i : Int) < ((l.map fun (r : Nat) => (r : Int)).length : Int)) = true := by simpa using hi
      have hbi : (0 : Int) ≤ (i : Int) ∧ (i : Int) < ((l.map fun (r : Nat) => (r : Int)).length : Int) := ⟨by omega, by simpa using hi⟩
      have hcd := castD l i
      have he := getD_in' hi
      have hps := pk_snoc (keyOf tm ct ex) hi
      have hen := hl _ he
      obtain ⟨hf, hxe⟩ := hex _ he
      generalize l.getD i 0 = e at *
      have hbe := hb e hen
      have be : (0 : Int) ≤ (e : Int) ∧ (e : Int) < (tm.length : Int) := ⟨by omega, by omega⟩
      have be2 : (0 : Int) ≤ (e : Int) ∧ (e : Int) < (ct.length : Int) := ⟨by omega, by omega⟩
      have w0 : IntKind.i64.wrap ((i : Int) + 1) = ((i + 1 : Nat) : Int) := wrap_s (by omega)
      rw [f186b.l68]
      simp only [if_t hci, if_t hbi, Int.toNat_natCast, hcd, if_t be, if_t be2, f186b.j130, f188, hf, Option.bind_some, w0]
      rw [if_t (fun _ => be)]
      by_cases hv : T tm e < 0 ∨ ex e < 0
      · have hkey : keyOf tm ct ex e = none := by unfold keyOf; rw [if_pos hv]
        rw [if_t (by
          rcases hv with hv | hv
          · rw [show decide (tm.getD e 0 < 0) = true from decide_eq_true hv]; cases decide (ex e < 0) <;> rfl
          · rw [decide_eq_true hv]; rfl)]
        refine ih (i + 1) m best cost c (by omega) (by omega) ?_
        rw [hps]; unfold pkS; rw [hkey]; exact h3
      · have hkey : keyOf tm ct ex e = some (T tm e + ex e, T ct e) := by unfold keyOf; rw [if_neg hv]
        have w1 : IntKind.i64.wrap (tm.getD e 0 + ex e) = T tm e + ex e := wrap_in (show -9223372036854775808 ≤ T tm e + ex e by omega) (show T tm e + ex e ≤ 9223372036854775807 by omega)
        rw [if_f (by rw [show decide (tm.getD e 0 < 0) = false from decide_eq_false (show ¬ T tm e < 0 by omega), decide_eq_false (show ¬ ex e < 0 by omega)]; decide)]
        simp only [w1]
        have hstep : pkS (keyOf tm ct ex) (best, cost, c) e = if best < 0 ∨ T tm e + ex e < cost ∨ (T tm e + ex e = cost ∧ T ct e < c) then ((e : Int), T tm e + ex e, T ct e) else (best, cost, c) := by
          unfold pkS; rw [hkey]
        rw [h3, hstep] at hps
        by_cases hc : best < 0 ∨ T tm e + ex e < cost ∨ (T tm e + ex e = cost ∧ T ct e < c)
        · rw [if_pos hc] at hps
          rw [if_t (by
            rcases hc with hc | hc | ⟨hc, hc2⟩
            · rw [decide_eq_true hc]; rfl
            · rw [decide_eq_true hc]; cases decide (best < 0) <;> rfl
            · rw [beq_iff_eq.2 hc, show decide (ct.getD e 0 < c) = true from decide_eq_true hc2]; cases decide (best < 0) <;> cases decide (T tm e + ex e < cost) <;> rfl)]
          exact ih (i + 1) m _ _ _ (by omega) (by omega) hps
        · rw [if_neg hc] at hps
          rw [if_f (by
            rw [decide_eq_false (show ¬ best < 0 by omega), decide_eq_false (show ¬ T tm e + ex e < cost by omega)]
            by_cases h4 : T tm e + ex e = cost
            · rw [beq_iff_eq.2 h4, show decide (ct.getD e 0 < c) = false from decide_eq_false (show ¬ T ct e < c by omega)]; decide
            · rw [beq_false_of_ne h4]; simp)]
          exact ih (i + 1) m _ _ _ (by omega) (by omega) hps
  have := go l.length 0 k (-1) 0 0 (by omega) (by omega) rfl
  rw [show ((0 : Nat) : Int) = 0 from rfl] at this
  exact this
end Go.Proofs.Ytchbpdnaodicaaa
