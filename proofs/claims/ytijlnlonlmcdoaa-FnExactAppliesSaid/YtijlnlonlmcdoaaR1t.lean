/-
  FnExactApplies: at every rule, tag list and zoom the law's function returns true. No condition.
-/
import Derived.Test.YtijlnlonlmcdoaaRows
import Derived.Test.YtijlnlonlmcdoaaR1d
import Derived.Test.YtijlnlonlmcdoaaVmU
import Derived.Test.YtijlnlonlmcdoaaLawA
set_option linter.unusedVariables false
namespace Go.Proofs.Ytijlnlonlmcdoaa
open Go Go.Vm Go.Proofs V

abbrev Tags := List (ByteArray × ByteArray)
abbrev Tests := List (ByteArray × (Int × ByteArray))
abbrev Rule := Int × (Int × (Tests × (Bool × (ByteArray × (Int × Int)))))

theorem copy34 (k : Nat) (x : Tags) (hx : x.length ≤ 9223372036854775807) : ∀ (m i : Nat) (acc : Tags), acc.length = x.length → acc.take i = x.take i → i ≤ x.length → x.length - i < m → f20.l34 k x m (acc, (i : Int)) = some x
  | 0, i, acc, _, _, _, h => by omega
  | m + 1, i, acc, hl, ht, hi, h => by
    rw [f20.l34]
    by_cases hlt : i < x.length
    · have h1 : (decide ((i : Int) < (List.length x : Int))) = true := by simpa using hlt
      rw [h1, if_t rfl, if_t ⟨by omega, by omega⟩]
      simp only [f82, Option.bind_some]
      rw [if_t ⟨by omega, by omega⟩, wrap_s (by omega)]
      refine copy34 k x hx m (i + 1) _ (by simp [hl]) ?_ (by omega) (by omega)
      rw [Int.toNat_natCast]
      exact take_set hl ht hlt
    · have h1 : (decide ((i : Int) < (List.length x : Int))) = false := by simpa using hlt
      rw [h1, if_f (by simp), take_all hl ht (by omega)]

theorem copy20 (k : Nat) (x : Tags) (hx : x.length ≤ 1048576) (hk : x.length < k) : f20 k x = some x := by
  unfold f20
  rw [if_t ⟨by omega, by simp; omega⟩]
  exact copy34 k x (by omega) k 0 _ (by simp) (by simp) (by omega) (by omega)

theorem eq30 (k : Nat) (x : Tags) (hx : x.length ≤ 9223372036854775807) : ∀ (m i : Nat), i ≤ x.length → x.length - i < m → f22.l30 k x x m (i : Int) = some true
  | 0, i, _, h => by omega
  | m + 1, i, hi, h => by
    rw [f22.l30]
    by_cases hlt : i < x.length
    · have h1 : (decide ((i : Int) < (List.length x : Int))) = true := by simpa using hlt
      rw [h1, if_t rfl, if_t ⟨by omega, by omega⟩, if_t ⟨by omega, by omega⟩]
      have h2 : ∀ a, f84 k a a = some true := fun a => by simp [f84]
      rw [h2]
      simp only [Option.bind_some]
      rw [if_f (by simp), wrap_s (by omega)]
      exact eq30 k x hx m (i + 1) (by omega) (by omega)
    · have h1 : (decide ((i : Int) < (List.length x : Int))) = false := by simpa using hlt
      rw [h1, if_f (by simp)]

theorem sz28 (k : Nat) (x : Tags) (hx : x.length ≤ 9223372036854775807) : ∀ (m i : Nat) (v : Int), i ≤ x.length → x.length - i < m → ∃ r, f18.l28 k x m (v, (i : Int)) = some r
  | 0, i, v, _, h => by omega
  | m + 1, i, v, hi, h => by
    rw [f18.l28]
    by_cases hlt : i < x.length
    · have h1 : (decide ((i : Int) < (List.length x : Int))) = true := by simpa using hlt
      rw [h1, if_t rfl, if_t ⟨by omega, by omega⟩]
      have h2 : ∀ a v, ∃ r, f80 k a v = some r := fun a v => by
        unfold f80
        split
        · exact ⟨_, rfl⟩
        · split <;> exact ⟨_, rfl⟩
      obtain ⟨r, hr⟩ := h2 (List.getD x (Int.toNat (i : Int)) ((⟨#[]⟩ : ByteArray), (⟨#[]⟩ : ByteArray))) v
      rw [hr]
      simp only [Option.bind_some]
      split
      · exact ⟨_, rfl⟩
      · rw [wrap_s (by omega)]
        exact sz28 k x hx m (i + 1) r (by omega) (by omega)
    · have h1 : (decide ((i : Int) < (List.length x : Int))) = false := by simpa using hlt
      rw [h1, if_f (by simp)]
      exact ⟨_, rfl⟩

/-- The tag that is looked for: the specification's word and the program's. -/
theorem find18 (k : Nat) (x : Tags) (s : ByteArray) (hx : x.length ≤ 9223372036854775807) : ∀ (m i : Nat), i ≤ x.length → x.length - i < m →
    ∃ r t, f109.l12 k x s m (i : Int) = some r ∧ f81.l18 k x s m (i : Int) = some t ∧ (if (decide ((r : Int) ≥ (0 : Int))) then (if (0 ≤ r ∧ r < (List.length x : Int)) then (some (List.getD x (Int.toNat r) ((⟨#[]⟩ : ByteArray), (⟨#[]⟩ : ByteArray))).2) else none) else (some (⟨#[]⟩ : ByteArray))) = some t
  | 0, i, _, h => by omega
  | m + 1, i, hi, h => by
    rw [f109.l12, f81.l18]
    by_cases hlt : i < x.length
    · have h1 : (decide ((i : Int) < (List.length x : Int))) = true := by simpa using hlt
      have hbd : (0 : Int) ≤ (i : Int) ∧ (i : Int) < (List.length x : Int) := ⟨by omega, by omega⟩
      rw [h1, if_t rfl, if_t rfl, if_t hbd, if_t hbd]
      by_cases hb : (ByteArray.toList (List.getD x (Int.toNat (i : Int)) ((⟨#[]⟩ : ByteArray), (⟨#[]⟩ : ByteArray))).1 == ByteArray.toList s) = true
      · rw [if_t hb, if_t hb, if_t hbd]
        refine ⟨_, _, rfl, rfl, ?_⟩
        rw [if_t (by simp), if_t hbd]
      · rw [if_f hb, if_f hb, wrap_s (by omega)]
        exact find18 k x s hx m (i + 1) (by omega) (by omega)
    · have h1 : (decide ((i : Int) < (List.length x : Int))) = false := by simpa using hlt
      rw [h1, if_f (by simp), if_f (by simp)]
      refine ⟨_, _, rfl, rfl, ?_⟩
      rw [if_f (by simp)]

theorem tagof (k : Nat) (x : Tags) (s : ByteArray) (hx : x.length ≤ 9223372036854775807) (hk : x.length < k) : ∃ t, f81 k x s = some t ∧ f83 k x s = some t := by
  obtain ⟨r, t, h1, h2, h3⟩ := find18 k x s hx k 0 (by omega) (by omega)
  refine ⟨t, h2, ?_⟩
  unfold f83 f109
  have h1' : f109.l12 k x s k (0 : Int) = some r := h1
  rw [h1']
  exact h3


theorem copyT34 (k : Nat) (x : Tests) (hx : x.length ≤ 9223372036854775807) : ∀ (m i : Nat) (acc : Tests), acc.length = x.length → acc.take i = x.take i → i ≤ x.length → x.length - i < m → f108.l34 k x m (acc, (i : Int)) = some x
  | 0, i, acc, _, _, _, h => by omega
  | m + 1, i, acc, hl, ht, hi, h => by
    rw [f108.l34]
    by_cases hlt : i < x.length
    · have h1 : (decide ((i : Int) < (List.length x : Int))) = true := by simpa using hlt
      rw [h1, if_t rfl, if_t ⟨by omega, by omega⟩]
      simp only [f139, Option.bind_some]
      rw [if_t ⟨by omega, by omega⟩, wrap_s (by omega)]
      refine copyT34 k x hx m (i + 1) _ (by simp [hl]) ?_ (by omega) (by omega)
      rw [Int.toNat_natCast]
      exact take_set hl ht hlt
    · have h1 : (decide ((i : Int) < (List.length x : Int))) = false := by simpa using hlt
      rw [h1, if_f (by simp), take_all hl ht (by omega)]

theorem copyT (k : Nat) (x : Tests) (hx : x.length ≤ 1048576) (hk : x.length < k) : f108 k x = some x := by
  unfold f108
  rw [if_t ⟨by omega, by simp; omega⟩]
  exact copyT34 k x (by omega) k 0 _ (by simp) (by simp) (by omega) (by omega)

theorem eqT30 (k : Nat) (x : Tests) (hx : x.length ≤ 9223372036854775807) : ∀ (m i : Nat), i ≤ x.length → x.length - i < m → f110.l30 k x x m (i : Int) = some true
  | 0, i, _, h => by omega
  | m + 1, i, hi, h => by
    rw [f110.l30]
    by_cases hlt : i < x.length
    · have h1 : (decide ((i : Int) < (List.length x : Int))) = true := by simpa using hlt
      rw [h1, if_t rfl, if_t ⟨by omega, by omega⟩, if_t ⟨by omega, by omega⟩]
      have h2 : ∀ a, f140 k a a = some true := fun a => by simp [f140]
      rw [h2]
      simp only [Option.bind_some]
      rw [if_f (by simp), wrap_s (by omega)]
      exact eqT30 k x hx m (i + 1) (by omega) (by omega)
    · have h1 : (decide ((i : Int) < (List.length x : Int))) = false := by simpa using hlt
      rw [h1, if_f (by simp)]



def okT (l : Tests) : Prop := ∀ t ∈ l, t.1.size ≤ 9223372036854775807 ∧ t.2.2.size ≤ 9223372036854775807

theorem sz138 {k : Nat} {t : ByteArray × (Int × ByteArray)} {v : Int} (h0 : 0 ≤ v) (h1 : v ≤ 1048576) (h2 : t.1.size ≤ 9223372036854775807) (h3 : t.2.2.size ≤ 9223372036854775807) : ∃ r, f138 k t v = some r ∧ r ≤ v := by
  unfold f138
  rw [wrap_in (n := v - (ByteArray.size t.1 : Int)) (by omega) (by omega)]
  by_cases h : v - (ByteArray.size t.1 : Int) < 0
  · rw [if_t (by simpa using h)]; exact ⟨_, rfl, by omega⟩
  · rw [if_f (by simpa using h), wrap_in (by omega) (by omega)]
    split
    · exact ⟨_, rfl, by omega⟩
    · exact ⟨_, rfl, by omega⟩

theorem szT28 (k : Nat) (x : Tests) (hx : x.length ≤ 9223372036854775807) (hw : okT x) : ∀ (m i : Nat) (v : Int), 0 ≤ v → v ≤ 1048576 → i ≤ x.length → x.length - i < m → ∃ r, f107.l28 k x m (v, (i : Int)) = some r ∧ r ≤ v
  | 0, i, v, _, _, _, h => by omega
  | m + 1, i, v, h0, h1, hi, h => by
    rw [f107.l28]
    by_cases hlt : i < x.length
    · rw [if_t (by simpa using hlt), if_t ⟨by omega, by omega⟩]
      have hm : (List.getD x (Int.toNat (i : Int)) ((⟨#[]⟩ : ByteArray), ((0 : Int), (⟨#[]⟩ : ByteArray)))) ∈ x := by
        rw [Int.toNat_natCast, List.getD_eq_getElem?_getD, List.getElem?_eq_getElem hlt]
        exact List.getElem_mem hlt
      obtain ⟨q1, q2⟩ := hw _ hm
      obtain ⟨r, hr, hle⟩ := sz138 (k := k) h0 h1 q1 q2
      rw [hr]
      simp only [Option.bind_some]
      by_cases hn : r < 0
      · rw [if_t (by simpa using hn)]; exact ⟨_, rfl, by omega⟩
      · rw [if_f (by simpa using hn), wrap_s (by omega)]
        obtain ⟨r2, h3, h4⟩ := szT28 k x hx hw m (i + 1) r (by omega) (by omega) (by omega) (by omega)
        exact ⟨r2, h3, by omega⟩
    · rw [if_f (by simpa using hlt)]
      exact ⟨_, rfl, by omega⟩

theorem sz51 (k : Nat) (x : Rule) (hx : x.2.2.1.length ≤ 9223372036854775807) (hw : okT x.2.2.1) (hs : x.2.2.2.2.1.size ≤ 9223372036854775807) (hk : x.2.2.1.length < k) :
    ∃ r, f51 k x 1048576 = some r ∧ r ≤ 1048576 ∧ (¬ r < 0 → x.2.2.1.length ≤ 1048576) := by
  unfold f51 f107
  rw [wrap_in (n := (1048576 : Int) - (List.length x.2.2.1 : Int)) (by omega) (by omega)]
  by_cases h : (1048576 : Int) - (List.length x.2.2.1 : Int) < 0
  · rw [if_t (by simpa using h)]
    simp only [Option.bind_some]
    rw [if_t (by simp)]
    exact ⟨_, rfl, by omega, fun h => absurd (by omega) h⟩
  · rw [if_f (by simpa using h)]
    obtain ⟨r, hr, hle⟩ := szT28 k x.2.2.1 hx hw k 0 ((1048576 : Int) - (List.length x.2.2.1 : Int)) (by omega) (by omega) (by omega) (by omega)
    have hr' : f107.l28 k x.2.2.1 k ((1048576 : Int) - (List.length x.2.2.1 : Int), (0 : Int)) = some r := hr
    rw [hr']
    simp only [Option.bind_some]
    by_cases hn : r < 0
    · rw [if_t (by simpa using hn)]; exact ⟨_, rfl, by omega, fun h => absurd (by omega) h⟩
    · rw [if_f (by simpa using hn), wrap_in (by omega) (by omega)]
      split
      · exact ⟨_, rfl, by omega, fun h => absurd (by omega) h⟩
      · exact ⟨_, rfl, by omega, fun _ => by omega⟩

/-- Has any tag from a place on this key? -/
def hasK (x : Tags) (s : ByteArray) (i : Nat) : Bool := (x.drop i).any fun t => ByteArray.toList t.1 == ByteArray.toList s

theorem hasK_step {x : Tags} {s : ByteArray} {i : Nat} (h : i < x.length) : hasK x s i = ((ByteArray.toList (List.getD x (Int.toNat (i : Int)) ((⟨#[]⟩ : ByteArray), (⟨#[]⟩ : ByteArray))).1 == ByteArray.toList s) || hasK x s (i + 1)) := by
  unfold hasK
  rw [List.drop_eq_getElem_cons h, List.any_cons, Int.toNat_natCast, List.getD_eq_getElem?_getD, List.getElem?_eq_getElem h]
  rfl
theorem hasK_end {x : Tags} {s : ByteArray} {i : Nat} (h : x.length ≤ i) : hasK x s i = false := by
  unfold hasK
  rw [List.drop_eq_nil_of_le h]; rfl

theorem idx12 (k : Nat) (x : Tags) (s : ByteArray) (hx : x.length ≤ 9223372036854775807) : ∀ (m i : Nat), i ≤ x.length → x.length - i < m → ∃ r, f109.l12 k x s m (i : Int) = some r ∧ (decide (r ≥ 0)) = hasK x s i
  | 0, i, _, h => by omega
  | m + 1, i, hi, h => by
    rw [f109.l12]
    by_cases hlt : i < x.length
    · rw [if_t (by simpa using hlt), if_t ⟨by omega, by omega⟩, hasK_step hlt]
      by_cases hb : (ByteArray.toList (List.getD x (Int.toNat (i : Int)) ((⟨#[]⟩ : ByteArray), (⟨#[]⟩ : ByteArray))).1 == ByteArray.toList s) = true
      · rw [if_t hb, hb]; exact ⟨_, rfl, by simp⟩
      · rw [if_f hb, wrap_s (by omega)]
        rw [Bool.not_eq_true] at hb
        rw [hb, Bool.false_or]
        exact idx12 k x s hx m (i + 1) (by omega) (by omega)
    · rw [if_f (by simpa using hlt), hasK_end (by omega)]
      exact ⟨_, rfl, by simp⟩

def fin (t : ByteArray × (Int × ByteArray)) (r : ByteArray) (q : Unit → Option Bool) (b : Bool) : Option Bool :=
  (if ((t.2.1 : Int) == (1 : Int)) then (if (!(ByteArray.toList r == ByteArray.toList t.2.2)) then (some false) else (q ())) else (if ((t.2.1 : Int) == (2 : Int)) then (if (ByteArray.toList r == ByteArray.toList t.2.2) then (some false) else (q ())) else (if ((t.2.1 : Int) == (3 : Int)) then (if (!b) then (some false) else (q ())) else (if ((t.2.1 : Int) == (4 : Int)) then (if b then (some false) else (q ())) else (some false)))))

theorem in396 (k : Nat) (x1 : Tags) (x0 : Rule) (v : Int) (r : ByteArray) (q : Unit → Option Bool) (hx : x1.length ≤ 9223372036854775807) : ∀ (m j : Nat) (acc : Bool), j ≤ x1.length → x1.length - j < m →
    f52.l396 k x1 x0 v r q m (acc, (j : Int)) = fin (List.getD x0.2.2.1 (Int.toNat v) ((⟨#[]⟩ : ByteArray), ((0 : Int), (⟨#[]⟩ : ByteArray)))) r q (acc || hasK x1 (List.getD x0.2.2.1 (Int.toNat v) ((⟨#[]⟩ : ByteArray), ((0 : Int), (⟨#[]⟩ : ByteArray)))).1 j)
  | 0, j, acc, _, h => by omega
  | m + 1, j, acc, hj, h => by
    rw [f52.l396]
    by_cases hlt : j < x1.length
    · rw [if_t (by simpa using hlt), if_t (fun _ => ⟨by omega, by omega⟩), wrap_s (by omega), in396 k x1 x0 v r q hx m (j + 1) _ (by omega) (by omega), hasK_step hlt]
      cases acc <;> simp
    · rw [if_f (by simpa using hlt), hasK_end (by omega), Bool.or_false]
      rfl

theorem apply_same (k : Nat) (x0 : Rule) (x1 : Tags) (hx : x1.length ≤ 9223372036854775807) (hk : x1.length < k) (ht : x0.2.2.1.length ≤ 9223372036854775807) : ∀ (m i : Nat), i ≤ x0.2.2.1.length → x0.2.2.1.length - i < m → ∃ b, f52.l207 k x0 x1 m (i : Int) = some b ∧ f54.l120 k x0 x1 m (i : Int) = some b
  | 0, i, _, h => by omega
  | m + 1, i, hi, h => by
    rw [f52.l207, f54.l120]
    by_cases hlt : i < x0.2.2.1.length
    · have hbd : (0 : Int) ≤ (i : Int) ∧ (i : Int) < (List.length x0.2.2.1 : Int) := ⟨by omega, by omega⟩
      have hl : (decide ((i : Int) < (List.length x0.2.2.1 : Int))) = true := by simpa using hlt
      simp only [if_t hl, if_t hbd]
      generalize ht1 : (List.getD x0.2.2.1 (Int.toNat (i : Int)) ((⟨#[]⟩ : ByteArray), ((0 : Int), (⟨#[]⟩ : ByteArray)))) = t
      obtain ⟨tv, h1, h2⟩ := tagof k x1 t.1 hx hk
      obtain ⟨r, h3, h4⟩ := idx12 k x1 t.1 hx k 0 (by omega) (by omega)
      have h3' : f109 k x1 t.1 = some r := h3
      have h5 := in396 k x1 x0 (i : Int) tv (f52.j379 k (i : Int) ((f52.l207 k x0 x1) m)) hx k 0 false (by omega) (by omega)
      rw [ht1, Bool.false_or] at h5
      have h5' : f52.l396 k x1 x0 (i : Int) tv (f52.j379 k (i : Int) ((f52.l207 k x0 x1) m)) k (false, (0 : Int)) = fin t tv (f52.j379 k (i : Int) ((f52.l207 k x0 x1) m)) (hasK x1 t.1 0) := h5
      obtain ⟨b, q1, q2⟩ := apply_same k x0 x1 hx hk ht m (i + 1) (by omega) (by omega)
      simp only [h1, h2, h3', Option.bind_some, h5', fin, f52.j379, f54.j229, wrap_s (show i < 9223372036854775807 by omega), q1, q2, ← h4]
      have h6 : (decide (r < 0)) = !(decide (r ≥ 0)) := by
        by_cases hr : r < 0
        · have : ¬ r ≥ 0 := by omega
          simp [hr, this]
        · have : r ≥ 0 := by omega
          simp [hr, this]
      rw [h6]
      generalize decide (r ≥ 0) = hb
      generalize (ByteArray.toList tv == ByteArray.toList t.2.2) = eb
      generalize t.2.1 = kd
      by_cases k1 : kd = 1
      · subst k1; cases eb <;> simp
      · by_cases k2 : kd = 2
        · subst k2; cases eb <;> simp
        · by_cases k3 : kd = 3
          · subst k3; cases hb <;> simp
          · by_cases k4 : kd = 4
            · subst k4; cases hb <;> simp
            · simp [k1, k2, k3, k4]
    · have hl : ¬ (decide ((i : Int) < (List.length x0.2.2.1 : Int))) = true := by simpa using hlt
      rw [if_f hl, if_f hl]
      exact ⟨_, rfl, rfl⟩

theorem law11 (k : Nat) (x0 : Rule) (x1 : Tags) (x2 : Int) (ht : x0.2.2.1.length ≤ 9223372036854775807) (hw : okT x0.2.2.1) (hs : x0.2.2.2.2.1.size ≤ 9223372036854775807) (hx : x1.length ≤ 9223372036854775807)
    (hk1 : x0.2.2.1.length < k) (hk2 : x1.length < k) : f11 k x0 x1 x2 = some true := by
  obtain ⟨r, h1, h2, h3⟩ := sz51 k x0 ht hw hs hk1
  unfold f11
  rw [h1]
  simp only [Option.bind_some]
  by_cases hn : r < 0
  · rw [if_t (by simpa using hn)]
  · rw [if_f (by simpa using hn)]
    have hl0 := h3 hn
    have h18 : ∃ r2, f18 k x1 r = some r2 ∧ (¬ r2 < 0 → x1.length ≤ 1048576) := by
      unfold f18
      rw [wrap_in (by omega) (by omega)]
      by_cases h : (r - (List.length x1 : Int)) < 0
      · rw [if_t (by simpa using h)]; exact ⟨_, rfl, fun h => absurd (by omega) h⟩
      · rw [if_f (by simpa using h)]
        obtain ⟨r2, hr⟩ := sz28 k x1 (by omega) k 0 (r - (List.length x1 : Int)) (by omega) (by omega)
        exact ⟨r2, hr, fun _ => by omega⟩
    obtain ⟨r2, h4, h5⟩ := h18
    rw [h4]
    simp only [Option.bind_some]
    by_cases hn2 : r2 < 0
    · rw [if_t (by simpa using hn2)]
    · rw [if_f (by simpa using hn2)]
      have hl1 := h5 hn2
      have hc0 : f53 k x0 = some x0 := by
        unfold f53
        rw [copyT k x0.2.2.1 hl0 hk1]
        rfl
      have hc1 := copy20 k x1 hl1 hk2
      have hsame : ∃ b, f52 k x0 x1 x2 = some b ∧ f54 k x0 x1 x2 = some b := by
        unfold f52 f54
        split
        · exact ⟨_, rfl, rfl⟩
        · exact apply_same k x0 x1 hx hk2 ht k 0 (by omega) (by omega)
      obtain ⟨b, h6, h7⟩ := hsame
      have h55 : f55 k x0 x0 = some true := by
        have h110 : f110 k x0.2.2.1 x0.2.2.1 = some true := by
          unfold f110
          rw [if_f (by simp)]
          exact eqT30 k x0.2.2.1 (by omega) k 0 (by omega) (by omega)
        unfold f55
        simp [h110]
      have h22 : f22 k x1 x1 = some true := by
        unfold f22
        rw [if_f (by simp)]
        exact eq30 k x1 (by omega) k 0 (by omega) (by omega)
      simp only [hc0, hc1, h6, h7, h55, h22, Option.bind_some]
      simp

theorem own : ownKnob Try.prog.godebug = none := by kernel_rfl
def shs11 : List Sh := [sh5, sh0, .int .i64]
set_option maxRecDepth 100000 in
theorem call11 (ins : List TV) (h1 : ins.map (·.sh) = shs11) (h2 : ∀ t ∈ ins, t.sh.wf t.x) : PCall Try.prog 11 ins [⟨.bool, true⟩] := by
  match ins, h1 with
  | [⟨_, x0⟩, ⟨_, x1⟩, ⟨_, x2⟩], h1 =>
    simp only [List.map_cons, List.map_nil, shs11, List.cons.injEq, and_true] at h1
    obtain ⟨rfl, rfl, rfl⟩ := h1
    have hl : List.length (x1 : Tags) ≤ 9223372036854775807 := (h2 ⟨sh0, x1⟩ (List.mem_cons_of_mem _ List.mem_cons_self)).1
    obtain ⟨_, _, ⟨w1, w2⟩, _, w3, _⟩ := h2 ⟨sh5, x0⟩ List.mem_cons_self
    exact c11 (List.length (x0 : Rule).2.2.1 + List.length (x1 : Tags) + 1) x0 x1 x2 true (law11 _ x0 x1 x2 w1 (fun t ht => ⟨(w2 t ht).1, (w2 t ht).2.2⟩) w3 hl (by omega) (by omega))

set_option maxRecDepth 100000 in
theorem lifted11 (os : Os) (started : os.Started) (H : Type) (enc : TypeId × Value → H) :
    ReturnsInHanded {} Try.checked os 11 .any (Rows.fnExactAppliesSpec.pre6 enc Try.prog Try.f11 Rows.fnExactAppliesRow.domain false) (Rows.fnExactAppliesSpec.post enc Try.prog Try.f11 false true false false) := by
  refine returnsInHanded_of_change (C := Try.checked) own started (by kernel_rfl) Try.func11
    (ChangeSpec.witness6 (enc := enc) (C := Try.checked) (s := Rows.fnExactAppliesSpec) false ⟨#[], #[.agg #[.int .i64 0, .int .i64 0, .slice none 0 0, .bool false, .string ⟨#[]⟩, .int .i64 0, .int .i64 0], .slice none 0 0, .int .i64 0], []⟩ 8 (by kernel_rfl) (by kernel_rfl) (by kernel_rfl) (by kernel_rfl)) ?_
  intro W base args ds gs before hval hW _ _
  exact row_step (T := tbl) (m := 8) (tb := 4) tok (by kernel_rfl) (by kernel_rfl) rfl Try.underlying4 rfl
    (fun ds hl => by
      match ds, hl with
      | [d1, d2, d3], _ => rfl)
    (by kernel_rfl) (shs := shs11) (by kernel_rfl) call11 hval hW

theorem over11 : Rows.fnExactAppliesRow.holds Try.pinned (OpenSpec.ofChange Rows.fnExactAppliesSpec) :=
  OpenClaim.holds_of_wide 11 Try.f11 rfl rfl rfl rfl rfl rfl rfl ⟨rfl, rfl, rfl, rfl, rfl⟩ rfl rfl rfl rfl rfl (by kernel_rfl) Try.func11 (by kernel_rfl)
    (of_decide_eq_true (by kernel_rfl)) (by unfold Func.isWrapper; first | (rw [if_pos (by decide +kernel)]; kernel_rfl) | (rw [if_neg (by decide +kernel)]; exact ⟨rfl, rfl⟩))
    (fun os started H enc _ => lifted11 os started H enc)

theorem FnExactApplies_holds : Rows.FnExactAppliesSaid := over11
#print axioms FnExactApplies_holds
end Go.Proofs.Ytijlnlonlmcdoaa
