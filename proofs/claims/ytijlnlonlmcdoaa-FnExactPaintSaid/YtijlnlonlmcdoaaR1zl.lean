/-
  Paint: the specification's walk over the rules and the program's walk answer alike. No condition.
-/
import Derived.Test.YtijlnlonlmcdoaaR1zp
set_option linter.unusedVariables false
set_option linter.unusedSimpArgs false
namespace Go.Proofs.Ytijlnlonlmcdoaa
open Go Go.Vm Go.Proofs V

abbrev Tag := ByteArray × ByteArray
abbrev Tags := List Tag
abbrev Test := ByteArray × (Int × ByteArray)
abbrev Tests := List Test
abbrev Rule := Int × (Int × (Tests × (Bool × (ByteArray × (Int × Int)))))
abbrev dRu : Rule := ((0 : Int), ((0 : Int), (([] : Tests), (false, ((⟨#[]⟩ : ByteArray), ((0 : Int), (0 : Int)))))))
theorem find18 (k : Nat) (x : Tags) (s : ByteArray) (hx : x.length ≤ 9223372036854775807) : ∀ (m i : Nat), i ≤ x.length → x.length - i < m →
    ∃ r t, f109.l12 k x s m (i : Int) = some r ∧ f81.l18 k x s m (i : Int) = some t ∧ (if (decide ((r : Int) ≥ (0 : Int))) then (if (0 ≤ r ∧ r < (List.length x : Int)) then (some (List.getD x (Int.toNat r) ((⟨#[]⟩ : ByteArray), (⟨#[]⟩ : ByteArray))).2) else none) else (some (⟨#[]⟩ : ByteArray))) = some t
  | 0, i, _, h => by omega
  | m + 1, i, hi, h => by
    rw [f109.l12, f81.l18]
    by_cases hlt : i < x.length
    · have h1 : (decide ((i : Int) < (List.length x : Int))) = true := by simpa using hlt
      have hbd : (0 : Int) ≤ (i : Int) ∧ (i : Int) < (List.length x : Int) := ⟨by omega, by omega⟩
      rw [h1, if_t rfl, if_t rfl, if_t hbd, if_t hbd]
      by_cases hb : (ByteArray.toList (List.getD x (Int.toNat (i : Int)) ((⟨#[]⟩ : ByteArray), (⟨#[]⟩ : ByteArray))).1 == ByteArray.toList s) = true
      · rw [if_t hb, if_t hb, if_t hbd]
        refine ⟨_, _, rfl, rfl, ?_⟩
        rw [if_t (by simp), if_t hbd]
      · rw [if_f hb, if_f hb, wrap_s (by omega)]
        exact find18 k x s hx m (i + 1) (by omega) (by omega)
    · have h1 : (decide ((i : Int) < (List.length x : Int))) = false := by simpa using hlt
      rw [h1, if_f (by simp), if_f (by simp)]
      refine ⟨_, _, rfl, rfl, ?_⟩
      rw [if_f (by simp)]

theorem tagof (k : Nat) (x : Tags) (s : ByteArray) (hx : x.length ≤ 9223372036854775807) (hk : x.length < k) : ∃ t, f81 k x s = some t ∧ f83 k x s = some t := by
  obtain ⟨r, t, h1, h2, h3⟩ := find18 k x s hx k 0 (by omega) (by omega)
  refine ⟨t, h2, ?_⟩
  unfold f83 f109
  have h1' : f109.l12 k x s k (0 : Int) = some r := h1
  rw [h1']
  exact h3


/-- Has any tag from a place on this key? -/
def hasK (x : Tags) (s : ByteArray) (i : Nat) : Bool := (x.drop i).any fun t => ByteArray.toList t.1 == ByteArray.toList s

theorem hasK_step {x : Tags} {s : ByteArray} {i : Nat} (h : i < x.length) : hasK x s i = ((ByteArray.toList (List.getD x (Int.toNat (i : Int)) ((⟨#[]⟩ : ByteArray), (⟨#[]⟩ : ByteArray))).1 == ByteArray.toList s) || hasK x s (i + 1)) := by
  unfold hasK
  rw [List.drop_eq_getElem_cons h, List.any_cons, Int.toNat_natCast, List.getD_eq_getElem?_getD, List.getElem?_eq_getElem h]
  rfl
theorem hasK_end {x : Tags} {s : ByteArray} {i : Nat} (h : x.length ≤ i) : hasK x s i = false := by
  unfold hasK
  rw [List.drop_eq_nil_of_le h]; rfl

theorem idx12 (k : Nat) (x : Tags) (s : ByteArray) (hx : x.length ≤ 9223372036854775807) : ∀ (m i : Nat), i ≤ x.length → x.length - i < m → ∃ r, f109.l12 k x s m (i : Int) = some r ∧ (decide (r ≥ 0)) = hasK x s i
  | 0, i, _, h => by omega
  | m + 1, i, hi, h => by
    rw [f109.l12]
    by_cases hlt : i < x.length
    · rw [if_t (by simpa using hlt), if_t ⟨by omega, by omega⟩, hasK_step hlt]
      by_cases hb : (ByteArray.toList (List.getD x (Int.toNat (i : Int)) ((⟨#[]⟩ : ByteArray), (⟨#[]⟩ : ByteArray))).1 == ByteArray.toList s) = true
      · rw [if_t hb, hb]; exact ⟨_, rfl, by simp⟩
      · rw [if_f hb, wrap_s (by omega)]
        rw [Bool.not_eq_true] at hb
        rw [hb, Bool.false_or]
        exact idx12 k x s hx m (i + 1) (by omega) (by omega)
    · rw [if_f (by simpa using hlt), hasK_end (by omega)]
      exact ⟨_, rfl, by simp⟩

def fin (t : ByteArray × (Int × ByteArray)) (r : ByteArray) (q : Unit → Option Bool) (b : Bool) : Option Bool :=
  (if ((t.2.1 : Int) == (1 : Int)) then (if (!(ByteArray.toList r == ByteArray.toList t.2.2)) then (some false) else (q ())) else (if ((t.2.1 : Int) == (2 : Int)) then (if (ByteArray.toList r == ByteArray.toList t.2.2) then (some false) else (q ())) else (if ((t.2.1 : Int) == (3 : Int)) then (if (!b) then (some false) else (q ())) else (if ((t.2.1 : Int) == (4 : Int)) then (if b then (some false) else (q ())) else (some false)))))

theorem in396 (k : Nat) (x1 : Tags) (x0 : Rule) (v : Int) (r : ByteArray) (q : Unit → Option Bool) (hx : x1.length ≤ 9223372036854775807) : ∀ (m j : Nat) (acc : Bool), j ≤ x1.length → x1.length - j < m →
    f52.l396 k x1 x0 v r q m (acc, (j : Int)) = fin (List.getD x0.2.2.1 (Int.toNat v) ((⟨#[]⟩ : ByteArray), ((0 : Int), (⟨#[]⟩ : ByteArray)))) r q (acc || hasK x1 (List.getD x0.2.2.1 (Int.toNat v) ((⟨#[]⟩ : ByteArray), ((0 : Int), (⟨#[]⟩ : ByteArray)))).1 j)
  | 0, j, acc, _, h => by omega
  | m + 1, j, acc, hj, h => by
    rw [f52.l396]
    by_cases hlt : j < x1.length
    · rw [if_t (by simpa using hlt), if_t (fun _ => ⟨by omega, by omega⟩), wrap_s (by omega), in396 k x1 x0 v r q hx m (j + 1) _ (by omega) (by omega), hasK_step hlt]
      cases acc <;> simp
    · rw [if_f (by simpa using hlt), hasK_end (by omega), Bool.or_false]
      rfl

theorem apply_same (k : Nat) (x0 : Rule) (x1 : Tags) (hx : x1.length ≤ 9223372036854775807) (hk : x1.length < k) (ht : x0.2.2.1.length ≤ 9223372036854775807) : ∀ (m i : Nat), i ≤ x0.2.2.1.length → x0.2.2.1.length - i < m → ∃ b, f52.l207 k x0 x1 m (i : Int) = some b ∧ f54.l120 k x0 x1 m (i : Int) = some b
  | 0, i, _, h => by omega
  | m + 1, i, hi, h => by
    rw [f52.l207, f54.l120]
    by_cases hlt : i < x0.2.2.1.length
    · have hbd : (0 : Int) ≤ (i : Int) ∧ (i : Int) < (List.length x0.2.2.1 : Int) := ⟨by omega, by omega⟩
      have hl : (decide ((i : Int) < (List.length x0.2.2.1 : Int))) = true := by simpa using hlt
      simp only [if_t hl, if_t hbd]
      generalize ht1 : (List.getD x0.2.2.1 (Int.toNat (i : Int)) ((⟨#[]⟩ : ByteArray), ((0 : Int), (⟨#[]⟩ : ByteArray)))) = t
      obtain ⟨tv, h1, h2⟩ := tagof k x1 t.1 hx hk
      obtain ⟨r, h3, h4⟩ := idx12 k x1 t.1 hx k 0 (by omega) (by omega)
      have h3' : f109 k x1 t.1 = some r := h3
      have h5 := in396 k x1 x0 (i : Int) tv (f52.j379 k (i : Int) ((f52.l207 k x0 x1) m)) hx k 0 false (by omega) (by omega)
      rw [ht1, Bool.false_or] at h5
      have h5' : f52.l396 k x1 x0 (i : Int) tv (f52.j379 k (i : Int) ((f52.l207 k x0 x1) m)) k (false, (0 : Int)) = fin t tv (f52.j379 k (i : Int) ((f52.l207 k x0 x1) m)) (hasK x1 t.1 0) := h5
      obtain ⟨b, q1, q2⟩ := apply_same k x0 x1 hx hk ht m (i + 1) (by omega) (by omega)
      simp only [h1, h2, h3', Option.bind_some, h5', fin, f52.j379, f54.j229, wrap_s (show i < 9223372036854775807 by omega), q1, q2, ← h4]
      have h6 : (decide (r < 0)) = !(decide (r ≥ 0)) := by
        by_cases hr : r < 0
        · have : ¬ r ≥ 0 := by omega
          simp [hr, this]
        · have : r ≥ 0 := by omega
          simp [hr, this]
      rw [h6]
      generalize decide (r ≥ 0) = hb
      generalize (ByteArray.toList tv == ByteArray.toList t.2.2) = eb
      generalize t.2.1 = kd
      by_cases k1 : kd = 1
      · subst k1; cases eb <;> simp
      · by_cases k2 : kd = 2
        · subst k2; cases eb <;> simp
        · by_cases k3 : kd = 3
          · subst k3; cases hb <;> simp
          · by_cases k4 : kd = 4
            · subst k4; cases hb <;> simp
            · simp [k1, k2, k3, k4]
    · have hl : ¬ (decide ((i : Int) < (List.length x0.2.2.1 : Int))) = true := by simpa using hlt
      rw [if_f hl, if_f hl]
      exact ⟨_, rfl, rfl⟩

theorem applies_same (k : Nat) (x0 : Rule) (x1 : Tags) (x2 : Int) (hx : x1.length ≤ 1048576) (hk : 1048576 < k) (ht : x0.2.2.1.length ≤ 1048576) : ∃ b, f52 k x0 x1 x2 = some b ∧ f54 k x0 x1 x2 = some b := by
  unfold f52 f54
  split
  · exact ⟨_, rfl, rfl⟩
  · exact apply_same k x0 x1 (by omega) (by omega) (by omega) k 0 (by omega) (by omega)

theorem paint_same (k : Nat) (hk : 1048576 < k) (x0 : List Rule) (x1 : Tags) (x2 : Int) (h0 : x0.length ≤ 1048576) (ht : ∀ r ∈ x0, r.2.2.1.length ≤ 1048576) (hx : x1.length ≤ 1048576) : ∀ (n m1 m2 : Nat), n ≤ x0.length → n < m1 → n < m2 →
    ∃ y, f67.l48 k x0 x1 x2 m1 ((n : Int) - 1) = some y ∧ f69.l42 k x0 x1 x2 m2 ((n : Int) - 1) = some y ∧ (y.1 = dRu ∨ y.1 ∈ x0)
  | 0, m1, m2, h1, h2, h3 => by
    obtain ⟨m1, rfl⟩ : ∃ q, m1 = q + 1 := ⟨m1 - 1, by omega⟩
    obtain ⟨m2, rfl⟩ : ∃ q, m2 = q + 1 := ⟨m2 - 1, by omega⟩
    rw [f67.l48, f69.l42, if_f (by simp), if_f (by simp)]
    exact ⟨_, rfl, rfl, .inl rfl⟩
  | n + 1, m1, m2, h1, h2, h3 => by
    obtain ⟨m1, rfl⟩ : ∃ q, m1 = q + 1 := ⟨m1 - 1, by omega⟩
    obtain ⟨m2, rfl⟩ : ∃ q, m2 = q + 1 := ⟨m2 - 1, by omega⟩
    have e : ((n + 1 : Nat) : Int) - 1 = (n : Int) := by omega
    have hb : (0 : Int) ≤ (n : Int) ∧ (n : Int) < (x0.length : Int) := ⟨by omega, by omega⟩
    have hc : decide ((n : Int) ≥ 0) = true := by simp
    have w : IntKind.i64.wrap ((n : Int) - 1) = (n : Int) - 1 := wrap_in (by omega) (by omega)
    have hr : x0.getD n dRu ∈ x0 := getD_mem' (by omega)
    have hrt := ht _ hr
    rw [f67.l48, f69.l42, e]
    simp only [if_t hc, if_t hb, Int.toNat_natCast, w, f130]
    change ∃ y, ((f52 k (x0.getD n dRu) x1 x2).bind _ = _) ∧ ((f54 k (x0.getD n dRu) x1 x2).bind _ = _) ∧ _
    generalize x0.getD n dRu = r at *
    obtain ⟨b, q1, q2⟩ := applies_same k r x1 x2 hx hk hrt
    rw [q1, q2]
    simp only [Option.bind_some]
    cases b with
    | false =>
      obtain ⟨y, y1, y2, y3⟩ := paint_same k hk x0 x1 x2 h0 ht hx n m1 m2 (by omega) (by omega) (by omega)
      exact ⟨y, by simpa using y1, by simpa using y2, y3⟩
    | true =>
      rw [if_t rfl, if_t rfl]
      by_cases hh : r.2.2.2.1 = true
      · rw [if_t hh, if_t hh]; exact ⟨_, rfl, rfl, .inl rfl⟩
      · rw [if_f hh, if_f hh]
        have hcap : (List.length ([] : Tests) + List.length r.2.2.1) * 40 ≤ 140737488355328 := by simp; omega
        rw [if_t hcap, if_t hcap]
        exact ⟨_, rfl, rfl, .inr (by simpa using hr)⟩

theorem same_paint (k : Nat) (hk : 1048576 < k) (x0 : List Rule) (x1 : Tags) (x2 : Int) (h0 : x0.length ≤ 1048576) (ht : ∀ r ∈ x0, r.2.2.1.length ≤ 1048576) (hx : x1.length ≤ 1048576) :
    ∃ y, f67 k x0 x1 x2 = some y ∧ f69 k x0 x1 x2 = some y ∧ (y.1 = dRu ∨ y.1 ∈ x0) := by
  unfold f67 f69
  by_cases hl : (x0.length : Int) > 100
  · rw [if_t (by simpa using hl), if_t (by simpa using hl)]; exact ⟨_, rfl, rfl, .inl rfl⟩
  · rw [if_f (by simpa using hl), if_f (by simpa using hl), wrap_in (by omega) (by omega)]
    exact paint_same k hk x0 x1 x2 h0 ht hx x0.length k k (Nat.le_refl _) (by omega) (by omega)
end Go.Proofs.Ytijlnlonlmcdoaa
