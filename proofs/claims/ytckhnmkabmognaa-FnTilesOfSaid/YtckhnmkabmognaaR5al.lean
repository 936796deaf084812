/- FnTilesOf: the draws end; the tiles' numbers. -/
import Derived.Test.YtckhnmkabmognaaR5a
import Derived.Test.YtckhnmkabmognaaLawA
set_option linter.unusedVariables false
set_option linter.unusedSimpArgs false
open Go Go.Vm Go.Proofs
namespace Go.Proofs.Ytckhnmkabmognaa.V
abbrev Cu := List Int × (Int × Int)
def CuOk (c : Cu) : Prop := 0 ≤ c.2.1 ∧ c.2.1 ≤ (c.1.length : Int) ∧ c.1.length ≤ 1048576
theorem bits255 (y : Int) : 0 ≤ Go.bits .and .i64 y 255 ∧ Go.bits .and .i64 y 255 ≤ 255 := by
  unfold Go.bits
  have h : (BitVec.ofInt IntKind.i64.bits y &&& BitVec.ofInt IntKind.i64.bits 255).toNat ≤ 255 := by
    rw [BitVec.toNat_and]
    exact Nat.le_trans Nat.and_le_right (by decide)
  simp only
  rw [wrap_in (by omega) (by omega)]
  omega
theorem t62 (k : Nat) (c : Cu) (h : CuOk c) : ∃ r, f62 k c = some r ∧ CuOk r.2 ∧ 0 ≤ r.1 ∧ r.1 ≤ 255 := by
  obtain ⟨b, i, z⟩ := c
  obtain ⟨h1, h2, h3⟩ := h
  simp only at h1 h2 h3
  unfold f62
  rw [if_t (by decide), if_t (by decide)]
  by_cases hi : i < (b.length : Int)
  · simp only [hi, decide_true, if_true, h1, and_self, Option.bind_some, f62.j6]
    refine ⟨_, rfl, ⟨?_, ?_, h3⟩, (bits255 _).1, (bits255 _).2⟩
    · simp only; rw [wrap_in (by omega) (by omega)]; omega
    · simp only; rw [wrap_in (by omega) (by omega)]; omega
  · simp only [hi, decide_false, Bool.false_eq_true, if_false, f62.j6]
    exact ⟨_, rfl, ⟨h1, h2, h3⟩, (bits255 _).1, (bits255 _).2⟩
theorem t28 (k : Nat) (c : Cu) (n : Int) (h : CuOk c) : ∃ r, f28 k c n = some r ∧ CuOk r.2 ∧ (0 < n → n ≤ 256 → 0 ≤ r.1 ∧ r.1 < n) := by
  unfold f28
  by_cases h0 : n ≤ 0
  · simp only [h0, decide_true, if_true]
    exact ⟨_, rfl, h, fun h' => by omega⟩
  · simp only [h0, decide_false, Bool.false_eq_true, if_false]
    by_cases h1 : n ≤ 256
    · obtain ⟨r, q1, q2, q3, q4⟩ := t62 k c h
      simp only [h1, decide_true, if_true, q1, Option.bind_some]
      rw [if_t (by omega)]
      exact ⟨_, rfl, q2, fun _ _ => ⟨Int.tmod_nonneg _ q3, Int.tmod_lt_of_pos _ (by omega)⟩⟩
    · obtain ⟨r, q1, q2, q3, q4⟩ := t62 k c h
      obtain ⟨r2, p1, p2, p3, p4⟩ := t62 k r.2 q2
      obtain ⟨r3, m1, m2, m3, m4⟩ := t62 k r2.2 p2
      obtain ⟨r4, n1, n2, n3, n4⟩ := t62 k r3.2 m2
      simp only [h1, decide_false, Bool.false_eq_true, if_false, q1, p1, m1, n1, Option.bind_some]
      rw [if_t (by omega)]
      exact ⟨_, rfl, n2, fun _ h' => by first | exact absurd h' h1 | exact h'.elim⟩
theorem t29 (k : Nat) (c : Cu) (n : Int) (h : CuOk c) : ∃ r, f29 k c n = some r ∧ CuOk r.2 := by
  obtain ⟨r, q1, q2, _⟩ := t28 k c n h
  unfold f29
  rw [q1]
  exact ⟨_, rfl, q2⟩
theorem t61 (k : Nat) (c : Cu) (h : CuOk c) : ∃ r, f61 k c = some r ∧ CuOk r.2 := by
  have j6 : ∀ (r3 : Int × Cu) (v : Int × Int), CuOk r3.2 → ∃ r, f61.j6 k r3 v = some r ∧ CuOk r.2 := by
    intro r3 v h3
    obtain ⟨v4, v5⟩ := v
    obtain ⟨r7, q1, q2⟩ := t29 k r3.2 60 h3
    unfold f61.j6
    simp only [q1, Option.bind_some]
    cases r7.1 with
    | false => exact ⟨_, rfl, q2⟩
    | true =>
      obtain ⟨r14, p1, p2, p3⟩ := t28 k r7.2 4 q2
      simp only [if_true, p1, Option.bind_some]
      have := p3 (by omega) (by omega)
      rw [if_t ⟨this.1, by simpa using this.2⟩]
      exact ⟨_, rfl, p2⟩
  obtain ⟨r1, a1, a2, _⟩ := t28 k c 41 h
  obtain ⟨r2, b1, b2, _⟩ := t28 k r1.2 41 a2
  obtain ⟨r3, c1, c2, _⟩ := t28 k r2.2 12 b2
  unfold f61
  simp only [a1, b1, c1, Option.bind_some]
  split
  · exact j6 _ _ c2
  · split
    · exact j6 _ _ c2
    · split
      · exact j6 _ _ c2
      · exact j6 _ _ c2
theorem t27 (k : Nat) (c : Cu) (h : CuOk c) : ∃ r, f27 k c = some r ∧ CuOk r.2 := by
  obtain ⟨r1, a1, a2⟩ := t61 k c h
  obtain ⟨r2, b1, b2, _⟩ := t28 k r1.2 40 a2
  obtain ⟨r3, c1, c2, _⟩ := t28 k r2.2 40 b2
  obtain ⟨r4, d1, d2⟩ := t29 k r3.2 4 c2
  unfold f27
  simp only [a1, b1, c1, d1, Option.bind_some]
  cases r4.1 with
  | true =>
    obtain ⟨r5, e1, e2⟩ := t61 k r4.2 d2
    simp only [if_true, e1, Option.bind_some]
    exact ⟨_, rfl, e2⟩
  | false => exact ⟨_, rfl, d2⟩
theorem u64_nn (z : Int) : 0 ≤ IntKind.u64.wrap z := by
  simp [IntKind.wrap, IntKind.signed, IntKind.bits]
  omega
theorem t31 (k : Nat) (c : Cu) (h : CuOk c) : ∃ r, f31 k c = some r ∧ CuOk r.2 := by
  have j20 : ∀ (v12 v4 : Int) (v : Cu × Int), CuOk v.1 → ∃ r, f31.j20 k v12 v4 v = some r ∧ CuOk r.2 := by
    intro v12 v4 v hv
    obtain ⟨v18, v19⟩ := v
    obtain ⟨r, q1, q2⟩ := t29 k v18 30 hv
    unfold f31.j20
    simp only [q1, Option.bind_some]
    cases r.1 with
    | false => exact ⟨_, rfl, q2⟩
    | true =>
      obtain ⟨r14, p1, p2, p3⟩ := t28 k r.2 3 q2
      simp only [if_true, p1, Option.bind_some]
      have := p3 (by omega) (by omega)
      rw [if_t ⟨this.1, by simpa using this.2⟩]
      exact ⟨_, rfl, p2⟩
  have j13 : ∀ (r1 : Int × Cu) (v4 v6 : Int) (v : Cu × Int), CuOk v.1 → ∃ r, f31.j13 k r1 v4 v6 v = some r ∧ CuOk r.2 := by
    intro r1 v4 v6 v hv
    obtain ⟨v11, v12⟩ := v
    obtain ⟨r, q1, q2⟩ := t29 k v11 20 hv
    unfold f31.j13
    simp only [q1, Option.bind_some]
    cases r.1 with
    | false => exact j20 _ _ (_, _) q2
    | true =>
      obtain ⟨r14, p1, p2, p3⟩ := t28 k r.2 3 q2
      simp only [if_true, p1, Option.bind_some]
      have := p3 (by omega) (by omega)
      rw [if_t ⟨this.1, by simpa using this.2⟩]
      exact j20 _ _ (_, _) p2
  have j7 : ∀ (r3 r1 : Int × Cu) (v : Int × Int × Int), CuOk r3.2 → ∃ r, f31.j7 k r3 r1 v = some r ∧ CuOk r.2 := by
    intro r3 r1 v hv
    obtain ⟨v4, v5, v6⟩ := v
    obtain ⟨r, q1, q2⟩ := t29 k r3.2 6 hv
    unfold f31.j7
    simp only [q1, Option.bind_some]
    cases r.1 with
    | false => exact j13 _ _ _ (_, _) q2
    | true =>
      obtain ⟨r14, p1, p2, p3⟩ := t28 k r.2 (IntKind.i64.wrap ((1 : Int) * 2 ^ (min (Int.toNat (IntKind.u64.wrap r1.1)) IntKind.i64.bits))) q2
      simp only [if_true, p1, Option.bind_some]
      exact j13 _ _ _ (_, _) p2
  obtain ⟨r1, a1, a2, _⟩ := t28 k c 11 h
  obtain ⟨r2, b1, b2, _⟩ := t28 k r1.2 2 a2
  obtain ⟨r3, c1, c2, _⟩ := t28 k r2.2 2 b2
  unfold f31
  simp only [a1, b1, c1, Option.bind_some, u64_nn, if_true, ne_eq, show ¬ ((2 : Int) = 0) by decide, not_false_eq_true]
  split
  · exact j7 _ _ _ c2
  · exact j7 _ _ _ c2
theorem t26 (k : Nat) (x : List Int) (hx : x.length ≤ 1048576) (hk : 1048576 < k) : ∃ r, f26 k x = some r ∧ CuOk r := by
  have lp : ∀ (m : Nat) (i : Nat) (h : Int), i ≤ x.length → x.length < m + i → ∃ r, f26.l16 k x m (h, (i : Int)) = some r ∧ CuOk r := by
    intro m
    induction m with
    | zero => intro i h h1 h2; omega
    | succ m ih =>
      intro i h h1 h2
      unfold f26.l16
      by_cases hi : i < x.length
      · rw [if_t (by simpa using hi), if_t ⟨by omega, by exact_mod_cast hi⟩, wrap_s (by omega)]
        exact ih (i + 1) _ (by omega) (by omega)
      · rw [if_f (by simpa using hi)]
        exact ⟨_, rfl, by simp, by simp, hx⟩
  unfold f26
  exact lp k 0 _ (by omega) (by omega)
theorem t30 (k : Nat) (x : Int × (Int × Int)) : ∃ r, f30 k x = some r := by
  unfold f30 f63
  rw [if_t (u64_nn _)]
  exact ⟨_, rfl⟩
theorem t7 (k : Nat) (x : List Int) (hx : x.length ≤ 1048576) (hk : 1048576 < k) : ∃ r, f7 k x = some r ∧ 0 ≤ r.2 ∧ r.2 < 12 := by
  obtain ⟨r1, a1, a2⟩ := t26 k x hx hk
  obtain ⟨r2, b1, b2⟩ := t27 k r1 a2
  obtain ⟨r3, c1, c2, c3⟩ := t28 k r2.2 12 b2
  obtain ⟨r4, d1, d2⟩ := t29 k r3.2 4 c2
  have hz := c3 (by omega) (by omega)
  unfold f7
  simp only [a1, b1, c1, d1, Option.bind_some]
  cases r4.1 with
  | false => exact ⟨_, rfl, hz⟩
  | true =>
    obtain ⟨r5, e1, e2⟩ := t31 k r4.2 d2
    obtain ⟨r6, g1⟩ := t30 k r5.1
    simp only [if_true, e1, g1, Option.bind_some]
    exact ⟨_, rfl, hz⟩
end Go.Proofs.Ytckhnmkabmognaa.V
