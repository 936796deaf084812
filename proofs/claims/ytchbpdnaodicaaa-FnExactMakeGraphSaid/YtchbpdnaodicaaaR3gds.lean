/-
  Roots and distances: alike in the specification and the program. No condition.
-/
import Derived.Test.YtchbpdnaodicaaaR3gmo
import Derived.Laws.Bits64b
set_option linter.unusedVariables false
set_option linter.unusedSimpArgs false
namespace Go.Proofs.Ytchbpdnaodicaaa
open Go Go.Vm Go.Proofs V

theorem wrapu {n : Int} (h1 : 0 ≤ n) (h2 : n < 18446744073709551616) : IntKind.u64.wrap n = n := by
  simp [IntKind.wrap, IntKind.signed, IntKind.bits]
  omega
theorem wrapun {n : Nat} (h2 : n < 18446744073709551616) : IntKind.u64.wrap (n : Int) = (n : Int) := wrapu (by omega) (by omega)
theorem andm (a : Nat) (h : a < 18446744073709551616) : Go.bits .and .u64 (a : Int) (4294967295 : Int) = ((a % 4294967296 : Nat) : Int) := by
  have e := bits_and_u64_nat a 4294967295 h (by decide)
  have e2 : a &&& 4294967295 = a % 4294967296 := Nat.and_two_pow_sub_one_eq_mod a 32
  rw [e2] at e
  exact e
theorem fd32 (n : Nat) : Int.fdiv (n : Int) (2 ^ (min (Int.toNat (32 : Int)) IntKind.u64.bits)) = ((n / 4294967296 : Nat) : Int) := by
  have e : (2 : Int) ^ (min (Int.toNat (32 : Int)) IntKind.u64.bits) = ((4294967296 : Nat) : Int) := by decide
  rw [e]
  exact (Int.ofNat_fdiv n 4294967296).symm

theorem mul64 (k m : Nat) (hm : m < 4294967296) : f247 k (m : Int) (m : Int) = some ((0 : Int), ((m * m : Nat) : Int)) := by
  have h2 : m * m < 18446744073709551616 := Nat.mul_self_lt_mul_self hm
  have a1 : Int.fdiv (m : Int) (2 ^ (min (Int.toNat (32 : Int)) IntKind.u64.bits)) = 0 := by rw [fd32, Nat.div_eq_of_lt hm]; rfl
  have a2 : Go.bits .and .u64 (m : Int) (4294967295 : Int) = (m : Int) := by rw [andm m (by omega), Nat.mod_eq_of_lt hm]
  have a3 : IntKind.u64.wrap ((m : Int) * (m : Int)) = ((m * m : Nat) : Int) := by rw [← Int.natCast_mul]; exact wrapun h2
  have a4 : IntKind.u64.wrap (0 : Int) = 0 := by decide
  generalize hq : m * m / 4294967296 = q
  have hq2 : q < 4294967296 := by rw [← hq]; exact Nat.div_lt_of_lt_mul h2
  have a5 : Int.fdiv ((m * m : Nat) : Int) (2 ^ (min (Int.toNat (32 : Int)) IntKind.u64.bits)) = (q : Int) := by rw [fd32, hq]
  have a6 : IntKind.u64.wrap (q : Int) = (q : Int) := wrapun (by omega)
  have a7 : Go.bits .and .u64 (q : Int) (4294967295 : Int) = (q : Int) := by rw [andm q (by omega), Nat.mod_eq_of_lt hq2]
  have a8 : Int.fdiv (q : Int) (2 ^ (min (Int.toNat (32 : Int)) IntKind.u64.bits)) = 0 := by rw [fd32, Nat.div_eq_of_lt hq2]; rfl
  unfold f247
  rw [if_t (by decide), if_t (by decide), if_t (by decide), if_t (by decide)]
  simp only [a1, a2, a3, a4, a5, a6, a7, a8, Int.zero_mul, Int.mul_zero, Int.zero_add, Int.add_zero, Option.bind_some]
  rw [if_t (by decide)]

theorem root_impl (k n : Nat) (hn : n ≤ 9223372036854775807) : ∀ (d m lo hi : Nat), hi - lo ≤ 2 ^ d → d < m → lo < hi → hi ≤ 3037000500 → lo * lo ≤ n → n < hi * hi →
    ∃ r : Nat, f211.l19 k (n : Int) m ((lo : Int), (hi : Int)) = some (r : Int) ∧ r * r ≤ n ∧ n < (r + 1) * (r + 1)
  | d, 0, lo, hi, _, h, _, _, _, _ => by omega
  | 0, m + 1, lo, hi, h1, _, h2, h3, h4, h5 => by
    obtain rfl : hi = lo + 1 := by rw [Nat.pow_zero] at h1; omega
    have hw : IntKind.u64.wrap (((lo + 1 : Nat) : Int) - (lo : Int)) = 1 := by rw [show ((lo + 1 : Nat) : Int) - (lo : Int) = 1 by omega]; decide
    rw [f211.l19, hw, if_f (by decide), wrap_in (by omega) (by omega)]
    exact ⟨lo, rfl, h4, h5⟩
  | d + 1, m + 1, lo, hi, h1, hm, h2, h3, h4, h5 => by
    have hw : IntKind.u64.wrap ((hi : Int) - (lo : Int)) = (hi : Int) - (lo : Int) := wrapu (by omega) (by omega)
    rw [f211.l19, hw]
    by_cases hgt : lo + 1 < hi
    · have hmid : IntKind.u64.wrap (Int.tdiv (IntKind.u64.wrap ((lo : Int) + (hi : Int))) 2) = (((lo + hi) / 2 : Nat) : Int) := by
        rw [wrapu (n := (lo : Int) + (hi : Int)) (by omega) (by omega), Int.tdiv_eq_ediv_of_nonneg (by omega), wrapu (by omega) (by omega)]
        omega
      have hnu : IntKind.u64.wrap (n : Int) = (n : Int) := wrapun (by omega)
      rw [if_t (decide_eq_true (show (hi : Int) - (lo : Int) > 1 by omega)), if_t (by decide), hmid, mul64 k ((lo + hi) / 2) (by omega), Option.bind_some]
      have hd : 2 ^ (d + 1) = 2 * 2 ^ d := by rw [Nat.pow_succ]; omega
      simp only [hnu]
      generalize hM : (lo + hi) / 2 = M
      have e0 : ((0 : Int) == 0) = true := rfl
      rw [e0, cond_true]
      by_cases hle : M * M ≤ n
      · rw [if_t (decide_eq_true (show ((M * M : Nat) : Int) ≤ (n : Int) by omega))]
        exact root_impl k n hn d m M hi (by omega) (by omega) (by omega) h3 hle h5
      · rw [if_f (by rw [decide_eq_true_eq]; omega)]
        exact root_impl k n hn d m lo M (by omega) (by omega) (by omega) (by omega) h4 (by omega)
    · obtain rfl : hi = lo + 1 := by omega
      rw [if_f (by rw [decide_eq_true_eq]; omega), wrap_in (by omega) (by omega)]
      exact ⟨lo, rfl, h4, h5⟩
theorem e211 (k n : Nat) (hk : 64 < k) (hn : n ≤ 9223372036854775807) : ∃ r : Nat, f211 k (n : Int) = some (r : Int) ∧ r * r ≤ n ∧ n < (r + 1) * (r + 1) := by
  unfold f211
  rw [if_f (by rw [decide_eq_true_eq]; omega)]
  exact root_impl k n hn 32 k 0 3037000500 (by decide) (by omega) (by decide) (by decide) (Nat.zero_le _) (Nat.lt_of_le_of_lt hn (by decide))

theorem root_spec (k n : Nat) (hn : n ≤ 9223372036854775807) : ∀ (d m lo hi : Nat), hi + 1 - lo ≤ 2 ^ d → d < m → lo ≤ hi → hi ≤ 3037000499 → lo * lo ≤ n → n < (hi + 1) * (hi + 1) →
    ∃ r : Nat, f203.l13 k (n : Int) m ((lo : Int), (hi : Int)) = some (r : Int) ∧ r * r ≤ n ∧ n < (r + 1) * (r + 1)
  | d, 0, lo, hi, _, h, _, _, _, _ => by omega
  | 0, m + 1, lo, hi, h1, _, h2, h3, h4, h5 => by
    obtain rfl : hi = lo := by rw [Nat.pow_zero] at h1; omega
    rw [f203.l13, if_f (by rw [decide_eq_true_eq]; omega)]
    exact ⟨_, rfl, h4, h5⟩
  | d + 1, m + 1, lo, hi, h1, hm, h2, h3, h4, h5 => by
    rw [f203.l13]
    by_cases hgt : lo < hi
    · have hmid : IntKind.i64.wrap (Int.tdiv (IntKind.i64.wrap ((IntKind.i64.wrap ((lo : Int) + (hi : Int))) + 1)) 2) = (((lo + hi + 1) / 2 : Nat) : Int) := by
        rw [wrap_in (n := (lo : Int) + (hi : Int)) (by omega) (by omega), wrap_in (n := (lo : Int) + (hi : Int) + 1) (by omega) (by omega), Int.tdiv_eq_ediv_of_nonneg (by omega), wrap_in (by omega) (by omega)]
        omega
      have hd : 2 ^ (d + 1) = 2 * 2 ^ d := by rw [Nat.pow_succ]; omega
      rw [if_t (decide_eq_true (show (lo : Int) < (hi : Int) by omega)), if_t (by decide), hmid]
      generalize hM : (lo + hi + 1) / 2 = M
      have hMM : M * M ≤ 3037000499 * 3037000499 := Nat.mul_self_le_mul_self (by omega)
      have hsq : IntKind.i64.wrap ((M : Int) * (M : Int)) = ((M * M : Nat) : Int) := by rw [← Int.natCast_mul]; exact wrap_in (by omega) (by omega)
      rw [hsq]
      by_cases hle : M * M ≤ n
      · rw [if_t (decide_eq_true (show ((M * M : Nat) : Int) ≤ (n : Int) by omega))]
        exact root_spec k n hn d m M hi (by omega) (by omega) (by omega) h3 hle h5
      · have hp : IntKind.i64.wrap ((M : Int) - 1) = ((M - 1 : Nat) : Int) := by rw [wrap_in (by omega) (by omega)]; omega
        rw [if_f (by rw [decide_eq_true_eq]; omega), hp]
        exact root_spec k n hn d m lo (M - 1) (by omega) (by omega) (by omega) (by omega) h4 (by rw [show M - 1 + 1 = M by omega]; omega)
    · obtain rfl : hi = lo := by omega
      rw [if_f (by rw [decide_eq_true_eq]; omega)]
      exact ⟨_, rfl, h4, h5⟩
theorem e203 (k n : Nat) (hk : 64 < k) (hn : n ≤ 9223372036854775807) : ∃ r : Nat, f203 k (n : Int) = some (r : Int) ∧ r * r ≤ n ∧ n < (r + 1) * (r + 1) := by
  unfold f203
  rw [if_f (by rw [decide_eq_true_eq]; omega)]
  exact root_spec k n hn 32 k 0 3037000499 (by decide) (by omega) (by decide) (by decide) (Nat.zero_le _) (Nat.lt_of_le_of_lt hn (by decide))

theorem sq_of {x : Int} (h1 : -20000000 ≤ x) (h2 : x ≤ 20000000) : x * x = ((x.natAbs * x.natAbs : Nat) : Int) ∧ x.natAbs * x.natAbs ≤ 400000000000000 := by
  refine ⟨Int.natAbs_mul_self.symm, ?_⟩
  have : x.natAbs ≤ 20000000 := by omega
  exact Nat.mul_self_le_mul_self this
theorem pt_bd {p : Int × Int} (h : ptB p = true) : -10000000 ≤ p.1 ∧ p.1 ≤ 10000000 ∧ -10000000 ≤ p.2 ∧ p.2 ≤ 10000000 := by
  unfold ptB at h
  cases h1 : decide (p.1 ≥ -10000000) with
  | false => simp [h1] at h
  | true =>
    cases h2 : decide (p.1 ≤ 10000000) with
    | false => simp [h1, h2] at h
    | true =>
      cases h3 : decide (p.2 ≥ -10000000) with
      | false => simp [h1, h2, h3] at h
      | true =>
        simp [h1, h2, h3] at h
        simp at h1 h2 h3
        omega

theorem near {r s q : Nat} (r1 : r * r ≤ s) (r2 : s < (r + 1) * (r + 1)) (q1 : q * q ≤ 4 * s) (q2 : 4 * s < (q + 1) * (q + 1)) :
    ((2 * r + 1) * (2 * r + 1) ≤ 4 * s → q = 2 * r + 1) ∧ (4 * s < (2 * r + 1) * (2 * r + 1) → q = 2 * r) := by
  have e1 : (2 * r) * (2 * r) = 4 * (r * r) := by rw [Nat.mul_mul_mul_comm]
  have e2 : (2 * (r + 1)) * (2 * (r + 1)) = 4 * ((r + 1) * (r + 1)) := by rw [Nat.mul_mul_mul_comm]
  have lo : 2 * r < q + 1 := Nat.mul_self_lt_mul_self_iff.1 (by omega)
  have hi : q < 2 * (r + 1) := Nat.mul_self_lt_mul_self_iff.1 (by omega)
  constructor
  · intro h
    have : 2 * r + 1 < q + 1 := Nat.mul_self_lt_mul_self_iff.1 (by omega)
    omega
  · intro h
    have : q < 2 * r + 1 := Nat.mul_self_lt_mul_self_iff.1 (by omega)
    omega

theorem dist_same (k : Nat) (hk : 64 < k) (p q : Int × Int) (hp : ptB p = true) (hq : ptB q = true) : ∃ d : Nat, f140 k p q = some (d : Int) ∧ f149 k p q = some (d : Int) ∧ d ≤ 30000001 := by
  have bp := pt_bd hp
  have bq := pt_bd hq
  obtain ⟨x1, x2⟩ := sq_of (x := q.1 - p.1) (by omega) (by omega)
  obtain ⟨y1, y2⟩ := sq_of (x := q.2 - p.2) (by omega) (by omega)
  generalize (q.1 - p.1).natAbs * (q.1 - p.1).natAbs = X at *
  generalize (q.2 - p.2).natAbs * (q.2 - p.2).natAbs = Y at *
  have s1 : f204 k p q = some ((X + Y : Nat) : Int) := by
    unfold f204
    rw [wrap_in (n := q.1 - p.1) (by omega) (by omega), wrap_in (n := q.2 - p.2) (by omega) (by omega), x1, y1, wrap_in (n := (X : Int)) (by omega) (by omega), wrap_in (n := (Y : Int)) (by omega) (by omega), wrap_in (by omega) (by omega)]
    congr 1
  have s2 : f210 k p q = some ((X + Y : Nat) : Int) := by
    have x1' : (p.1 - q.1) * (p.1 - q.1) = (X : Int) := by rw [← x1, show p.1 - q.1 = -(q.1 - p.1) by omega, Int.neg_mul_neg]
    have y1' : (p.2 - q.2) * (p.2 - q.2) = (Y : Int) := by rw [← y1, show p.2 - q.2 = -(q.2 - p.2) by omega, Int.neg_mul_neg]
    unfold f210
    rw [wrap_in (n := p.1 - q.1) (by omega) (by omega), wrap_in (n := p.2 - q.2) (by omega) (by omega), x1', y1', wrap_in (n := (X : Int)) (by omega) (by omega), wrap_in (n := (Y : Int)) (by omega) (by omega), wrap_in (by omega) (by omega)]
    congr 1
  generalize hs : X + Y = s at *
  obtain ⟨r, r1, r2, r3⟩ := e211 k s hk (by omega)
  obtain ⟨c, c1, c2, c3⟩ := e203 k (4 * s) hk (by omega)
  have hr : r < 30000000 := Nat.mul_self_lt_mul_self_iff.1 (Nat.lt_of_le_of_lt r2 (by omega))
  have nr := near r2 r3 c2 c3
  have w4 : IntKind.i64.wrap (4 * (s : Int)) = ((4 * s : Nat) : Int) := by rw [wrap_in (by omega) (by omega)]; omega
  have odd : ∀ d : Nat, d ≤ 30000000 → IntKind.i64.wrap ((IntKind.i64.wrap ((IntKind.i64.wrap (2 * (d : Int))) + 1)) * (IntKind.i64.wrap ((IntKind.i64.wrap (2 * (d : Int))) + 1))) = (((2 * d + 1) * (2 * d + 1) : Nat) : Int) := fun d hd => by
    have h1 : IntKind.i64.wrap ((IntKind.i64.wrap (2 * (d : Int))) + 1) = ((2 * d + 1 : Nat) : Int) := by
      rw [wrap_in (n := 2 * (d : Int)) (by omega) (by omega), wrap_in (by omega) (by omega)]; omega
    have h2 : (2 * d + 1) * (2 * d + 1) ≤ 60000001 * 60000001 := Nat.mul_self_le_mul_self (by omega)
    rw [h1, ← Int.natCast_mul, wrap_in (by omega) (by omega)]
  have spec : ∀ d : Nat, (c + 1) / 2 = d → f140 k p q = some (d : Int) := fun d hd => by
    unfold f140
    have hc : c < 100000000 := Nat.mul_self_lt_mul_self_iff.1 (Nat.lt_of_le_of_lt c2 (by omega))
    rw [s1, Option.bind_some, w4, c1, Option.bind_some, if_t (by decide), wrap_in (n := (c : Int) + 1) (by omega) (by omega), Int.tdiv_eq_ediv_of_nonneg (by omega), wrap_in (by omega) (by omega)]
    congr 1
    omega
  have impl : ∀ d : Nat, f149.l10 k (s : Int) k (r : Int) = some (d : Int) → f149 k p q = some (d : Int) := fun d hd => by
    unfold f149
    rw [e169, hp]
    simp only [Option.bind_some, Bool.not_true, if_true, e169, hq, cond_false, Bool.false_eq_true, if_false, s2, r1]
    exact hd
  obtain ⟨k', hk'⟩ : ∃ z, k = z + 2 := ⟨k - 2, by omega⟩
  have two : ∀ K, f149.l10 K (s : Int) (k' + 2) (r : Int) = some (if (2 * r + 1) * (2 * r + 1) ≤ 4 * s then ((r + 1 : Nat) : Int) else (r : Int)) := fun K => by
    rw [f149.l10, odd r (by omega), w4]
    by_cases h : (2 * r + 1) * (2 * r + 1) ≤ 4 * s
    · have h2 : ¬ ((2 * (r + 1) + 1) * (2 * (r + 1) + 1) ≤ 4 * s) := fun h2 => by
        have e2 : (2 * (r + 1)) * (2 * (r + 1)) = 4 * ((r + 1) * (r + 1)) := by rw [Nat.mul_mul_mul_comm]
        have := Nat.mul_self_le_mul_self (show 2 * (r + 1) ≤ 2 * (r + 1) + 1 by omega)
        omega
      rw [if_t (decide_eq_true (show (((2 * r + 1) * (2 * r + 1) : Nat) : Int) ≤ ((4 * s : Nat) : Int) by omega)), wrap_s (by omega), f149.l10, odd (r + 1) (by omega), w4, if_f (by rw [decide_eq_true_eq]; omega), if_pos h]
    · rw [if_f (by rw [decide_eq_true_eq]; omega), if_neg h]
  have two' := two k
  rw [← hk'] at two'
  by_cases h : (2 * r + 1) * (2 * r + 1) ≤ 4 * s
  · rw [if_pos h] at two'
    exact ⟨r + 1, spec _ (by rw [nr.1 h]; omega), impl _ two', by omega⟩
  · rw [if_neg h] at two'
    exact ⟨r, spec _ (by rw [nr.2 (by omega)]; omega), impl _ two', by omega⟩
end Go.Proofs.Ytchbpdnaodicaaa
