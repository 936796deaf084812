/-
  Daily: the slowed copies and then the best way, alike. No condition.
-/
import Derived.Test.YtchbpdnaodicaaaR3blw
set_option linter.unusedVariables false
set_option linter.unusedSimpArgs false
namespace Go.Proofs.Ytchbpdnaodicaaa
open Go Go.Vm Go.Proofs V

def slow (x p : Int) : Int :=
  bif decide (IntKind.i64.wrap (Int.tdiv (IntKind.i64.wrap ((IntKind.i64.wrap (x * p)) + (99 : Int))) (100 : Int)) < (1 : Int)) then 1 else
  bif decide (IntKind.i64.wrap (Int.tdiv (IntKind.i64.wrap ((IntKind.i64.wrap (x * p)) + (99 : Int))) (100 : Int)) > (1000000 : Int)) then 1000000 else IntKind.i64.wrap (Int.tdiv (IntKind.i64.wrap ((IntKind.i64.wrap (x * p)) + (99 : Int))) (100 : Int))
theorem e115 (k : Nat) (x p : Int) : f115 k x p = some (slow x p) := by
  unfold f115 slow
  rw [if_t (by decide)]
  cases decide (IntKind.i64.wrap (Int.tdiv (IntKind.i64.wrap ((IntKind.i64.wrap (x * p)) + (99 : Int))) (100 : Int)) < (1 : Int)) with
  | true => rfl
  | false =>
    cases decide (IntKind.i64.wrap (Int.tdiv (IntKind.i64.wrap ((IntKind.i64.wrap (x * p)) + (99 : Int))) (100 : Int)) > (1000000 : Int)) <;> rfl
theorem e118 (k : Nat) (x p : Int) : f118 k x p = some (slow x p) := by
  unfold f118 slow
  rw [if_t (by decide)]
  cases decide (IntKind.i64.wrap (Int.tdiv (IntKind.i64.wrap ((IntKind.i64.wrap (x * p)) + (99 : Int))) (100 : Int)) < (1 : Int)) with
  | true => rfl
  | false =>
    simp only [f118.j2, f118.j4]
    cases decide (IntKind.i64.wrap (Int.tdiv (IntKind.i64.wrap ((IntKind.i64.wrap (x * p)) + (99 : Int))) (100 : Int)) > (1000000 : Int)) <;> rfl

abbrev Pth := Bool × (List Int × (Int × Int))
def noPath : Pth := (false, (([] : List Int), ((0 : Int), (0 : Int))))

theorem best_none (k : Nat) (hk : 1048576 < k) (g : Graph) (h1 : g.1.length ≤ 1048576) (h2 : g.2.1.length ≤ 1048576) (h3 : g.2.2.length ≤ 1048576) (s t : Int) (h : ¬ (spotIs g s = true ∧ spotIs g t = true)) : f116 k g s t = some noPath := by
  unfold f116
  rw [spec70 k hk g h1 h2 h3]
  simp only [Option.bind_some, e93]
  cases graphOk g with
  | false => simp [noPath]
  | true =>
    cases hs : spotIs g s with
    | false => simp [noPath]
    | true =>
      cases ht : spotIs g t with
      | false => simp [noPath]
      | true => exact absurd ⟨hs, ht⟩ h

theorem slow_loop (k : Nat) (hk : 1099511627776 < k) (x1 : List Int) (x4 : Int) (hx : x1.length = 24) (h40 : 0 ≤ x4) (h41 : x4 < 86400) (r : Graph) (h2 : r.2.1.length ≤ 1048576) (s t : Int) :
    ∀ (d m m' i : Nat) (v : Graph), r.2.1.length - i = d → d < m → d < m' → i ≤ r.2.1.length → v.1.length = r.1.length → v.2.1.length = r.2.1.length → v.2.2.length = r.2.2.length → r.1.length ≤ 1048576 → r.2.2.length ≤ 1048576 →
      ∃ y : Pth, f46.l96 k x4 x1 s t m (v, (i : Int)) = some y ∧ f47.l82 k r x4 x1 s t m' (v, (i : Int)) = some y ∧ y.2.1.length ≤ 1048576 ∧ (¬ (spotIs r s = true ∧ spotIs r t = true) → y = noPath)
  | d, 0, _, i, v, _, h, _, _, _, _, _, _, _ => by omega
  | d, m + 1, 0, i, v, _, _, h, _, _, _, _, _, _ => by omega
  | 0, m + 1, m' + 1, i, v, h, _, _, hi, v1, v2, v3, l1, l3 => by
    obtain rfl : i = r.2.1.length := by omega
    obtain ⟨y, y1, y2, y3⟩ := same_best k hk v (by omega) (by omega) (by omega) s t
    have y1' : f116 k v s t = some y := y1
    have y2' : f119 k v s t = some y := y2
    refine ⟨y, ?_, ?_, y3, fun hn => ?_⟩
    · rw [f46.l96, if_f (by simp [v2]), y1']; rfl
    · rw [f47.l82, if_f (by simp), y2']; rfl
    · have := best_none k (by omega) v (by omega) (by omega) (by omega) s t (by
        intro hh; apply hn
        simpa [spotIs, v1] using hh)
      rw [y1'] at this
      exact Option.some.inj this
  | d + 1, m + 1, m' + 1, i, v, h, hm, hm', hi, v1, v2, v3, l1, l3 => by
    have hb : (0 : Int) ≤ (i : Int) ∧ (i : Int) < (v.2.1.length : Int) := ⟨by omega, by omega⟩
    have hq : IntKind.i64.wrap (Int.tdiv x4 3600) = x4 / 3600 := by
      rw [Int.tdiv_eq_ediv_of_nonneg h40, wrap_in (by omega) (by omega)]
    have hbq : (0 : Int) ≤ x4 / 3600 ∧ x4 / 3600 < (x1.length : Int) := ⟨by omega, by omega⟩
    have c1 : decide ((i : Int) < (v.2.1.length : Int)) = true := decide_eq_true hb.2
    have c2 : decide ((i : Int) < (r.2.1.length : Int)) = true := decide_eq_true (by omega)
    have c3 : (3600 : Int) ≠ 0 := by decide
    rw [f46.l96, f47.l82]
    simp only [hq, if_t c1, if_t c2, if_t hb, if_t c3, if_t hbq, e115, e118, Option.bind_some]
    rw [wrap_s (by omega)]
    exact slow_loop k hk x1 x4 hx h40 h41 r h2 s t d m m' (i + 1) _ (by omega) (by omega) (by omega) (by omega) v1 (by simpa using v2) v3 l1 l3

theorem hour_loop (k : Nat) (hk : 1099511627776 < k) (x1 : List Int) (x4 : Int) (hx : x1.length = 24) (h40 : 0 ≤ x4) (h41 : x4 < 86400) (g : Graph) (h1 : g.1.length ≤ 1048576) (h2 : g.2.1.length ≤ 1048576) (h3 : g.2.2.length ≤ 1048576) (s t : Int) :
    ∀ (d m m' i : Nat), 24 - i = d → d < m → d < m' → i ≤ 24 →
      ∃ y : Pth, f46.l21 k x1 g x4 s t m (i : Int) = some y ∧ f47.l13 k x1 g x4 s t m' (i : Int) = some y ∧ y.2.1.length ≤ 1048576 ∧ (¬ (spotIs g s = true ∧ spotIs g t = true) → y = noPath)
  | d, 0, _, i, _, h, _, _ => by omega
  | d, m + 1, 0, i, _, _, h, _ => by omega
  | 0, m + 1, m' + 1, i, h, _, _, hi => by
    obtain rfl : i = 24 := by omega
    rw [f46.l21, f47.l13, if_f (by simp), if_f (by simp [hx])]
    unfold f114 f117
    simp only [List.length_nil, Nat.zero_add, List.nil_append]
    rw [if_t (by omega), if_t (by omega), if_t (by omega), Option.bind_some, Option.bind_some]
    exact slow_loop k hk x1 x4 hx h40 h41 g h2 s t _ k k 0 g rfl (by omega) (by omega) (Nat.zero_le _) rfl rfl rfl h1 h3
  | d + 1, m + 1, m' + 1, i, h, hm, hm', hi => by
    have hb : (0 : Int) ≤ (i : Int) ∧ (i : Int) < (x1.length : Int) := ⟨by omega, by omega⟩
    have c1 : decide ((i : Int) < (24 : Int)) = true := decide_eq_true (by omega)
    have c2 : decide ((i : Int) < (x1.length : Int)) = true := decide_eq_true (by omega)
    rw [f46.l21, f47.l13]
    rw [if_t c1, if_t c2]
    simp only [if_t hb]
    rw [if_t (fun _ => hb)]
    by_cases hc : (bif decide (x1.getD (Int.toNat (i : Int)) 0 < 1) then true else decide (x1.getD (Int.toNat (i : Int)) 0 > 10000)) = true
    · rw [if_t hc, if_t hc]
      exact ⟨_, rfl, rfl, by simp, fun _ => rfl⟩
    · rw [if_f hc, if_f hc, wrap_s (by omega)]
      exact hour_loop k hk x1 x4 hx h40 h41 g h1 h2 h3 s t d m m' (i + 1) (by omega) (by omega) (by omega) (by omega)

theorem same_daily (k : Nat) (hk : 1099511627776 < k) (g : Graph) (h1 : g.1.length ≤ 1048576) (h2 : g.2.1.length ≤ 1048576) (h3 : g.2.2.length ≤ 1048576) (x1 : List Int) (s t x4 : Int) :
    ∃ y : Pth, f46 k g x1 s t x4 = some y ∧ f47 k g x1 s t x4 = some y ∧ y.2.1.length ≤ 1048576 := by
  unfold f46 f47
  rw [spec70 k (by omega) g h1 h2 h3, impl79 k (by omega) g h1 h2 h3]
  simp only [Option.bind_some, e93]
  by_cases hx : x1.length = 24
  · have hx' : ((x1.length : Int) != 24) = false := by simp [hx]
    by_cases h40 : x4 < 0
    · exact ⟨noPath, by simp [h40, noPath], by simp [h40, noPath], by simp [noPath]⟩
    by_cases h41 : x4 < 86400
    · have c1 : decide (x4 < 0) = false := by simpa using h40
      have c2 : decide (x4 ≥ 86400) = false := by simp; omega
      have c3 : decide (x4 > 86399) = false := by simp; omega
      simp only [hx', c1, c2, c3, cond_false]
      cases hg : graphOk g with
      | false => exact ⟨noPath, by simp [noPath], by simp [noPath], by simp [noPath]⟩
      | true =>
        obtain ⟨y, y1, y2, y3, y4⟩ := hour_loop k hk x1 x4 hx (by omega) h41 g h1 h2 h3 s t _ k k 0 rfl (by omega) (by omega) (Nat.zero_le _)
        have y1' : f46.l21 k x1 g x4 s t k 0 = some y := y1
        have y2' : f47.l13 k x1 g x4 s t k 0 = some y := y2
        by_cases hst : spotIs g s = true ∧ spotIs g t = true
        · exact ⟨y, by simp [hst, y1'], by simp [y2'], y3⟩
        · refine ⟨noPath, ?_, by rw [y4 hst] at y2'; simp [y2'], by simp [noPath]⟩
          cases hs : spotIs g s with
          | false => simp [noPath]
          | true =>
            cases ht : spotIs g t with
            | false => simp [noPath]
            | true => exact absurd ⟨hs, ht⟩ hst
    · have c2 : decide (x4 ≥ 86400) = true := by simp; omega
      have c3 : decide (x4 > 86399) = true := by simp; omega
      have c1 : decide (x4 < 0) = false := by simpa using h40
      refine ⟨noPath, by simp [hx', c1, c2, noPath], ?_, by simp [noPath]⟩
      simp only [hx', c1, c2, c3]
      cases graphOk g <;> simp [noPath]
  · have hx' : ((x1.length : Int) != 24) = true := by simp; omega
    refine ⟨noPath, by simp [hx', noPath], ?_, by simp [noPath]⟩
    simp only [hx']
    cases graphOk g <;> simp [noPath]
end Go.Proofs.Ytchbpdnaodicaaa
