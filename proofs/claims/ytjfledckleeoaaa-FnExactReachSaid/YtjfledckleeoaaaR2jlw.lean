/-
  Reach: the two reaches answer alike. No condition.
-/
import Derived.Test.YtjfledckleeoaaaR2jri
set_option linter.unusedVariables false
set_option linter.unusedSimpArgs false
namespace Go.Proofs.Ytjfledckleeoaaa
open Go Go.Vm Go.Proofs V

theorem same_reach (k : Nat) (hk : 1099511627776 < k) (g : Graph) (h1 : g.1.length ≤ 1048576) (h2 : g.2.1.length ≤ 1048576) (h3 : g.2.2.length ≤ 1048576) (t : Int) : ∃ l, f42 k g t = some l ∧ f43 k g t = some l ∧ l.length ≤ 1048576 := by
  unfold f42 f43
  rw [spec57 k (by omega) g h1 h2 h3, impl63 k (by omega) g h1 h2 h3]
  simp only [Option.bind_some]
  cases hg : graphOk g with
  | false => exact ⟨[], by simp, by simp, by simp⟩
  | true =>
    obtain ⟨net, hn, hno⟩ := e64 (gok hg) k (by omega)
    have hne : ¬ ((!true) = true) := by simp
    simp only [if_f hne, hn, Option.bind_some, f89, f91, hno.fst, Bool.not_true, if_true, cond_false]
    cases hs : (bif (decide (t ≥ 0)) then (decide (t < (g.1.length : Int))) else false) with
    | false => exact ⟨[], by simp, by simp, by simp⟩
    | true =>
      obtain ⟨s, rfl, hs'⟩ : ∃ s : Nat, t = (s : Int) ∧ s < g.1.length := by
        cases h0 : decide (t ≥ 0) with
        | false => rw [h0] at hs; cases hs
        | true =>
          rw [h0, cond_true, decide_eq_true_eq] at hs
          rw [decide_eq_true_eq] at h0
          exact ⟨t.toNat, by omega, by omega⟩
      obtain ⟨out, q1, q2, q3⟩ := same_reach0 (gok hg) k hk s hs' hno
      rw [q1, q2]
      exact ⟨out, by simp, by simp, by rw [q3]; exact h1⟩
end Go.Proofs.Ytjfledckleeoaaa
