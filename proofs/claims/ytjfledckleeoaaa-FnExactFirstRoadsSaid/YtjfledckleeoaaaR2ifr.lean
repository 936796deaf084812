/-
  FirstRoads: the two ways back answer alike. No condition.
-/
import Derived.Test.YtjfledckleeoaaaR2iba
set_option linter.unusedVariables false
set_option linter.unusedSimpArgs false
namespace Go.Proofs.Ytjfledckleeoaaa
open Go Go.Vm Go.Proofs V

theorem same_first (k : Nat) (hk : 1099511627776 < k) (g : Graph) (h1 : g.1.length ≤ 1048576) (h2 : g.2.1.length ≤ 1048576) (h3 : g.2.2.length ≤ 1048576) (t : Int) : ∃ l, f40 k g t = some l ∧ f41 k g t = some l ∧ l.length ≤ 1048576 := by
  unfold f40 f41
  rw [spec57 k (by omega) g h1 h2 h3, impl63 k (by omega) g h1 h2 h3]
  simp only [Option.bind_some]
  cases hg : graphOk g with
  | false => exact ⟨[], by simp, by simp, by simp⟩
  | true =>
    obtain ⟨net, hn, hno⟩ := e64 (gok hg) k (by omega)
    have hne : ¬ ((!true) = true) := by simp
    have hsp : ∀ b : Bool, (bif (!true) then true else (!b)) = !b := fun b => by cases b <;> rfl
    simp only [if_f hne, hn, Option.bind_some, f89, f91, hno.fst, Bool.not_true, if_true, cond_false]
    cases hs : (bif (decide (t ≥ 0)) then (decide (t < (g.1.length : Int))) else false) with
    | false => exact ⟨[], by simp, by simp, by simp⟩
    | true =>
      obtain ⟨tm, ct, q1, q2, q3⟩ := same_back (gok hg) k hk t hno
      have hl : tm.length ≤ 8000 := by have := q3.l1; have := (gok hg).n2; rw [show tm.length = g.2.1.length from q3.l1]; exact this
      rw [q1, q2]
      refine ⟨tm, ?_, ?_, by omega⟩
      · simp only [Bool.not_true, Bool.false_eq_true, if_false, Option.bind_some, List.nil_append, List.length_nil, Nat.zero_add]
        rw [if_t (by omega)]
      · simp only [Bool.not_true, Bool.false_eq_true, if_false, Option.bind_some]
end Go.Proofs.Ytjfledckleeoaaa
