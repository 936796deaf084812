/-
  Via: two best ways, joined. No condition.
-/
import Derived.Test.YtchbpdnaodicaaaR3alw
set_option linter.unusedVariables false
set_option linter.unusedSimpArgs false
namespace Go.Proofs.Ytchbpdnaodicaaa
open Go Go.Vm Go.Proofs V

abbrev Pth := Bool × (List Int × (Int × Int))
theorem join_same {g : Graph} (hg : GOk g) (k : Nat) (hk : 1048576 < k) {net : Net} (hn : NetOf g net) {v : Int} (a b : Pth) (la : a.2.1.length ≤ 9000) (lb : b.2.1.length ≤ 9000)
    (ha : a.2.1 = [] ∨ ∃ z : Nat, ∃ q, z < g.2.1.length ∧ (g.2.1.getD z dR).2.1 = v ∧ a.2.1 = q ++ [(z : Int)]) (hb : b.2.1 = [] ∨ ∃ e : Nat, ∃ q, e < g.2.1.length ∧ (g.2.1.getD e dR).1 = v ∧ b.2.1 = (e : Int) :: q) :
    ∃ y, f109 k g a b = some y ∧ f112 k net a b = some y ∧ y.2.1.length ≤ 1048576 := by
  unfold f109 f112
  by_cases h : (bif (!a.1) then true else (!b.1)) = true
  · rw [if_t h, if_t h]; exact ⟨_, rfl, rfl, by simp⟩
  rw [if_f h, if_f h]
  have c1 : (List.length ([] : List Int) + a.2.1.length) * 8 ≤ 140737488355328 := by rw [List.length_nil]; omega
  have c2 : ((([] : List Int) ++ a.2.1).length + b.2.1.length) * 8 ≤ 140737488355328 := by rw [List.nil_append]; omega
  have cl : ((([] : List Int) ++ a.2.1) ++ b.2.1).length ≤ 1048576 := by rw [List.nil_append, List.length_append]; omega
  rw [if_t c1, if_t c2]
  by_cases hc : (bif (decide (((List.length a.2.1 : Int) : Int) > (0 : Int))) then (decide (((List.length b.2.1 : Int) : Int) > (0 : Int))) else false) = true
  · rw [if_t hc, if_t hc]
    have hc' : 0 < a.2.1.length ∧ 0 < b.2.1.length := by
      cases h1 : decide (((List.length a.2.1 : Int) : Int) > (0 : Int)) with
      | false => rw [h1] at hc; cases hc
      | true => rw [h1, cond_true, decide_eq_true_eq] at hc; rw [decide_eq_true_eq] at h1; omega
    obtain ⟨z, q, hz, hzt, hae⟩ : ∃ z : Nat, ∃ q, z < g.2.1.length ∧ (g.2.1.getD z dR).2.1 = v ∧ a.2.1 = q ++ [(z : Int)] := by
      rcases ha with h | h
      · rw [h] at hc'; simp at hc'
      · exact h
    obtain ⟨e, r, he, hef, hbe⟩ : ∃ e : Nat, ∃ q, e < g.2.1.length ∧ (g.2.1.getD e dR).1 = v ∧ b.2.1 = (e : Int) :: q := by
      rcases hb with h | h
      · rw [h] at hc'; simp at hc'
      · exact h
    have w : IntKind.i64.wrap ((a.2.1.length : Int) - 1) = ((a.2.1.length - 1 : Nat) : Int) := by rw [wrap_in (by omega) (by omega)]; omega
    have ga : a.2.1.getD (a.2.1.length - 1) 0 = (z : Int) := by rw [hae]; simp [List.getD_eq_getElem?_getD]
    have gb : b.2.1.getD (Int.toNat 0) 0 = (e : Int) := by rw [hbe]; rfl
    have t1 := e162 hg k hk (road_nat hz) (road_nat he)
    have t2 : f170 k net (z : Int) (e : Int) = some (turnOf g (z : Int) (e : Int)) := by
      rw [e170 hg k hn (road_nat hz) (road_nat he), if_pos]
      unfold roadAt; rw [Int.toNat_natCast, Int.toNat_natCast]
      exact hzt.trans hef.symm
    simp only [w, Int.toNat_natCast, ga, gb]
    rw [if_t ⟨by omega, by omega⟩, if_t ⟨by omega, by omega⟩, if_t ⟨by omega, by omega⟩, if_t ⟨by omega, by omega⟩, t1, t2, Option.bind_some, Option.bind_some]
    by_cases hneg : turnOf g (z : Int) (e : Int) < 0
    · rw [if_t (by simpa using hneg), if_t (by simpa using hneg)]; exact ⟨_, rfl, rfl, by simp⟩
    · rw [if_f (by simpa using hneg), if_f (by simpa using hneg)]
      unfold f109.j6 f112.j6
      simp only [if_t c1, if_t c2]
      exact ⟨_, rfl, rfl, cl⟩
  · rw [if_f hc, if_f hc]
    unfold f109.j6 f112.j6
    simp only [if_t c1, if_t c2]
    exact ⟨_, rfl, rfl, cl⟩

theorem same_via (k : Nat) (hk : 1099511627776 < k) (g : Graph) (h1 : g.1.length ≤ 1048576) (h2 : g.2.1.length ≤ 1048576) (h3 : g.2.2.length ≤ 1048576) (s v t : Int) :
    ∃ y, f41 k g s v t = some y ∧ f42 k g s v t = some y ∧ y.2.1.length ≤ 1048576 := by
  unfold f41 f42
  rw [spec70 k (by omega) g h1 h2 h3, impl79 k (by omega) g h1 h2 h3]
  simp only [Option.bind_some, e93]
  cases hg : graphOk g with
  | false => exact ⟨(false, (([] : List Int), ((0 : Int), (0 : Int)))), by simp, by simp, by simp⟩
  | true =>
    obtain ⟨net, hn, hno⟩ := e80 (gok hg) k (by omega)
    have hne : ¬ ((!true) = true) := by simp
    simp only [if_f hne, hn, Option.bind_some, e96 k hno]
    cases hs : spotIs g s with
    | false => exact ⟨(false, (([] : List Int), ((0 : Int), (0 : Int)))), by simp, by simp, by simp⟩
    | true =>
      cases hv : spotIs g v with
      | false => exact ⟨(false, (([] : List Int), ((0 : Int), (0 : Int)))), by simp, by simp, by simp⟩
      | true =>
        cases ht : spotIs g t with
        | false => exact ⟨(false, (([] : List Int), ((0 : Int), (0 : Int)))), by simp, by simp, by simp⟩
        | true =>
          obtain ⟨es, es1, es2, es3⟩ := e73 (gok hg) k (by omega) false
          obtain ⟨tm, ct, q1, q2, q3⟩ := same_back (gok hg) k hk v hno
          obtain ⟨tm', ct', q1', q2', q3'⟩ := same_back (gok hg) k hk t hno
          obtain ⟨a, a1, a2, a3, a4⟩ := best_same (gok hg) k hk hno ⟨es2, es3⟩ hs q3 q2
          obtain ⟨b, b1, b2, b3, b4⟩ := best_same (gok hg) k hk hno ⟨es2, es3⟩ hv q3' q2'
          obtain ⟨y, y1, y2, y3⟩ := join_same (v := v) (gok hg) k (by omega) hno a b a3 b3 (a4.imp_right (fun h => h.1)) (b4.imp_right (fun h => h.2))
          refine ⟨y, ?_, ?_, y3⟩
          · simp [q1, q1', es1, a1, b1, y1]
          · simp [a2, b2, y2]
end Go.Proofs.Ytchbpdnaodicaaa
