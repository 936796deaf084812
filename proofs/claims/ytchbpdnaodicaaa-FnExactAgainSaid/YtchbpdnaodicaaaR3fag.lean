/-
  Again: what has been driven, and from there the best way, alike. No condition.
-/
import Derived.Test.YtchbpdnaodicaaaR3ffo
set_option linter.unusedVariables false
set_option linter.unusedSimpArgs false
namespace Go.Proofs.Ytchbpdnaodicaaa
open Go Go.Vm Go.Proofs V
abbrev Pth := Bool × (List Int × (Int × Int))
def noPath : Pth := (false, (([] : List Int), ((0 : Int), (0 : Int))))
theorem best_net {g : Graph} (hg : graphOk g = true) (k : Nat) (hk : 1099511627776 < k) (h1 : g.1.length ≤ 1048576) (h2 : g.2.1.length ≤ 1048576) (h3 : g.2.2.length ≤ 1048576) {net : Net} (hno : NetOf g net) {s t : Int} (hs : spotIs g s = true) (ht : spotIs g t = true) :
    ∃ y : Pth, f116 k g s t = some y ∧ f113 k net s t = some y ∧ y.2.1.length ≤ 1048576 := by
  obtain ⟨tm, ct, q1, q2, q3⟩ := same_back (gok hg) k hk t hno
  obtain ⟨es, es1, es2, es3⟩ := e73 (gok hg) k (by omega) false
  obtain ⟨y, y1, y2, y3, _⟩ := best_same (gok hg) k hk hno ⟨es2, es3⟩ hs q3 q2
  refine ⟨y, ?_, y2, by omega⟩
  unfold f116
  rw [spec70 k (by omega) g h1 h2 h3, hg]
  simp [e93, hs, ht, q1, es1, y1]
theorem same_again (k : Nat) (hk : 1099511627776 < k) (g : Graph) (h1 : g.1.length ≤ 1048576) (h2 : g.2.1.length ≤ 1048576) (h3 : g.2.2.length ≤ 1048576) (x1 : List Turning) (h4 : x1.length ≤ 1048576) (hT : ∀ T ∈ x1, -9223372036854775808 ≤ T.2.1 ∧ T.2.1 ≤ 9223372036854775807) (s a t : Int) :
    ∃ y : Pth, f48 k g x1 s a t = some y ∧ f49 k g x1 s a t = some y ∧ y.2.1.length ≤ 1048576 := by
  unfold f48 f49 f27
  rw [spec70 k (by omega) g h1 h2 h3, impl79 k (by omega) g h1 h2 h3]
  simp only [Option.bind_some, e93]
  cases hg : graphOk g with
  | false => exact ⟨noPath, by simp [noPath], by simp [noPath], by simp [noPath]⟩
  | true =>
    obtain ⟨net, hn, hno⟩ := e80 (gok hg) k (by omega)
    have hnt : (!true) = false := rfl
    simp only [hnt, cond_false, if_true, hn, Option.bind_some, e96 k hno]
    cases hs : spotIs g s with
    | false =>
      refine ⟨noPath, by simp [noPath], ?_, by simp [noPath]⟩
      by_cases ha : a < 0
      · simp [ha, noPath]
      · simp [ha, noPath]
    | true =>
      obtain ⟨o, o1, o2, o3⟩ := e73 (gok hg) k (by omega) false
      obtain ⟨v, q1, q2, q3⟩ := follow_same (gok hg) k (by omega) hno o2 o3 s hs x1 h4 hT _ k k 0 [] rfl (by omega) (by omega) (Nat.zero_le _) (.inl ⟨rfl, rfl⟩) (by simp) (by simp)
      have q1' : f94 k g s x1 = some v := by
        unfold f94
        rw [o1, Option.bind_some]; exact q1
      have q2' : f97 k net s x1 = some v := q2
      by_cases ha : a < 0
      · exact ⟨noPath, by simp [q1', ha, noPath], by simp [ha, noPath], by simp [noPath]⟩
      have c1 : decide (a < 0) = false := decide_eq_false ha
      cases ht : spotIs g t with
      | false => exact ⟨noPath, by cases hv : v.2 <;> simp [q1', hv, c1, noPath], by simp [c1, noPath], by simp [noPath]⟩
      | true =>
        cases hv : v.2 with
        | false => exact ⟨noPath, by simp [q1', hv, noPath], by simp [q2', hv, c1, noPath], by simp [noPath]⟩
        | true =>
          have fin : ∀ b : Int, 0 ≤ b → b ≤ (v.1.length : Int) → ∃ y : Pth, f48.j4 k v g t s b = some y ∧ f49.j7 k v g net t s b = some y ∧ y.2.1.length ≤ 1048576 := fun b b0 b1 => by
            unfold f48.j4 f49.j7
            by_cases hb : b > 0
            · have c2 : decide (b > 0) = true := decide_eq_true hb
              have hw : IntKind.i64.wrap (b - 1) = b - 1 := wrap_in (by omega) (by have := q3.1; omega)
              have hbb : 0 ≤ b - 1 ∧ b - 1 < (v.1.length : Int) := ⟨by omega, by omega⟩
              have hr := q3.2 _ (getD_in (d := (0 : Int)) (show (b - 1).toNat < v.1.length by omega))
              have br := roadIs_iff.1 hr
              have re := (road_ends (gok hg) hr).2
              simp only [if_t c2, hw, if_t hbb, if_t br, foldR]
              unfold f48.j8 f49.j11
              obtain ⟨y, y1, y2, y3⟩ := best_net hg k hk h1 h2 h3 hno (s := (roadAt g (v.1.getD (b - 1).toNat 0)).2.1) (spotIs_iff.2 re) ht
              exact ⟨y, by simp only [y1, Option.bind_some], by simp only [y2, Option.bind_some], y3⟩
            · have c2 : ¬ (decide (b > 0) = true) := by simpa using hb
              rw [if_f c2, if_f c2]
              unfold f48.j8 f49.j11
              obtain ⟨y, y1, y2, y3⟩ := best_net hg k hk h1 h2 h3 hno hs ht
              exact ⟨y, by simp only [y1, Option.bind_some], by simp only [y2, Option.bind_some], y3⟩
          by_cases hm : a > (v.1.length : Int)
          · obtain ⟨y, y1, y2, y3⟩ := fin (v.1.length : Int) (by omega) (by omega)
            have c3 : decide (a > (v.1.length : Int)) = true := decide_eq_true hm
            refine ⟨y, ?_, ?_, y3⟩
            · simp [q1', hv, c1]
              rw [if_pos (by omega)]; exact y1
            · simp [q2', hv, c1]
              rw [if_pos (by omega)]; exact y2
          · obtain ⟨y, y1, y2, y3⟩ := fin a (by omega) (by omega)
            refine ⟨y, ?_, ?_, y3⟩
            · simp [q1', hv, c1]
              rw [if_neg (by omega)]; exact y1
            · simp [q2', hv, c1]
              rw [if_neg (by omega)]; exact y2
end Go.Proofs.Ytchbpdnaodicaaa
