/-
  The time of a path: the specification and the program go along the roads alike; what is told only if the roads follow each other. No condition.
-/
import Derived.Test.YtchbpdnaodicaaaR3dlib
set_option linter.unusedVariables false
set_option linter.unusedSimpArgs false
namespace Go.Proofs.Ytchbpdnaodicaaa
open Go Go.Vm Go.Proofs V

/-- Road j of a row is one, and follows the one ahead of it. -/
def Linked (g : Graph) (l : List Int) (j : Nat) : Prop := roadIs g (l.getD j 0) = true ∧ (0 < j → (roadAt g (l.getD (j - 1) 0)).2.1 = (roadAt g (l.getD j 0)).1 ∧ banned g (l.getD (j - 1) 0) (l.getD j 0) = false)
theorem path_same {g : Graph} (hg : GOk g) (k : Nat) (hk : 1048576 < k) {t : Net} (ht : NetOf g t) (l : List Int) (hl : l.length ≤ 1048576) (z : Int) : ∀ (m i : Nat) (s a : Int), i ≤ l.length → l.length - i < m →
    (0 < i → roadIs g (l.getD (i - 1) 0) = true ∧ a = (roadAt g (l.getD (i - 1) 0)).2.1) → ∃ v, f72.l128 k l g z m (s, a, (i : Int)) = some v ∧ f82.l98 k l t z m (a, s, (i : Int)) = some v ∧ (0 ≤ v → ∀ j, i ≤ j → j < l.length → Linked g l j)
  | 0, i, s, a, _, h, _ => by omega
  | m + 1, i, s, a, hi, h, hp => by
    have e170' := fun {e f : Int} => e170 hg k ht (e := e) (f := f)
    have e81' := e81 k ht
    have ih := path_same hg k hk ht l hl z m (i + 1)
    obtain ⟨g', o, ii, mm⟩ := t
    obtain rfl : g' = g := ht.fst
    rw [f72.l128, f82.l98]
    simp only [foldR]
    by_cases hlt : i < l.length
    · have hb : (0 : Int) ≤ (i : Int) ∧ (i : Int) < (l.length : Int) := ⟨by omega, by omega⟩
      have hc : decide ((i : Int) < (l.length : Int)) = true := by simpa using hlt
      simp only [if_t hc, if_t hb, e161, e81', Option.bind_some, Int.toNat_natCast]
      have hr1 : l.getD (i + 1 - 1) 0 = l.getD i 0 := rfl
      generalize hr0 : l.getD i (0 : Int) = r at *
      cases hr : roadIs g' r with
      | false => exact ⟨-1, by simp, by simp, by omega⟩
      | true =>
        have br := roadIs_iff.1 hr
        have c0 : True → (0 ≤ r ∧ r < (g'.2.1.length : Int)) := fun _ => br
        have c1 : True → ((0 : Int) ≤ (i : Int) ∧ (i : Int) < (l.length : Int)) := fun _ => hb
        simp only [Bool.not_true, cond_false, if_t c0, if_t c1]
        by_cases ha : (roadAt g' r).1 = a
        · have hna : ¬ (((roadAt g' r).1 != a) = true) := by simp [ha]
          simp only [if_f hna]
          have step : (0 < i → banned g' (l.getD (i - 1) 0) r = false) → ∀ s', ∃ v, f72.j242 k (i : Int) l g' (f72.l128 k l g' z m) s' = some v ∧ f82.j186 k l (i : Int) (g', o, ii, mm) (f82.l98 k l (g', o, ii, mm) z m) s' = some v ∧ (0 ≤ v → ∀ j, i ≤ j → j < l.length → Linked g' l j) := fun hbn s' => by
            unfold f72.j242 f82.j186
            simp only [foldR, Int.toNat_natCast, hr0, if_t hb, if_t br]
            rw [wrap_s (by omega)]
            obtain ⟨v, v1, v2, v3⟩ := ih ((IntKind.i64.wrap (s' + (roadAt g' r).2.2.2.1))) (roadAt g' r).2.1 (by omega) (by omega) (fun _ => by rw [show i + 1 - 1 = i by omega, hr0]; exact ⟨hr, rfl⟩)
            refine ⟨v, v1, v2, fun hv j hj1 hj2 => ?_⟩
            by_cases hji : j = i
            · subst hji
              refine ⟨by rw [hr0]; exact hr, fun h0 => ?_⟩
              rw [hr0, ← (hp h0).2]
              exact ⟨ha.symm, hbn h0⟩
            · exact v3 hv j (by omega) hj2
          cases i with
          | zero =>
            have hz : ¬ (decide (((0 : Nat) : Int) > (0 : Int)) = true) := by simp
            simp only [if_f hz]
            exact step (fun h => by omega) s
          | succ j =>
            have hz : decide (((j + 1 : Nat) : Int) > (0 : Int)) = true := by simp
            have hj : (0 : Int) ≤ (j : Int) ∧ (j : Int) < (l.length : Int) := ⟨by omega, by omega⟩
            obtain ⟨p1, p2⟩ := hp (by omega)
            rw [show j + 1 - 1 = j by omega] at p1 p2
            simp only [if_t hz, wrap_p j (by omega), if_t hj, Int.toNat_natCast]
            rw [e162 hg k hk p1 hr, e170' p1 hr, if_pos (by rw [← p2, ha])]
            simp only [Option.bind_some]
            by_cases ht' : turnOf g' (l.getD j 0) r < 0
            · have hd : decide (turnOf g' (l.getD j 0) r < 0) = true := by simpa using ht'
              simp only [if_t hd]
              exact ⟨-1, rfl, rfl, by omega⟩
            · have hd : ¬ (decide (turnOf g' (l.getD j 0) r < 0) = true) := by simpa using ht'
              simp only [if_f hd]
              exact step (fun _ => by
                rw [show j + 1 - 1 = j by omega]
                cases hb : banned g' (l.getD j 0) r with
                | false => rfl
                | true => exact absurd (by unfold turnOf; rw [if_pos hb]; decide) ht') _
        · have hna : ((roadAt g' r).1 != a) = true := by simp [ha]
          simp only [if_t hna]
          exact ⟨-1, rfl, rfl, by omega⟩
    · have hc : ¬ (decide ((i : Int) < (l.length : Int)) = true) := by simpa using hlt
      simp only [if_f hc]
      by_cases hz : a = z
      · have hd : ¬ ((a != z) = true) := by simp [hz]
        simp only [if_f hd]
        exact ⟨s, rfl, rfl, fun _ j h1 h2 => by omega⟩
      · have hd : (a != z) = true := by simp [hz]
        simp only [if_t hd]
        exact ⟨-1, rfl, rfl, by omega⟩

end Go.Proofs.Ytchbpdnaodicaaa
