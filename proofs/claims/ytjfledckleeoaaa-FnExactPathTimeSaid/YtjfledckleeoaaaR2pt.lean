/-
  PathTime: the specification and the program go along the roads alike. No condition.
-/
import Derived.Test.YtjfledckleeoaaaR2dht
set_option linter.unusedVariables false
set_option linter.unusedSimpArgs false
namespace Go.Proofs.Ytjfledckleeoaaa
open Go Go.Vm Go.Proofs V

theorem e89 (k : Nat) (g : Graph) (r : Int) : f89 k g r = some (spotIs g r) := by
  unfold f89 spotIs
  congr 1
  by_cases h : 0 ≤ r <;> simp [h]
theorem e91 (k : Nat) {g : Graph} {t : Net} (ht : NetOf g t) (r : Int) : f91 k t r = some (spotIs g r) := by
  unfold f91 spotIs
  rw [ht.fst]
  congr 1
  by_cases h : 0 ≤ r <;> simp [h]

theorem path_same {g : Graph} (hg : GOk g) (k : Nat) (hk : 1048576 < k) {t : Net} (ht : NetOf g t) (l : List Int) (hl : l.length ≤ 1048576) (z : Int) : ∀ (m i : Nat) (s a : Int), i ≤ l.length → l.length - i < m →
    (0 < i → roadIs g (l.getD (i - 1) 0) = true ∧ a = (roadAt g (l.getD (i - 1) 0)).2.1) → ∃ v, f90.l128 k l g z m (s, a, (i : Int)) = some v ∧ f92.l98 k l t z m (a, s, (i : Int)) = some v
  | 0, i, s, a, _, h, _ => by omega
  | m + 1, i, s, a, hi, h, hp => by
    have e77' := fun {e f : Int} => e77 hg k ht (e := e) (f := f)
    have e65' := e65 k ht
    have ih := path_same hg k hk ht l hl z m (i + 1)
    obtain ⟨g', o, ii, mm⟩ := t
    obtain rfl : g' = g := ht.fst
    rw [f90.l128, f92.l98]
    simp only [foldR]
    by_cases hlt : i < l.length
    · have hb : (0 : Int) ≤ (i : Int) ∧ (i : Int) < (l.length : Int) := ⟨by omega, by omega⟩
      have hc : decide ((i : Int) < (l.length : Int)) = true := by simpa using hlt
      simp only [if_t hc, if_t hb, e75, e65', Option.bind_some, Int.toNat_natCast]
      have hr1 : l.getD (i + 1 - 1) 0 = l.getD i 0 := rfl
      generalize hr0 : l.getD i (0 : Int) = r at *
      cases hr : roadIs g' r with
      | false => exact ⟨-1, by simp, by simp⟩
      | true =>
        have br := roadIs_iff.1 hr
        have c0 : True → (0 ≤ r ∧ r < (g'.2.1.length : Int)) := fun _ => br
        have c1 : True → ((0 : Int) ≤ (i : Int) ∧ (i : Int) < (l.length : Int)) := fun _ => hb
        simp only [Bool.not_true, cond_false, if_t c0, if_t c1]
        by_cases ha : (roadAt g' r).1 = a
        · have hna : ¬ (((roadAt g' r).1 != a) = true) := by simp [ha]
          simp only [if_f hna]
          have step : ∀ s', ∃ v, f90.j242 k (i : Int) l g' (f90.l128 k l g' z m) s' = some v ∧ f92.j186 k l (i : Int) (g', o, ii, mm) (f92.l98 k l (g', o, ii, mm) z m) s' = some v := fun s' => by
            unfold f90.j242 f92.j186
            simp only [foldR, Int.toNat_natCast, hr0, if_t hb, if_t br]
            rw [wrap_s (by omega)]
            exact ih _ _ (by omega) (by omega) (fun _ => by rw [show i + 1 - 1 = i by omega, hr0]; exact ⟨hr, rfl⟩)
          cases i with
          | zero =>
            have hz : ¬ (decide (((0 : Nat) : Int) > (0 : Int)) = true) := by simp
            simp only [if_f hz]
            exact step s
          | succ j =>
            have hz : decide (((j + 1 : Nat) : Int) > (0 : Int)) = true := by simp
            have hj : (0 : Int) ≤ (j : Int) ∧ (j : Int) < (l.length : Int) := ⟨by omega, by omega⟩
            obtain ⟨p1, p2⟩ := hp (by omega)
            rw [show j + 1 - 1 = j by omega] at p1 p2
            simp only [if_t hz, wrap_p j (by omega), if_t hj, Int.toNat_natCast]
            rw [e76 hg k hk p1 hr, e77' p1 hr, if_pos (by rw [← p2, ha])]
            simp only [Option.bind_some]
            by_cases ht' : turnOf g' (l.getD j 0) r < 0
            · have hd : decide (turnOf g' (l.getD j 0) r < 0) = true := by simpa using ht'
              simp only [if_t hd]
              exact ⟨-1, rfl, rfl⟩
            · have hd : ¬ (decide (turnOf g' (l.getD j 0) r < 0) = true) := by simpa using ht'
              simp only [if_f hd]
              exact step _
        · have hna : ((roadAt g' r).1 != a) = true := by simp [ha]
          simp only [if_t hna]
          exact ⟨-1, rfl, rfl⟩
    · have hc : ¬ (decide ((i : Int) < (l.length : Int)) = true) := by simpa using hlt
      simp only [if_f hc]
      by_cases hz : a = z
      · have hd : ¬ ((a != z) = true) := by simp [hz]
        simp only [if_f hd]
        exact ⟨s, rfl, rfl⟩
      · have hd : (a != z) = true := by simp [hz]
        simp only [if_t hd]
        exact ⟨-1, rfl, rfl⟩

theorem same_path (k : Nat) (hk : 1048576 < k) (g : Graph) (h1 : g.1.length ≤ 1048576) (h2 : g.2.1.length ≤ 1048576) (h3 : g.2.2.length ≤ 1048576) (l : List Int) (hl : l.length ≤ 1048576) (s z : Int) :
    ∃ v, f36 k g l s z = some v ∧ f37 k g l s z = some v := by
  unfold f36 f37
  rw [spec57 k hk g h1 h2 h3, impl63 k hk g h1 h2 h3]
  simp only [Option.bind_some, e89]
  cases hg : graphOk g with
  | false => exact ⟨-1, by simp, by simp⟩
  | true =>
    obtain ⟨t, ht, hn⟩ := e64 (gok hg) k hk
    have hne : ¬ ((!true) = true) := by simp
    simp only [if_f hne, ht, Option.bind_some, e91 k hn]
    cases hs : spotIs g s with
    | false => exact ⟨-1, by simp, by simp⟩
    | true =>
      cases hz : spotIs g z with
      | false => exact ⟨-1, by simp, by simp⟩
      | true =>
        obtain ⟨v, q1, q2⟩ := path_same (gok hg) k hk hn l hl z k 0 0 s (Nat.zero_le _) (by omega) (fun h => by omega)
        have q1' : f90 k g l s z = some v := q1
        have q2' : f92 k t l s z = some v := q2
        exact ⟨v, by simp [q1'], by simp [q2']⟩
end Go.Proofs.Ytjfledckleeoaaa
