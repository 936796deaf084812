/-
  The heap of the program: push and pop. No condition.
-/
import Derived.Test.YtchbpdnaodicaaaR3flib
import Derived.Test.YtchbpdnaodicaaaLawE
import Derived.Test.YtchbpdnaodicaaaDijQ
set_option linter.unusedVariables false
set_option linter.unusedSimpArgs false
namespace Go.Proofs.Ytchbpdnaodicaaa
open Go Go.Vm Go.Proofs V
theorem e252 (k : Nat) (x y : It) : f252 k x y = some (lsB x y) := by
  unfold f252 lsB
  by_cases h1 : x.1 = y.1
  · by_cases h2 : x.2.1 = y.2.1
    · simp [h1, h2]
    · simp [h1, h2]
  · simp [h1]
theorem push_go (k : Nat) (x0 : List It × Unit) : ∀ (m i : Nat) (xs : List It), Up xs i → i < m → xs.length ≤ 4294967296 →
    ∃ ys, f224.l1 k x0 m (xs, (i : Int)) = some (ys, x0.2) ∧ HP ys ∧ ys.length = xs.length ∧ ∀ u, Has ys u ↔ Has xs u
  | 0, i, xs, _, h, _ => by omega
  | m + 1, i, xs, hu, hm, hl => by
    have hi := hu.lt
    have h2 : ((2 : Int) : Int) ≠ 0 := by decide
    by_cases h0 : 0 < i
    · have hq : IntKind.i64.wrap (Int.tdiv (IntKind.i64.wrap ((i : Int) - 1)) 2) = (((i - 1) / 2 : Nat) : Int) := by
        rw [wrap_in (n := (i : Int) - 1) (by omega) (by omega), Int.tdiv_eq_ediv_of_nonneg (by omega), wrap_in (by omega) (by omega)]; omega
      have hp : (i - 1) / 2 < xs.length := by omega
      have hc : decide ((i : Int) > 0) = true := by simpa using h0
      have hb : (0 : Int) ≤ (i : Int) ∧ (i : Int) < (xs.length : Int) := ⟨by omega, by omega⟩
      have hb2 : (0 : Int) ≤ (((i - 1) / 2 : Nat) : Int) ∧ (((i - 1) / 2 : Nat) : Int) < (xs.length : Int) := ⟨by omega, by omega⟩
      rw [f224.l1]
      simp only [hq, hc, e252, Option.bind_some, Int.toNat_natCast, List.length_set, if_t hb, if_t hb2, if_t h2, cond_true]
      rw [if_t (fun _ => hb), if_t (fun _ => h2), if_t (fun _ => hb2), if_t trivial, Option.bind_some]
      by_cases hls : ls (X xs i) (X xs ((i - 1) / 2))
      · rw [if_t (show lsB (xs.getD i ((0 : Int), ((0 : Int), (0 : Int)))) (xs.getD ((i - 1) / 2) ((0 : Int), ((0 : Int), (0 : Int)))) = true from lsB_iff.2 hls)]
        obtain ⟨ys, q1, q2, q3, q4⟩ := push_go k x0 m ((i - 1) / 2) (swp xs i ((i - 1) / 2)) (hu.step h0 hls) (by omega) (by rw [swp_len]; exact hl)
        exact ⟨ys, q1, q2, by rw [q3, swp_len], fun u => by rw [q4, swp_has hi hp]⟩
      · rw [if_f (by rw [show lsB (xs.getD i ((0 : Int), ((0 : Int), (0 : Int)))) (xs.getD ((i - 1) / 2) ((0 : Int), ((0 : Int), (0 : Int)))) = false from lsB_not.2 hls]; decide)]
        exact ⟨xs, rfl, hu.done (.inr hls), rfl, fun u => Iff.rfl⟩
    · obtain rfl : i = 0 := by omega
      have hc : decide ((((0 : Nat) : Int)) > 0) = false := by simp
      rw [f224.l1]
      simp only [hc, Bool.false_eq_true, false_implies, if_true, if_false, Option.bind_some, cond_false]
      exact ⟨xs, rfl, hu.done (.inl rfl), rfl, fun u => Iff.rfl⟩
theorem has_app {xs : List It} {v u : It} : Has (xs ++ [v]) u ↔ Has xs u ∨ u = v := by
  unfold Has
  constructor
  · rintro ⟨j, hj, rfl⟩
    by_cases h : j < xs.length
    · exact .inl ⟨j, h, by simp [X, List.getD_eq_getElem?_getD, List.getElem?_append_left h]⟩
    · simp at hj
      obtain rfl : j = xs.length := by omega
      right; simp [X, List.getD_eq_getElem?_getD]
  · rintro (⟨j, hj, rfl⟩ | rfl)
    · exact ⟨j, by simp; omega, by simp [X, List.getD_eq_getElem?_getD, List.getElem?_append_left hj]⟩
    · exact ⟨xs.length, by simp, by simp [X, List.getD_eq_getElem?_getD]⟩
theorem push_ok (k : Nat) (hk : 1099511627776 < k) {xs : List It} {v : It} (h : HP xs) (hl : xs.length ≤ 1073741824) :
    ∃ ys, f224 k (xs, ()) v = some (ys, ()) ∧ HP ys ∧ ys.length = xs.length + 1 ∧ ∀ u, Has ys u ↔ Has xs u ∨ u = v := by
  obtain ⟨ys, q1, q2, q3, q4⟩ := push_go k (xs, ()) k xs.length (xs ++ [v]) (Up.new h v) (by omega) (by simp; omega)
  refine ⟨ys, ?_, q2, by rw [q3]; simp, fun u => by rw [q4, has_app]⟩
  unfold f224
  rw [if_t (by simp; omega)]
  have e : IntKind.i64.wrap ((List.length (List.append xs [v]) : Int) - 1) = (xs.length : Int) := by
    rw [show List.append xs [v] = xs ++ [v] from rfl, List.length_append, List.length_singleton]
    rw [wrap_in (by omega) (by omega)]; omega
  rw [show ((xs, ()) : List It × Unit).1 = xs from rfl, e]
  exact q1
theorem pop_go (k : Nat) (x0 : List It × Unit) (n : Nat) (hn : x0.1.length = n + 1) (hn2 : n ≤ 4294967296) : ∀ (d i m : Nat) (xs : List It), xs.length = n → Down xs i → (i < n ∨ (n = 0 ∧ i = 0)) → n - i ≤ d → d < m →
    ∃ ys, f225.l56 k x0 (f225.j55 k x0) m (xs, (i : Int)) = f225.j55 k x0 ys ∧ HP ys ∧ ys.length = n ∧ ∀ u, Has ys u ↔ Has xs u := by
  intro d
  induction d with
  | zero =>
    intro i m xs hx hd hi hdn hm
    obtain ⟨m, rfl⟩ : ∃ q, m = q + 1 := ⟨m - 1, by omega⟩
    have hw1 : IntKind.i64.wrap (IntKind.i64.wrap ((2 : Int) * (i : Int)) + 1) = ((2 * i + 1 : Nat) : Int) := by
      rw [wrap_in (n := (2 : Int) * (i : Int)) (by omega) (by omega), wrap_in (by omega) (by omega)]; omega
    have hw3 : IntKind.i64.wrap ((x0.1.length : Int) - 1) = (n : Int) := by rw [hn, wrap_in (by omega) (by omega)]; omega
    rw [f225.l56]
    simp only [hw1, hw3]
    rw [if_t (by simp; omega)]
    exact ⟨xs, rfl, hd.done (fun j h0 hj hp => by omega), hx, fun _ => Iff.rfl⟩
  | succ d ih =>
    intro i m xs hx hd hi hdn hm
    obtain ⟨m, rfl⟩ : ∃ q, m = q + 1 := ⟨m - 1, by omega⟩
    have hw1 : IntKind.i64.wrap (IntKind.i64.wrap ((2 : Int) * (i : Int)) + 1) = ((2 * i + 1 : Nat) : Int) := by
      rw [wrap_in (n := (2 : Int) * (i : Int)) (by omega) (by omega), wrap_in (by omega) (by omega)]; omega
    have hw2 : IntKind.i64.wrap (((2 * i + 1 : Nat) : Int) + 1) = ((2 * i + 2 : Nat) : Int) := by
      rw [wrap_in (by omega) (by omega)]; omega
    have hw3 : IntKind.i64.wrap ((x0.1.length : Int) - 1) = (n : Int) := by rw [hn, wrap_in (by omega) (by omega)]; omega
    -- from the child c on
    have child : ∀ c : Nat, c < n → 0 < c → (c - 1) / 2 = i → (∀ j, 0 < j → j < xs.length → (j - 1) / 2 = i → ¬ ls (X xs j) (X xs c)) →
        ∃ ys, f225.j97 k xs (i : Int) (f225.j55 k x0) ((f225.l56 k x0 (f225.j55 k x0)) m) (c : Int) = f225.j55 k x0 ys ∧ HP ys ∧ ys.length = n ∧ ∀ u, Has ys u ↔ Has xs u := by
      intro c hc hc0 hci hmin
      have b1 : (0 : Int) ≤ (c : Int) ∧ (c : Int) < (xs.length : Int) := ⟨by omega, by omega⟩
      have b2 : (0 : Int) ≤ (i : Int) ∧ (i : Int) < (xs.length : Int) := ⟨by omega, by omega⟩
      unfold f225.j97
      simp only [if_t b1, if_t b2, e252, Option.bind_some, Int.toNat_natCast, List.length_set]
      by_cases hls : ls (X xs c) (X xs i)
      · rw [if_f (by rw [show lsB (xs.getD c ((0 : Int), ((0 : Int), (0 : Int)))) (xs.getD i ((0 : Int), ((0 : Int), (0 : Int)))) = true from lsB_iff.2 hls]; decide)]
        obtain ⟨ys, q1, q2, q3, q4⟩ := ih c m (swp xs i c) (by rw [swp_len]; exact hx) (hd.step hc0 (by omega) hci hmin hls) (by omega) (by omega) (by omega)
        exact ⟨ys, q1, q2, q3, fun u => by rw [q4, swp_has (by omega) (by omega)]⟩
      · rw [if_t (by rw [show lsB (xs.getD c ((0 : Int), ((0 : Int), (0 : Int)))) (xs.getD i ((0 : Int), ((0 : Int), (0 : Int)))) = false from lsB_not.2 hls]; rfl)]
        exact ⟨xs, rfl, hd.done (fun j h0 hj hp => ls_trans hls (hmin j h0 hj hp)), hx, fun _ => Iff.rfl⟩
    rw [f225.l56]
    simp only [hw1, hw2, hw3]
    by_cases hc : n ≤ 2 * i + 1
    · rw [if_t (by simp; omega)]
      exact ⟨xs, rfl, hd.done (fun j h0 hj hp => by omega), hx, fun _ => Iff.rfl⟩
    · rw [if_f (by simp; omega)]
      by_cases hc2 : 2 * i + 2 < n
      · have hd1 : decide ((((2 * i + 2 : Nat) : Int)) < (n : Int)) = true := by simp; omega
        simp only [hd1, Int.toNat_natCast, e252]
        rw [if_t (fun _ => ⟨by omega, by omega⟩), if_t (fun _ => ⟨by omega, by omega⟩), if_t trivial, Option.bind_some, cond_true]
        by_cases hls : ls (X xs (2 * i + 2)) (X xs (2 * i + 1))
        · rw [if_t (by exact lsB_iff.2 hls)]
          refine child (2 * i + 2) hc2 (by omega) (by omega) fun j h0 hj hp => ?_
          have : j = 2 * i + 1 ∨ j = 2 * i + 2 := by omega
          rcases this with rfl | rfl
          · exact ls_asym hls
          · exact fun h => ls_asym h h
        · rw [if_f (by rw [show lsB (xs.getD (2 * i + 2) ((0 : Int), ((0 : Int), (0 : Int)))) (xs.getD (2 * i + 1) ((0 : Int), ((0 : Int), (0 : Int)))) = false from lsB_not.2 hls]; decide)]
          refine child (2 * i + 1) (by omega) (by omega) (by omega) fun j h0 hj hp => ?_
          have : j = 2 * i + 1 ∨ j = 2 * i + 2 := by omega
          rcases this with rfl | rfl
          · exact fun h => ls_asym h h
          · exact hls
      · have hd1 : decide ((((2 * i + 2 : Nat) : Int)) < (n : Int)) = false := by simp; omega
        simp only [hd1, Bool.false_eq_true, false_implies, if_true, if_false, Option.bind_some, cond_false]
        refine child (2 * i + 1) (by omega) (by omega) (by omega) fun j h0 hj hp => ?_
        have : j = 2 * i + 1 := by omega
        subst this
        exact fun h => ls_asym h h
theorem pop_ok (k : Nat) (hk : 1099511627776 < k) {xs : List It} (h : HP xs) (h0 : 0 < xs.length) (hl : xs.length ≤ 1073741824) :
    ∃ ys, f225 k (xs, ()) = some (X xs 0, (ys, ())) ∧ HP ys ∧ ys.length = xs.length - 1 ∧ (∀ u, Has ys u → Has xs u) ∧ (∀ u, Has xs u → u = X xs 0 ∨ Has ys u) ∧ ∀ u, Has xs u → ¬ ls u (X xs 0) := by
  have hw : IntKind.i64.wrap ((xs.length : Int) - 1) = ((xs.length - 1 : Nat) : Int) := by rw [wrap_in (by omega) (by omega)]; omega
  obtain ⟨zs, hz⟩ : ∃ zs, zs = (xs.set 0 (xs.getD (xs.length - 1) itD)).take (xs.length - 1) := ⟨_, rfl⟩
  have zl : zs.length = xs.length - 1 := by rw [hz]; simp
  have za : ∀ j, j < xs.length - 1 → X zs j = if j = 0 then X xs (xs.length - 1) else X xs j := fun j hj => by
    show zs.getD j itD = _
    rw [hz, getD_take hj, getD_set]
    by_cases hj0 : j = 0
    · rw [if_pos ⟨hj0.symm, h0⟩, if_pos hj0]
    · rw [if_neg (fun e => hj0 e.1.symm), if_neg hj0]
  have hdn : Down zs 0 := ⟨fun j hj0 hj hne => by
    rw [zl] at hj
    rw [za j hj, za _ (by omega), if_neg (by omega), if_neg hne]
    exact h j hj0 (by omega), fun j _ _ _ h => by omega⟩
  obtain ⟨ys, q1, q2, q3, q4⟩ := pop_go k (xs, ()) (xs.length - 1) (by show xs.length = _; omega) (by omega) (xs.length - 1) 0 k zs zl hdn (by omega) (by omega) (by omega)
  have hasz : ∀ u, Has zs u → Has xs u := by
    rintro u ⟨j, hj, rfl⟩
    rw [zl] at hj
    rw [za j hj]
    split
    · exact ⟨_, by omega, rfl⟩
    · exact ⟨j, by omega, rfl⟩
  refine ⟨ys, ?_, q2, q3, fun u hu => hasz u ((q4 u).1 hu), fun u hu => ?_, fun u ⟨j, hj, e⟩ => by rw [← e]; exact h.root j j (Nat.le_refl _) hj⟩
  · unfold f225
    simp only [hw, Int.toNat_natCast, List.length_set]
    rw [if_t ⟨by omega, by omega⟩, if_t ⟨by omega, by omega⟩, if_t ⟨by omega, by omega⟩, if_t ⟨by omega, by omega⟩]
    rw [hz] at q1
    exact q1
  · obtain ⟨j, hj, rfl⟩ := hu
    by_cases hj0 : j = 0
    · exact .inl (by rw [hj0])
    · right; rw [q4]
      by_cases hjl : j = xs.length - 1
      · exact ⟨0, by omega, by rw [za 0 (by omega), if_pos rfl, hjl]⟩
      · exact ⟨j, by omega, by rw [za j (by omega), if_neg hj0]⟩
end Go.Proofs.Ytchbpdnaodicaaa
