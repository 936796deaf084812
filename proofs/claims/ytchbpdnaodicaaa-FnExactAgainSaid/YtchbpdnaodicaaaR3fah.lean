/-
  Ahead: the roads that may follow and the one that is ahead, alike in the specification and the program. No condition.
-/
import Derived.Test.YtchbpdnaodicaaaR3flw
set_option linter.unusedVariables false
set_option linter.unusedSimpArgs false
namespace Go.Proofs.Ytchbpdnaodicaaa
open Go Go.Vm Go.Proofs V
theorem ahead_same {g : Graph} (hg : GOk g) (k : Nat) {t : Net} (ht : NetOf g t) {e : Int} (he : roadIs g e = true) (L : List Int) (hL : ∀ f ∈ L, roadIs g f = true) (hn : L.length ≤ 8000) : ∀ (m i : Nat) (a b c d : Int), i ≤ L.length → L.length - i < m →
    (a = -1 ∧ c = 99 ∧ d = -1) ∨ (roadIs g a = true ∧ d = a ∧ c = b ∧ b < 99) → ∃ v, f74.l78 k L g e m (a, b, (i : Int)) = some v ∧ f171.l66 k L t e m (c, d, (i : Int)) = some v ∧ (v = -1 ∨ roadIs g v = true)
  | 0, i, a, b, c, d, _, h, _ => by omega
  | m + 1, i, a, b, c, d, hi, h, hrel => by
    have e172' := fun {f : Int} (hf : roadIs g f = true) => e172 hg k ht he hf
    have ih := ahead_same hg k ht he L hL hn m (i + 1)
    obtain ⟨g', t2⟩ := t
    obtain rfl : g' = g := ht.fst
    have be := roadIs_iff.1 he
    rw [f74.l78, f171.l66]
    simp only [foldR]
    by_cases hlt : i < L.length
    · have hb : (0 : Int) ≤ (i : Int) ∧ (i : Int) < (L.length : Int) := ⟨by omega, by omega⟩
      have hc : decide ((i : Int) < (L.length : Int)) = true := by simpa using hlt
      have hf := hL _ (getD_in (d := (0 : Int)) hlt)
      have bf := roadIs_iff.1 hf
      have e164' := e164 hg k he hf
      have e172'' := e172' hf
      have hwr := windA_range g' e (L.getD i 0)
      simp only [if_t hc, if_t hb, Int.toNat_natCast, if_t be]
      generalize hF : L.getD i (0 : Int) = f at *
      simp only [if_t bf, e164', e172'', Option.bind_some]
      generalize (!(ByteArray.toList (roadAt g' f).2.2.2.2.2 == ByteArray.toList (roadAt g' e).2.2.2.2.2)) = nm
      cases nm with
      | true =>
        simp only [if_true]
        unfold f74.j144 f171.j122
        rw [wrap_s (by omega)]
        exact ih a b c d (by omega) (by omega) hrel
      | false =>
        simp only [Bool.false_eq_true, if_false]
        generalize windA g' e f = w at *
        have hw8 : IntKind.i64.wrap (8 - w) = 8 - w := wrap_id (by omega) (by omega)
        rw [hw8]
        have fin : ∀ x : Int, 0 ≤ x → x ≤ 8 → ∃ v, f74.j147 k a b (i : Int) L (f74.j144 k (i : Int) (f74.l78 k L g' e m)) x = some v ∧ f171.j125 k c L (i : Int) d (f171.j122 k (i : Int) (f171.l66 k L (g', t2) e m)) x = some v ∧ (v = -1 ∨ roadIs g' v = true) := fun x h0 h8 => by
          unfold f74.j147 f171.j125 f74.j144 f171.j122
          simp only [Int.toNat_natCast, hF, if_t hb]
          rw [wrap_s (by omega)]
          rcases hrel with ⟨rfl, rfl, rfl⟩ | ⟨h1, rfl, rfl, h2⟩
          · have c1 : decide (x < 99) = true := by simp; omega
            rw [if_t (by simp), if_t c1]
            exact ih f x x f (by omega) (by omega) (.inr ⟨hf, rfl, rfl, by omega⟩)
          · have c0 : decide (d < 0) = false := by simpa using (roadIs_iff.1 h1).1
            rw [c0, cond_false]
            by_cases hx : x < c
            · have c1 : decide (x < c) = true := by simpa using hx
              rw [if_t c1, if_t c1]
              exact ih f x x f (by omega) (by omega) (.inr ⟨hf, rfl, rfl, by omega⟩)
            · have c1 : ¬ (decide (x < c) = true) := by simpa using hx
              rw [if_f c1, if_f c1]
              exact ih d c c d (by omega) (by omega) (.inr ⟨h1, rfl, rfl, h2⟩)
        by_cases c1 : (bif decide (w < 8) then decide (8 - w < w) else false) = true
        · simp only [if_t c1]
          exact fin _ (by omega) (by omega)
        · simp only [if_f c1]
          exact fin _ (by omega) (by omega)
    · obtain rfl : i = L.length := by omega
      rw [if_f (by simp), if_f (by simp)]
      rcases hrel with ⟨rfl, rfl, rfl⟩ | ⟨h1, rfl, rfl, h2⟩
      · exact ⟨_, rfl, rfl, .inl rfl⟩
      · exact ⟨_, rfl, rfl, .inr h1⟩
theorem aheads {g : Graph} (hg : GOk g) (k : Nat) (hk : 1048576 < k) {t : Net} (ht : NetOf g t) {es : List (List Int)} (o2 : es.length = g.1.length) (o3 : ∀ p, p < g.1.length → es.getD p [] = outs g g.2.1.length p) {e : Int} (he : roadIs g e = true) : ∃ v, f74 k g es e = some v ∧ f171 k t e = some v ∧ (v = -1 ∨ roadIs g v = true) := by
  have hlen := nexts_len hg e
  obtain ⟨v, q1, q2, q3⟩ := ahead_same hg k ht he (nextsOf g e) (fun f hf => nexts_road hf) (by omega) k 0 (-1) 0 99 (-1) (Nat.zero_le _) (by omega) (.inl ⟨rfl, rfl, rfl⟩)
  refine ⟨v, ?_, ?_, q3⟩
  · unfold f74
    rw [e163 hg k hk o2 o3 he, Option.bind_some]; exact q1
  · unfold f171
    rw [e173 hg k hk ht he, Option.bind_some]; exact q2
end Go.Proofs.Ytchbpdnaodicaaa
