/-
  TurnsOf: the specification's search of the bans and the program's map answer alike. No condition.
-/
import Derived.Test.YtjfledckleeoaaaR2alib
set_option linter.unusedVariables false
set_option linter.unusedSimpArgs false
namespace Go.Proofs.Ytjfledckleeoaaa
open Go Go.Vm Go.Proofs V

def turnP (g : Graph) (e : Int) (r : Nat) : Bool := decide ((g.2.1.getD r dR).1 = (roadAt g e).2.1) && !banned g e (r : Int)
def turnsTo (g : Graph) (e : Int) : Nat → List Int
  | 0 => []
  | q + 1 => if turnP g e q = true then turnsTo g e q ++ [(q : Int)] else turnsTo g e q
theorem turnsTo_len (g : Graph) (e : Int) : ∀ q, (turnsTo g e q).length ≤ q
  | 0 => Nat.le_refl _
  | q + 1 => by
    have := turnsTo_len g e q
    rw [turnsTo]; split
    · rw [List.length_append]; simpa using this
    · omega

theorem e24 {g : Graph} (hg : GOk g) (k : Nat) (hk : 1048576 < k) {e : Int} (he : roadIs g e = true) : f24.l47 k g e k (([] : List Int), (0 : Int)) = some (turnsTo g e g.2.1.length) := by
  have n2 := hg.n2
  have hE := roadIs_iff.1 he
  obtain ⟨s, s1, s2⟩ := foldLoop (L := f24.l47 k g e) (n := g.2.1.length) (g := fun i s => if turnP g e i = true then s ++ [(i : Int)] else s) (fin := fun s => some s) (Inv := fun i s => s = turnsTo g e i)
    (fun m i s hi hs => by
      subst hs
      refine ⟨rfl, ?_⟩
      have hb : (0 : Int) ≤ (i : Int) ∧ (i : Int) < (g.2.1.length : Int) := ⟨by omega, by omega⟩
      have hc : decide ((i : Int) < (g.2.1.length : Int)) = true := by simpa using hi
      have hl := turnsTo_len g e i
      rw [f24.l47, if_t hc]
      simp only [if_t hb, if_t hE, Int.toNat_natCast, e71 hg k hk, f24.j86]
      rw [wrap_s (by omega)]
      change (Option.bind (if ((((g.2.1.getD i dR).1 : Int) == (roadAt g e).2.1) = true) then some (banned g e (i : Int)) else some default) fun r87 => if (bif (((g.2.1.getD i dR).1 : Int) == (roadAt g e).2.1) then (!r87) else false) then _ else _) = _
      unfold turnP
      by_cases h1 : (g.2.1.getD i dR).1 = (roadAt g e).2.1
      · rw [if_t (by simpa using h1)]
        cases hbn : banned g e (i : Int) with
        | false =>
          rw [Option.bind_some, if_t (by simpa using h1), if_t (by simp; omega), if_t (by simpa using h1)]
        | true => rw [Option.bind_some, if_f (by simp), if_f (by simp)]
      · have hz : (((g.2.1.getD i dR).1 : Int) == (roadAt g e).2.1) = false := beq_false_of_ne h1
        rw [if_f (by rw [hz]; decide), Option.bind_some, if_f (by rw [hz]; decide), if_f (by rw [decide_eq_false h1]; simp)])
    (fun m s _ => by rw [f24.l47, if_f (by simp)]) k 0 [] rfl (by omega) (by omega)
  rw [show ((0 : Nat) : Int) = 0 from rfl] at s2
  rw [s2, s1]

theorem e25 {g : Graph} (hg : GOk g) (k : Nat) (hk : 1048576 < k) {e : Int} (he : roadIs g e = true) : f25.l23 k g e k (([] : (List (Int × Bool))), (0 : Int)) = some (turnsTo g e g.2.1.length) := by
  have n2 := hg.n2
  have n3 := hg.n3
  have hE := roadIs_iff.1 he
  obtain ⟨v, v1, v2⟩ := foldLoop (L := f25.l23 k g e) (n := g.2.2.length) (g := fun i v => if (g.2.2.getD i dB).1 = e then mput (Sh.beq (.int .i64)) (g.2.2.getD i dB).2 true v else v) (fin := fun v => f25.l77 k g e v k (([] : (List Int)), (0 : Int)))
    (Inv := fun i v => ∀ j : Int, mget (Sh.beq (.int .i64)) (some v) j false = decide ((e, j) ∈ g.2.2.take i))
    (fun m i v hi hv => by
      have hb : (0 : Int) ≤ (i : Int) ∧ (i : Int) < (g.2.2.length : Int) := ⟨by omega, by omega⟩
      have hc : decide ((i : Int) < (g.2.2.length : Int)) = true := by simpa using hi
      refine ⟨fun j => ?_, ?_⟩
      · have hm := mem_take_succ (d := dB) hi (e, j)
        generalize hq : g.2.2.getD i dB = q at hm ⊢
        by_cases h1 : q.1 = e
        · rw [if_pos h1, mget_put (beq_int .i64), hv j]
          by_cases hj : j = q.2
          · rw [(beq_int .i64 _ _).2 hj, cond_true]; symm; rw [decide_eq_true_eq]; exact hm.2 (.inr (by rw [hj, ← h1]))
          · have : Sh.beq (.int .i64) j q.2 = false := by
              cases hq : Sh.beq (.int .i64) j q.2 with
              | false => rfl
              | true => exact absurd ((beq_int .i64 _ _).1 hq) hj
            rw [this, cond_false]; congr 1; rw [hm, eq_iff_iff]
            exact ⟨fun h => .inl h, fun h => h.resolve_right (fun h => hj (by rw [← h]))⟩
        · rw [if_neg h1, hv j]; congr 1; rw [hm, eq_iff_iff]
          exact ⟨fun h => .inl h, fun h => h.resolve_right (fun h => h1 (by rw [← h]))⟩
      · rw [f25.l23, if_t hc]
        simp only [if_t hb, Int.toNat_natCast, f25.j42]
        rw [wrap_s (by omega)]
        change (if (((g.2.2.getD i dB).1 : Int) == e) = true then _ else _) = _
        by_cases h1 : (g.2.2.getD i dB).1 = e
        · rw [if_t (by simpa using h1), if_t h1]
        · rw [if_f (by simpa using h1), if_f h1])
    (fun m v _ => by rw [f25.l23, if_f (by simp)]) k 0 [] (fun j => by simp [mget_nil]) (by omega) (by omega)
  rw [show ((0 : Nat) : Int) = 0 from rfl] at v2
  rw [List.take_length] at v1
  rw [v2]
  obtain ⟨s, s1, s2⟩ := foldLoop (L := f25.l77 k g e v) (n := g.2.1.length) (g := fun i s => if turnP g e i = true then s ++ [(i : Int)] else s) (fin := fun s => some s) (Inv := fun i s => s = turnsTo g e i)
    (fun m i s hi hs => by
      subst hs
      refine ⟨rfl, ?_⟩
      have hb : (0 : Int) ≤ (i : Int) ∧ (i : Int) < (g.2.1.length : Int) := ⟨by omega, by omega⟩
      have hc : decide ((i : Int) < (g.2.1.length : Int)) = true := by simpa using hi
      have hl := turnsTo_len g e i
      rw [f25.l77, if_t hc]
      simp only [if_t hb, if_t hE, Int.toNat_natCast, f25.j106, v1]
      rw [wrap_s (by omega)]
      change (if (bif (((g.2.1.getD i dR).1 : Int) == (roadAt g e).2.1) then (!(banned g e (i : Int))) else false) then _ else _) = _
      unfold turnP
      by_cases h1 : (g.2.1.getD i dR).1 = (roadAt g e).2.1
      · cases hbn : banned g e (i : Int) with
        | false => rw [if_t (by simpa using h1), if_t (by simp; omega), if_t (by simpa using h1)]
        | true => rw [if_f (by simp), if_f (by simp)]
      · have hz : (((g.2.1.getD i dR).1 : Int) == (roadAt g e).2.1) = false := beq_false_of_ne h1
        rw [if_f (by rw [hz]; simp), if_f (by rw [decide_eq_false h1]; simp)])
    (fun m s _ => by rw [f25.l77, if_f (by simp)]) k 0 [] rfl (by omega) (by omega)
  rw [show ((0 : Nat) : Int) = 0 from rfl] at s2
  rw [s2, s1]

theorem same_turns (k : Nat) (hk : 1048576 < k) (g : Graph) (h1 : g.1.length ≤ 1048576) (h2 : g.2.1.length ≤ 1048576) (h3 : g.2.2.length ≤ 1048576) (e : Int) : ∃ l, f24 k g e = some l ∧ f25 k g e = some l ∧ l.length ≤ 1048576 := by
  unfold f24 f25
  rw [spec57 k hk g h1 h2 h3, impl63 k hk g h1 h2 h3]
  simp only [Option.bind_some]
  cases hg : graphOk g with
  | false => exact ⟨[], by simp, by simp, by simp⟩
  | true =>
    by_cases he : roadIs g e = true
    · have hE := roadIs_iff.1 he
      have hne : ¬ ((bif (bif (!true) then true else (decide ((e : Int) < (0 : Int)))) then true else (decide ((e : Int) ≥ (List.length g.2.1 : Int)))) = true) := by simp; omega
      rw [if_f hne, if_f hne]
      have := turnsTo_len g e g.2.1.length
      exact ⟨_, e24 (gok hg) k hk he, e25 (gok hg) k hk he, by omega⟩
    · rw [roadIs_iff] at he
      have hne : ((bif (bif (!true) then true else (decide ((e : Int) < (0 : Int)))) then true else (decide ((e : Int) ≥ (List.length g.2.1 : Int)))) = true) := by
        by_cases hx : e < 0
        · simp [hx]
        · simp [hx]; omega
      rw [if_t hne, if_t hne]
      exact ⟨[], rfl, rfl, by simp⟩
end Go.Proofs.Ytjfledckleeoaaa
