/-
  Slower: the specification's search of the names and the program's map answer alike. No condition.
-/
import Derived.Test.YtjfledckleeoaaaR2hlib
set_option linter.unusedVariables false
set_option linter.unusedSimpArgs false
namespace Go.Proofs.Ytjfledckleeoaaa
open Go Go.Vm Go.Proofs V

def slow (x p : Int) : Int :=
  bif decide (IntKind.i64.wrap (Int.tdiv (IntKind.i64.wrap ((IntKind.i64.wrap (x * p)) + (99 : Int))) (100 : Int)) < (1 : Int)) then 1 else
  bif decide (IntKind.i64.wrap (Int.tdiv (IntKind.i64.wrap ((IntKind.i64.wrap (x * p)) + (99 : Int))) (100 : Int)) > (1000000 : Int)) then 1000000 else IntKind.i64.wrap (Int.tdiv (IntKind.i64.wrap ((IntKind.i64.wrap (x * p)) + (99 : Int))) (100 : Int))
theorem e83 (k : Nat) (x p : Int) : f83 k x p = some (slow x p) := by
  unfold f83 slow
  rw [if_t (by decide)]
  cases decide (IntKind.i64.wrap (Int.tdiv (IntKind.i64.wrap ((IntKind.i64.wrap (x * p)) + (99 : Int))) (100 : Int)) < (1 : Int)) with
  | true => rfl
  | false =>
    cases decide (IntKind.i64.wrap (Int.tdiv (IntKind.i64.wrap ((IntKind.i64.wrap (x * p)) + (99 : Int))) (100 : Int)) > (1000000 : Int)) <;> rfl
theorem e85 (k : Nat) (x p : Int) : f85 k x p = some (slow x p) := by
  unfold f85 slow
  rw [if_t (by decide)]
  cases decide (IntKind.i64.wrap (Int.tdiv (IntKind.i64.wrap ((IntKind.i64.wrap (x * p)) + (99 : Int))) (100 : Int)) < (1 : Int)) with
  | true => rfl
  | false =>
    simp only [f85.j2, f85.j4]
    cases decide (IntKind.i64.wrap (Int.tdiv (IntKind.i64.wrap ((IntKind.i64.wrap (x * p)) + (99 : Int))) (100 : Int)) > (1000000 : Int)) <;> rfl

theorem e82 (k : Nat) (hk : 1048576 < k) (a : List Int) (ha : a.length ≤ 1048576) (x : Int) : f82 k a x = some (decide (x ∈ a)) := by
  have go : ∀ (d i m : Nat), i + d = a.length → d < m → f82.l12 k a x m (i : Int) = some (decide (x ∈ a.drop i)) := by
    intro d
    induction d with
    | zero =>
      intro i m h1 h2
      obtain ⟨m, rfl⟩ : ∃ q, m = q + 1 := ⟨m - 1, by omega⟩
      obtain rfl : i = a.length := by omega
      rw [f82.l12, if_f (by simp)]; simp
    | succ d ih =>
      intro i m h1 h2
      obtain ⟨m, rfl⟩ : ∃ q, m = q + 1 := ⟨m - 1, by omega⟩
      have hlt : i < a.length := by omega
      have hb : (0 : Int) ≤ (i : Int) ∧ (i : Int) < (a.length : Int) := ⟨by omega, by omega⟩
      have hd : a.drop i = a.getD i 0 :: a.drop (i + 1) := by
        rw [List.drop_eq_getElem_cons hlt, List.getD_eq_getElem?_getD, List.getElem?_eq_getElem hlt]; rfl
      rw [f82.l12, if_t (by simpa using hlt), if_t hb, Int.toNat_natCast, wrap_s (by omega), hd]
      by_cases hx : a.getD i 0 = x
      · rw [if_t (by simpa using hx)]; simp only [List.mem_cons, hx.symm, true_or, decide_true]
      · rw [if_f (by simpa using hx), ih (i + 1) m (by omega) (by omega)]
        congr 2
        rw [List.mem_cons, eq_iff_iff]
        exact ⟨fun h => .inr h, fun h => h.resolve_left (fun h => hx h.symm)⟩
  have := go a.length 0 k (by omega) (by omega)
  rw [List.drop_zero] at this
  exact this

def slowTo (g : Graph) (a : List Int) (p : Int) : Nat → List Road
  | 0 => g.2.1
  | q + 1 => if ((slowTo g a p q).getD q dR).2.2.1 ∈ a then (slowTo g a p q).set q (((slowTo g a p q).getD q dR).1, (((slowTo g a p q).getD q dR).2.1, (((slowTo g a p q).getD q dR).2.2.1, (slow ((slowTo g a p q).getD q dR).2.2.2.1 p, ((slowTo g a p q).getD q dR).2.2.2.2)))) else slowTo g a p q
theorem slowTo_len (g : Graph) (a : List Int) (p : Int) : ∀ q, (slowTo g a p q).length = g.2.1.length
  | 0 => rfl
  | q + 1 => by rw [slowTo]; split <;> simp [slowTo_len g a p q]

theorem slowTo_bd {B : Road → Prop} (hB : ∀ (r : Road) (x : Int), B r → B (r.1, (r.2.1, (r.2.2.1, (x, r.2.2.2.2))))) (g : Graph) (a : List Int) (p : Int) (h : ∀ r ∈ g.2.1, B r) : ∀ q, q ≤ g.2.1.length → ∀ r ∈ slowTo g a p q, B r
  | 0, _ => h
  | q + 1, hq => by
    have ih := slowTo_bd hB g a p h q (by omega)
    have hl := slowTo_len g a p q
    rw [slowTo]; split
    · intro r hr
      rcases List.mem_or_eq_of_mem_set hr with h1 | h1
      · exact ih r h1
      · rw [h1]; exact hB _ _ (ih _ (getD_mem' (by omega)))
    · exact ih

theorem e33 {g : Graph} (hg : GOk g) (k : Nat) (hk : 1048576 < k) (a : List Int) (ha : a.length ≤ 1048576) (p : Int) : f33.l72 k a p k (g, (0 : Int)) = some (g.1, (slowTo g a p g.2.1.length, g.2.2)) := by
  have n2 := hg.n2
  obtain ⟨s, s1, s2⟩ := foldLoop (L := f33.l72 k a p) (n := g.2.1.length) (g := fun i s => (g.1, (slowTo g a p (i + 1), g.2.2))) (fin := fun s => some s) (Inv := fun i s => s = (g.1, (slowTo g a p i, g.2.2)))
    (fun m i s hi hs => by
      subst hs
      refine ⟨rfl, ?_⟩
      have hl := slowTo_len g a p i
      have hb : (0 : Int) ≤ (i : Int) ∧ (i : Int) < ((slowTo g a p i).length : Int) := ⟨by omega, by omega⟩
      have hc : decide ((i : Int) < ((slowTo g a p i).length : Int)) = true := by rw [hl]; simpa using hi
      rw [f33.l72]
      simp only [if_t hc, if_t hb, Int.toNat_natCast, e82 k hk a ha, e83, Option.bind_some, f33.j131]
      rw [wrap_s (by omega), slowTo]
      by_cases hm : ((slowTo g a p i).getD i dR).2.2.1 ∈ a
      · rw [if_t (by simpa using hm), if_t hm]
      · rw [if_f (by simpa using hm), if_f hm])
    (fun m s hs => by subst hs; rw [f33.l72, if_f (by simp [slowTo_len])]) k 0 g rfl (by omega) (by omega)
  rw [show ((0 : Nat) : Int) = 0 from rfl] at s2
  rw [s2, s1]

theorem e34 {g : Graph} (hg : GOk g) (k : Nat) (hk : 1048576 < k) (a : List Int) (ha : a.length ≤ 1048576) (p : Int) (hc : f84 k g = some g) : f34.l17 k a g p k (([] : (List (Int × Bool))), (0 : Int)) = some (g.1, (slowTo g a p g.2.1.length, g.2.2)) := by
  have n2 := hg.n2
  obtain ⟨v, v1, v2⟩ := foldLoop (L := f34.l17 k a g p) (n := a.length) (g := fun i v => mput (Sh.beq (.int .i64)) (a.getD i 0) true v) (fin := fun v => (f84 k g).bind fun r32 => (f34.l90 k r32 v p k (r32, (0 : Int))))
    (Inv := fun i v => ∀ j : Int, mget (Sh.beq (.int .i64)) (some v) j false = decide (j ∈ a.take i))
    (fun m i v hi q2 => by
      have hbd : (0 : Int) ≤ (i : Int) ∧ (i : Int) < (a.length : Int) := ⟨by omega, by omega⟩
      have hc : decide ((i : Int) < (a.length : Int)) = true := by simpa using hi
      refine ⟨fun j => ?_, ?_⟩
      · rw [mget_put (beq_int .i64), q2 j]
        have hm := mem_take_succ (d := 0) hi j
        by_cases hj : j = a.getD i 0
        · rw [(beq_int .i64 _ _).2 hj, cond_true]; symm; rw [decide_eq_true_eq]; exact hm.2 (.inr hj)
        · have : Sh.beq (.int .i64) j (a.getD i 0) = false := by
            cases hq : Sh.beq (.int .i64) j (a.getD i 0) with
            | false => rfl
            | true => exact absurd ((beq_int .i64 _ _).1 hq) hj
          rw [this, cond_false]; congr 1; rw [hm, eq_iff_iff]; exact ⟨fun h => .inl h, fun h => h.resolve_right hj⟩
      · rw [f34.l17, if_t hc]
        simp only [if_t hbd, Int.toNat_natCast]
        rw [wrap_s (by omega)])
    (fun m v _ => by rw [f34.l17, if_f (by simp)]) k 0 [] (fun j => by simp [mget_nil]) (by omega) (by omega)
  rw [show ((0 : Nat) : Int) = 0 from rfl] at v2
  rw [List.take_length] at v1
  rw [v2, hc, Option.bind_some]
  obtain ⟨s, s1, s2⟩ := foldLoop (L := f34.l90 k g v p) (n := g.2.1.length) (g := fun i s => (g.1, (slowTo g a p (i + 1), g.2.2))) (fin := fun s => some s) (Inv := fun i s => s = (g.1, (slowTo g a p i, g.2.2)))
    (fun m i s hi hs => by
      subst hs
      refine ⟨rfl, ?_⟩
      have hl := slowTo_len g a p i
      have hb : (0 : Int) ≤ (i : Int) ∧ (i : Int) < ((slowTo g a p i).length : Int) := ⟨by omega, by omega⟩
      have hc : decide ((i : Int) < (g.2.1.length : Int)) = true := by simpa using hi
      rw [f34.l90]
      simp only [if_t hc, if_t hb, Int.toNat_natCast, v1, e85, Option.bind_some, f34.j139]
      rw [wrap_s (by omega), slowTo]
      by_cases hm : ((slowTo g a p i).getD i dR).2.2.1 ∈ a
      · rw [if_t (by simpa using hm), if_t hm]
      · rw [if_f (by simpa using hm), if_f hm])
    (fun m s hs => by subst hs; rw [f34.l90, if_f (by simp)]) k 0 g rfl (by omega) (by omega)
  rw [show ((0 : Nat) : Int) = 0 from rfl] at s2
  rw [s2, s1]

theorem e81 {g : Graph} (hg : GOk g) (k : Nat) : f81 k g = some g ∧ f84 k g = some g := by
  have n1 := hg.n1; have n2 := hg.n2; have n3 := hg.n3
  unfold f81 f84
  simp only [List.length_nil, Nat.zero_add, List.nil_append]
  rw [if_t (by omega), if_t (by omega), if_t (by omega)]
  exact ⟨rfl, rfl⟩

theorem same_slower {B : Road → Prop} (hB : ∀ (r : Road) (x : Int), B r → B (r.1, (r.2.1, (r.2.2.1, (x, r.2.2.2.2))))) (k : Nat) (hk : 1048576 < k) (g : Graph) (h1 : g.1.length ≤ 1048576) (h2 : g.2.1.length ≤ 1048576) (h3 : g.2.2.length ≤ 1048576) (hr : ∀ r ∈ g.2.1, B r) (a : List Int) (ha : a.length ≤ 1048576) (p : Int) :
    ∃ y : Graph, f33 k g a p = some y ∧ f34 k g a p = some y ∧ y.1.length ≤ 1048576 ∧ y.2.1.length ≤ 1048576 ∧ y.2.2.length ≤ 1048576 ∧ ∀ r ∈ y.2.1, B r := by
  unfold f33 f34
  rw [spec57 k hk g h1 h2 h3, impl63 k hk g h1 h2 h3]
  simp only [Option.bind_some]
  cases hg : graphOk g with
  | false => exact ⟨([], ([], [])), by simp, by simp, by simp, by simp, by simp, by simp⟩
  | true =>
    by_cases hc : (bif (bif (bif (!true) then true else (decide ((p : Int) < (1 : Int)))) then true else (decide ((p : Int) > (10000 : Int)))) then true else (decide (((List.length a : Int) : Int) > (1000 : Int)))) = true
    · rw [if_t hc, if_t hc]; exact ⟨([], ([], [])), rfl, rfl, by simp, by simp, by simp, by simp⟩
    · rw [if_f hc, if_f hc, (e81 (gok hg) k).1, Option.bind_some, e33 (gok hg) k hk a ha p, e34 (gok hg) k hk a ha p (e81 (gok hg) k).2]
      exact ⟨_, rfl, rfl, h1, by rw [slowTo_len]; exact h2, h3, slowTo_bd hB g a p hr _ (Nat.le_refl _)⟩
end Go.Proofs.Ytjfledckleeoaaa
