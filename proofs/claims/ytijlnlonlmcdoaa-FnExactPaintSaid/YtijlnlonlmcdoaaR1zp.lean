/-
  THE PLUMBING OF A LAW'S FUNCTIONS, PRINTED BY A PROGRAM OF THIS PROJECT (wip/gen/plumb.py).
-/
import Derived.Test.YtijlnlonlmcdoaaR1z
import Derived.Test.YtijlnlonlmcdoaaLawB
import Derived.Test.YtijlnlonlmcdoaaLawC
import Derived.Test.YtijlnlonlmcdoaaVmU
set_option linter.unusedVariables false
set_option linter.unusedSimpArgs false
open Go Go.Vm Go.Proofs
namespace Go.Proofs.Ytijlnlonlmcdoaa.V

/- laws.szTest -/
theorem sz138 (k : Nat) (hk : 1048576 < k) (x : (ByteArray × (Int × ByteArray))) (hw : Sh.wf (.st (.pair .str (.pair (.int .i64) .str))) x) : Sz (fun v => f138 k x v) (Sh.bd (.st (.pair .str (.pair (.int .i64) .str))) x) :=
  Sz.imp (Sz.len hw.1 (fun _ => Sz.len hw.2.2 (fun _ => Sz.done))) (fun ⟨b0, b2, _⟩ => ⟨b0, trivial, b2⟩)

/- laws.szTestS -/
theorem sz107 (k : Nat) (hk : 1048576 < k) (x : (List (ByteArray × (Int × ByteArray)))) (hw : Sh.wf (.sl false 194 (.st (.pair .str (.pair (.int .i64) .str)))) x) : Sz (fun v => f107 k x v) (Sh.bd (.sl false 194 (.st (.pair .str (.pair (.int .i64) .str)))) x) :=
  Sz.len hw.1 (fun h => Sz.loop hk (s := fun y v => f138 k y v) (f107.l28 k x) (fun _ _ _ => rfl) h (fun y hy => sz138 k hk y (hw.2 y hy)))

/- laws.szRule -/
theorem sz51 (k : Nat) (hk : 1048576 < k) (x : (Int × (Int × ((List (ByteArray × (Int × ByteArray))) × (Bool × (ByteArray × (Int × Int))))))) (hw : Sh.wf (.st (.pair (.int .i64) (.pair (.int .i64) (.pair (.sl false 194 (.st (.pair .str (.pair (.int .i64) .str)))) (.pair .bool (.pair .str (.pair (.int .i64) (.int .i64)))))))) x) : Sz (fun v => f51 k x v) (Sh.bd (.st (.pair (.int .i64) (.pair (.int .i64) (.pair (.sl false 194 (.st (.pair .str (.pair (.int .i64) .str)))) (.pair .bool (.pair .str (.pair (.int .i64) (.int .i64)))))))) x) :=
  Sz.imp (Sz.seq (sz107 k hk x.2.2.1 hw.2.2.1) (Sz.len hw.2.2.2.2.1 (fun _ => Sz.done))) (fun ⟨b2, b4, _⟩ => ⟨trivial, trivial, b2, trivial, b4, trivial, trivial⟩)

/- laws.szRuleS -/
theorem sz66 (k : Nat) (hk : 1048576 < k) (x : (List (Int × (Int × ((List (ByteArray × (Int × ByteArray))) × (Bool × (ByteArray × (Int × Int)))))))) (hw : Sh.wf (.sl false 77 (.st (.pair (.int .i64) (.pair (.int .i64) (.pair (.sl false 194 (.st (.pair .str (.pair (.int .i64) .str)))) (.pair .bool (.pair .str (.pair (.int .i64) (.int .i64))))))))) x) : Sz (fun v => f66 k x v) (Sh.bd (.sl false 77 (.st (.pair (.int .i64) (.pair (.int .i64) (.pair (.sl false 194 (.st (.pair .str (.pair (.int .i64) .str)))) (.pair .bool (.pair .str (.pair (.int .i64) (.int .i64))))))))) x) :=
  Sz.len hw.1 (fun h => Sz.loop hk (s := fun y v => f51 k y v) (f66.l28 k x) (fun _ _ _ => rfl) h (fun y hy => sz51 k hk y (hw.2 y hy)))

/- laws.szTag -/
theorem sz80 (k : Nat) (hk : 1048576 < k) (x : (ByteArray × ByteArray)) (hw : Sh.wf (.st (.pair .str .str)) x) : Sz (fun v => f80 k x v) (Sh.bd (.st (.pair .str .str)) x) :=
  Sz.imp (Sz.len hw.1 (fun _ => Sz.len hw.2 (fun _ => Sz.done))) (fun ⟨b0, b1, _⟩ => ⟨b0, b1⟩)

/- laws.szTagS -/
theorem sz18 (k : Nat) (hk : 1048576 < k) (x : (List (ByteArray × ByteArray))) (hw : Sh.wf (.sl false 127 (.st (.pair .str .str))) x) : Sz (fun v => f18 k x v) (Sh.bd (.sl false 127 (.st (.pair .str .str))) x) :=
  Sz.len hw.1 (fun h => Sz.loop hk (s := fun y v => f80 k y v) (f18.l28 k x) (fun _ _ _ => rfl) h (fun y hy => sz80 k hk y (hw.2 y hy)))

/- laws.toTest -/
theorem to139 (k : Nat) (hk : 1048576 < k) (x : (ByteArray × (Int × ByteArray))) (h : Sh.bd (.st (.pair .str (.pair (.int .i64) .str))) x) : f139 k x = some x := by
  unfold f139
  all_goals rfl

/- laws.toTestS -/
theorem to108 (k : Nat) (hk : 1048576 < k) (x : (List (ByteArray × (Int × ByteArray)))) (h : Sh.bd (.sl false 194 (.st (.pair .str (.pair (.int .i64) .str)))) x) : f108 k x = some x := by
  unfold f108
  exact copyRow (g := fun y => f139 k y) (z := 40) hk (f108.l34 k x) (fun _ _ _ => rfl) (by decide) h.1 (fun y hy => to139 k hk y (h.2 y hy))

/- laws.toRule -/
theorem to53 (k : Nat) (hk : 1048576 < k) (x : (Int × (Int × ((List (ByteArray × (Int × ByteArray))) × (Bool × (ByteArray × (Int × Int))))))) (h : Sh.bd (.st (.pair (.int .i64) (.pair (.int .i64) (.pair (.sl false 194 (.st (.pair .str (.pair (.int .i64) .str)))) (.pair .bool (.pair .str (.pair (.int .i64) (.int .i64)))))))) x) : f53 k x = some x := by
  unfold f53
  simp only [to108 k hk x.2.2.1 h.2.2.1, Option.bind_some]
  all_goals rfl

/- laws.toRuleS -/
theorem to68 (k : Nat) (hk : 1048576 < k) (x : (List (Int × (Int × ((List (ByteArray × (Int × ByteArray))) × (Bool × (ByteArray × (Int × Int)))))))) (h : Sh.bd (.sl false 77 (.st (.pair (.int .i64) (.pair (.int .i64) (.pair (.sl false 194 (.st (.pair .str (.pair (.int .i64) .str)))) (.pair .bool (.pair .str (.pair (.int .i64) (.int .i64))))))))) x) : f68 k x = some x := by
  unfold f68
  exact copyRow (g := fun y => f53 k y) (z := 80) hk (f68.l34 k x) (fun _ _ _ => rfl) (by decide) h.1 (fun y hy => to53 k hk y (h.2 y hy))

/- laws.toTag -/
theorem to82 (k : Nat) (hk : 1048576 < k) (x : (ByteArray × ByteArray)) (h : Sh.bd (.st (.pair .str .str)) x) : f82 k x = some x := by
  unfold f82
  all_goals rfl

/- laws.toTagS -/
theorem to20 (k : Nat) (hk : 1048576 < k) (x : (List (ByteArray × ByteArray))) (h : Sh.bd (.sl false 127 (.st (.pair .str .str))) x) : f20 k x = some x := by
  unfold f20
  exact copyRow (g := fun y => f82 k y) (z := 32) hk (f20.l34 k x) (fun _ _ _ => rfl) (by decide) h.1 (fun y hy => to82 k hk y (h.2 y hy))

/- laws.eqTest -/
theorem eq140 (k : Nat) (hk : 1048576 < k) (x : (ByteArray × (Int × ByteArray))) (h : Sh.bd (.st (.pair .str (.pair (.int .i64) .str))) x) : f140 k x x = some true := by
  unfold f140
  simp []

/- laws.eqTestS -/
theorem eq110 (k : Nat) (hk : 1048576 < k) (x : (List (ByteArray × (Int × ByteArray)))) (h : Sh.bd (.sl false 154 (.st (.pair .str (.pair (.int .i64) .str)))) x) : f110 k x x = some true := by
  unfold f110
  exact eqRow (e := fun a b => f140 k a b) hk (f110.l30 k x x) (fun _ _ => rfl) h.1 (fun y hy => eq140 k hk y (h.2 y hy))

/- laws.eqRule -/
theorem eq55 (k : Nat) (hk : 1048576 < k) (x : (Int × (Int × ((List (ByteArray × (Int × ByteArray))) × (Bool × (ByteArray × (Int × Int))))))) (h : Sh.bd (.st (.pair (.int .i64) (.pair (.int .i64) (.pair (.sl false 154 (.st (.pair .str (.pair (.int .i64) .str)))) (.pair .bool (.pair .str (.pair (.int .i64) (.int .i64)))))))) x) : f55 k x x = some true := by
  unfold f55
  simp [eq110 k hk x.2.2.1 h.2.2.1]

/- laws.eqRuleS -/
theorem eq70 (k : Nat) (hk : 1048576 < k) (x : (List (Int × (Int × ((List (ByteArray × (Int × ByteArray))) × (Bool × (ByteArray × (Int × Int)))))))) (h : Sh.bd (.sl false 82 (.st (.pair (.int .i64) (.pair (.int .i64) (.pair (.sl false 154 (.st (.pair .str (.pair (.int .i64) .str)))) (.pair .bool (.pair .str (.pair (.int .i64) (.int .i64))))))))) x) : f70 k x x = some true := by
  unfold f70
  exact eqRow (e := fun a b => f55 k a b) hk (f70.l30 k x x) (fun _ _ => rfl) h.1 (fun y hy => eq55 k hk y (h.2 y hy))

/- laws.eqTag -/
theorem eq84 (k : Nat) (hk : 1048576 < k) (x : (ByteArray × ByteArray)) (h : Sh.bd (.st (.pair .str .str)) x) : f84 k x x = some true := by
  unfold f84
  simp []

/- laws.eqTagS -/
theorem eq22 (k : Nat) (hk : 1048576 < k) (x : (List (ByteArray × ByteArray))) (h : Sh.bd (.sl false 129 (.st (.pair .str .str))) x) : f22 k x x = some true := by
  unfold f22
  exact eqRow (e := fun a b => f84 k a b) hk (f22.l30 k x x) (fun _ _ => rfl) h.1 (fun y hy => eq84 k hk y (h.2 y hy))

/- laws.markText -/
theorem tx132_go (k : Nat) : ∀ (d m n : Nat) (s : ByteArray), n < 10 ^ d → d < m → n < 9223372036854775807 → s.size + d ≤ 1000 → ∃ t, f132.l19 k m ((n : Int), s) = some t
  | 0, m, n, s, h1, hm, h3, h2 => by
    obtain ⟨m, rfl⟩ : ∃ q, m = q + 1 := ⟨m - 1, by omega⟩
    obtain rfl : n = 0 := by omega
    rw [f132.l19, if_f (by decide), if_t (by rw [show (⟨#[109]⟩ : ByteArray).size = 1 from rfl]; omega)]
    exact ⟨_, rfl⟩
  | d + 1, m, n, s, h1, hm, h3, h2 => by
    obtain ⟨m, rfl⟩ : ∃ q, m = q + 1 := ⟨m - 1, by omega⟩
    rw [f132.l19]
    by_cases h0 : (n : Int) > 0
    · have e : Int.tdiv (n : Int) 10 = ((n / 10 : Nat) : Int) := by rw [Int.tdiv_eq_ediv_of_nonneg (by omega)]; omega
      have z : ∀ n, (strOfNums [n]).size = 1 := fun _ => rfl
      rw [if_t (by simpa using h0), if_t (by decide), if_t (by rw [z]; omega), if_t (by decide), e, wrap_in (by omega) (by omega)]
      exact tx132_go k d m (n / 10) _ (by rw [Nat.pow_succ] at h1; omega) (by omega) (by omega) (by rw [ByteArray.size_append, z]; omega)
    · rw [if_f (by simpa using h0), if_t (by rw [show (⟨#[109]⟩ : ByteArray).size = 1 from rfl]; omega)]
      exact ⟨_, rfl⟩
theorem tx132 (k : Nat) (hk : 1048576 < k) (x : Int) (h0 : 0 ≤ x) (h1 : x ≤ 9223372036854775000) : ∃ t, f132 k x = some t := by
  unfold f132
  by_cases h : x ≤ 0
  · rw [if_t (by simpa using h)]; exact ⟨_, rfl⟩
  · rw [if_f (by simpa using h)]
    obtain ⟨n, rfl⟩ : ∃ n : Nat, x = n := ⟨x.toNat, by omega⟩
    exact tx132_go k 19 k n _ (by omega) (by omega) (by omega) (by decide)

def ETestS (k : Nat) (v : Int) (b : (ByteArray × (Int × ByteArray))) (c : Int) : Prop := (f132 k (v) = some b.1) ∧ (b.2.1 = v + 1) ∧ (f132 k (v + 1 + 1) = some b.2.2) ∧ c = v + 1 + 1 + 1
abbrev KTestS (k : Nat) : Int → (List (ByteArray × (Int × ByteArray))) → Int → Prop := RowR ((⟨#[]⟩ : ByteArray), ((0 : Int), (⟨#[]⟩ : ByteArray))) (ETestS k)

/- laws.markTestS -/
theorem mk131 (k : Nat) (hk : 1048576 < k) (x : (List (ByteArray × (Int × ByteArray)))) (hx : Sh.bd (.sl false 154 (.st (.pair .str (.pair (.int .i64) .str)))) x) : Mk (fun x v => f131 k x v) (KTestS k) 3145728 x := by
  refine markRow (d := ((⟨#[]⟩ : ByteArray), ((0 : Int), (⟨#[]⟩ : ByteArray)))) (w := 3) hx.1 (L := f131.l68 k) (by decide) (fun a ha v h0 h1 => ?_) (fun m xs v => by rw [f131.l68, if_f (by simp)]) hk (by decide)
  obtain ⟨t1, ht1⟩ := tx132 k hk (v) (by omega) (by omega)
  obtain ⟨t2, ht2⟩ := tx132 k hk (v + 1 + 1) (by omega) (by omega)
  have z0 : IntKind.i64.wrap (v + 1) = v + 1 := wrap_in (by omega) (by omega)
  have z1 : IntKind.i64.wrap (v + 1 + 1) = v + 1 + 1 := wrap_in (by omega) (by omega)
  have z2 : IntKind.i64.wrap (v + 1 + 1 + 1) = v + 1 + 1 + 1 := wrap_in (by omega) (by omega)
  refine ⟨v + 1 + 1 + 1, (t1, v + 1, t2), ⟨ht1, rfl, ht2, rfl⟩, by omega, by omega, fun m i xs hi hl ha => ?_⟩
  have hc : decide ((i : Int) < (xs.length : Int)) = true := by simpa using hi
  have hb : (0 : Int) ≤ (i : Int) ∧ (i : Int) < (xs.length : Int) := ⟨by omega, by omega⟩
  have hxl := hx.1
  have h3 : ((3 : Int) : Int) ≠ 0 := by decide
  rw [f131.l68, if_t hc]
  simp only [if_t hb, if_t h3, List.length_set, Int.toNat_natCast, gd_set_eq, hi, List.set_set, Option.bind_some, ha, wrap_s (n := i) (by omega), z0, z1, z2, ht1, ht2]

def ERuleS (k : Nat) (v : Int) (b : (Int × (Int × ((List (ByteArray × (Int × ByteArray))) × (Bool × (ByteArray × (Int × Int))))))) (c : Int) : Prop := ∃ c1 : Int, (b.1 = v) ∧ (b.2.1 = v + 1) ∧ (KTestS k (v + 1 + 1) b.2.2.1 c1 ∧ v + 1 + 1 ≤ c1) ∧ (b.2.2.2.1 = ((Int.tmod (c1) (3 : Int)) == (0 : Int))) ∧ (f132 k (c1 + 1) = some b.2.2.2.2.1) ∧ (b.2.2.2.2.2.1 = c1 + 1 + 1) ∧ (b.2.2.2.2.2.2 = c1 + 1 + 1 + 1) ∧ c = c1 + 1 + 1 + 1 + 1
abbrev KRuleS (k : Nat) : Int → (List (Int × (Int × ((List (ByteArray × (Int × ByteArray))) × (Bool × (ByteArray × (Int × Int))))))) → Int → Prop := RowR ((0 : Int), ((0 : Int), (([] : (List (ByteArray × (Int × ByteArray)))), (false, ((⟨#[]⟩ : ByteArray), ((0 : Int), (0 : Int))))))) (ERuleS k)

/- laws.markRuleS -/
theorem mk71 (k : Nat) (hk : 1048576 < k) (x : (List (Int × (Int × ((List (ByteArray × (Int × ByteArray))) × (Bool × (ByteArray × (Int × Int)))))))) (hx : Sh.bd (.sl false 82 (.st (.pair (.int .i64) (.pair (.int .i64) (.pair (.sl false 154 (.st (.pair .str (.pair (.int .i64) .str)))) (.pair .bool (.pair .str (.pair (.int .i64) (.int .i64))))))))) x) : Mk (fun x v => f71 k x v) (KRuleS k) 3298541174784 x := by
  refine markRow (d := ((0 : Int), ((0 : Int), (([] : (List (ByteArray × (Int × ByteArray)))), (false, ((⟨#[]⟩ : ByteArray), ((0 : Int), (0 : Int)))))))) (w := 3145734) hx.1 (L := f71.l158 k) (by decide) (fun a ha v h0 h1 => ?_) (fun m xs v => by rw [f71.l158, if_f (by simp)]) hk (by decide)
  obtain ⟨c1, y1, q1, r1, l1, u1⟩ := mk131 k hk (a.2.2.1) (hx.2 a ha).2.2.1 (v + 1 + 1) (by omega) (by omega)
  have p1 : f131 k (a.2.2.1) (v + 1 + 1) = some (c1, y1) := q1
  obtain ⟨t2, ht2⟩ := tx132 k hk (c1 + 1) (by omega) (by omega)
  have z0 : IntKind.i64.wrap (v + 1) = v + 1 := wrap_in (by omega) (by omega)
  have z1 : IntKind.i64.wrap (v + 1 + 1) = v + 1 + 1 := wrap_in (by omega) (by omega)
  have z2 : IntKind.i64.wrap (c1 + 1) = c1 + 1 := wrap_in (by omega) (by omega)
  have z3 : IntKind.i64.wrap (c1 + 1 + 1) = c1 + 1 + 1 := wrap_in (by omega) (by omega)
  have z4 : IntKind.i64.wrap (c1 + 1 + 1 + 1) = c1 + 1 + 1 + 1 := wrap_in (by omega) (by omega)
  have z5 : IntKind.i64.wrap (c1 + 1 + 1 + 1 + 1) = c1 + 1 + 1 + 1 + 1 := wrap_in (by omega) (by omega)
  refine ⟨c1 + 1 + 1 + 1 + 1, (v, v + 1, y1, ((Int.tmod (c1) (3 : Int)) == (0 : Int)), t2, c1 + 1 + 1, c1 + 1 + 1 + 1), ⟨_, rfl, rfl, ⟨r1, l1⟩, rfl, ht2, rfl, rfl, rfl⟩, by omega, by omega, fun m i xs hi hl ha => ?_⟩
  have hc : decide ((i : Int) < (xs.length : Int)) = true := by simpa using hi
  have hb : (0 : Int) ≤ (i : Int) ∧ (i : Int) < (xs.length : Int) := ⟨by omega, by omega⟩
  have hxl := hx.1
  have h3 : ((3 : Int) : Int) ≠ 0 := by decide
  rw [f71.l158, if_t hc]
  simp only [if_t hb, if_t h3, List.length_set, Int.toNat_natCast, gd_set_eq, hi, List.set_set, Option.bind_some, ha, wrap_s (n := i) (by omega), z0, z1, z2, z3, z4, z5, ht2, p1]

def ETagS (k : Nat) (v : Int) (b : (ByteArray × ByteArray)) (c : Int) : Prop := (f132 k (v) = some b.1) ∧ (f132 k (v + 1) = some b.2) ∧ c = v + 1 + 1
abbrev KTagS (k : Nat) : Int → (List (ByteArray × ByteArray)) → Int → Prop := RowR ((⟨#[]⟩ : ByteArray), (⟨#[]⟩ : ByteArray)) (ETagS k)

/- laws.markTagS -/
theorem mk72 (k : Nat) (hk : 1048576 < k) (x : (List (ByteArray × ByteArray))) (hx : Sh.bd (.sl false 129 (.st (.pair .str .str))) x) : Mk (fun x v => f72 k x v) (KTagS k) 2097152 x := by
  refine markRow (d := ((⟨#[]⟩ : ByteArray), (⟨#[]⟩ : ByteArray))) (w := 2) hx.1 (L := f72.l50 k) (by decide) (fun a ha v h0 h1 => ?_) (fun m xs v => by rw [f72.l50, if_f (by simp)]) hk (by decide)
  obtain ⟨t1, ht1⟩ := tx132 k hk (v) (by omega) (by omega)
  obtain ⟨t2, ht2⟩ := tx132 k hk (v + 1) (by omega) (by omega)
  have z0 : IntKind.i64.wrap (v + 1) = v + 1 := wrap_in (by omega) (by omega)
  have z1 : IntKind.i64.wrap (v + 1 + 1) = v + 1 + 1 := wrap_in (by omega) (by omega)
  refine ⟨v + 1 + 1, (t1, t2), ⟨ht1, ht2, rfl⟩, by omega, by omega, fun m i xs hi hl ha => ?_⟩
  have hc : decide ((i : Int) < (xs.length : Int)) = true := by simpa using hi
  have hb : (0 : Int) ≤ (i : Int) ∧ (i : Int) < (xs.length : Int) := ⟨by omega, by omega⟩
  have hxl := hx.1
  have h3 : ((3 : Int) : Int) ≠ 0 := by decide
  rw [f72.l50, if_t hc]
  simp only [if_t hb, if_t h3, List.length_set, Int.toNat_natCast, gd_set_eq, hi, List.set_set, Option.bind_some, ha, wrap_s (n := i) (by omega), z0, z1, ht1, ht2]

def KRule (k : Nat) (v : Int) (b : (Int × (Int × ((List (ByteArray × (Int × ByteArray))) × (Bool × (ByteArray × (Int × Int))))))) (c : Int) : Prop := ∃ c1 : Int, (KTestS k v b.2.2.1 c1 ∧ v ≤ c1) ∧ c = c1

/- laws.markRule -/
theorem mk73 (k : Nat) (hk : 1048576 < k) (x : (Int × (Int × ((List (ByteArray × (Int × ByteArray))) × (Bool × (ByteArray × (Int × Int))))))) (hx : Sh.bd (.st (.pair (.int .i64) (.pair (.int .i64) (.pair (.sl false 154 (.st (.pair .str (.pair (.int .i64) .str)))) (.pair .bool (.pair .str (.pair (.int .i64) (.int .i64)))))))) x) : Mk (fun x v => f73 k x v) (KRule k) 3145728 x := by
  intro v h0 h1
  obtain ⟨c1, y1, q1, r1, l1, u1⟩ := mk131 k hk x.2.2.1 hx.2.2.1 v (by omega) (by omega)
  have p1 : f131 k x.2.2.1 v = some (c1, y1) := q1
  refine ⟨c1, (x.1, x.2.1, y1, x.2.2.2.1, x.2.2.2.2.1, x.2.2.2.2.2.1, x.2.2.2.2.2.2), ?_, ⟨_, ⟨r1, l1⟩, rfl⟩, by omega, by omega⟩
  show f73 k x v = _
  unfold f73
  simp only [p1, Option.bind_some]

/- laws.heldTestS -/
theorem hd133 (k : Nat) (hk : 1048576 < k) : Hd (fun y v => f133 k y v) (KTestS k) := by
  refine heldRow (d := ((⟨#[]⟩ : ByteArray), ((0 : Int), (⟨#[]⟩ : ByteArray)))) (L := fun y => f133.l52 k y) (fun ys m i v c hi hl h0 h1 h2 hR => ?_) (fun ys m v => by rw [f133.l52, if_f (by simp)]) hk
  obtain ⟨e0, e1, e2, ec⟩ := hR
  have z0 : IntKind.i64.wrap (v + 1) = v + 1 := wrap_in (by omega) (by omega)
  have z1 : IntKind.i64.wrap (v + 1 + 1) = v + 1 + 1 := wrap_in (by omega) (by omega)
  have z2 : IntKind.i64.wrap (v + 1 + 1 + 1) = v + 1 + 1 + 1 := wrap_in (by omega) (by omega)
  have hc : decide ((i : Int) < (ys.length : Int)) = true := by simpa using hi
  have hb : (0 : Int) ≤ (i : Int) ∧ (i : Int) < (ys.length : Int) := ⟨by omega, by omega⟩
  have h3 : ((3 : Int) : Int) ≠ 0 := by decide
  subst ec
  rw [f133.l52, if_t hc]
  simp only [if_t hb, if_t h3, Int.toNat_natCast, Option.bind_some, z0, z1, z2, e0, e1, e2, wrap_s (n := i) (by omega), bne_self_eq_false, beq_self_eq_true, Bool.not_true, Bool.false_eq_true, if_false]

/- laws.heldRule -/
theorem hd74 (k : Nat) (hk : 1048576 < k) : Hd (fun y v => f74 k y v) (KRule k) := by
  intro v y c h0 h1 h2 hR
  obtain ⟨c1, ⟨k1, l1⟩, ec⟩ := hR
  obtain rfl := ec.symm
  have p1 : f133 k y.2.2.1 v = some c1 := hd133 k hk v _ c1 (by omega) (by omega) (by omega) k1
  have n1 : ¬ (decide ((c1 : Int) < (0 : Int)) = true) := by simp; omega
  show f74 k y v = _
  unfold f74
  simp only [p1, if_f n1, Option.bind_some]
end Go.Proofs.Ytijlnlonlmcdoaa.V
