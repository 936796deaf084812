/-
  THE PLUMBING OF A LAW'S FUNCTIONS, PRINTED BY A PROGRAM OF THIS PROJECT (wip/gen/plumb.py).
-/
import Derived.Test.YtjfledckleeoaaaR2n
import Derived.Test.YtjfledckleeoaaaLawB
import Derived.Test.YtjfledckleeoaaaLawC
import Derived.Test.YtjfledckleeoaaaVmU
set_option linter.unusedVariables false
set_option linter.unusedSimpArgs false
open Go Go.Vm Go.Proofs
namespace Go.Proofs.Ytjfledckleeoaaa.V

/- laws.szSpotS -/
theorem sz54 (k : Nat) (hk : 1048576 < k) (x : (List (Int × (Int × Int)))) (hw : Sh.wf (.sl false 114 (.st (.pair (.int .i64) (.st (.pair (.int .i64) (.int .i64)))))) x) : Sz (fun v => f54 k x v) (Sh.bd (.sl false 114 (.st (.pair (.int .i64) (.st (.pair (.int .i64) (.int .i64)))))) x) :=
  Sz.imp (Sz.len hw.1 (fun _ => Sz.done)) (fun h => ⟨h.1, fun y _ => ⟨trivial, ⟨trivial, trivial⟩⟩⟩)

/- laws.szRoad -/
theorem sz101 (k : Nat) (hk : 1048576 < k) (x : (Int × (Int × (Int × (Int × (Int × ByteArray)))))) (hw : Sh.wf (.st (.pair (.int .i64) (.pair (.int .i64) (.pair (.int .i64) (.pair (.int .i64) (.pair (.int .i64) .str)))))) x) : Sz (fun v => f101 k x v) (Sh.bd (.st (.pair (.int .i64) (.pair (.int .i64) (.pair (.int .i64) (.pair (.int .i64) (.pair (.int .i64) .str)))))) x) :=
  Sz.imp (Sz.len hw.2.2.2.2.2 (fun _ => Sz.done)) (fun ⟨b5, _⟩ => ⟨trivial, trivial, trivial, trivial, trivial, b5⟩)

/- laws.szRoadS -/
theorem sz55 (k : Nat) (hk : 1048576 < k) (x : (List (Int × (Int × (Int × (Int × (Int × ByteArray))))))) (hw : Sh.wf (.sl false 103 (.st (.pair (.int .i64) (.pair (.int .i64) (.pair (.int .i64) (.pair (.int .i64) (.pair (.int .i64) .str))))))) x) : Sz (fun v => f55 k x v) (Sh.bd (.sl false 103 (.st (.pair (.int .i64) (.pair (.int .i64) (.pair (.int .i64) (.pair (.int .i64) (.pair (.int .i64) .str))))))) x) :=
  Sz.len hw.1 (fun h => Sz.loop hk (s := fun y v => f101 k y v) (f55.l28 k x) (fun _ _ _ => rfl) h (fun y hy => sz101 k hk y (hw.2 y hy)))

/- laws.szBanS -/
theorem sz56 (k : Nat) (hk : 1048576 < k) (x : (List (Int × Int))) (hw : Sh.wf (.sl false 117 (.st (.pair (.int .i64) (.int .i64)))) x) : Sz (fun v => f56 k x v) (Sh.bd (.sl false 117 (.st (.pair (.int .i64) (.int .i64)))) x) :=
  Sz.imp (Sz.len hw.1 (fun _ => Sz.done)) (fun h => ⟨h.1, fun y _ => ⟨trivial, trivial⟩⟩)

/- laws.szGraph -/
theorem sz15 (k : Nat) (hk : 1048576 < k) (x : ((List (Int × (Int × Int))) × ((List (Int × (Int × (Int × (Int × (Int × ByteArray)))))) × (List (Int × Int))))) (hw : Sh.wf (.st (.pair (.sl false 114 (.st (.pair (.int .i64) (.st (.pair (.int .i64) (.int .i64)))))) (.pair (.sl false 103 (.st (.pair (.int .i64) (.pair (.int .i64) (.pair (.int .i64) (.pair (.int .i64) (.pair (.int .i64) .str))))))) (.sl false 117 (.st (.pair (.int .i64) (.int .i64))))))) x) : Sz (fun v => f15 k x v) (Sh.bd (.st (.pair (.sl false 114 (.st (.pair (.int .i64) (.st (.pair (.int .i64) (.int .i64)))))) (.pair (.sl false 103 (.st (.pair (.int .i64) (.pair (.int .i64) (.pair (.int .i64) (.pair (.int .i64) (.pair (.int .i64) .str))))))) (.sl false 117 (.st (.pair (.int .i64) (.int .i64))))))) x) :=
  Sz.imp (Sz.seq (sz54 k hk x.1 hw.1) (Sz.seq (sz55 k hk x.2.1 hw.2.1) (Sz.seq (sz56 k hk x.2.2 hw.2.2) (Sz.done)))) (fun ⟨b0, b1, b2, _⟩ => ⟨b0, b1, b2⟩)

/- laws.toPoint -/
theorem to127 (k : Nat) (hk : 1048576 < k) (x : (Int × Int)) (h : Sh.bd (.st (.pair (.int .i64) (.int .i64))) x) : f127 k x = some x := by
  unfold f127
  all_goals rfl

/- laws.toSpot -/
theorem to105 (k : Nat) (hk : 1048576 < k) (x : (Int × (Int × Int))) (h : Sh.bd (.st (.pair (.int .i64) (.st (.pair (.int .i64) (.int .i64))))) x) : f105 k x = some x := by
  unfold f105
  simp only [to127 k hk x.2 h.2, Option.bind_some]
  all_goals rfl

/- laws.toSpotS -/
theorem to60 (k : Nat) (hk : 1048576 < k) (x : (List (Int × (Int × Int)))) (h : Sh.bd (.sl false 114 (.st (.pair (.int .i64) (.st (.pair (.int .i64) (.int .i64)))))) x) : f60 k x = some x := by
  unfold f60
  exact copyRow (g := fun y => f105 k y) (z := 24) hk (f60.l34 k x) (fun _ _ _ => rfl) (by decide) h.1 (fun y hy => to105 k hk y (h.2 y hy))

/- laws.toRoad -/
theorem to106 (k : Nat) (hk : 1048576 < k) (x : (Int × (Int × (Int × (Int × (Int × ByteArray)))))) (h : Sh.bd (.st (.pair (.int .i64) (.pair (.int .i64) (.pair (.int .i64) (.pair (.int .i64) (.pair (.int .i64) .str)))))) x) : f106 k x = some x := by
  unfold f106
  all_goals rfl

/- laws.toRoadS -/
theorem to61 (k : Nat) (hk : 1048576 < k) (x : (List (Int × (Int × (Int × (Int × (Int × ByteArray))))))) (h : Sh.bd (.sl false 103 (.st (.pair (.int .i64) (.pair (.int .i64) (.pair (.int .i64) (.pair (.int .i64) (.pair (.int .i64) .str))))))) x) : f61 k x = some x := by
  unfold f61
  exact copyRow (g := fun y => f106 k y) (z := 56) hk (f61.l34 k x) (fun _ _ _ => rfl) (by decide) h.1 (fun y hy => to106 k hk y (h.2 y hy))

/- laws.toBan -/
theorem to107 (k : Nat) (hk : 1048576 < k) (x : (Int × Int)) (h : Sh.bd (.st (.pair (.int .i64) (.int .i64))) x) : f107 k x = some x := by
  unfold f107
  all_goals rfl

/- laws.toBanS -/
theorem to62 (k : Nat) (hk : 1048576 < k) (x : (List (Int × Int))) (h : Sh.bd (.sl false 117 (.st (.pair (.int .i64) (.int .i64)))) x) : f62 k x = some x := by
  unfold f62
  exact copyRow (g := fun y => f107 k y) (z := 16) hk (f62.l34 k x) (fun _ _ _ => rfl) (by decide) h.1 (fun y hy => to107 k hk y (h.2 y hy))

/- laws.toGraph -/
theorem to17 (k : Nat) (hk : 1048576 < k) (x : ((List (Int × (Int × Int))) × ((List (Int × (Int × (Int × (Int × (Int × ByteArray)))))) × (List (Int × Int))))) (h : Sh.bd (.st (.pair (.sl false 114 (.st (.pair (.int .i64) (.st (.pair (.int .i64) (.int .i64)))))) (.pair (.sl false 103 (.st (.pair (.int .i64) (.pair (.int .i64) (.pair (.int .i64) (.pair (.int .i64) (.pair (.int .i64) .str))))))) (.sl false 117 (.st (.pair (.int .i64) (.int .i64))))))) x) : f17 k x = some x := by
  unfold f17
  simp only [to60 k hk x.1 h.1, to61 k hk x.2.1 h.2.1, to62 k hk x.2.2 h.2.2, Option.bind_some]
  all_goals rfl

/- laws.eqInt64S -/
theorem eq21 (k : Nat) (hk : 1048576 < k) (x : (List Int)) (h : Sh.bd (.sl false 2 (.int .i64)) x) : f21 k x x = some true := by
  unfold f21
  exact eqRow0 (ne := fun (a b : Int) => a != b) hk (f21.l18 k x x) (fun _ _ => rfl) h.1 (fun y => by simp)

/- laws.eqPath -/
theorem eq51 (k : Nat) (hk : 1048576 < k) (x : (Bool × ((List Int) × (Int × Int)))) (h : Sh.bd (.st (.pair .bool (.pair (.sl false 2 (.int .i64)) (.pair (.int .i64) (.int .i64))))) x) : f51 k x x = some true := by
  unfold f51
  simp [eq21 k hk x.2.1 h.2.1]

/- laws.eqPoint -/
theorem eq128 (k : Nat) (hk : 1048576 < k) (x : (Int × Int)) (h : Sh.bd (.st (.pair (.int .i64) (.int .i64))) x) : f128 k x x = some true := by
  unfold f128
  simp []

/- laws.eqSpot -/
theorem eq110 (k : Nat) (hk : 1048576 < k) (x : (Int × (Int × Int))) (h : Sh.bd (.st (.pair (.int .i64) (.st (.pair (.int .i64) (.int .i64))))) x) : f110 k x x = some true := by
  unfold f110
  simp [eq128 k hk x.2 h.2]

/- laws.eqSpotS -/
theorem eq67 (k : Nat) (hk : 1048576 < k) (x : (List (Int × (Int × Int)))) (h : Sh.bd (.sl false 107 (.st (.pair (.int .i64) (.st (.pair (.int .i64) (.int .i64)))))) x) : f67 k x x = some true := by
  unfold f67
  exact eqRow (e := fun a b => f110 k a b) hk (f67.l30 k x x) (fun _ _ => rfl) h.1 (fun y hy => eq110 k hk y (h.2 y hy))

/- laws.eqRoad -/
theorem eq111 (k : Nat) (hk : 1048576 < k) (x : (Int × (Int × (Int × (Int × (Int × ByteArray)))))) (h : Sh.bd (.st (.pair (.int .i64) (.pair (.int .i64) (.pair (.int .i64) (.pair (.int .i64) (.pair (.int .i64) .str)))))) x) : f111 k x x = some true := by
  unfold f111
  simp []

/- laws.eqRoadS -/
theorem eq68 (k : Nat) (hk : 1048576 < k) (x : (List (Int × (Int × (Int × (Int × (Int × ByteArray))))))) (h : Sh.bd (.sl false 79 (.st (.pair (.int .i64) (.pair (.int .i64) (.pair (.int .i64) (.pair (.int .i64) (.pair (.int .i64) .str))))))) x) : f68 k x x = some true := by
  unfold f68
  exact eqRow (e := fun a b => f111 k a b) hk (f68.l30 k x x) (fun _ _ => rfl) h.1 (fun y hy => eq111 k hk y (h.2 y hy))

/- laws.eqBan -/
theorem eq112 (k : Nat) (hk : 1048576 < k) (x : (Int × Int)) (h : Sh.bd (.st (.pair (.int .i64) (.int .i64))) x) : f112 k x x = some true := by
  unfold f112
  simp []

/- laws.eqBanS -/
theorem eq69 (k : Nat) (hk : 1048576 < k) (x : (List (Int × Int))) (h : Sh.bd (.sl false 82 (.st (.pair (.int .i64) (.int .i64)))) x) : f69 k x x = some true := by
  unfold f69
  exact eqRow (e := fun a b => f112 k a b) hk (f69.l30 k x x) (fun _ _ => rfl) h.1 (fun y hy => eq112 k hk y (h.2 y hy))

/- laws.eqGraph -/
theorem eq20 (k : Nat) (hk : 1048576 < k) (x : ((List (Int × (Int × Int))) × ((List (Int × (Int × (Int × (Int × (Int × ByteArray)))))) × (List (Int × Int))))) (h : Sh.bd (.st (.pair (.sl false 107 (.st (.pair (.int .i64) (.st (.pair (.int .i64) (.int .i64)))))) (.pair (.sl false 79 (.st (.pair (.int .i64) (.pair (.int .i64) (.pair (.int .i64) (.pair (.int .i64) (.pair (.int .i64) .str))))))) (.sl false 82 (.st (.pair (.int .i64) (.int .i64))))))) x) : f20 k x x = some true := by
  unfold f20
  simp [eq67 k hk x.1 h.1, eq68 k hk x.2.1 h.2.1, eq69 k hk x.2.2 h.2.2]

def ESpotS (k : Nat) (v : Int) (b : (Int × (Int × Int))) (c : Int) : Prop := (b.1 = v) ∧ (b.2.1 = v + 1) ∧ (b.2.2 = v + 1 + 1) ∧ c = v + 1 + 1 + 1
abbrev KSpotS (k : Nat) : Int → (List (Int × (Int × Int))) → Int → Prop := RowR ((0 : Int), ((0 : Int), (0 : Int))) (ESpotS k)

/- laws.markSpotS -/
theorem mk72 (k : Nat) (hk : 1048576 < k) (x : (List (Int × (Int × Int)))) (hx : Sh.bd (.sl false 107 (.st (.pair (.int .i64) (.st (.pair (.int .i64) (.int .i64)))))) x) : Mk (fun x v => f72 k x v) (KSpotS k) 3145728 x := by
  refine markRow (d := ((0 : Int), ((0 : Int), (0 : Int)))) (w := 3) hx.1 (L := f72.l44 k) (by decide) (fun a ha v h0 h1 => ?_) (fun m xs v => by rw [f72.l44, if_f (by simp)]) hk (by decide)

  have z0 : IntKind.i64.wrap (v + 1) = v + 1 := wrap_in (by omega) (by omega)
  have z1 : IntKind.i64.wrap (v + 1 + 1) = v + 1 + 1 := wrap_in (by omega) (by omega)
  have z2 : IntKind.i64.wrap (v + 1 + 1 + 1) = v + 1 + 1 + 1 := wrap_in (by omega) (by omega)
  refine ⟨v + 1 + 1 + 1, (v, (v + 1, v + 1 + 1)), ⟨rfl, rfl, rfl, rfl⟩, by omega, by omega, fun m i xs hi hl ha => ?_⟩
  have hc : decide ((i : Int) < (xs.length : Int)) = true := by simpa using hi
  have hb : (0 : Int) ≤ (i : Int) ∧ (i : Int) < (xs.length : Int) := ⟨by omega, by omega⟩
  have hxl := hx.1
  have h3 : ((3 : Int) : Int) ≠ 0 := by decide
  rw [f72.l44, if_t hc]
  simp only [if_t hb, if_t h3, List.length_set, Int.toNat_natCast, gd_set_eq, hi, List.set_set, Option.bind_some, ha, wrap_s (n := i) (by omega), z0, z1, z2]

/- laws.markText -/
theorem tx113_go (k : Nat) : ∀ (d m n : Nat) (s : ByteArray), n < 10 ^ d → d < m → n < 9223372036854775807 → s.size + d ≤ 1000 → ∃ t, f113.l19 k m ((n : Int), s) = some t
  | 0, m, n, s, h1, hm, h3, h2 => by
    obtain ⟨m, rfl⟩ : ∃ q, m = q + 1 := ⟨m - 1, by omega⟩
    obtain rfl : n = 0 := by omega
    rw [f113.l19, if_f (by decide), if_t (by rw [show (⟨#[109]⟩ : ByteArray).size = 1 from rfl]; omega)]
    exact ⟨_, rfl⟩
  | d + 1, m, n, s, h1, hm, h3, h2 => by
    obtain ⟨m, rfl⟩ : ∃ q, m = q + 1 := ⟨m - 1, by omega⟩
    rw [f113.l19]
    by_cases h0 : (n : Int) > 0
    · have e : Int.tdiv (n : Int) 10 = ((n / 10 : Nat) : Int) := by rw [Int.tdiv_eq_ediv_of_nonneg (by omega)]; omega
      have z : ∀ n, (strOfNums [n]).size = 1 := fun _ => rfl
      rw [if_t (by simpa using h0), if_t (by decide), if_t (by rw [z]; omega), if_t (by decide), e, wrap_in (by omega) (by omega)]
      exact tx113_go k d m (n / 10) _ (by rw [Nat.pow_succ] at h1; omega) (by omega) (by omega) (by rw [ByteArray.size_append, z]; omega)
    · rw [if_f (by simpa using h0), if_t (by rw [show (⟨#[109]⟩ : ByteArray).size = 1 from rfl]; omega)]
      exact ⟨_, rfl⟩
theorem tx113 (k : Nat) (hk : 1048576 < k) (x : Int) (h0 : 0 ≤ x) (h1 : x ≤ 9223372036854775000) : ∃ t, f113 k x = some t := by
  unfold f113
  by_cases h : x ≤ 0
  · rw [if_t (by simpa using h)]; exact ⟨_, rfl⟩
  · rw [if_f (by simpa using h)]
    obtain ⟨n, rfl⟩ : ∃ n : Nat, x = n := ⟨x.toNat, by omega⟩
    exact tx113_go k 19 k n _ (by omega) (by omega) (by omega) (by decide)

def ERoadS (k : Nat) (v : Int) (b : (Int × (Int × (Int × (Int × (Int × ByteArray)))))) (c : Int) : Prop := (b.1 = v) ∧ (b.2.1 = v + 1) ∧ (b.2.2.1 = v + 1 + 1) ∧ (b.2.2.2.1 = v + 1 + 1 + 1) ∧ (b.2.2.2.2.1 = v + 1 + 1 + 1 + 1) ∧ (f113 k (v + 1 + 1 + 1 + 1 + 1) = some b.2.2.2.2.2) ∧ c = v + 1 + 1 + 1 + 1 + 1 + 1
abbrev KRoadS (k : Nat) : Int → (List (Int × (Int × (Int × (Int × (Int × ByteArray)))))) → Int → Prop := RowR ((0 : Int), ((0 : Int), ((0 : Int), ((0 : Int), ((0 : Int), (⟨#[]⟩ : ByteArray)))))) (ERoadS k)

/- laws.markRoadS -/
theorem mk73 (k : Nat) (hk : 1048576 < k) (x : (List (Int × (Int × (Int × (Int × (Int × ByteArray))))))) (hx : Sh.bd (.sl false 79 (.st (.pair (.int .i64) (.pair (.int .i64) (.pair (.int .i64) (.pair (.int .i64) (.pair (.int .i64) .str))))))) x) : Mk (fun x v => f73 k x v) (KRoadS k) 6291456 x := by
  refine markRow (d := ((0 : Int), ((0 : Int), ((0 : Int), ((0 : Int), ((0 : Int), (⟨#[]⟩ : ByteArray))))))) (w := 6) hx.1 (L := f73.l110 k) (by decide) (fun a ha v h0 h1 => ?_) (fun m xs v => by rw [f73.l110, if_f (by simp)]) hk (by decide)
  obtain ⟨t1, ht1⟩ := tx113 k hk (v + 1 + 1 + 1 + 1 + 1) (by omega) (by omega)
  have z0 : IntKind.i64.wrap (v + 1) = v + 1 := wrap_in (by omega) (by omega)
  have z1 : IntKind.i64.wrap (v + 1 + 1) = v + 1 + 1 := wrap_in (by omega) (by omega)
  have z2 : IntKind.i64.wrap (v + 1 + 1 + 1) = v + 1 + 1 + 1 := wrap_in (by omega) (by omega)
  have z3 : IntKind.i64.wrap (v + 1 + 1 + 1 + 1) = v + 1 + 1 + 1 + 1 := wrap_in (by omega) (by omega)
  have z4 : IntKind.i64.wrap (v + 1 + 1 + 1 + 1 + 1) = v + 1 + 1 + 1 + 1 + 1 := wrap_in (by omega) (by omega)
  have z5 : IntKind.i64.wrap (v + 1 + 1 + 1 + 1 + 1 + 1) = v + 1 + 1 + 1 + 1 + 1 + 1 := wrap_in (by omega) (by omega)
  refine ⟨v + 1 + 1 + 1 + 1 + 1 + 1, (v, v + 1, v + 1 + 1, v + 1 + 1 + 1, v + 1 + 1 + 1 + 1, t1), ⟨rfl, rfl, rfl, rfl, rfl, ht1, rfl⟩, by omega, by omega, fun m i xs hi hl ha => ?_⟩
  have hc : decide ((i : Int) < (xs.length : Int)) = true := by simpa using hi
  have hb : (0 : Int) ≤ (i : Int) ∧ (i : Int) < (xs.length : Int) := ⟨by omega, by omega⟩
  have hxl := hx.1
  have h3 : ((3 : Int) : Int) ≠ 0 := by decide
  rw [f73.l110, if_t hc]
  simp only [if_t hb, if_t h3, List.length_set, Int.toNat_natCast, gd_set_eq, hi, List.set_set, Option.bind_some, ha, wrap_s (n := i) (by omega), z0, z1, z2, z3, z4, z5, ht1]

def EBanS (k : Nat) (v : Int) (b : (Int × Int)) (c : Int) : Prop := (b.1 = v) ∧ (b.2 = v + 1) ∧ c = v + 1 + 1
abbrev KBanS (k : Nat) : Int → (List (Int × Int)) → Int → Prop := RowR ((0 : Int), (0 : Int)) (EBanS k)

/- laws.markBanS -/
theorem mk74 (k : Nat) (hk : 1048576 < k) (x : (List (Int × Int))) (hx : Sh.bd (.sl false 82 (.st (.pair (.int .i64) (.int .i64)))) x) : Mk (fun x v => f74 k x v) (KBanS k) 2097152 x := by
  refine markRow (d := ((0 : Int), (0 : Int))) (w := 2) hx.1 (L := f74.l26 k) (by decide) (fun a ha v h0 h1 => ?_) (fun m xs v => by rw [f74.l26, if_f (by simp)]) hk (by decide)

  have z0 : IntKind.i64.wrap (v + 1) = v + 1 := wrap_in (by omega) (by omega)
  have z1 : IntKind.i64.wrap (v + 1 + 1) = v + 1 + 1 := wrap_in (by omega) (by omega)
  refine ⟨v + 1 + 1, (v, v + 1), ⟨rfl, rfl, rfl⟩, by omega, by omega, fun m i xs hi hl ha => ?_⟩
  have hc : decide ((i : Int) < (xs.length : Int)) = true := by simpa using hi
  have hb : (0 : Int) ≤ (i : Int) ∧ (i : Int) < (xs.length : Int) := ⟨by omega, by omega⟩
  have hxl := hx.1
  have h3 : ((3 : Int) : Int) ≠ 0 := by decide
  rw [f74.l26, if_t hc]
  simp only [if_t hb, if_t h3, List.length_set, Int.toNat_natCast, gd_set_eq, hi, List.set_set, Option.bind_some, ha, wrap_s (n := i) (by omega), z0, z1]

def KGraph (k : Nat) (v : Int) (b : ((List (Int × (Int × Int))) × ((List (Int × (Int × (Int × (Int × (Int × ByteArray)))))) × (List (Int × Int))))) (c : Int) : Prop := ∃ c1 : Int, ∃ c2 : Int, ∃ c3 : Int, (KSpotS k v b.1 c1 ∧ v ≤ c1) ∧ (KRoadS k c1 b.2.1 c2 ∧ c1 ≤ c2) ∧ (KBanS k c2 b.2.2 c3 ∧ c2 ≤ c3) ∧ c = c3

/- laws.markGraph -/
theorem mk26 (k : Nat) (hk : 1048576 < k) (x : ((List (Int × (Int × Int))) × ((List (Int × (Int × (Int × (Int × (Int × ByteArray)))))) × (List (Int × Int))))) (hx : Sh.bd (.st (.pair (.sl false 107 (.st (.pair (.int .i64) (.st (.pair (.int .i64) (.int .i64)))))) (.pair (.sl false 79 (.st (.pair (.int .i64) (.pair (.int .i64) (.pair (.int .i64) (.pair (.int .i64) (.pair (.int .i64) .str))))))) (.sl false 82 (.st (.pair (.int .i64) (.int .i64))))))) x) : Mk (fun x v => f26 k x v) (KGraph k) 11534336 x := by
  intro v h0 h1
  obtain ⟨c1, y1, q1, r1, l1, u1⟩ := mk72 k hk x.1 hx.1 v (by omega) (by omega)
  have p1 : f72 k x.1 v = some (c1, y1) := q1
  obtain ⟨c2, y2, q2, r2, l2, u2⟩ := mk73 k hk x.2.1 hx.2.1 c1 (by omega) (by omega)
  have p2 : f73 k x.2.1 c1 = some (c2, y2) := q2
  obtain ⟨c3, y3, q3, r3, l3, u3⟩ := mk74 k hk x.2.2 hx.2.2 c2 (by omega) (by omega)
  have p3 : f74 k x.2.2 c2 = some (c3, y3) := q3
  refine ⟨c3, (y1, y2, y3), ?_, ⟨_, _, _, ⟨r1, l1⟩, ⟨r2, l2⟩, ⟨r3, l3⟩, rfl⟩, by omega, by omega⟩
  show f26 k x v = _
  unfold f26
  simp only [p1, p2, p3, Option.bind_some]

def EInt64S (k : Nat) (v : Int) (b : Int) (c : Int) : Prop := (b = v) ∧ c = v + 1
abbrev KInt64S (k : Nat) : Int → (List Int) → Int → Prop := RowR (0 : Int) (EInt64S k)

/- laws.markInt64S -/
theorem mk27 (k : Nat) (hk : 1048576 < k) (x : (List Int)) (hx : Sh.bd (.sl false 2 (.int .i64)) x) : Mk (fun x v => f27 k x v) (KInt64S k) 1048576 x := by
  refine markRow (d := (0 : Int)) (w := 1) hx.1 (L := f27.l20 k) (by decide) (fun a ha v h0 h1 => ?_) (fun m xs v => by rw [f27.l20, if_f (by simp)]) hk (by decide)

  have z0 : IntKind.i64.wrap (v + 1) = v + 1 := wrap_in (by omega) (by omega)
  refine ⟨v + 1, v, ⟨rfl, rfl⟩, by omega, by omega, fun m i xs hi hl ha => ?_⟩
  have hc : decide ((i : Int) < (xs.length : Int)) = true := by simpa using hi
  have hb : (0 : Int) ≤ (i : Int) ∧ (i : Int) < (xs.length : Int) := ⟨by omega, by omega⟩
  have hxl := hx.1
  have h3 : ((3 : Int) : Int) ≠ 0 := by decide
  rw [f27.l20, if_t hc]
  simp only [if_t hb, if_t h3, List.length_set, Int.toNat_natCast, gd_set_eq, hi, List.set_set, Option.bind_some, ha, wrap_s (n := i) (by omega), z0]

def KPath (k : Nat) (v : Int) (b : (Bool × ((List Int) × (Int × Int)))) (c : Int) : Prop := ∃ c1 : Int, (KInt64S k v b.2.1 c1 ∧ v ≤ c1) ∧ c = c1

/- laws.markPath -/
theorem mk52 (k : Nat) (hk : 1048576 < k) (x : (Bool × ((List Int) × (Int × Int)))) (hx : Sh.bd (.st (.pair .bool (.pair (.sl false 2 (.int .i64)) (.pair (.int .i64) (.int .i64))))) x) : Mk (fun x v => f52 k x v) (KPath k) 1048576 x := by
  intro v h0 h1
  obtain ⟨c1, y1, q1, r1, l1, u1⟩ := mk27 k hk x.2.1 hx.2.1 v (by omega) (by omega)
  have p1 : f27 k x.2.1 v = some (c1, y1) := q1
  refine ⟨c1, (x.1, y1, x.2.2.1, x.2.2.2), ?_, ⟨_, ⟨r1, l1⟩, rfl⟩, by omega, by omega⟩
  show f52 k x v = _
  unfold f52
  simp only [p1, Option.bind_some]

/- laws.heldInt64S -/
theorem hd28 (k : Nat) (hk : 1048576 < k) : Hd (fun y v => f28 k y v) (KInt64S k) := by
  refine heldRow (d := (0 : Int)) (L := fun y => f28.l16 k y) (fun ys m i v c hi hl h0 h1 h2 hR => ?_) (fun ys m v => by rw [f28.l16, if_f (by simp)]) hk
  obtain ⟨e0, ec⟩ := hR
  have z0 : IntKind.i64.wrap (v + 1) = v + 1 := wrap_in (by omega) (by omega)
  have hc : decide ((i : Int) < (ys.length : Int)) = true := by simpa using hi
  have hb : (0 : Int) ≤ (i : Int) ∧ (i : Int) < (ys.length : Int) := ⟨by omega, by omega⟩
  have h3 : ((3 : Int) : Int) ≠ 0 := by decide
  subst ec
  rw [f28.l16, if_t hc]
  simp only [if_t hb, if_t h3, Int.toNat_natCast, Option.bind_some, z0, e0, wrap_s (n := i) (by omega), bne_self_eq_false, beq_self_eq_true, Bool.not_true, Bool.false_eq_true, if_false]

/- laws.heldPath -/
theorem hd53 (k : Nat) (hk : 1048576 < k) : Hd (fun y v => f53 k y v) (KPath k) := by
  intro v y c h0 h1 h2 hR
  obtain ⟨c1, ⟨k1, l1⟩, ec⟩ := hR
  obtain rfl := ec.symm
  have p1 : f28 k y.2.1 v = some c1 := hd28 k hk v _ c1 (by omega) (by omega) (by omega) k1
  have n1 : ¬ (decide ((c1 : Int) < (0 : Int)) = true) := by simp; omega
  show f53 k y v = _
  unfold f53
  simp only [p1, if_f n1, Option.bind_some]
end Go.Proofs.Ytjfledckleeoaaa.V
