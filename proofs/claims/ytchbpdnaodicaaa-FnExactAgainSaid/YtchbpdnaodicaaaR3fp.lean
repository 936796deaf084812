/-
  THE PLUMBING OF A LAW'S FUNCTIONS, PRINTED BY A PROGRAM OF THIS PROJECT (wip/gen/plumb.py).
-/
import Derived.Test.YtchbpdnaodicaaaR3f
import Derived.Test.YtchbpdnaodicaaaLawB
import Derived.Test.YtchbpdnaodicaaaLawE
import Derived.Test.YtchbpdnaodicaaaVmU
set_option linter.unusedVariables false
set_option linter.unusedSimpArgs false
open Go Go.Vm Go.Proofs
namespace Go.Proofs.Ytchbpdnaodicaaa.V
/- laws.szSpotS -/
theorem sz67 (k : Nat) (hk : 1048576 < k) (x : (List (Int × (Int × Int)))) (hw : Sh.wf (.sl false 213 (.st (.pair (.int .i64) (.st (.pair (.int .i64) (.int .i64)))))) x) : Sz (fun v => f67 k x v) (Sh.bd (.sl false 213 (.st (.pair (.int .i64) (.st (.pair (.int .i64) (.int .i64)))))) x) :=
  Sz.imp (Sz.len hw.1 (fun _ => Sz.done)) (fun h => ⟨h.1, fun y _ => ⟨trivial, ⟨trivial, trivial⟩⟩⟩)
/- laws.szRoad -/
theorem sz157 (k : Nat) (hk : 1048576 < k) (x : (Int × (Int × (Int × (Int × (Int × ByteArray)))))) (hw : Sh.wf (.st (.pair (.int .i64) (.pair (.int .i64) (.pair (.int .i64) (.pair (.int .i64) (.pair (.int .i64) .str)))))) x) : Sz (fun v => f157 k x v) (Sh.bd (.st (.pair (.int .i64) (.pair (.int .i64) (.pair (.int .i64) (.pair (.int .i64) (.pair (.int .i64) .str)))))) x) :=
  Sz.imp (Sz.len hw.2.2.2.2.2 (fun _ => Sz.done)) (fun ⟨b5, _⟩ => ⟨trivial, trivial, trivial, trivial, trivial, b5⟩)
/- laws.szRoadS -/
theorem sz68 (k : Nat) (hk : 1048576 < k) (x : (List (Int × (Int × (Int × (Int × (Int × ByteArray))))))) (hw : Sh.wf (.sl false 205 (.st (.pair (.int .i64) (.pair (.int .i64) (.pair (.int .i64) (.pair (.int .i64) (.pair (.int .i64) .str))))))) x) : Sz (fun v => f68 k x v) (Sh.bd (.sl false 205 (.st (.pair (.int .i64) (.pair (.int .i64) (.pair (.int .i64) (.pair (.int .i64) (.pair (.int .i64) .str))))))) x) :=
  Sz.len hw.1 (fun h => Sz.loop hk (s := fun y v => f157 k y v) (f68.l28 k x) (fun _ _ _ => rfl) h (fun y hy => sz157 k hk y (hw.2 y hy)))
/- laws.szBanS -/
theorem sz69 (k : Nat) (hk : 1048576 < k) (x : (List (Int × Int))) (hw : Sh.wf (.sl false 216 (.st (.pair (.int .i64) (.int .i64)))) x) : Sz (fun v => f69 k x v) (Sh.bd (.sl false 216 (.st (.pair (.int .i64) (.int .i64)))) x) :=
  Sz.imp (Sz.len hw.1 (fun _ => Sz.done)) (fun h => ⟨h.1, fun y _ => ⟨trivial, trivial⟩⟩)
/- laws.szGraph -/
theorem sz14 (k : Nat) (hk : 1048576 < k) (x : ((List (Int × (Int × Int))) × ((List (Int × (Int × (Int × (Int × (Int × ByteArray)))))) × (List (Int × Int))))) (hw : Sh.wf (.st (.pair (.sl false 213 (.st (.pair (.int .i64) (.st (.pair (.int .i64) (.int .i64)))))) (.pair (.sl false 205 (.st (.pair (.int .i64) (.pair (.int .i64) (.pair (.int .i64) (.pair (.int .i64) (.pair (.int .i64) .str))))))) (.sl false 216 (.st (.pair (.int .i64) (.int .i64))))))) x) : Sz (fun v => f14 k x v) (Sh.bd (.st (.pair (.sl false 213 (.st (.pair (.int .i64) (.st (.pair (.int .i64) (.int .i64)))))) (.pair (.sl false 205 (.st (.pair (.int .i64) (.pair (.int .i64) (.pair (.int .i64) (.pair (.int .i64) (.pair (.int .i64) .str))))))) (.sl false 216 (.st (.pair (.int .i64) (.int .i64))))))) x) :=
  Sz.imp (Sz.seq (sz67 k hk x.1 hw.1) (Sz.seq (sz68 k hk x.2.1 hw.2.1) (Sz.seq (sz69 k hk x.2.2 hw.2.2) (Sz.done)))) (fun ⟨b0, b1, b2, _⟩ => ⟨b0, b1, b2⟩)
/- laws.szTurning -/
theorem sz92 (k : Nat) (hk : 1048576 < k) (x : (Int × (Int × (ByteArray × (Int × Int))))) (hw : Sh.wf (.st (.pair (.int .i64) (.pair (.int .i64) (.pair .str (.pair (.int .i64) (.int .i64)))))) x) : Sz (fun v => f92 k x v) (Sh.bd (.st (.pair (.int .i64) (.pair (.int .i64) (.pair .str (.pair (.int .i64) (.int .i64)))))) x) :=
  Sz.imp (Sz.len hw.2.2.1 (fun _ => Sz.done)) (fun ⟨b2, _⟩ => ⟨trivial, trivial, b2, trivial, trivial⟩)
/- laws.szTurningS -/
theorem sz26 (k : Nat) (hk : 1048576 < k) (x : (List (Int × (Int × (ByteArray × (Int × Int)))))) (hw : Sh.wf (.sl false 134 (.st (.pair (.int .i64) (.pair (.int .i64) (.pair .str (.pair (.int .i64) (.int .i64))))))) x) : Sz (fun v => f26 k x v) (Sh.bd (.sl false 134 (.st (.pair (.int .i64) (.pair (.int .i64) (.pair .str (.pair (.int .i64) (.int .i64))))))) x) :=
  Sz.len hw.1 (fun h => Sz.loop hk (s := fun y v => f92 k y v) (f26.l28 k x) (fun _ _ _ => rfl) h (fun y hy => sz92 k hk y (hw.2 y hy)))
/- laws.toPoint -/
theorem to220 (k : Nat) (hk : 1048576 < k) (x : (Int × Int)) (h : Sh.bd (.st (.pair (.int .i64) (.int .i64))) x) : f220 k x = some x := by
  unfold f220
  all_goals rfl
/- laws.toSpot -/
theorem to165 (k : Nat) (hk : 1048576 < k) (x : (Int × (Int × Int))) (h : Sh.bd (.st (.pair (.int .i64) (.st (.pair (.int .i64) (.int .i64))))) x) : f165 k x = some x := by
  unfold f165
  simp only [to220 k hk x.2 h.2, Option.bind_some]
  all_goals rfl
/- laws.toSpotS -/
theorem to76 (k : Nat) (hk : 1048576 < k) (x : (List (Int × (Int × Int)))) (h : Sh.bd (.sl false 213 (.st (.pair (.int .i64) (.st (.pair (.int .i64) (.int .i64)))))) x) : f76 k x = some x := by
  unfold f76
  exact copyRow (g := fun y => f165 k y) (z := 24) hk (f76.l34 k x) (fun _ _ _ => rfl) (by decide) h.1 (fun y hy => to165 k hk y (h.2 y hy))
/- laws.toRoad -/
theorem to166 (k : Nat) (hk : 1048576 < k) (x : (Int × (Int × (Int × (Int × (Int × ByteArray)))))) (h : Sh.bd (.st (.pair (.int .i64) (.pair (.int .i64) (.pair (.int .i64) (.pair (.int .i64) (.pair (.int .i64) .str)))))) x) : f166 k x = some x := by
  unfold f166
  all_goals rfl
/- laws.toRoadS -/
theorem to77 (k : Nat) (hk : 1048576 < k) (x : (List (Int × (Int × (Int × (Int × (Int × ByteArray))))))) (h : Sh.bd (.sl false 205 (.st (.pair (.int .i64) (.pair (.int .i64) (.pair (.int .i64) (.pair (.int .i64) (.pair (.int .i64) .str))))))) x) : f77 k x = some x := by
  unfold f77
  exact copyRow (g := fun y => f166 k y) (z := 56) hk (f77.l34 k x) (fun _ _ _ => rfl) (by decide) h.1 (fun y hy => to166 k hk y (h.2 y hy))
/- laws.toBan -/
theorem to167 (k : Nat) (hk : 1048576 < k) (x : (Int × Int)) (h : Sh.bd (.st (.pair (.int .i64) (.int .i64))) x) : f167 k x = some x := by
  unfold f167
  all_goals rfl
/- laws.toBanS -/
theorem to78 (k : Nat) (hk : 1048576 < k) (x : (List (Int × Int))) (h : Sh.bd (.sl false 216 (.st (.pair (.int .i64) (.int .i64)))) x) : f78 k x = some x := by
  unfold f78
  exact copyRow (g := fun y => f167 k y) (z := 16) hk (f78.l34 k x) (fun _ _ _ => rfl) (by decide) h.1 (fun y hy => to167 k hk y (h.2 y hy))
/- laws.toGraph -/
theorem to16 (k : Nat) (hk : 1048576 < k) (x : ((List (Int × (Int × Int))) × ((List (Int × (Int × (Int × (Int × (Int × ByteArray)))))) × (List (Int × Int))))) (h : Sh.bd (.st (.pair (.sl false 213 (.st (.pair (.int .i64) (.st (.pair (.int .i64) (.int .i64)))))) (.pair (.sl false 205 (.st (.pair (.int .i64) (.pair (.int .i64) (.pair (.int .i64) (.pair (.int .i64) (.pair (.int .i64) .str))))))) (.sl false 216 (.st (.pair (.int .i64) (.int .i64))))))) x) : f16 k x = some x := by
  unfold f16
  simp only [to76 k hk x.1 h.1, to77 k hk x.2.1 h.2.1, to78 k hk x.2.2 h.2.2, Option.bind_some]
  all_goals rfl
/- laws.toTurning -/
theorem to95 (k : Nat) (hk : 1048576 < k) (x : (Int × (Int × (ByteArray × (Int × Int))))) (h : Sh.bd (.st (.pair (.int .i64) (.pair (.int .i64) (.pair .str (.pair (.int .i64) (.int .i64)))))) x) : f95 k x = some x := by
  unfold f95
  all_goals rfl
/- laws.toTurningS -/
theorem to28 (k : Nat) (hk : 1048576 < k) (x : (List (Int × (Int × (ByteArray × (Int × Int)))))) (h : Sh.bd (.sl false 134 (.st (.pair (.int .i64) (.pair (.int .i64) (.pair .str (.pair (.int .i64) (.int .i64))))))) x) : f28 k x = some x := by
  unfold f28
  exact copyRow (g := fun y => f95 k y) (z := 48) hk (f28.l34 k x) (fun _ _ _ => rfl) (by decide) h.1 (fun y hy => to95 k hk y (h.2 y hy))
/- laws.eqInt64S -/
theorem eq21 (k : Nat) (hk : 1048576 < k) (x : (List Int)) (h : Sh.bd (.sl false 2 (.int .i64)) x) : f21 k x x = some true := by
  unfold f21
  exact eqRow0 (ne := fun (a b : Int) => a != b) hk (f21.l18 k x x) (fun _ _ => rfl) h.1 (fun y => by simp)
/- laws.eqPath -/
theorem eq43 (k : Nat) (hk : 1048576 < k) (x : (Bool × ((List Int) × (Int × Int)))) (h : Sh.bd (.st (.pair .bool (.pair (.sl false 2 (.int .i64)) (.pair (.int .i64) (.int .i64))))) x) : f43 k x x = some true := by
  unfold f43
  simp [eq21 k hk x.2.1 h.2.1]
/- laws.eqPoint -/
theorem eq222 (k : Nat) (hk : 1048576 < k) (x : (Int × Int)) (h : Sh.bd (.st (.pair (.int .i64) (.int .i64))) x) : f222 k x x = some true := by
  unfold f222
  simp []
/- laws.eqSpot -/
theorem eq174 (k : Nat) (hk : 1048576 < k) (x : (Int × (Int × Int))) (h : Sh.bd (.st (.pair (.int .i64) (.st (.pair (.int .i64) (.int .i64))))) x) : f174 k x x = some true := by
  unfold f174
  simp [eq222 k hk x.2 h.2]
/- laws.eqSpotS -/
theorem eq85 (k : Nat) (hk : 1048576 < k) (x : (List (Int × (Int × Int)))) (h : Sh.bd (.sl false 176 (.st (.pair (.int .i64) (.st (.pair (.int .i64) (.int .i64)))))) x) : f85 k x x = some true := by
  unfold f85
  exact eqRow (e := fun a b => f174 k a b) hk (f85.l30 k x x) (fun _ _ => rfl) h.1 (fun y hy => eq174 k hk y (h.2 y hy))
/- laws.eqRoad -/
theorem eq175 (k : Nat) (hk : 1048576 < k) (x : (Int × (Int × (Int × (Int × (Int × ByteArray)))))) (h : Sh.bd (.st (.pair (.int .i64) (.pair (.int .i64) (.pair (.int .i64) (.pair (.int .i64) (.pair (.int .i64) .str)))))) x) : f175 k x x = some true := by
  unfold f175
  simp []
/- laws.eqRoadS -/
theorem eq86 (k : Nat) (hk : 1048576 < k) (x : (List (Int × (Int × (Int × (Int × (Int × ByteArray))))))) (h : Sh.bd (.sl false 110 (.st (.pair (.int .i64) (.pair (.int .i64) (.pair (.int .i64) (.pair (.int .i64) (.pair (.int .i64) .str))))))) x) : f86 k x x = some true := by
  unfold f86
  exact eqRow (e := fun a b => f175 k a b) hk (f86.l30 k x x) (fun _ _ => rfl) h.1 (fun y hy => eq175 k hk y (h.2 y hy))
/- laws.eqBan -/
theorem eq176 (k : Nat) (hk : 1048576 < k) (x : (Int × Int)) (h : Sh.bd (.st (.pair (.int .i64) (.int .i64))) x) : f176 k x x = some true := by
  unfold f176
  simp []
/- laws.eqBanS -/
theorem eq87 (k : Nat) (hk : 1048576 < k) (x : (List (Int × Int))) (h : Sh.bd (.sl false 167 (.st (.pair (.int .i64) (.int .i64)))) x) : f87 k x x = some true := by
  unfold f87
  exact eqRow (e := fun a b => f176 k a b) hk (f87.l30 k x x) (fun _ _ => rfl) h.1 (fun y hy => eq176 k hk y (h.2 y hy))
/- laws.eqGraph -/
theorem eq20 (k : Nat) (hk : 1048576 < k) (x : ((List (Int × (Int × Int))) × ((List (Int × (Int × (Int × (Int × (Int × ByteArray)))))) × (List (Int × Int))))) (h : Sh.bd (.st (.pair (.sl false 176 (.st (.pair (.int .i64) (.st (.pair (.int .i64) (.int .i64)))))) (.pair (.sl false 110 (.st (.pair (.int .i64) (.pair (.int .i64) (.pair (.int .i64) (.pair (.int .i64) (.pair (.int .i64) .str))))))) (.sl false 167 (.st (.pair (.int .i64) (.int .i64))))))) x) : f20 k x x = some true := by
  unfold f20
  simp [eq85 k hk x.1 h.1, eq86 k hk x.2.1 h.2.1, eq87 k hk x.2.2 h.2.2]
/- laws.eqTurning -/
theorem eq84 (k : Nat) (hk : 1048576 < k) (x : (Int × (Int × (ByteArray × (Int × Int))))) (h : Sh.bd (.st (.pair (.int .i64) (.pair (.int .i64) (.pair .str (.pair (.int .i64) (.int .i64)))))) x) : f84 k x x = some true := by
  unfold f84
  simp []
/- laws.eqTurningS -/
theorem eq19 (k : Nat) (hk : 1048576 < k) (x : (List (Int × (Int × (ByteArray × (Int × Int)))))) (h : Sh.bd (.sl false 114 (.st (.pair (.int .i64) (.pair (.int .i64) (.pair .str (.pair (.int .i64) (.int .i64))))))) x) : f19 k x x = some true := by
  unfold f19
  exact eqRow (e := fun a b => f84 k a b) hk (f19.l30 k x x) (fun _ _ => rfl) h.1 (fun y hy => eq84 k hk y (h.2 y hy))
def ESpotS (k : Nat) (v : Int) (b : (Int × (Int × Int))) (c : Int) : Prop := (b.1 = v) ∧ (b.2.1 = v + 1) ∧ (b.2.2 = v + 1 + 1) ∧ c = v + 1 + 1 + 1
abbrev KSpotS (k : Nat) : Int → (List (Int × (Int × Int))) → Int → Prop := RowR ((0 : Int), ((0 : Int), (0 : Int))) (ESpotS k)
/- laws.markSpotS -/
theorem mk88 (k : Nat) (hk : 1048576 < k) (x : (List (Int × (Int × Int)))) (hx : Sh.bd (.sl false 176 (.st (.pair (.int .i64) (.st (.pair (.int .i64) (.int .i64)))))) x) : Mk (fun x v => f88 k x v) (KSpotS k) 3145728 x := by
  refine markRow (d := ((0 : Int), ((0 : Int), (0 : Int)))) (w := 3) hx.1 (L := f88.l44 k) (by decide) (fun a ha v h0 h1 => ?_) (fun m xs v => by rw [f88.l44, if_f (by simp)]) hk (by decide)
  have z0 : IntKind.i64.wrap (v + 1) = v + 1 := wrap_in (by omega) (by omega)
  have z1 : IntKind.i64.wrap (v + 1 + 1) = v + 1 + 1 := wrap_in (by omega) (by omega)
  have z2 : IntKind.i64.wrap (v + 1 + 1 + 1) = v + 1 + 1 + 1 := wrap_in (by omega) (by omega)
  refine ⟨v + 1 + 1 + 1, (v, (v + 1, v + 1 + 1)), ⟨rfl, rfl, rfl, rfl⟩, by omega, by omega, fun m i xs hi hl ha => ?_⟩
  have hc : decide ((i : Int) < (xs.length : Int)) = true := by simpa using hi
  have hb : (0 : Int) ≤ (i : Int) ∧ (i : Int) < (xs.length : Int) := ⟨by omega, by omega⟩
  have hxl := hx.1
  have h3 : ((3 : Int) : Int) ≠ 0 := by decide
  rw [f88.l44, if_t hc]
  simp only [if_t hb, if_t h3, List.length_set, Int.toNat_natCast, gd_set_eq, hi, List.set_set, Option.bind_some, ha, wrap_s (n := i) (by omega), z0, z1, z2]
/- laws.markText -/
theorem tx91_go (k : Nat) : ∀ (d m n : Nat) (s : ByteArray), n < 10 ^ d → d < m → n < 9223372036854775807 → s.size + d ≤ 1000 → ∃ t, f91.l19 k m ((n : Int), s) = some t
  | 0, m, n, s, h1, hm, h3, h2 => by
    obtain ⟨m, rfl⟩ : ∃ q, m = q + 1 := ⟨m - 1, by omega⟩
    obtain rfl : n = 0 := by omega
    rw [f91.l19, if_f (by decide), if_t (by rw [show (⟨#[109]⟩ : ByteArray).size = 1 from rfl]; omega)]
    exact ⟨_, rfl⟩
  | d + 1, m, n, s, h1, hm, h3, h2 => by
    obtain ⟨m, rfl⟩ : ∃ q, m = q + 1 := ⟨m - 1, by omega⟩
    rw [f91.l19]
    by_cases h0 : (n : Int) > 0
    · have e : Int.tdiv (n : Int) 10 = ((n / 10 : Nat) : Int) := by rw [Int.tdiv_eq_ediv_of_nonneg (by omega)]; omega
      have z : ∀ n, (strOfNums [n]).size = 1 := fun _ => rfl
      rw [if_t (by simpa using h0), if_t (by decide), if_t (by rw [z]; omega), if_t (by decide), e, wrap_in (by omega) (by omega)]
      exact tx91_go k d m (n / 10) _ (by rw [Nat.pow_succ] at h1; omega) (by omega) (by omega) (by rw [ByteArray.size_append, z]; omega)
    · rw [if_f (by simpa using h0), if_t (by rw [show (⟨#[109]⟩ : ByteArray).size = 1 from rfl]; omega)]
      exact ⟨_, rfl⟩
theorem tx91 (k : Nat) (hk : 1048576 < k) (x : Int) (h0 : 0 ≤ x) (h1 : x ≤ 9223372036854775000) : ∃ t, f91 k x = some t := by
  unfold f91
  by_cases h : x ≤ 0
  · rw [if_t (by simpa using h)]; exact ⟨_, rfl⟩
  · rw [if_f (by simpa using h)]
    obtain ⟨n, rfl⟩ : ∃ n : Nat, x = n := ⟨x.toNat, by omega⟩
    exact tx91_go k 19 k n _ (by omega) (by omega) (by omega) (by decide)
def ERoadS (k : Nat) (v : Int) (b : (Int × (Int × (Int × (Int × (Int × ByteArray)))))) (c : Int) : Prop := (b.1 = v) ∧ (b.2.1 = v + 1) ∧ (b.2.2.1 = v + 1 + 1) ∧ (b.2.2.2.1 = v + 1 + 1 + 1) ∧ (b.2.2.2.2.1 = v + 1 + 1 + 1 + 1) ∧ (f91 k (v + 1 + 1 + 1 + 1 + 1) = some b.2.2.2.2.2) ∧ c = v + 1 + 1 + 1 + 1 + 1 + 1
abbrev KRoadS (k : Nat) : Int → (List (Int × (Int × (Int × (Int × (Int × ByteArray)))))) → Int → Prop := RowR ((0 : Int), ((0 : Int), ((0 : Int), ((0 : Int), ((0 : Int), (⟨#[]⟩ : ByteArray)))))) (ERoadS k)
/- laws.markRoadS -/
theorem mk89 (k : Nat) (hk : 1048576 < k) (x : (List (Int × (Int × (Int × (Int × (Int × ByteArray))))))) (hx : Sh.bd (.sl false 110 (.st (.pair (.int .i64) (.pair (.int .i64) (.pair (.int .i64) (.pair (.int .i64) (.pair (.int .i64) .str))))))) x) : Mk (fun x v => f89 k x v) (KRoadS k) 6291456 x := by
  refine markRow (d := ((0 : Int), ((0 : Int), ((0 : Int), ((0 : Int), ((0 : Int), (⟨#[]⟩ : ByteArray))))))) (w := 6) hx.1 (L := f89.l110 k) (by decide) (fun a ha v h0 h1 => ?_) (fun m xs v => by rw [f89.l110, if_f (by simp)]) hk (by decide)
  obtain ⟨t1, ht1⟩ := tx91 k hk (v + 1 + 1 + 1 + 1 + 1) (by omega) (by omega)
  have z0 : IntKind.i64.wrap (v + 1) = v + 1 := wrap_in (by omega) (by omega)
  have z1 : IntKind.i64.wrap (v + 1 + 1) = v + 1 + 1 := wrap_in (by omega) (by omega)
  have z2 : IntKind.i64.wrap (v + 1 + 1 + 1) = v + 1 + 1 + 1 := wrap_in (by omega) (by omega)
  have z3 : IntKind.i64.wrap (v + 1 + 1 + 1 + 1) = v + 1 + 1 + 1 + 1 := wrap_in (by omega) (by omega)
  have z4 : IntKind.i64.wrap (v + 1 + 1 + 1 + 1 + 1) = v + 1 + 1 + 1 + 1 + 1 := wrap_in (by omega) (by omega)
  have z5 : IntKind.i64.wrap (v + 1 + 1 + 1 + 1 + 1 + 1) = v + 1 + 1 + 1 + 1 + 1 + 1 := wrap_in (by omega) (by omega)
  refine ⟨v + 1 + 1 + 1 + 1 + 1 + 1, (v, v + 1, v + 1 + 1, v + 1 + 1 + 1, v + 1 + 1 + 1 + 1, t1), ⟨rfl, rfl, rfl, rfl, rfl, ht1, rfl⟩, by omega, by omega, fun m i xs hi hl ha => ?_⟩
  have hc : decide ((i : Int) < (xs.length : Int)) = true := by simpa using hi
  have hb : (0 : Int) ≤ (i : Int) ∧ (i : Int) < (xs.length : Int) := ⟨by omega, by omega⟩
  have hxl := hx.1
  have h3 : ((3 : Int) : Int) ≠ 0 := by decide
  rw [f89.l110, if_t hc]
  simp only [if_t hb, if_t h3, List.length_set, Int.toNat_natCast, gd_set_eq, hi, List.set_set, Option.bind_some, ha, wrap_s (n := i) (by omega), z0, z1, z2, z3, z4, z5, ht1]
def EBanS (k : Nat) (v : Int) (b : (Int × Int)) (c : Int) : Prop := (b.1 = v) ∧ (b.2 = v + 1) ∧ c = v + 1 + 1
abbrev KBanS (k : Nat) : Int → (List (Int × Int)) → Int → Prop := RowR ((0 : Int), (0 : Int)) (EBanS k)
/- laws.markBanS -/
theorem mk90 (k : Nat) (hk : 1048576 < k) (x : (List (Int × Int))) (hx : Sh.bd (.sl false 167 (.st (.pair (.int .i64) (.int .i64)))) x) : Mk (fun x v => f90 k x v) (KBanS k) 2097152 x := by
  refine markRow (d := ((0 : Int), (0 : Int))) (w := 2) hx.1 (L := f90.l26 k) (by decide) (fun a ha v h0 h1 => ?_) (fun m xs v => by rw [f90.l26, if_f (by simp)]) hk (by decide)
  have z0 : IntKind.i64.wrap (v + 1) = v + 1 := wrap_in (by omega) (by omega)
  have z1 : IntKind.i64.wrap (v + 1 + 1) = v + 1 + 1 := wrap_in (by omega) (by omega)
  refine ⟨v + 1 + 1, (v, v + 1), ⟨rfl, rfl, rfl⟩, by omega, by omega, fun m i xs hi hl ha => ?_⟩
  have hc : decide ((i : Int) < (xs.length : Int)) = true := by simpa using hi
  have hb : (0 : Int) ≤ (i : Int) ∧ (i : Int) < (xs.length : Int) := ⟨by omega, by omega⟩
  have hxl := hx.1
  have h3 : ((3 : Int) : Int) ≠ 0 := by decide
  rw [f90.l26, if_t hc]
  simp only [if_t hb, if_t h3, List.length_set, Int.toNat_natCast, gd_set_eq, hi, List.set_set, Option.bind_some, ha, wrap_s (n := i) (by omega), z0, z1]
def KGraph (k : Nat) (v : Int) (b : ((List (Int × (Int × Int))) × ((List (Int × (Int × (Int × (Int × (Int × ByteArray)))))) × (List (Int × Int))))) (c : Int) : Prop := ∃ c1 : Int, ∃ c2 : Int, ∃ c3 : Int, (KSpotS k v b.1 c1 ∧ v ≤ c1) ∧ (KRoadS k c1 b.2.1 c2 ∧ c1 ≤ c2) ∧ (KBanS k c2 b.2.2 c3 ∧ c2 ≤ c3) ∧ c = c3
/- laws.markGraph -/
theorem mk22 (k : Nat) (hk : 1048576 < k) (x : ((List (Int × (Int × Int))) × ((List (Int × (Int × (Int × (Int × (Int × ByteArray)))))) × (List (Int × Int))))) (hx : Sh.bd (.st (.pair (.sl false 176 (.st (.pair (.int .i64) (.st (.pair (.int .i64) (.int .i64)))))) (.pair (.sl false 110 (.st (.pair (.int .i64) (.pair (.int .i64) (.pair (.int .i64) (.pair (.int .i64) (.pair (.int .i64) .str))))))) (.sl false 167 (.st (.pair (.int .i64) (.int .i64))))))) x) : Mk (fun x v => f22 k x v) (KGraph k) 11534336 x := by
  intro v h0 h1
  obtain ⟨c1, y1, q1, r1, l1, u1⟩ := mk88 k hk x.1 hx.1 v (by omega) (by omega)
  have p1 : f88 k x.1 v = some (c1, y1) := q1
  obtain ⟨c2, y2, q2, r2, l2, u2⟩ := mk89 k hk x.2.1 hx.2.1 c1 (by omega) (by omega)
  have p2 : f89 k x.2.1 c1 = some (c2, y2) := q2
  obtain ⟨c3, y3, q3, r3, l3, u3⟩ := mk90 k hk x.2.2 hx.2.2 c2 (by omega) (by omega)
  have p3 : f90 k x.2.2 c2 = some (c3, y3) := q3
  refine ⟨c3, (y1, y2, y3), ?_, ⟨_, _, _, ⟨r1, l1⟩, ⟨r2, l2⟩, ⟨r3, l3⟩, rfl⟩, by omega, by omega⟩
  show f22 k x v = _
  unfold f22
  simp only [p1, p2, p3, Option.bind_some]
def ETurningS (k : Nat) (v : Int) (b : (Int × (Int × (ByteArray × (Int × Int))))) (c : Int) : Prop := (b.1 = v) ∧ (b.2.1 = v + 1) ∧ (f91 k (v + 1 + 1) = some b.2.2.1) ∧ (b.2.2.2.1 = v + 1 + 1 + 1) ∧ (b.2.2.2.2 = v + 1 + 1 + 1 + 1) ∧ c = v + 1 + 1 + 1 + 1 + 1
abbrev KTurningS (k : Nat) : Int → (List (Int × (Int × (ByteArray × (Int × Int))))) → Int → Prop := RowR ((0 : Int), ((0 : Int), ((⟨#[]⟩ : ByteArray), ((0 : Int), (0 : Int))))) (ETurningS k)
/- laws.markTurningS -/
theorem mk24 (k : Nat) (hk : 1048576 < k) (x : (List (Int × (Int × (ByteArray × (Int × Int)))))) (hx : Sh.bd (.sl false 114 (.st (.pair (.int .i64) (.pair (.int .i64) (.pair .str (.pair (.int .i64) (.int .i64))))))) x) : Mk (fun x v => f24 k x v) (KTurningS k) 5242880 x := by
  refine markRow (d := ((0 : Int), ((0 : Int), ((⟨#[]⟩ : ByteArray), ((0 : Int), (0 : Int)))))) (w := 5) hx.1 (L := f24.l92 k) (by decide) (fun a ha v h0 h1 => ?_) (fun m xs v => by rw [f24.l92, if_f (by simp)]) hk (by decide)
  obtain ⟨t1, ht1⟩ := tx91 k hk (v + 1 + 1) (by omega) (by omega)
  have z0 : IntKind.i64.wrap (v + 1) = v + 1 := wrap_in (by omega) (by omega)
  have z1 : IntKind.i64.wrap (v + 1 + 1) = v + 1 + 1 := wrap_in (by omega) (by omega)
  have z2 : IntKind.i64.wrap (v + 1 + 1 + 1) = v + 1 + 1 + 1 := wrap_in (by omega) (by omega)
  have z3 : IntKind.i64.wrap (v + 1 + 1 + 1 + 1) = v + 1 + 1 + 1 + 1 := wrap_in (by omega) (by omega)
  have z4 : IntKind.i64.wrap (v + 1 + 1 + 1 + 1 + 1) = v + 1 + 1 + 1 + 1 + 1 := wrap_in (by omega) (by omega)
  refine ⟨v + 1 + 1 + 1 + 1 + 1, (v, v + 1, t1, v + 1 + 1 + 1, v + 1 + 1 + 1 + 1), ⟨rfl, rfl, ht1, rfl, rfl, rfl⟩, by omega, by omega, fun m i xs hi hl ha => ?_⟩
  have hc : decide ((i : Int) < (xs.length : Int)) = true := by simpa using hi
  have hb : (0 : Int) ≤ (i : Int) ∧ (i : Int) < (xs.length : Int) := ⟨by omega, by omega⟩
  have hxl := hx.1
  have h3 : ((3 : Int) : Int) ≠ 0 := by decide
  rw [f24.l92, if_t hc]
  simp only [if_t hb, if_t h3, List.length_set, Int.toNat_natCast, gd_set_eq, hi, List.set_set, Option.bind_some, ha, wrap_s (n := i) (by omega), z0, z1, z2, z3, z4, ht1]
def EInt64S (k : Nat) (v : Int) (b : Int) (c : Int) : Prop := (b = v) ∧ c = v + 1
abbrev KInt64S (k : Nat) : Int → (List Int) → Int → Prop := RowR (0 : Int) (EInt64S k)
/- laws.markInt64S -/
theorem mk23 (k : Nat) (hk : 1048576 < k) (x : (List Int)) (hx : Sh.bd (.sl false 2 (.int .i64)) x) : Mk (fun x v => f23 k x v) (KInt64S k) 1048576 x := by
  refine markRow (d := (0 : Int)) (w := 1) hx.1 (L := f23.l20 k) (by decide) (fun a ha v h0 h1 => ?_) (fun m xs v => by rw [f23.l20, if_f (by simp)]) hk (by decide)
  have z0 : IntKind.i64.wrap (v + 1) = v + 1 := wrap_in (by omega) (by omega)
  refine ⟨v + 1, v, ⟨rfl, rfl⟩, by omega, by omega, fun m i xs hi hl ha => ?_⟩
  have hc : decide ((i : Int) < (xs.length : Int)) = true := by simpa using hi
  have hb : (0 : Int) ≤ (i : Int) ∧ (i : Int) < (xs.length : Int) := ⟨by omega, by omega⟩
  have hxl := hx.1
  have h3 : ((3 : Int) : Int) ≠ 0 := by decide
  rw [f23.l20, if_t hc]
  simp only [if_t hb, if_t h3, List.length_set, Int.toNat_natCast, gd_set_eq, hi, List.set_set, Option.bind_some, ha, wrap_s (n := i) (by omega), z0]
def KPath (k : Nat) (v : Int) (b : (Bool × ((List Int) × (Int × Int)))) (c : Int) : Prop := ∃ c1 : Int, (KInt64S k v b.2.1 c1 ∧ v ≤ c1) ∧ c = c1
/- laws.markPath -/
theorem mk44 (k : Nat) (hk : 1048576 < k) (x : (Bool × ((List Int) × (Int × Int)))) (hx : Sh.bd (.st (.pair .bool (.pair (.sl false 2 (.int .i64)) (.pair (.int .i64) (.int .i64))))) x) : Mk (fun x v => f44 k x v) (KPath k) 1048576 x := by
  intro v h0 h1
  obtain ⟨c1, y1, q1, r1, l1, u1⟩ := mk23 k hk x.2.1 hx.2.1 v (by omega) (by omega)
  have p1 : f23 k x.2.1 v = some (c1, y1) := q1
  refine ⟨c1, (x.1, y1, x.2.2.1, x.2.2.2), ?_, ⟨_, ⟨r1, l1⟩, rfl⟩, by omega, by omega⟩
  show f44 k x v = _
  unfold f44
  simp only [p1, Option.bind_some]
/- laws.heldInt64S -/
theorem hd30 (k : Nat) (hk : 1048576 < k) : Hd (fun y v => f30 k y v) (KInt64S k) := by
  refine heldRow (d := (0 : Int)) (L := fun y => f30.l16 k y) (fun ys m i v c hi hl h0 h1 h2 hR => ?_) (fun ys m v => by rw [f30.l16, if_f (by simp)]) hk
  obtain ⟨e0, ec⟩ := hR
  have z0 : IntKind.i64.wrap (v + 1) = v + 1 := wrap_in (by omega) (by omega)
  have hc : decide ((i : Int) < (ys.length : Int)) = true := by simpa using hi
  have hb : (0 : Int) ≤ (i : Int) ∧ (i : Int) < (ys.length : Int) := ⟨by omega, by omega⟩
  have h3 : ((3 : Int) : Int) ≠ 0 := by decide
  subst ec
  rw [f30.l16, if_t hc]
  simp only [if_t hb, if_t h3, Int.toNat_natCast, Option.bind_some, z0, e0, wrap_s (n := i) (by omega), bne_self_eq_false, beq_self_eq_true, Bool.not_true, Bool.false_eq_true, if_false]
/- laws.heldPath -/
theorem hd45 (k : Nat) (hk : 1048576 < k) : Hd (fun y v => f45 k y v) (KPath k) := by
  intro v y c h0 h1 h2 hR
  obtain ⟨c1, ⟨k1, l1⟩, ec⟩ := hR
  obtain rfl := ec.symm
  have p1 : f30 k y.2.1 v = some c1 := hd30 k hk v _ c1 (by omega) (by omega) (by omega) k1
  have n1 : ¬ (decide ((c1 : Int) < (0 : Int)) = true) := by simp; omega
  show f45 k y v = _
  unfold f45
  simp only [p1, if_f n1, Option.bind_some]
end Go.Proofs.Ytchbpdnaodicaaa.V
