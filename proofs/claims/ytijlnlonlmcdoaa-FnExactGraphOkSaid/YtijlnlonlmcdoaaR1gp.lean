/-
  THE PLUMBING OF A LAW'S FUNCTIONS, PRINTED BY A PROGRAM OF THIS PROJECT (wip/gen/plumb.py).
-/
import Derived.Test.YtijlnlonlmcdoaaR1g
import Derived.Test.YtijlnlonlmcdoaaLawB
import Derived.Test.YtijlnlonlmcdoaaVmU
set_option linter.unusedVariables false
set_option linter.unusedSimpArgs false
open Go Go.Vm Go.Proofs
namespace Go.Proofs.Ytijlnlonlmcdoaa.V

/- laws.szSpotS -/
theorem sz111 (k : Nat) (hk : 1048576 < k) (x : (List (Int × (Int × Int)))) (hw : Sh.wf (.sl false 201 (.st (.pair (.int .i64) (.st (.pair (.int .i64) (.int .i64)))))) x) : Sz (fun v => f111 k x v) (Sh.bd (.sl false 201 (.st (.pair (.int .i64) (.st (.pair (.int .i64) (.int .i64)))))) x) :=
  Sz.imp (Sz.len hw.1 (fun _ => Sz.done)) (fun h => ⟨h.1, fun y _ => ⟨trivial, ⟨trivial, trivial⟩⟩⟩)

/- laws.szRoad -/
theorem sz141 (k : Nat) (hk : 1048576 < k) (x : (Int × (Int × (Int × (Int × (Int × ByteArray)))))) (hw : Sh.wf (.st (.pair (.int .i64) (.pair (.int .i64) (.pair (.int .i64) (.pair (.int .i64) (.pair (.int .i64) .str)))))) x) : Sz (fun v => f141 k x v) (Sh.bd (.st (.pair (.int .i64) (.pair (.int .i64) (.pair (.int .i64) (.pair (.int .i64) (.pair (.int .i64) .str)))))) x) :=
  Sz.imp (Sz.len hw.2.2.2.2.2 (fun _ => Sz.done)) (fun ⟨b5, _⟩ => ⟨trivial, trivial, trivial, trivial, trivial, b5⟩)

/- laws.szRoadS -/
theorem sz112 (k : Nat) (hk : 1048576 < k) (x : (List (Int × (Int × (Int × (Int × (Int × ByteArray))))))) (hw : Sh.wf (.sl false 198 (.st (.pair (.int .i64) (.pair (.int .i64) (.pair (.int .i64) (.pair (.int .i64) (.pair (.int .i64) .str))))))) x) : Sz (fun v => f112 k x v) (Sh.bd (.sl false 198 (.st (.pair (.int .i64) (.pair (.int .i64) (.pair (.int .i64) (.pair (.int .i64) (.pair (.int .i64) .str))))))) x) :=
  Sz.len hw.1 (fun h => Sz.loop hk (s := fun y v => f141 k y v) (f112.l28 k x) (fun _ _ _ => rfl) h (fun y hy => sz141 k hk y (hw.2 y hy)))

/- laws.szBanS -/
theorem sz113 (k : Nat) (hk : 1048576 < k) (x : (List (Int × Int))) (hw : Sh.wf (.sl false 204 (.st (.pair (.int .i64) (.int .i64)))) x) : Sz (fun v => f113 k x v) (Sh.bd (.sl false 204 (.st (.pair (.int .i64) (.int .i64)))) x) :=
  Sz.imp (Sz.len hw.1 (fun _ => Sz.done)) (fun h => ⟨h.1, fun y _ => ⟨trivial, trivial⟩⟩)

/- laws.szGraph -/
theorem sz56 (k : Nat) (hk : 1048576 < k) (x : ((List (Int × (Int × Int))) × ((List (Int × (Int × (Int × (Int × (Int × ByteArray)))))) × (List (Int × Int))))) (hw : Sh.wf (.st (.pair (.sl false 201 (.st (.pair (.int .i64) (.st (.pair (.int .i64) (.int .i64)))))) (.pair (.sl false 198 (.st (.pair (.int .i64) (.pair (.int .i64) (.pair (.int .i64) (.pair (.int .i64) (.pair (.int .i64) .str))))))) (.sl false 204 (.st (.pair (.int .i64) (.int .i64))))))) x) : Sz (fun v => f56 k x v) (Sh.bd (.st (.pair (.sl false 201 (.st (.pair (.int .i64) (.st (.pair (.int .i64) (.int .i64)))))) (.pair (.sl false 198 (.st (.pair (.int .i64) (.pair (.int .i64) (.pair (.int .i64) (.pair (.int .i64) (.pair (.int .i64) .str))))))) (.sl false 204 (.st (.pair (.int .i64) (.int .i64))))))) x) :=
  Sz.imp (Sz.seq (sz111 k hk x.1 hw.1) (Sz.seq (sz112 k hk x.2.1 hw.2.1) (Sz.seq (sz113 k hk x.2.2 hw.2.2) (Sz.done)))) (fun ⟨b0, b1, b2, _⟩ => ⟨b0, b1, b2⟩)

/- laws.toPoint -/
theorem to77 (k : Nat) (hk : 1048576 < k) (x : (Int × Int)) (h : Sh.bd (.st (.pair (.int .i64) (.int .i64))) x) : f77 k x = some x := by
  unfold f77
  all_goals rfl

/- laws.toSpot -/
theorem to142 (k : Nat) (hk : 1048576 < k) (x : (Int × (Int × Int))) (h : Sh.bd (.st (.pair (.int .i64) (.st (.pair (.int .i64) (.int .i64))))) x) : f142 k x = some x := by
  unfold f142
  simp only [to77 k hk x.2 h.2, Option.bind_some]
  all_goals rfl

/- laws.toSpotS -/
theorem to117 (k : Nat) (hk : 1048576 < k) (x : (List (Int × (Int × Int)))) (h : Sh.bd (.sl false 201 (.st (.pair (.int .i64) (.st (.pair (.int .i64) (.int .i64)))))) x) : f117 k x = some x := by
  unfold f117
  exact copyRow (g := fun y => f142 k y) (z := 24) hk (f117.l34 k x) (fun _ _ _ => rfl) (by decide) h.1 (fun y hy => to142 k hk y (h.2 y hy))

/- laws.toRoad -/
theorem to143 (k : Nat) (hk : 1048576 < k) (x : (Int × (Int × (Int × (Int × (Int × ByteArray)))))) (h : Sh.bd (.st (.pair (.int .i64) (.pair (.int .i64) (.pair (.int .i64) (.pair (.int .i64) (.pair (.int .i64) .str)))))) x) : f143 k x = some x := by
  unfold f143
  all_goals rfl

/- laws.toRoadS -/
theorem to118 (k : Nat) (hk : 1048576 < k) (x : (List (Int × (Int × (Int × (Int × (Int × ByteArray))))))) (h : Sh.bd (.sl false 198 (.st (.pair (.int .i64) (.pair (.int .i64) (.pair (.int .i64) (.pair (.int .i64) (.pair (.int .i64) .str))))))) x) : f118 k x = some x := by
  unfold f118
  exact copyRow (g := fun y => f143 k y) (z := 56) hk (f118.l34 k x) (fun _ _ _ => rfl) (by decide) h.1 (fun y hy => to143 k hk y (h.2 y hy))

/- laws.toBan -/
theorem to144 (k : Nat) (hk : 1048576 < k) (x : (Int × Int)) (h : Sh.bd (.st (.pair (.int .i64) (.int .i64))) x) : f144 k x = some x := by
  unfold f144
  all_goals rfl

/- laws.toBanS -/
theorem to119 (k : Nat) (hk : 1048576 < k) (x : (List (Int × Int))) (h : Sh.bd (.sl false 204 (.st (.pair (.int .i64) (.int .i64)))) x) : f119 k x = some x := by
  unfold f119
  exact copyRow (g := fun y => f144 k y) (z := 16) hk (f119.l34 k x) (fun _ _ _ => rfl) (by decide) h.1 (fun y hy => to144 k hk y (h.2 y hy))

/- laws.toGraph -/
theorem to58 (k : Nat) (hk : 1048576 < k) (x : ((List (Int × (Int × Int))) × ((List (Int × (Int × (Int × (Int × (Int × ByteArray)))))) × (List (Int × Int))))) (h : Sh.bd (.st (.pair (.sl false 201 (.st (.pair (.int .i64) (.st (.pair (.int .i64) (.int .i64)))))) (.pair (.sl false 198 (.st (.pair (.int .i64) (.pair (.int .i64) (.pair (.int .i64) (.pair (.int .i64) (.pair (.int .i64) .str))))))) (.sl false 204 (.st (.pair (.int .i64) (.int .i64))))))) x) : f58 k x = some x := by
  unfold f58
  simp only [to117 k hk x.1 h.1, to118 k hk x.2.1 h.2.1, to119 k hk x.2.2 h.2.2, Option.bind_some]
  all_goals rfl

/- laws.eqPoint -/
theorem eq94 (k : Nat) (hk : 1048576 < k) (x : (Int × Int)) (h : Sh.bd (.st (.pair (.int .i64) (.int .i64))) x) : f94 k x x = some true := by
  unfold f94
  simp []

/- laws.eqSpot -/
theorem eq145 (k : Nat) (hk : 1048576 < k) (x : (Int × (Int × Int))) (h : Sh.bd (.st (.pair (.int .i64) (.st (.pair (.int .i64) (.int .i64))))) x) : f145 k x x = some true := by
  unfold f145
  simp [eq94 k hk x.2 h.2]

/- laws.eqSpotS -/
theorem eq122 (k : Nat) (hk : 1048576 < k) (x : (List (Int × (Int × Int)))) (h : Sh.bd (.sl false 162 (.st (.pair (.int .i64) (.st (.pair (.int .i64) (.int .i64)))))) x) : f122 k x x = some true := by
  unfold f122
  exact eqRow (e := fun a b => f145 k a b) hk (f122.l30 k x x) (fun _ _ => rfl) h.1 (fun y hy => eq145 k hk y (h.2 y hy))

/- laws.eqRoad -/
theorem eq146 (k : Nat) (hk : 1048576 < k) (x : (Int × (Int × (Int × (Int × (Int × ByteArray)))))) (h : Sh.bd (.st (.pair (.int .i64) (.pair (.int .i64) (.pair (.int .i64) (.pair (.int .i64) (.pair (.int .i64) .str)))))) x) : f146 k x x = some true := by
  unfold f146
  simp []

/- laws.eqRoadS -/
theorem eq123 (k : Nat) (hk : 1048576 < k) (x : (List (Int × (Int × (Int × (Int × (Int × ByteArray))))))) (h : Sh.bd (.sl false 166 (.st (.pair (.int .i64) (.pair (.int .i64) (.pair (.int .i64) (.pair (.int .i64) (.pair (.int .i64) .str))))))) x) : f123 k x x = some true := by
  unfold f123
  exact eqRow (e := fun a b => f146 k a b) hk (f123.l30 k x x) (fun _ _ => rfl) h.1 (fun y hy => eq146 k hk y (h.2 y hy))

/- laws.eqBan -/
theorem eq147 (k : Nat) (hk : 1048576 < k) (x : (Int × Int)) (h : Sh.bd (.st (.pair (.int .i64) (.int .i64))) x) : f147 k x x = some true := by
  unfold f147
  simp []

/- laws.eqBanS -/
theorem eq124 (k : Nat) (hk : 1048576 < k) (x : (List (Int × Int))) (h : Sh.bd (.sl false 168 (.st (.pair (.int .i64) (.int .i64)))) x) : f124 k x x = some true := by
  unfold f124
  exact eqRow (e := fun a b => f147 k a b) hk (f124.l30 k x x) (fun _ _ => rfl) h.1 (fun y hy => eq147 k hk y (h.2 y hy))

/- laws.eqGraph -/
theorem eq60 (k : Nat) (hk : 1048576 < k) (x : ((List (Int × (Int × Int))) × ((List (Int × (Int × (Int × (Int × (Int × ByteArray)))))) × (List (Int × Int))))) (h : Sh.bd (.st (.pair (.sl false 162 (.st (.pair (.int .i64) (.st (.pair (.int .i64) (.int .i64)))))) (.pair (.sl false 166 (.st (.pair (.int .i64) (.pair (.int .i64) (.pair (.int .i64) (.pair (.int .i64) (.pair (.int .i64) .str))))))) (.sl false 168 (.st (.pair (.int .i64) (.int .i64))))))) x) : f60 k x x = some true := by
  unfold f60
  simp [eq122 k hk x.1 h.1, eq123 k hk x.2.1 h.2.1, eq124 k hk x.2.2 h.2.2]
end Go.Proofs.Ytijlnlonlmcdoaa.V
