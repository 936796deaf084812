/-
  THE PLUMBING OF A LAW'S FUNCTIONS, PRINTED BY A PROGRAM OF THIS PROJECT (wip/gen/plumb.py).
-/
import Derived.Test.YtjfledckleeoaaaR2l
import Derived.Test.YtjfledckleeoaaaLawB
import Derived.Test.YtjfledckleeoaaaLawC
import Derived.Test.YtjfledckleeoaaaVmU
set_option linter.unusedVariables false
set_option linter.unusedSimpArgs false
open Go Go.Vm Go.Proofs
namespace Go.Proofs.Ytjfledckleeoaaa.V

/- laws.szSpotS -/
theorem sz54 (k : Nat) (hk : 1048576 < k) (x : (List (Int × (Int × Int)))) (hw : Sh.wf (.sl false 114 (.st (.pair (.int .i64) (.st (.pair (.int .i64) (.int .i64)))))) x) : Sz (fun v => f54 k x v) (Sh.bd (.sl false 114 (.st (.pair (.int .i64) (.st (.pair (.int .i64) (.int .i64)))))) x) :=
  Sz.imp (Sz.len hw.1 (fun _ => Sz.done)) (fun h => ⟨h.1, fun y _ => ⟨trivial, ⟨trivial, trivial⟩⟩⟩)

/- laws.szRoad -/
theorem sz101 (k : Nat) (hk : 1048576 < k) (x : (Int × (Int × (Int × (Int × (Int × ByteArray)))))) (hw : Sh.wf (.st (.pair (.int .i64) (.pair (.int .i64) (.pair (.int .i64) (.pair (.int .i64) (.pair (.int .i64) .str)))))) x) : Sz (fun v => f101 k x v) (Sh.bd (.st (.pair (.int .i64) (.pair (.int .i64) (.pair (.int .i64) (.pair (.int .i64) (.pair (.int .i64) .str)))))) x) :=
  Sz.imp (Sz.len hw.2.2.2.2.2 (fun _ => Sz.done)) (fun ⟨b5, _⟩ => ⟨trivial, trivial, trivial, trivial, trivial, b5⟩)

/- laws.szRoadS -/
theorem sz55 (k : Nat) (hk : 1048576 < k) (x : (List (Int × (Int × (Int × (Int × (Int × ByteArray))))))) (hw : Sh.wf (.sl false 103 (.st (.pair (.int .i64) (.pair (.int .i64) (.pair (.int .i64) (.pair (.int .i64) (.pair (.int .i64) .str))))))) x) : Sz (fun v => f55 k x v) (Sh.bd (.sl false 103 (.st (.pair (.int .i64) (.pair (.int .i64) (.pair (.int .i64) (.pair (.int .i64) (.pair (.int .i64) .str))))))) x) :=
  Sz.len hw.1 (fun h => Sz.loop hk (s := fun y v => f101 k y v) (f55.l28 k x) (fun _ _ _ => rfl) h (fun y hy => sz101 k hk y (hw.2 y hy)))

/- laws.szBanS -/
theorem sz56 (k : Nat) (hk : 1048576 < k) (x : (List (Int × Int))) (hw : Sh.wf (.sl false 117 (.st (.pair (.int .i64) (.int .i64)))) x) : Sz (fun v => f56 k x v) (Sh.bd (.sl false 117 (.st (.pair (.int .i64) (.int .i64)))) x) :=
  Sz.imp (Sz.len hw.1 (fun _ => Sz.done)) (fun h => ⟨h.1, fun y _ => ⟨trivial, trivial⟩⟩)

/- laws.szGraph -/
theorem sz15 (k : Nat) (hk : 1048576 < k) (x : ((List (Int × (Int × Int))) × ((List (Int × (Int × (Int × (Int × (Int × ByteArray)))))) × (List (Int × Int))))) (hw : Sh.wf (.st (.pair (.sl false 114 (.st (.pair (.int .i64) (.st (.pair (.int .i64) (.int .i64)))))) (.pair (.sl false 103 (.st (.pair (.int .i64) (.pair (.int .i64) (.pair (.int .i64) (.pair (.int .i64) (.pair (.int .i64) .str))))))) (.sl false 117 (.st (.pair (.int .i64) (.int .i64))))))) x) : Sz (fun v => f15 k x v) (Sh.bd (.st (.pair (.sl false 114 (.st (.pair (.int .i64) (.st (.pair (.int .i64) (.int .i64)))))) (.pair (.sl false 103 (.st (.pair (.int .i64) (.pair (.int .i64) (.pair (.int .i64) (.pair (.int .i64) (.pair (.int .i64) .str))))))) (.sl false 117 (.st (.pair (.int .i64) (.int .i64))))))) x) :=
  Sz.imp (Sz.seq (sz54 k hk x.1 hw.1) (Sz.seq (sz55 k hk x.2.1 hw.2.1) (Sz.seq (sz56 k hk x.2.2 hw.2.2) (Sz.done)))) (fun ⟨b0, b1, b2, _⟩ => ⟨b0, b1, b2⟩)

/- laws.toPoint -/
theorem to127 (k : Nat) (hk : 1048576 < k) (x : (Int × Int)) (h : Sh.bd (.st (.pair (.int .i64) (.int .i64))) x) : f127 k x = some x := by
  unfold f127
  all_goals rfl

/- laws.toSpot -/
theorem to105 (k : Nat) (hk : 1048576 < k) (x : (Int × (Int × Int))) (h : Sh.bd (.st (.pair (.int .i64) (.st (.pair (.int .i64) (.int .i64))))) x) : f105 k x = some x := by
  unfold f105
  simp only [to127 k hk x.2 h.2, Option.bind_some]
  all_goals rfl

/- laws.toSpotS -/
theorem to60 (k : Nat) (hk : 1048576 < k) (x : (List (Int × (Int × Int)))) (h : Sh.bd (.sl false 114 (.st (.pair (.int .i64) (.st (.pair (.int .i64) (.int .i64)))))) x) : f60 k x = some x := by
  unfold f60
  exact copyRow (g := fun y => f105 k y) (z := 24) hk (f60.l34 k x) (fun _ _ _ => rfl) (by decide) h.1 (fun y hy => to105 k hk y (h.2 y hy))

/- laws.toRoad -/
theorem to106 (k : Nat) (hk : 1048576 < k) (x : (Int × (Int × (Int × (Int × (Int × ByteArray)))))) (h : Sh.bd (.st (.pair (.int .i64) (.pair (.int .i64) (.pair (.int .i64) (.pair (.int .i64) (.pair (.int .i64) .str)))))) x) : f106 k x = some x := by
  unfold f106
  all_goals rfl

/- laws.toRoadS -/
theorem to61 (k : Nat) (hk : 1048576 < k) (x : (List (Int × (Int × (Int × (Int × (Int × ByteArray))))))) (h : Sh.bd (.sl false 103 (.st (.pair (.int .i64) (.pair (.int .i64) (.pair (.int .i64) (.pair (.int .i64) (.pair (.int .i64) .str))))))) x) : f61 k x = some x := by
  unfold f61
  exact copyRow (g := fun y => f106 k y) (z := 56) hk (f61.l34 k x) (fun _ _ _ => rfl) (by decide) h.1 (fun y hy => to106 k hk y (h.2 y hy))

/- laws.toBan -/
theorem to107 (k : Nat) (hk : 1048576 < k) (x : (Int × Int)) (h : Sh.bd (.st (.pair (.int .i64) (.int .i64))) x) : f107 k x = some x := by
  unfold f107
  all_goals rfl

/- laws.toBanS -/
theorem to62 (k : Nat) (hk : 1048576 < k) (x : (List (Int × Int))) (h : Sh.bd (.sl false 117 (.st (.pair (.int .i64) (.int .i64)))) x) : f62 k x = some x := by
  unfold f62
  exact copyRow (g := fun y => f107 k y) (z := 16) hk (f62.l34 k x) (fun _ _ _ => rfl) (by decide) h.1 (fun y hy => to107 k hk y (h.2 y hy))

/- laws.toGraph -/
theorem to17 (k : Nat) (hk : 1048576 < k) (x : ((List (Int × (Int × Int))) × ((List (Int × (Int × (Int × (Int × (Int × ByteArray)))))) × (List (Int × Int))))) (h : Sh.bd (.st (.pair (.sl false 114 (.st (.pair (.int .i64) (.st (.pair (.int .i64) (.int .i64)))))) (.pair (.sl false 103 (.st (.pair (.int .i64) (.pair (.int .i64) (.pair (.int .i64) (.pair (.int .i64) (.pair (.int .i64) .str))))))) (.sl false 117 (.st (.pair (.int .i64) (.int .i64))))))) x) : f17 k x = some x := by
  unfold f17
  simp only [to60 k hk x.1 h.1, to61 k hk x.2.1 h.2.1, to62 k hk x.2.2 h.2.2, Option.bind_some]
  all_goals rfl

/- laws.toInt64S -/
theorem to18 (k : Nat) (hk : 1048576 < k) (x : (List Int)) (h : Sh.bd (.sl false 2 (.int .i64)) x) : f18 k x = some x := by
  unfold f18
  exact copyRow (g := some) (z := 8) hk (f18.l22 k x) (fun _ _ _ => rfl) (by decide) h.1 (fun y hy => rfl)

/- laws.eqPoint -/
theorem eq128 (k : Nat) (hk : 1048576 < k) (x : (Int × Int)) (h : Sh.bd (.st (.pair (.int .i64) (.int .i64))) x) : f128 k x x = some true := by
  unfold f128
  simp []

/- laws.eqSpot -/
theorem eq110 (k : Nat) (hk : 1048576 < k) (x : (Int × (Int × Int))) (h : Sh.bd (.st (.pair (.int .i64) (.st (.pair (.int .i64) (.int .i64))))) x) : f110 k x x = some true := by
  unfold f110
  simp [eq128 k hk x.2 h.2]

/- laws.eqSpotS -/
theorem eq67 (k : Nat) (hk : 1048576 < k) (x : (List (Int × (Int × Int)))) (h : Sh.bd (.sl false 107 (.st (.pair (.int .i64) (.st (.pair (.int .i64) (.int .i64)))))) x) : f67 k x x = some true := by
  unfold f67
  exact eqRow (e := fun a b => f110 k a b) hk (f67.l30 k x x) (fun _ _ => rfl) h.1 (fun y hy => eq110 k hk y (h.2 y hy))

/- laws.eqRoad -/
theorem eq111 (k : Nat) (hk : 1048576 < k) (x : (Int × (Int × (Int × (Int × (Int × ByteArray)))))) (h : Sh.bd (.st (.pair (.int .i64) (.pair (.int .i64) (.pair (.int .i64) (.pair (.int .i64) (.pair (.int .i64) .str)))))) x) : f111 k x x = some true := by
  unfold f111
  simp []

/- laws.eqRoadS -/
theorem eq68 (k : Nat) (hk : 1048576 < k) (x : (List (Int × (Int × (Int × (Int × (Int × ByteArray))))))) (h : Sh.bd (.sl false 79 (.st (.pair (.int .i64) (.pair (.int .i64) (.pair (.int .i64) (.pair (.int .i64) (.pair (.int .i64) .str))))))) x) : f68 k x x = some true := by
  unfold f68
  exact eqRow (e := fun a b => f111 k a b) hk (f68.l30 k x x) (fun _ _ => rfl) h.1 (fun y hy => eq111 k hk y (h.2 y hy))

/- laws.eqBan -/
theorem eq112 (k : Nat) (hk : 1048576 < k) (x : (Int × Int)) (h : Sh.bd (.st (.pair (.int .i64) (.int .i64))) x) : f112 k x x = some true := by
  unfold f112
  simp []

/- laws.eqBanS -/
theorem eq69 (k : Nat) (hk : 1048576 < k) (x : (List (Int × Int))) (h : Sh.bd (.sl false 82 (.st (.pair (.int .i64) (.int .i64)))) x) : f69 k x x = some true := by
  unfold f69
  exact eqRow (e := fun a b => f112 k a b) hk (f69.l30 k x x) (fun _ _ => rfl) h.1 (fun y hy => eq112 k hk y (h.2 y hy))

/- laws.eqGraph -/
theorem eq20 (k : Nat) (hk : 1048576 < k) (x : ((List (Int × (Int × Int))) × ((List (Int × (Int × (Int × (Int × (Int × ByteArray)))))) × (List (Int × Int))))) (h : Sh.bd (.st (.pair (.sl false 107 (.st (.pair (.int .i64) (.st (.pair (.int .i64) (.int .i64)))))) (.pair (.sl false 79 (.st (.pair (.int .i64) (.pair (.int .i64) (.pair (.int .i64) (.pair (.int .i64) (.pair (.int .i64) .str))))))) (.sl false 82 (.st (.pair (.int .i64) (.int .i64))))))) x) : f20 k x x = some true := by
  unfold f20
  simp [eq67 k hk x.1 h.1, eq68 k hk x.2.1 h.2.1, eq69 k hk x.2.2 h.2.2]

/- laws.eqInt64S -/
theorem eq21 (k : Nat) (hk : 1048576 < k) (x : (List Int)) (h : Sh.bd (.sl false 2 (.int .i64)) x) : f21 k x x = some true := by
  unfold f21
  exact eqRow0 (ne := fun (a b : Int) => a != b) hk (f21.l18 k x x) (fun _ _ => rfl) h.1 (fun y => by simp)
end Go.Proofs.Ytjfledckleeoaaa.V
