/-
  THE PLUMBING OF A LAW'S FUNCTIONS, PRINTED BY A PROGRAM OF THIS PROJECT (wip/gen/plumb.py).
-/
import Derived.Test.YtijlnlonlmcdoaaR1q
import Derived.Test.YtijlnlonlmcdoaaLawB
import Derived.Test.YtijlnlonlmcdoaaVmU
set_option linter.unusedVariables false
set_option linter.unusedSimpArgs false
open Go Go.Vm Go.Proofs
namespace Go.Proofs.Ytijlnlonlmcdoaa.V

/- laws.szPointS -/
theorem sz30 (k : Nat) (hk : 1048576 < k) (x : (List (Int × Int))) (hw : Sh.wf (.sl false 23 (.st (.pair (.int .i64) (.int .i64)))) x) : Sz (fun v => f30 k x v) (Sh.bd (.sl false 23 (.st (.pair (.int .i64) (.int .i64)))) x) :=
  Sz.imp (Sz.len hw.1 (fun _ => Sz.done)) (fun h => ⟨h.1, fun y _ => ⟨trivial, trivial⟩⟩)

/- laws.toPoint -/
theorem to77 (k : Nat) (hk : 1048576 < k) (x : (Int × Int)) (h : Sh.bd (.st (.pair (.int .i64) (.int .i64))) x) : f77 k x = some x := by
  unfold f77
  all_goals rfl

/- laws.toPointS -/
theorem to32 (k : Nat) (hk : 1048576 < k) (x : (List (Int × Int))) (h : Sh.bd (.sl false 23 (.st (.pair (.int .i64) (.int .i64)))) x) : f32 k x = some x := by
  unfold f32
  exact copyRow (g := fun y => f77 k y) (z := 16) hk (f32.l34 k x) (fun _ _ _ => rfl) (by decide) h.1 (fun y hy => to77 k hk y (h.2 y hy))

/- laws.toTile -/
theorem to33 (k : Nat) (hk : 1048576 < k) (x : (Int × (Int × Int))) (h : Sh.bd (.st (.pair (.int .i64) (.pair (.int .i64) (.int .i64)))) x) : f33 k x = some x := by
  unfold f33
  all_goals rfl

/- laws.eqPoint -/
theorem eq94 (k : Nat) (hk : 1048576 < k) (x : (Int × Int)) (h : Sh.bd (.st (.pair (.int .i64) (.int .i64))) x) : f94 k x x = some true := by
  unfold f94
  simp []

/- laws.eqPointS -/
theorem eq35 (k : Nat) (hk : 1048576 < k) (x : (List (Int × Int))) (h : Sh.bd (.sl false 27 (.st (.pair (.int .i64) (.int .i64)))) x) : f35 k x x = some true := by
  unfold f35
  exact eqRow (e := fun a b => f94 k a b) hk (f35.l30 k x x) (fun _ _ => rfl) h.1 (fun y hy => eq94 k hk y (h.2 y hy))
end Go.Proofs.Ytijlnlonlmcdoaa.V
