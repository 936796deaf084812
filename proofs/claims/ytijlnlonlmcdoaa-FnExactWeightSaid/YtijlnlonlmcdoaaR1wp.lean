/-
  THE PLUMBING OF A LAW'S FUNCTIONS, PRINTED BY A PROGRAM OF THIS PROJECT (wip/gen/plumb.py).
-/
import Derived.Test.YtijlnlonlmcdoaaR1w
import Derived.Test.YtijlnlonlmcdoaaLawB
import Derived.Test.YtijlnlonlmcdoaaVmU
set_option linter.unusedVariables false
set_option linter.unusedSimpArgs false
open Go Go.Vm Go.Proofs
namespace Go.Proofs.Ytijlnlonlmcdoaa.V

/- laws.szLabelS -/
theorem sz23 (k : Nat) (hk : 1048576 < k) (x : (List (Int × ((Int × Int) × (Int × (Int × Int)))))) (hw : Sh.wf (.sl false 25 (.st (.pair (.int .i64) (.pair (.st (.pair (.int .i64) (.int .i64))) (.pair (.int .i64) (.pair (.int .i64) (.int .i64))))))) x) : Sz (fun v => f23 k x v) (Sh.bd (.sl false 25 (.st (.pair (.int .i64) (.pair (.st (.pair (.int .i64) (.int .i64))) (.pair (.int .i64) (.pair (.int .i64) (.int .i64))))))) x) :=
  Sz.imp (Sz.len hw.1 (fun _ => Sz.done)) (fun h => ⟨h.1, fun y _ => ⟨trivial, ⟨trivial, trivial⟩, trivial, trivial, trivial⟩⟩)

/- laws.toPoint -/
theorem to77 (k : Nat) (hk : 1048576 < k) (x : (Int × Int)) (h : Sh.bd (.st (.pair (.int .i64) (.int .i64))) x) : f77 k x = some x := by
  unfold f77
  all_goals rfl

/- laws.toLabel -/
theorem to16 (k : Nat) (hk : 1048576 < k) (x : (Int × ((Int × Int) × (Int × (Int × Int))))) (h : Sh.bd (.st (.pair (.int .i64) (.pair (.st (.pair (.int .i64) (.int .i64))) (.pair (.int .i64) (.pair (.int .i64) (.int .i64)))))) x) : f16 k x = some x := by
  unfold f16
  simp only [to77 k hk x.2.1 h.2.1, Option.bind_some]
  all_goals rfl

/- laws.toLabelS -/
theorem to25 (k : Nat) (hk : 1048576 < k) (x : (List (Int × ((Int × Int) × (Int × (Int × Int)))))) (h : Sh.bd (.sl false 25 (.st (.pair (.int .i64) (.pair (.st (.pair (.int .i64) (.int .i64))) (.pair (.int .i64) (.pair (.int .i64) (.int .i64))))))) x) : f25 k x = some x := by
  unfold f25
  exact copyRow (g := fun y => f16 k y) (z := 48) hk (f25.l34 k x) (fun _ _ _ => rfl) (by decide) h.1 (fun y hy => to16 k hk y (h.2 y hy))

/- laws.eqPoint -/
theorem eq94 (k : Nat) (hk : 1048576 < k) (x : (Int × Int)) (h : Sh.bd (.st (.pair (.int .i64) (.int .i64))) x) : f94 k x x = some true := by
  unfold f94
  simp []

/- laws.eqLabel -/
theorem eq86 (k : Nat) (hk : 1048576 < k) (x : (Int × ((Int × Int) × (Int × (Int × Int))))) (h : Sh.bd (.st (.pair (.int .i64) (.pair (.st (.pair (.int .i64) (.int .i64))) (.pair (.int .i64) (.pair (.int .i64) (.int .i64)))))) x) : f86 k x x = some true := by
  unfold f86
  simp [eq94 k hk x.2.1 h.2.1]

/- laws.eqLabelS -/
theorem eq27 (k : Nat) (hk : 1048576 < k) (x : (List (Int × ((Int × Int) × (Int × (Int × Int)))))) (h : Sh.bd (.sl false 29 (.st (.pair (.int .i64) (.pair (.st (.pair (.int .i64) (.int .i64))) (.pair (.int .i64) (.pair (.int .i64) (.int .i64))))))) x) : f27 k x x = some true := by
  unfold f27
  exact eqRow (e := fun a b => f86 k a b) hk (f27.l30 k x x) (fun _ _ => rfl) h.1 (fun y hy => eq86 k hk y (h.2 y hy))

/- laws.toInt64S -/
theorem to39 (k : Nat) (hk : 1048576 < k) (x : (List Int)) (h : Sh.bd (.sl false 2 (.int .i64)) x) : f39 k x = some x := by
  unfold f39
  exact copyRow (g := some) (z := 8) hk (f39.l22 k x) (fun _ _ _ => rfl) (by decide) h.1 (fun y hy => rfl)

/- laws.eqInt64S -/
theorem eq41 (k : Nat) (hk : 1048576 < k) (x : (List Int)) (h : Sh.bd (.sl false 2 (.int .i64)) x) : f41 k x x = some true := by
  unfold f41
  exact eqRow0 (ne := fun (a b : Int) => a != b) hk (f41.l18 k x x) (fun _ _ => rfl) h.1 (fun y => by simp)
end Go.Proofs.Ytijlnlonlmcdoaa.V
