/-
  FnExactQuantise: at every row of points and every tile the law's function returns true. No condition.
-/
import Derived.Test.YtijlnlonlmcdoaaRows
import Derived.Test.YtijlnlonlmcdoaaR1ql
set_option linter.unusedVariables false
namespace Go.Proofs.Ytijlnlonlmcdoaa
open Go Go.Vm Go.Proofs V
theorem own : ownKnob Try.prog.godebug = none := by kernel_rfl
def shs7 : List Sh := [(.sl false 23 (.st (.pair (.int .i64) (.int .i64)))), (.st (.pair (.int .i64) (.pair (.int .i64) (.int .i64))))]
set_option maxRecDepth 100000 in
theorem call7 (ins : List TV) (h1 : ins.map (·.sh) = shs7) (h2 : ∀ t ∈ ins, t.sh.wf t.x) : PCall Try.prog 7 ins [⟨.bool, true⟩] := by
  match ins, h1 with
  | [⟨_, x0⟩, ⟨_, x1⟩], h1 =>
    simp only [List.map_cons, List.map_nil, shs7, List.cons.injEq, and_true] at h1
    obtain ⟨rfl, rfl⟩ := h1
    have w0 := h2 ⟨(.sl false 23 (.st (.pair (.int .i64) (.int .i64)))), x0⟩ List.mem_cons_self
    have w1 := h2 ⟨(.st (.pair (.int .i64) (.pair (.int .i64) (.int .i64)))), x1⟩ (List.mem_cons_of_mem _ List.mem_cons_self)
    obtain ⟨k, hk⟩ := law7 x0 w0 x1 w1
    exact c7 k x0 x1 true hk

set_option maxRecDepth 100000 in
theorem lifted7 (os : Os) (started : os.Started) (H : Type) (enc : TypeId × Value → H) :
    ReturnsInHanded {} Try.checked os 7 .any (Rows.fnExactQuantiseSpec.pre6 enc Try.prog Try.f7 Rows.fnExactQuantiseRow.domain false) (Rows.fnExactQuantiseSpec.post enc Try.prog Try.f7 false true false false) := by
  refine returnsInHanded_of_change (C := Try.checked) own started (by kernel_rfl) Try.func7
    (ChangeSpec.witness6 (enc := enc) (C := Try.checked) (s := Rows.fnExactQuantiseSpec) false ⟨#[], #[.slice none 0 0, .agg #[.int .i64 0, .int .i64 0, .int .i64 0]], []⟩ 8 (by kernel_rfl) (by kernel_rfl) (by kernel_rfl) (by kernel_rfl)) ?_
  intro W base args ds gs before hval hW _ _
  exact row_step (T := tbl) (m := 12) (tb := 4) tok (by kernel_rfl) (by kernel_rfl) rfl Try.underlying4 rfl
    (fun ds hl => by
      match ds, hl with
      | [d0, d1], _ => rfl)
    (by kernel_rfl) (shs := shs7) (by kernel_rfl) call7 hval hW

theorem over7 : Rows.fnExactQuantiseRow.holds Try.pinned (OpenSpec.ofChange Rows.fnExactQuantiseSpec) :=
  OpenClaim.holds_of_wide 7 Try.f7 rfl rfl rfl rfl rfl rfl rfl ⟨rfl, rfl, rfl, rfl, rfl⟩ rfl rfl rfl rfl rfl (by kernel_rfl) Try.func7 (by kernel_rfl)
    (of_decide_eq_true (by kernel_rfl)) (by unfold Func.isWrapper; first | (rw [if_pos (by decide +kernel)]; kernel_rfl) | (rw [if_neg (by decide +kernel)]; exact ⟨rfl, rfl⟩))
    (fun os started H enc _ => lifted7 os started H enc)

theorem FnExactQuantise_holds : Rows.FnExactQuantiseSaid := over7
#print axioms FnExactQuantise_holds
end Go.Proofs.Ytijlnlonlmcdoaa
