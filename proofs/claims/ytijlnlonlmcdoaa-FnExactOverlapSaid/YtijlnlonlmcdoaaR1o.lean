/-
  FnExactOverlap: at every two labels the law's function returns true: the program's Overlap answers as the specification's. No condition.
-/
import Derived.Test.YtijlnlonlmcdoaaRows
import Derived.Test.YtijlnlonlmcdoaaR1a
import Derived.Test.YtijlnlonlmcdoaaVmU
set_option linter.unusedVariables false
namespace Go.Proofs.Ytijlnlonlmcdoaa
open Go Go.Vm Go.Proofs V

theorem law3 (k : Nat) (x0 x1 : Int × ((Int × Int) × (Int × (Int × Int)))) : f3 k x0 x1 = some true := by
  have h1 : ∀ x y, f76 k x y = f79 k x y := fun x y => rfl
  have h2 : ∀ x, f75 k x = f78 k x := fun x => rfl
  have h3 : ∀ x y, f15 k x y = f17 k x y := fun x y => rfl
  have h4 : ∀ x, ∃ b, f75 k x = some b := fun x => by
    simp only [f75, f114, f115, Option.bind_some]
    split <;> exact ⟨_, rfl⟩
  have h5 : ∀ x y, ∃ b, f15 k x y = some b := fun x y => by
    obtain ⟨b, hb⟩ := h4 x
    obtain ⟨c, hc⟩ := h4 y
    simp only [f15, hb, hc, f76, Option.bind]
    cases b <;> cases c <;> simp
  obtain ⟨b, hb⟩ := h5 x0 x1
  simp only [f3, f16, f77, Option.bind, ← h3, hb]
  simp
theorem own : ownKnob Try.prog.godebug = none := by kernel_rfl

def shs3 : List Sh := [sh1, sh1]
set_option maxRecDepth 100000 in
theorem call3 (ins : List TV) (h1 : ins.map (·.sh) = shs3) (h2 : ∀ t ∈ ins, t.sh.wf t.x) : PCall Try.prog 3 ins [⟨.bool, true⟩] := by
  match ins, h1 with
  | [⟨_, x0⟩, ⟨_, x1⟩], h1 =>
    simp only [List.map_cons, List.map_nil, shs3, List.cons.injEq, and_true] at h1
    obtain ⟨rfl, rfl⟩ := h1
    exact c3 0 x0 x1 true (law3 0 x0 x1)

set_option maxRecDepth 100000 in
theorem lifted3 (os : Os) (started : os.Started) (H : Type) (enc : TypeId × Value → H) :
    ReturnsInHanded {} Try.checked os 3 .any (Rows.fnExactOverlapSpec.pre6 enc Try.prog Try.f3 Rows.fnExactOverlapRow.domain false) (Rows.fnExactOverlapSpec.post enc Try.prog Try.f3 false true false false) := by
  refine returnsInHanded_of_change (C := Try.checked) own started (by kernel_rfl) Try.func3
    (ChangeSpec.witness6 (enc := enc) (C := Try.checked) (s := Rows.fnExactOverlapSpec) false ⟨#[], #[.agg #[.int .i64 0, .int .i64 0, .int .i64 0, .int .i64 0, .int .i64 0, .int .i64 0], .agg #[.int .i64 0, .int .i64 0, .int .i64 0, .int .i64 0, .int .i64 0, .int .i64 0]], []⟩ 8 (by kernel_rfl) (by kernel_rfl) (by kernel_rfl) (by kernel_rfl)) ?_
  intro W base args ds gs before hval hW _ _
  exact row_step (T := tbl) (m := 8) (tb := 4) tok (by kernel_rfl) (by kernel_rfl) rfl Try.underlying4 rfl
    (fun ds hl => by
      match ds, hl with
      | [d1, d2], _ => rfl)
    (by kernel_rfl) (shs := shs3) (by kernel_rfl) call3 hval hW

theorem over3 : Rows.fnExactOverlapRow.holds Try.pinned (OpenSpec.ofChange Rows.fnExactOverlapSpec) :=
  OpenClaim.holds_of_wide 3 Try.f3 rfl rfl rfl rfl rfl rfl rfl ⟨rfl, rfl, rfl, rfl, rfl⟩ rfl rfl rfl rfl rfl (by kernel_rfl) Try.func3 (by kernel_rfl)
    (of_decide_eq_true (by kernel_rfl)) (by unfold Func.isWrapper; first | (rw [if_pos (by decide +kernel)]; kernel_rfl) | (rw [if_neg (by decide +kernel)]; exact ⟨rfl, rfl⟩))
    (fun os started H enc _ => lifted3 os started H enc)

theorem FnExactOverlap_holds : Rows.FnExactOverlapSaid := over3
#print axioms FnExactOverlap_holds
end Go.Proofs.Ytijlnlonlmcdoaa
