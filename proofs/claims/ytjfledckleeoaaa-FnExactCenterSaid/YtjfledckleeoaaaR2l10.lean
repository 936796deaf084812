/-
  FnExactCenter: at every graph and every list of places the law's function returns true. No condition.
-/
import Derived.Test.YtjfledckleeoaaaRows
import Derived.Test.YtjfledckleeoaaaR2lce
import Derived.Test.YtjfledckleeoaaaVmU
set_option linter.unusedVariables false
set_option linter.unusedSimpArgs false
namespace Go.Proofs.Ytjfledckleeoaaa
open Go Go.Vm Go.Proofs V

theorem law10 (x0 : ((List (Int × (Int × Int))) × ((List (Int × (Int × (Int × (Int × (Int × ByteArray)))))) × (List (Int × Int))))) (w0 : Sh.wf (.st (.pair (.sl false 114 (.st (.pair (.int .i64) (.st (.pair (.int .i64) (.int .i64)))))) (.pair (.sl false 103 (.st (.pair (.int .i64) (.pair (.int .i64) (.pair (.int .i64) (.pair (.int .i64) (.pair (.int .i64) .str))))))) (.sl false 117 (.st (.pair (.int .i64) (.int .i64))))))) x0) (x1 : (List Int)) (w1 : Sh.wf (.sl false 2 (.int .i64)) x1) : ∃ k, f10 k x0 x1 = some true := by
  refine ⟨1099511627777, ?_⟩
  have hk : 1048576 < 1099511627777 := by decide
  have hk2 : 1099511627776 < 1099511627777 := by decide
  unfold f10
  by_cases hl : (x1.length : Int) > 1048576
  · rw [if_t (by simpa using hl)]
  rw [if_f (by simpa using hl)]
  obtain ⟨r, q1, q2, q3⟩ := sz15 1099511627777 hk x0 w0 1048576 (by decide) (by decide)
  have q1' : f15 1099511627777 x0 1048576 = some r := q1
  rw [q1']
  simp only [Option.bind_some]
  by_cases hr : r < 0
  · rw [if_t (by simpa using hr)]
  · rw [if_f (by simpa using hr)]
    have hb := q3 (by omega)
    have hb1 : Sh.bd (.sl false 27 (.int .i64)) x1 := ⟨by omega, fun y _ => trivial⟩
    obtain ⟨v, v1, v2⟩ := same_center _ hk2 x0 hb.1.1 hb.2.1.1 hb.2.2.1 x1 (by omega)
    simp only [to17 _ hk x0 hb, to18 _ hk x1 hb1, v1, v2, eq20 _ hk x0 hb, eq21 _ hk x1 hb1, Option.bind_some]
    simp

theorem own : ownKnob Try.prog.godebug = none := by kernel_rfl
def shs10 : List Sh := [(.st (.pair (.sl false 114 (.st (.pair (.int .i64) (.st (.pair (.int .i64) (.int .i64)))))) (.pair (.sl false 103 (.st (.pair (.int .i64) (.pair (.int .i64) (.pair (.int .i64) (.pair (.int .i64) (.pair (.int .i64) .str))))))) (.sl false 117 (.st (.pair (.int .i64) (.int .i64))))))), (.sl false 2 (.int .i64))]
set_option maxRecDepth 100000 in
theorem call10 (ins : List TV) (h1 : ins.map (·.sh) = shs10) (h2 : ∀ t ∈ ins, t.sh.wf t.x) : PCall Try.prog 10 ins [⟨.bool, true⟩] := by
  match ins, h1 with
  | [⟨_, x0⟩, ⟨_, x1⟩], h1 =>
    simp only [List.map_cons, List.map_nil, shs10, List.cons.injEq, and_true] at h1
    obtain ⟨rfl, rfl⟩ := h1
    have w0 := h2 ⟨(.st (.pair (.sl false 114 (.st (.pair (.int .i64) (.st (.pair (.int .i64) (.int .i64)))))) (.pair (.sl false 103 (.st (.pair (.int .i64) (.pair (.int .i64) (.pair (.int .i64) (.pair (.int .i64) (.pair (.int .i64) .str))))))) (.sl false 117 (.st (.pair (.int .i64) (.int .i64))))))), x0⟩ List.mem_cons_self
    have w1 := h2 ⟨(.sl false 2 (.int .i64)), x1⟩ (List.mem_cons_of_mem _ List.mem_cons_self)
    obtain ⟨k, hk⟩ := law10 x0 w0 x1 w1
    exact c10 k x0 x1 true hk

set_option maxRecDepth 100000 in
theorem lifted10 (os : Os) (started : os.Started) (H : Type) (enc : TypeId × Value → H) :
    ReturnsInHanded {} Try.checked os 10 .any (Rows.fnExactCenterSpec.pre6 enc Try.prog Try.f10 Rows.fnExactCenterRow.domain false) (Rows.fnExactCenterSpec.post enc Try.prog Try.f10 false true false false) := by
  refine returnsInHanded_of_change (C := Try.checked) own started (by kernel_rfl) Try.func10
    (ChangeSpec.witness6 (enc := enc) (C := Try.checked) (s := Rows.fnExactCenterSpec) false ⟨#[], #[.agg #[.slice none 0 0, .slice none 0 0, .slice none 0 0], .slice none 0 0], []⟩ 8 (by kernel_rfl) (by kernel_rfl) (by kernel_rfl) (by kernel_rfl)) ?_
  intro W base args ds gs before hval hW _ _
  exact row_step (T := tbl) (m := 12) (tb := 4) tok (by kernel_rfl) (by kernel_rfl) rfl Try.underlying4 rfl
    (fun ds hl => by
      match ds, hl with
      | [d0, d1], _ => rfl)
    (by kernel_rfl) (shs := shs10) (by kernel_rfl) call10 hval hW

theorem over10 : Rows.fnExactCenterRow.holds Try.pinned (OpenSpec.ofChange Rows.fnExactCenterSpec) :=
  OpenClaim.holds_of_wide 10 Try.f10 rfl rfl rfl rfl rfl rfl rfl ⟨rfl, rfl, rfl, rfl, rfl⟩ rfl rfl rfl rfl rfl (by kernel_rfl) Try.func10 (by kernel_rfl)
    (of_decide_eq_true (by kernel_rfl)) (by unfold Func.isWrapper; first | (rw [if_pos (by decide +kernel)]; kernel_rfl) | (rw [if_neg (by decide +kernel)]; exact ⟨rfl, rfl⟩))
    (fun os started H enc _ => lifted10 os started H enc)

theorem FnExactCenter_holds : Rows.FnExactCenterSaid := over10
#print axioms FnExactCenter_holds
end Go.Proofs.Ytjfledckleeoaaa
