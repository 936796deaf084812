/-
  FnExactAhead: at every graph and every road the law's function returns true. No condition.
-/
import Derived.Test.YtjfledckleeoaaaRows
import Derived.Test.YtjfledckleeoaaaR2ah
import Derived.Test.YtjfledckleeoaaaVmU
set_option linter.unusedVariables false
set_option linter.unusedSimpArgs false
namespace Go.Proofs.Ytjfledckleeoaaa
open Go Go.Vm Go.Proofs V

theorem law7 (x0 : ((List (Int × (Int × Int))) × ((List (Int × (Int × (Int × (Int × (Int × ByteArray)))))) × (List (Int × Int))))) (w0 : Sh.wf (.st (.pair (.sl false 114 (.st (.pair (.int .i64) (.st (.pair (.int .i64) (.int .i64)))))) (.pair (.sl false 103 (.st (.pair (.int .i64) (.pair (.int .i64) (.pair (.int .i64) (.pair (.int .i64) (.pair (.int .i64) .str))))))) (.sl false 117 (.st (.pair (.int .i64) (.int .i64))))))) x0) (x1 : Int) (w1 : Sh.wf (.int .i64) x1) : ∃ k, f7 k x0 x1 = some true := by
  refine ⟨1048577, ?_⟩
  have hk : 1048576 < 1048577 := by decide
  obtain ⟨r, q1, q2, q3⟩ := sz15 1048577 hk x0 w0 1048576 (by decide) (by decide)
  have q1' : f15 1048577 x0 1048576 = some r := q1
  unfold f7
  rw [q1']
  simp only [Option.bind_some]
  by_cases hr : r < 0
  · rw [if_t (by simpa using hr)]
  · rw [if_f (by simpa using hr)]
    have hb := q3 (by omega)
    obtain ⟨v, v1, v2⟩ := same_ahead _ hk x0 hb.1.1 hb.2.1.1 hb.2.2.1 x1
    simp only [to17 _ hk x0 hb, v1, v2, eq20 _ hk x0 hb, Option.bind_some]
    simp

theorem own : ownKnob Try.prog.godebug = none := by kernel_rfl
def shs7 : List Sh := [(.st (.pair (.sl false 114 (.st (.pair (.int .i64) (.st (.pair (.int .i64) (.int .i64)))))) (.pair (.sl false 103 (.st (.pair (.int .i64) (.pair (.int .i64) (.pair (.int .i64) (.pair (.int .i64) (.pair (.int .i64) .str))))))) (.sl false 117 (.st (.pair (.int .i64) (.int .i64))))))), (.int .i64)]
set_option maxRecDepth 100000 in
theorem call7 (ins : List TV) (h1 : ins.map (·.sh) = shs7) (h2 : ∀ t ∈ ins, t.sh.wf t.x) : PCall Try.prog 7 ins [⟨.bool, true⟩] := by
  match ins, h1 with
  | [⟨_, x0⟩, ⟨_, x1⟩], h1 =>
    simp only [List.map_cons, List.map_nil, shs7, List.cons.injEq, and_true] at h1
    obtain ⟨rfl, rfl⟩ := h1
    have w0 := h2 ⟨(.st (.pair (.sl false 114 (.st (.pair (.int .i64) (.st (.pair (.int .i64) (.int .i64)))))) (.pair (.sl false 103 (.st (.pair (.int .i64) (.pair (.int .i64) (.pair (.int .i64) (.pair (.int .i64) (.pair (.int .i64) .str))))))) (.sl false 117 (.st (.pair (.int .i64) (.int .i64))))))), x0⟩ List.mem_cons_self
    have w1 := h2 ⟨(.int .i64), x1⟩ (List.mem_cons_of_mem _ List.mem_cons_self)
    obtain ⟨k, hk⟩ := law7 x0 w0 x1 w1
    exact c7 k x0 x1 true hk

set_option maxRecDepth 100000 in
theorem lifted7 (os : Os) (started : os.Started) (H : Type) (enc : TypeId × Value → H) :
    ReturnsInHanded {} Try.checked os 7 .any (Rows.fnExactAheadSpec.pre6 enc Try.prog Try.f7 Rows.fnExactAheadRow.domain false) (Rows.fnExactAheadSpec.post enc Try.prog Try.f7 false true false false) := by
  refine returnsInHanded_of_change (C := Try.checked) own started (by kernel_rfl) Try.func7
    (ChangeSpec.witness6 (enc := enc) (C := Try.checked) (s := Rows.fnExactAheadSpec) false ⟨#[], #[.agg #[.slice none 0 0, .slice none 0 0, .slice none 0 0], .int .i64 0], []⟩ 8 (by kernel_rfl) (by kernel_rfl) (by kernel_rfl) (by kernel_rfl)) ?_
  intro W base args ds gs before hval hW _ _
  exact row_step (T := tbl) (m := 12) (tb := 4) tok (by kernel_rfl) (by kernel_rfl) rfl Try.underlying4 rfl
    (fun ds hl => by
      match ds, hl with
      | [d0, d1], _ => rfl)
    (by kernel_rfl) (shs := shs7) (by kernel_rfl) call7 hval hW

theorem over7 : Rows.fnExactAheadRow.holds Try.pinned (OpenSpec.ofChange Rows.fnExactAheadSpec) :=
  OpenClaim.holds_of_wide 7 Try.f7 rfl rfl rfl rfl rfl rfl rfl ⟨rfl, rfl, rfl, rfl, rfl⟩ rfl rfl rfl rfl rfl (by kernel_rfl) Try.func7 (by kernel_rfl)
    (of_decide_eq_true (by kernel_rfl)) (by unfold Func.isWrapper; first | (rw [if_pos (by decide +kernel)]; kernel_rfl) | (rw [if_neg (by decide +kernel)]; exact ⟨rfl, rfl⟩))
    (fun os started H enc _ => lifted7 os started H enc)

theorem FnExactAhead_holds : Rows.FnExactAheadSaid := over7
#print axioms FnExactAhead_holds

end Go.Proofs.Ytjfledckleeoaaa
