/-
  FnExactPaint: at every list of rules, tags and zoom the law's function returns true. No condition.
-/
import Derived.Test.YtijlnlonlmcdoaaRows
import Derived.Test.YtijlnlonlmcdoaaR1zl
import Derived.Test.YtijlnlonlmcdoaaVmU
set_option linter.unusedVariables false
set_option linter.unusedSimpArgs false
namespace Go.Proofs.Ytijlnlonlmcdoaa
open Go Go.Vm Go.Proofs V

theorem law14 (x0 : (List (Int × (Int × ((List (ByteArray × (Int × ByteArray))) × (Bool × (ByteArray × (Int × Int)))))))) (w0 : Sh.wf (.sl false 77 (.st (.pair (.int .i64) (.pair (.int .i64) (.pair (.sl false 194 (.st (.pair .str (.pair (.int .i64) .str)))) (.pair .bool (.pair .str (.pair (.int .i64) (.int .i64))))))))) x0) (x1 : (List (ByteArray × ByteArray))) (w1 : Sh.wf (.sl false 127 (.st (.pair .str .str))) x1) (x2 : Int) (w2 : Sh.wf (.int .i64) x2) : ∃ k, f14 k x0 x1 x2 = some true := by
  refine ⟨1048577, ?_⟩
  have hk : 1048576 < 1048577 := by decide
  unfold f14
  obtain ⟨r, q1, q2, q3⟩ := sz66 1048577 hk x0 w0 1048576 (by decide) (by decide)
  have q1' : f66 1048577 x0 1048576 = some r := q1
  rw [q1']
  simp only [Option.bind_some]
  by_cases hr : r < 0
  · rw [if_t (by simpa using hr)]
  rw [if_f (by simpa using hr)]
  have hb := q3 (by omega)
  obtain ⟨r2, s1, s2, s3⟩ := sz18 1048577 hk x1 w1 r (by omega) q2
  have s1' : f18 1048577 x1 r = some r2 := s1
  rw [s1']
  simp only [Option.bind_some]
  by_cases hr2 : r2 < 0
  · rw [if_t (by simpa using hr2)]
  rw [if_f (by simpa using hr2)]
  have hb1 := s3 (by omega)
  obtain ⟨y, v1, v2, v3⟩ := same_paint _ hk x0 x1 x2 hb.1 (fun r hr => (hb.2 r hr).2.2.1.1) hb1.1
  have hby : Sh.bd (.st (.pair (.int .i64) (.pair (.int .i64) (.pair (.sl false 154 (.st (.pair .str (.pair (.int .i64) .str)))) (.pair .bool (.pair .str (.pair (.int .i64) (.int .i64)))))))) y.1 := by
    rcases v3 with h | h
    · rw [h]; exact ⟨trivial, trivial, ⟨by decide, fun _ h => by cases h⟩, trivial, show ByteArray.size ⟨#[]⟩ ≤ 1048576 by decide, trivial, trivial⟩
    · exact hb.2 _ h
  obtain ⟨c, g', p1, _, p3, p4⟩ := mk71 1048577 hk x0 hb 1 (by decide) (by decide)
  have p1' : f71 1048577 x0 1 = some (c, g') := p1
  obtain ⟨d, l', m1, _, m2, m4⟩ := mk72 1048577 hk x1 hb1 c (by omega) (by omega)
  have m1' : f72 1048577 x1 c = some (d, l') := m1
  obtain ⟨e, z, n1, n3, n2, n4⟩ := mk73 1048577 hk y.1 hby 1 (by decide) (by decide)
  have n1' : f73 1048577 y.1 1 = some (e, z) := n1
  have h1' : f74 1048577 z 1 = some e := hd74 1048577 hk 1 z e (by decide) n2 (by omega) n3
  have d1 : decide ((d : Int) < 0) = false := by simp; omega
  have e1 : decide ((e : Int) < 0) = false := by simp; omega
  simp only [to68 _ hk x0 hb, to20 _ hk x1 hb1, v1, v2, eq55 _ hk y.1 hby, eq70 _ hk x0 hb, eq22 _ hk x1 hb1, p1', m1', n1', h1', d1, e1, Option.bind_some]
  simp

theorem own : ownKnob Try.prog.godebug = none := by kernel_rfl
def shs14 : List Sh := [(.sl false 77 (.st (.pair (.int .i64) (.pair (.int .i64) (.pair (.sl false 194 (.st (.pair .str (.pair (.int .i64) .str)))) (.pair .bool (.pair .str (.pair (.int .i64) (.int .i64))))))))), (.sl false 127 (.st (.pair .str .str))), (.int .i64)]
set_option maxRecDepth 100000 in
theorem call14 (ins : List TV) (h1 : ins.map (·.sh) = shs14) (h2 : ∀ t ∈ ins, t.sh.wf t.x) : PCall Try.prog 14 ins [⟨.bool, true⟩] := by
  match ins, h1 with
  | [⟨_, x0⟩, ⟨_, x1⟩, ⟨_, x2⟩], h1 =>
    simp only [List.map_cons, List.map_nil, shs14, List.cons.injEq, and_true] at h1
    obtain ⟨rfl, rfl, rfl⟩ := h1
    have w0 := h2 ⟨(.sl false 77 (.st (.pair (.int .i64) (.pair (.int .i64) (.pair (.sl false 194 (.st (.pair .str (.pair (.int .i64) .str)))) (.pair .bool (.pair .str (.pair (.int .i64) (.int .i64))))))))), x0⟩ List.mem_cons_self
    have w1 := h2 ⟨(.sl false 127 (.st (.pair .str .str))), x1⟩ (List.mem_cons_of_mem _ List.mem_cons_self)
    have w2 := h2 ⟨(.int .i64), x2⟩ (List.mem_cons_of_mem _ (List.mem_cons_of_mem _ List.mem_cons_self))
    obtain ⟨k, hk⟩ := law14 x0 w0 x1 w1 x2 w2
    exact c14 k x0 x1 x2 true hk

set_option maxRecDepth 100000 in
theorem lifted14 (os : Os) (started : os.Started) (H : Type) (enc : TypeId × Value → H) :
    ReturnsInHanded {} Try.checked os 14 .any (Rows.fnExactPaintSpec.pre6 enc Try.prog Try.f14 Rows.fnExactPaintRow.domain false) (Rows.fnExactPaintSpec.post enc Try.prog Try.f14 false true false false) := by
  refine returnsInHanded_of_change (C := Try.checked) own started (by kernel_rfl) Try.func14
    (ChangeSpec.witness6 (enc := enc) (C := Try.checked) (s := Rows.fnExactPaintSpec) false ⟨#[], #[.slice none 0 0, .slice none 0 0, .int .i64 0], []⟩ 8 (by kernel_rfl) (by kernel_rfl) (by kernel_rfl) (by kernel_rfl)) ?_
  intro W base args ds gs before hval hW _ _
  exact row_step (T := tbl) (m := 12) (tb := 4) tok (by kernel_rfl) (by kernel_rfl) rfl Try.underlying4 rfl
    (fun ds hl => by
      match ds, hl with
      | [d0, d1, d2], _ => rfl)
    (by kernel_rfl) (shs := shs14) (by kernel_rfl) call14 hval hW

theorem over14 : Rows.fnExactPaintRow.holds Try.pinned (OpenSpec.ofChange Rows.fnExactPaintSpec) :=
  OpenClaim.holds_of_wide 14 Try.f14 rfl rfl rfl rfl rfl rfl rfl ⟨rfl, rfl, rfl, rfl, rfl⟩ rfl rfl rfl rfl rfl (by kernel_rfl) Try.func14 (by kernel_rfl)
    (of_decide_eq_true (by kernel_rfl)) (by unfold Func.isWrapper; first | (rw [if_pos (by decide +kernel)]; kernel_rfl) | (rw [if_neg (by decide +kernel)]; exact ⟨rfl, rfl⟩))
    (fun os started H enc _ => lifted14 os started H enc)

theorem FnExactPaint_holds : Rows.FnExactPaintSaid := over14
#print axioms FnExactPaint_holds
end Go.Proofs.Ytijlnlonlmcdoaa
