/-
  FnExactSlower: at every graph, names and number the law's function returns true. No condition.
-/
import Derived.Test.YtjfledckleeoaaaRows
import Derived.Test.YtjfledckleeoaaaR2sl
import Derived.Test.YtjfledckleeoaaaVmU
set_option linter.unusedVariables false
set_option linter.unusedSimpArgs false
namespace Go.Proofs.Ytjfledckleeoaaa
open Go Go.Vm Go.Proofs V

theorem law8 (x0 : ((List (Int × (Int × Int))) × ((List (Int × (Int × (Int × (Int × (Int × ByteArray)))))) × (List (Int × Int))))) (w0 : Sh.wf (.st (.pair (.sl false 114 (.st (.pair (.int .i64) (.st (.pair (.int .i64) (.int .i64)))))) (.pair (.sl false 103 (.st (.pair (.int .i64) (.pair (.int .i64) (.pair (.int .i64) (.pair (.int .i64) (.pair (.int .i64) .str))))))) (.sl false 117 (.st (.pair (.int .i64) (.int .i64))))))) x0) (x1 : (List Int)) (w1 : Sh.wf (.sl false 2 (.int .i64)) x1) (x2 : Int) (w2 : Sh.wf (.int .i64) x2) : ∃ k, f8 k x0 x1 x2 = some true := by
  refine ⟨1048577, ?_⟩
  have hk : 1048576 < 1048577 := by decide
  unfold f8
  by_cases hl : (x1.length : Int) > 1048576
  · rw [if_t (by simpa using hl)]
  rw [if_f (by simpa using hl)]
  obtain ⟨r, q1, q2, q3⟩ := sz15 1048577 hk x0 w0 1048576 (by decide) (by decide)
  have q1' : f15 1048577 x0 1048576 = some r := q1
  rw [q1']
  simp only [Option.bind_some]
  by_cases hr : r < 0
  · rw [if_t (by simpa using hr)]
  · rw [if_f (by simpa using hr)]
    have hb := q3 (by omega)
    have hb1 : Sh.bd (.sl false 27 (.int .i64)) x1 := ⟨by omega, fun y _ => trivial⟩
    obtain ⟨y, v1, v2, y1, y2, y3, y4⟩ := same_slower (B := fun r => ByteArray.size r.2.2.2.2.2 ≤ 1048576) (fun r x h => h) _ hk x0 hb.1.1 hb.2.1.1 hb.2.2.1 (fun r hr => (hb.2.1.2 r hr).2.2.2.2.2) x1 (by omega) x2
    have hby : Sh.bd (.st (.pair (.sl false 114 (.st (.pair (.int .i64) (.st (.pair (.int .i64) (.int .i64)))))) (.pair (.sl false 103 (.st (.pair (.int .i64) (.pair (.int .i64) (.pair (.int .i64) (.pair (.int .i64) (.pair (.int .i64) .str))))))) (.sl false 117 (.st (.pair (.int .i64) (.int .i64))))))) y := ⟨⟨y1, fun _ _ => ⟨trivial, trivial, trivial⟩⟩, ⟨y2, fun r hr => ⟨trivial, trivial, trivial, trivial, trivial, y4 r hr⟩⟩, ⟨y3, fun _ _ => ⟨trivial, trivial⟩⟩⟩
    obtain ⟨c, g', p1, _, p3, p4⟩ := mk26 1048577 hk x0 hb 1 (by decide) (by decide)
    have p1' : f26 1048577 x0 1 = some (c, g') := p1
    obtain ⟨d, l', m1, _, m2, m4⟩ := mk27 1048577 hk x1 hb1 c (by omega) (by omega)
    have m1' : f27 1048577 x1 c = some (d, l') := m1
    obtain ⟨e, z, n1, n3, n2, n4⟩ := mk26 1048577 hk y hby 1 (by decide) (by decide)
    have n1' : f26 1048577 y 1 = some (e, z) := n1
    have h1' : f35 1048577 z 1 = some e := hd35 1048577 hk 1 z e (by decide) n2 (by omega) n3
    have d1 : decide ((d : Int) < 0) = false := by simp; omega
    have e1 : decide ((e : Int) < 0) = false := by simp; omega
    simp only [to17 _ hk x0 hb, to18 _ hk x1 hb1, v1, v2, eq20 _ hk x0 hb, eq20 _ hk y hby, eq21 _ hk x1 hb1, p1', m1', n1', h1', d1, e1, Option.bind_some]
    simp

theorem own : ownKnob Try.prog.godebug = none := by kernel_rfl
def shs8 : List Sh := [(.st (.pair (.sl false 114 (.st (.pair (.int .i64) (.st (.pair (.int .i64) (.int .i64)))))) (.pair (.sl false 103 (.st (.pair (.int .i64) (.pair (.int .i64) (.pair (.int .i64) (.pair (.int .i64) (.pair (.int .i64) .str))))))) (.sl false 117 (.st (.pair (.int .i64) (.int .i64))))))), (.sl false 2 (.int .i64)), (.int .i64)]
set_option maxRecDepth 100000 in
theorem call8 (ins : List TV) (h1 : ins.map (·.sh) = shs8) (h2 : ∀ t ∈ ins, t.sh.wf t.x) : PCall Try.prog 8 ins [⟨.bool, true⟩] := by
  match ins, h1 with
  | [⟨_, x0⟩, ⟨_, x1⟩, ⟨_, x2⟩], h1 =>
    simp only [List.map_cons, List.map_nil, shs8, List.cons.injEq, and_true] at h1
    obtain ⟨rfl, rfl, rfl⟩ := h1
    have w0 := h2 ⟨(.st (.pair (.sl false 114 (.st (.pair (.int .i64) (.st (.pair (.int .i64) (.int .i64)))))) (.pair (.sl false 103 (.st (.pair (.int .i64) (.pair (.int .i64) (.pair (.int .i64) (.pair (.int .i64) (.pair (.int .i64) .str))))))) (.sl false 117 (.st (.pair (.int .i64) (.int .i64))))))), x0⟩ List.mem_cons_self
    have w1 := h2 ⟨(.sl false 2 (.int .i64)), x1⟩ (List.mem_cons_of_mem _ List.mem_cons_self)
    have w2 := h2 ⟨(.int .i64), x2⟩ (List.mem_cons_of_mem _ (List.mem_cons_of_mem _ List.mem_cons_self))
    obtain ⟨k, hk⟩ := law8 x0 w0 x1 w1 x2 w2
    exact c8 k x0 x1 x2 true hk

set_option maxRecDepth 100000 in
theorem lifted8 (os : Os) (started : os.Started) (H : Type) (enc : TypeId × Value → H) :
    ReturnsInHanded {} Try.checked os 8 .any (Rows.fnExactSlowerSpec.pre6 enc Try.prog Try.f8 Rows.fnExactSlowerRow.domain false) (Rows.fnExactSlowerSpec.post enc Try.prog Try.f8 false true false false) := by
  refine returnsInHanded_of_change (C := Try.checked) own started (by kernel_rfl) Try.func8
    (ChangeSpec.witness6 (enc := enc) (C := Try.checked) (s := Rows.fnExactSlowerSpec) false ⟨#[], #[.agg #[.slice none 0 0, .slice none 0 0, .slice none 0 0], .slice none 0 0, .int .i64 0], []⟩ 8 (by kernel_rfl) (by kernel_rfl) (by kernel_rfl) (by kernel_rfl)) ?_
  intro W base args ds gs before hval hW _ _
  exact row_step (T := tbl) (m := 12) (tb := 4) tok (by kernel_rfl) (by kernel_rfl) rfl Try.underlying4 rfl
    (fun ds hl => by
      match ds, hl with
      | [d0, d1, d2], _ => rfl)
    (by kernel_rfl) (shs := shs8) (by kernel_rfl) call8 hval hW

theorem over8 : Rows.fnExactSlowerRow.holds Try.pinned (OpenSpec.ofChange Rows.fnExactSlowerSpec) :=
  OpenClaim.holds_of_wide 8 Try.f8 rfl rfl rfl rfl rfl rfl rfl ⟨rfl, rfl, rfl, rfl, rfl⟩ rfl rfl rfl rfl rfl (by kernel_rfl) Try.func8 (by kernel_rfl)
    (of_decide_eq_true (by kernel_rfl)) (by unfold Func.isWrapper; first | (rw [if_pos (by decide +kernel)]; kernel_rfl) | (rw [if_neg (by decide +kernel)]; exact ⟨rfl, rfl⟩))
    (fun os started H enc _ => lifted8 os started H enc)

theorem FnExactSlower_holds : Rows.FnExactSlowerSaid := over8
#print axioms FnExactSlower_holds
end Go.Proofs.Ytjfledckleeoaaa
