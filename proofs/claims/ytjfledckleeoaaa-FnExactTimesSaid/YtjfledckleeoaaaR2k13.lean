/-
  FnExactTimes: at every graph and every two lists of places the law's function returns true. No condition.
-/
import Derived.Test.YtjfledckleeoaaaRows
import Derived.Test.YtjfledckleeoaaaR2kti
import Derived.Test.YtjfledckleeoaaaVmU
set_option linter.unusedVariables false
set_option linter.unusedSimpArgs false
namespace Go.Proofs.Ytjfledckleeoaaa
open Go Go.Vm Go.Proofs V

theorem law13 (x0 : ((List (Int × (Int × Int))) × ((List (Int × (Int × (Int × (Int × (Int × ByteArray)))))) × (List (Int × Int))))) (w0 : Sh.wf (.st (.pair (.sl false 114 (.st (.pair (.int .i64) (.st (.pair (.int .i64) (.int .i64)))))) (.pair (.sl false 103 (.st (.pair (.int .i64) (.pair (.int .i64) (.pair (.int .i64) (.pair (.int .i64) (.pair (.int .i64) .str))))))) (.sl false 117 (.st (.pair (.int .i64) (.int .i64))))))) x0) (x1 : (List Int)) (w1 : Sh.wf (.sl false 2 (.int .i64)) x1) (x2 : (List Int)) (w2 : Sh.wf (.sl false 2 (.int .i64)) x2) : ∃ k, f13 k x0 x1 x2 = some true := by
  refine ⟨1099511627777, ?_⟩
  have hk : 1048576 < 1099511627777 := by decide
  have hk2 : 1099511627776 < 1099511627777 := by decide
  unfold f13
  by_cases hl : (x1.length : Int) > 1048576
  · rw [if_t (by simpa using hl)]
  rw [if_f (by simpa using hl)]
  by_cases hl2 : (x2.length : Int) > 1048576
  · rw [if_t (by simpa using hl2)]
  rw [if_f (by simpa using hl2)]
  obtain ⟨r, q1, q2, q3⟩ := sz15 1099511627777 hk x0 w0 1048576 (by decide) (by decide)
  have q1' : f15 1099511627777 x0 1048576 = some r := q1
  rw [q1']
  simp only [Option.bind_some]
  by_cases hr : r < 0
  · rw [if_t (by simpa using hr)]
  · rw [if_f (by simpa using hr)]
    have hb := q3 (by omega)
    have hb1 : Sh.bd (.sl false 27 (.int .i64)) x1 := ⟨by omega, fun y _ => trivial⟩
    have hb2 : Sh.bd (.sl false 27 (.int .i64)) x2 := ⟨by omega, fun y _ => trivial⟩
    obtain ⟨y, v1, v2, y1, y2⟩ := same_times _ hk2 x0 hb.1.1 hb.2.1.1 hb.2.2.1 x1 x2 (by omega) (by omega)
    have hby : Sh.bd (.sl false 27 (.sl false 2 (.int .i64))) y := ⟨y1, fun r hr => ⟨y2 r hr, fun _ _ => trivial⟩⟩
    obtain ⟨c, g', p1, _, p3, p4⟩ := mk26 1099511627777 hk x0 hb 1 (by decide) (by decide)
    have p1' : f26 1099511627777 x0 1 = some (c, g') := p1
    obtain ⟨d, l', m1, _, m2, m4⟩ := mk27 1099511627777 hk x1 hb1 c (by omega) (by omega)
    have m1' : f27 1099511627777 x1 c = some (d, l') := m1
    obtain ⟨d', l'', o1, _, o2, o4⟩ := mk27 1099511627777 hk x2 hb2 d (by omega) (by omega)
    have o1' : f27 1099511627777 x2 d = some (d', l'') := o1
    obtain ⟨e, z, n1, n3, n2, n4⟩ := mk47 1099511627777 hk y hby 1 (by decide) (by decide)
    have n1' : f47 1099511627777 y 1 = some (e, z) := n1
    have h1' : f48 1099511627777 z 1 = some e := hd48 1099511627777 hk 1 z e (by decide) n2 (by omega) n3
    have d1 : decide ((d' : Int) < 0) = false := by simp; omega
    have e1 : decide ((e : Int) < 0) = false := by simp; omega
    simp only [to17 _ hk x0 hb, to18 _ hk x1 hb1, to18 _ hk x2 hb2, v1, v2, eq20 _ hk x0 hb, eq46 _ hk y hby, eq21 _ hk x1 hb1, eq21 _ hk x2 hb2, p1', m1', o1', n1', h1', d1, e1, Option.bind_some]
    simp

theorem own : ownKnob Try.prog.godebug = none := by kernel_rfl
def shs13 : List Sh := [(.st (.pair (.sl false 114 (.st (.pair (.int .i64) (.st (.pair (.int .i64) (.int .i64)))))) (.pair (.sl false 103 (.st (.pair (.int .i64) (.pair (.int .i64) (.pair (.int .i64) (.pair (.int .i64) (.pair (.int .i64) .str))))))) (.sl false 117 (.st (.pair (.int .i64) (.int .i64))))))), (.sl false 2 (.int .i64)), (.sl false 2 (.int .i64))]
set_option maxRecDepth 100000 in
theorem call13 (ins : List TV) (h1 : ins.map (·.sh) = shs13) (h2 : ∀ t ∈ ins, t.sh.wf t.x) : PCall Try.prog 13 ins [⟨.bool, true⟩] := by
  match ins, h1 with
  | [⟨_, x0⟩, ⟨_, x1⟩, ⟨_, x2⟩], h1 =>
    simp only [List.map_cons, List.map_nil, shs13, List.cons.injEq, and_true] at h1
    obtain ⟨rfl, rfl, rfl⟩ := h1
    have w0 := h2 ⟨(.st (.pair (.sl false 114 (.st (.pair (.int .i64) (.st (.pair (.int .i64) (.int .i64)))))) (.pair (.sl false 103 (.st (.pair (.int .i64) (.pair (.int .i64) (.pair (.int .i64) (.pair (.int .i64) (.pair (.int .i64) .str))))))) (.sl false 117 (.st (.pair (.int .i64) (.int .i64))))))), x0⟩ List.mem_cons_self
    have w1 := h2 ⟨(.sl false 2 (.int .i64)), x1⟩ (List.mem_cons_of_mem _ List.mem_cons_self)
    have w2 := h2 ⟨(.sl false 2 (.int .i64)), x2⟩ (List.mem_cons_of_mem _ (List.mem_cons_of_mem _ List.mem_cons_self))
    obtain ⟨k, hk⟩ := law13 x0 w0 x1 w1 x2 w2
    exact c13 k x0 x1 x2 true hk

set_option maxRecDepth 100000 in
theorem lifted13 (os : Os) (started : os.Started) (H : Type) (enc : TypeId × Value → H) :
    ReturnsInHanded {} Try.checked os 13 .any (Rows.fnExactTimesSpec.pre6 enc Try.prog Try.f13 Rows.fnExactTimesRow.domain false) (Rows.fnExactTimesSpec.post enc Try.prog Try.f13 false true false false) := by
  refine returnsInHanded_of_change (C := Try.checked) own started (by kernel_rfl) Try.func13
    (ChangeSpec.witness6 (enc := enc) (C := Try.checked) (s := Rows.fnExactTimesSpec) false ⟨#[], #[.agg #[.slice none 0 0, .slice none 0 0, .slice none 0 0], .slice none 0 0, .slice none 0 0], []⟩ 8 (by kernel_rfl) (by kernel_rfl) (by kernel_rfl) (by kernel_rfl)) ?_
  intro W base args ds gs before hval hW _ _
  exact row_step (T := tbl) (m := 12) (tb := 4) tok (by kernel_rfl) (by kernel_rfl) rfl Try.underlying4 rfl
    (fun ds hl => by
      match ds, hl with
      | [d0, d1, d2], _ => rfl)
    (by kernel_rfl) (shs := shs13) (by kernel_rfl) call13 hval hW

theorem over13 : Rows.fnExactTimesRow.holds Try.pinned (OpenSpec.ofChange Rows.fnExactTimesSpec) :=
  OpenClaim.holds_of_wide 13 Try.f13 rfl rfl rfl rfl rfl rfl rfl ⟨rfl, rfl, rfl, rfl, rfl⟩ rfl rfl rfl rfl rfl (by kernel_rfl) Try.func13 (by kernel_rfl)
    (of_decide_eq_true (by kernel_rfl)) (by unfold Func.isWrapper; first | (rw [if_pos (by decide +kernel)]; kernel_rfl) | (rw [if_neg (by decide +kernel)]; exact ⟨rfl, rfl⟩))
    (fun os started H enc _ => lifted13 os started H enc)

theorem FnExactTimes_holds : Rows.FnExactTimesSaid := over13
#print axioms FnExactTimes_holds
end Go.Proofs.Ytjfledckleeoaaa
