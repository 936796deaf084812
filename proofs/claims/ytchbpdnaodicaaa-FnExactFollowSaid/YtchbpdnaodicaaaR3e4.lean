/-
  FnExactFollow: at every graph, place and row of steps the law's function returns true. No condition.
-/
import Derived.Test.YtchbpdnaodicaaaRows
import Derived.Test.YtchbpdnaodicaaaR3efo
import Derived.Test.YtchbpdnaodicaaaVmU
set_option linter.unusedVariables false
set_option linter.unusedSimpArgs false
namespace Go.Proofs.Ytchbpdnaodicaaa
open Go Go.Vm Go.Proofs V

theorem law4 (x0 : ((List (Int × (Int × Int))) × ((List (Int × (Int × (Int × (Int × (Int × ByteArray)))))) × (List (Int × Int))))) (w0 : Sh.wf (.st (.pair (.sl false 213 (.st (.pair (.int .i64) (.st (.pair (.int .i64) (.int .i64)))))) (.pair (.sl false 205 (.st (.pair (.int .i64) (.pair (.int .i64) (.pair (.int .i64) (.pair (.int .i64) (.pair (.int .i64) .str))))))) (.sl false 216 (.st (.pair (.int .i64) (.int .i64))))))) x0) (x1 : Int) (w1 : Sh.wf (.int .i64) x1) (x2 : (List (Int × (Int × (ByteArray × (Int × Int)))))) (w2 : Sh.wf (.sl false 134 (.st (.pair (.int .i64) (.pair (.int .i64) (.pair .str (.pair (.int .i64) (.int .i64))))))) x2) : ∃ k, f4 k x0 x1 x2 = some true := by
  refine ⟨1048577, ?_⟩
  have hk : 1048576 < 1048577 := by decide
  unfold f4
  obtain ⟨r, q1, q2, q3⟩ := sz14 1048577 hk x0 w0 1048576 (by decide) (by decide)
  have q1' : f14 1048577 x0 1048576 = some r := q1
  rw [q1']
  simp only [Option.bind_some]
  by_cases hr : r < 0
  · rw [if_t (by simpa using hr)]
  · rw [if_f (by simpa using hr)]
    have hb := q3 (by omega)
    obtain ⟨r2, t1, t2, t3⟩ := sz26 1048577 hk x2 w2 r (by omega) q2
    have t1' : f26 1048577 x2 r = some r2 := t1
    rw [t1']
    simp only [Option.bind_some]
    by_cases hr2 : r2 < 0
    · rw [if_t (by simpa using hr2)]
    · rw [if_f (by simpa using hr2)]
      have hb2 := t3 (by omega)
      have hT : ∀ T ∈ x2, -9223372036854775808 ≤ T.2.1 ∧ T.2.1 ≤ 9223372036854775807 := fun T hT => by
        have h : IntKind.i64.min ≤ T.2.1 ∧ T.2.1 ≤ IntKind.i64.max := (w2.2 T hT).2.1
        exact h
      obtain ⟨v, v1, v2, hv⟩ := same_follow _ hk x0 hb.1.1 hb.2.1.1 hb.2.2.1 x1 x2 hb2.1 hT
      have hbv : Sh.bd (.sl false 2 (.int .i64)) v.1 := ⟨by have := hv.1; omega, fun y _ => trivial⟩
      obtain ⟨c, g', p1, _, p3, p4⟩ := mk22 1048577 hk x0 hb 1 (by decide) (by decide)
      have p1' : f22 1048577 x0 1 = some (c, g') := p1
      obtain ⟨e, z, n1, _, n3, n4⟩ := mk24 1048577 hk x2 hb2 c (by omega) (by omega)
      have n1' : f24 1048577 x2 c = some (e, z) := n1
      obtain ⟨d, y, m1, m2, m3, m4⟩ := mk23 1048577 hk v.1 hbv 1 (by decide) (by decide)
      have m1' : f23 1048577 v.1 1 = some (d, y) := m1
      have h1' : f30 1048577 y 1 = some d := hd30 1048577 hk 1 y d (by decide) m3 (by omega) m2
      have e1 : decide ((e : Int) < 0) = false := by simp; omega
      have d1 : decide ((d : Int) < 0) = false := by simp; omega
      simp only [to16 _ hk x0 hb, to28 _ hk x2 hb2, v1, v2, eq20 _ hk x0 hb, eq19 _ hk x2 hb2, eq21 _ hk v.1 hbv, p1', n1', m1', h1', e1, d1, Option.bind_some]
      simp


theorem own : ownKnob Try.prog.godebug = none := by kernel_rfl
def shs4 : List Sh := [(.st (.pair (.sl false 213 (.st (.pair (.int .i64) (.st (.pair (.int .i64) (.int .i64)))))) (.pair (.sl false 205 (.st (.pair (.int .i64) (.pair (.int .i64) (.pair (.int .i64) (.pair (.int .i64) (.pair (.int .i64) .str))))))) (.sl false 216 (.st (.pair (.int .i64) (.int .i64))))))), (.int .i64), (.sl false 134 (.st (.pair (.int .i64) (.pair (.int .i64) (.pair .str (.pair (.int .i64) (.int .i64)))))))]
set_option maxRecDepth 100000 in
theorem call4 (ins : List TV) (h1 : ins.map (·.sh) = shs4) (h2 : ∀ t ∈ ins, t.sh.wf t.x) : PCall Try.prog 4 ins [⟨.bool, true⟩] := by
  match ins, h1 with
  | [⟨_, x0⟩, ⟨_, x1⟩, ⟨_, x2⟩], h1 =>
    simp only [List.map_cons, List.map_nil, shs4, List.cons.injEq, and_true] at h1
    obtain ⟨rfl, rfl, rfl⟩ := h1
    have w0 := h2 ⟨(.st (.pair (.sl false 213 (.st (.pair (.int .i64) (.st (.pair (.int .i64) (.int .i64)))))) (.pair (.sl false 205 (.st (.pair (.int .i64) (.pair (.int .i64) (.pair (.int .i64) (.pair (.int .i64) (.pair (.int .i64) .str))))))) (.sl false 216 (.st (.pair (.int .i64) (.int .i64))))))), x0⟩ List.mem_cons_self
    have w1 := h2 ⟨(.int .i64), x1⟩ (List.mem_cons_of_mem _ List.mem_cons_self)
    have w2 := h2 ⟨(.sl false 134 (.st (.pair (.int .i64) (.pair (.int .i64) (.pair .str (.pair (.int .i64) (.int .i64))))))), x2⟩ (List.mem_cons_of_mem _ (List.mem_cons_of_mem _ List.mem_cons_self))
    obtain ⟨k, hk⟩ := law4 x0 w0 x1 w1 x2 w2
    exact c4 k x0 x1 x2 true hk

set_option maxRecDepth 100000 in
theorem lifted4 (os : Os) (started : os.Started) (H : Type) (enc : TypeId × Value → H) :
    ReturnsInHanded {} Try.checked os 4 .any (Rows.fnExactFollowSpec.pre6 enc Try.prog Try.f4 Rows.fnExactFollowRow.domain false) (Rows.fnExactFollowSpec.post enc Try.prog Try.f4 false true false false) := by
  refine returnsInHanded_of_change (C := Try.checked) own started (by kernel_rfl) Try.func4
    (ChangeSpec.witness6 (enc := enc) (C := Try.checked) (s := Rows.fnExactFollowSpec) false ⟨#[], #[.agg #[.slice none 0 0, .slice none 0 0, .slice none 0 0], .int .i64 0, .slice none 0 0], []⟩ 8 (by kernel_rfl) (by kernel_rfl) (by kernel_rfl) (by kernel_rfl)) ?_
  intro W base args ds gs before hval hW _ _
  exact row_step (T := tbl) (m := 12) (tb := 4) tok (by kernel_rfl) (by kernel_rfl) rfl Try.underlying4 rfl
    (fun ds hl => by
      match ds, hl with
      | [d0, d1, d2], _ => rfl)
    (by kernel_rfl) (shs := shs4) (by kernel_rfl) call4 hval hW

theorem band {a b : Bool} (h1 : a = true) (h2 : b = true) : (a && b) = true := by rw [h1, h2]; rfl
set_option maxHeartbeats 4000000 in
theorem closed4 : joinedFacts Try.prog 4 Try.f4 Rows.fnExactFollowSpec Rows.fnExactFollowRow = true := by
  unfold joinedFacts
  iterate 8 rw [Bool.and_assoc]
  refine band ?_ (by as_aux_lemma => kernel_rfl)
  iterate 9 rw [Bool.and_assoc]
  exact band (by as_aux_lemma => kernel_rfl) (by as_aux_lemma => kernel_rfl)

theorem over4 : Rows.fnExactFollowRow.holds Try.pinned (OpenSpec.ofChange Rows.fnExactFollowSpec) :=
  OpenClaim.holds_of_wide 4 Try.f4 rfl rfl rfl rfl rfl rfl rfl ⟨rfl, rfl, rfl, rfl, rfl⟩ rfl rfl rfl rfl rfl (by kernel_rfl) Try.func4 closed4
    (of_decide_eq_true (by kernel_rfl)) (by unfold Func.isWrapper; first | (rw [if_pos (by decide +kernel)]; kernel_rfl) | (rw [if_neg (by decide +kernel)]; exact ⟨rfl, rfl⟩))
    (fun os started H enc _ => lifted4 os started H enc)

theorem FnExactFollow_holds : Rows.FnExactFollowSaid := over4
#print axioms FnExactFollow_holds
end Go.Proofs.Ytchbpdnaodicaaa
