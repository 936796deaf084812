/-
  FnExactMakeGraph: at every map and every kind the law's function returns true. No condition.
-/
import Derived.Test.YtchbpdnaodicaaaRows
import Derived.Test.YtchbpdnaodicaaaR3gmg
import Derived.Test.YtchbpdnaodicaaaVmU
set_option linter.unusedVariables false
set_option linter.unusedSimpArgs false
namespace Go.Proofs.Ytchbpdnaodicaaa
open Go Go.Vm Go.Proofs V

theorem law13 (x0 : ((List (Int × ((Int × Int) × (List (ByteArray × ByteArray))))) × ((List (Int × ((List Int) × (List (ByteArray × ByteArray))))) × (List (Int × ((List (Int × Bool)) × (List (ByteArray × ByteArray)))))))) (w0 : Sh.wf (.st (.pair (.sl false 257 (.st (.pair (.int .i64) (.pair (.st (.pair (.int .i64) (.int .i64))) (.sl false 328 (.st (.pair .str .str))))))) (.pair (.sl false 260 (.st (.pair (.int .i64) (.pair (.sl false 2 (.int .i64)) (.sl false 328 (.st (.pair .str .str))))))) (.sl false 264 (.st (.pair (.int .i64) (.pair (.sl false 331 (.st (.pair (.int .i64) .bool))) (.sl false 328 (.st (.pair .str .str)))))))))) x0) (x1 : Int) (w1 : Sh.wf (.int .i64) x1) : ∃ k, f13 k x0 x1 = some true := by
  refine ⟨1048577, ?_⟩
  have hk : 1048576 < 1048577 := by decide
  unfold f13
  obtain ⟨r, q1, q2, q3⟩ := sz61 1048577 hk x0 w0 1048576 (by decide) (by decide)
  have q1' : f61 1048577 x0 1048576 = some r := q1
  rw [q1']
  simp only [Option.bind_some]
  by_cases hr : r < 0
  · rw [if_t (by simpa using hr)]
  · rw [if_f (by simpa using hr)]
    have hb := q3 (by omega)
    have hz : MSz x0 := ⟨fun x hx => (hb.1.2 x hx).2.2.2, fun x hx => (hb.2.1.2 x hx).2.2.2, fun x hx => (hb.2.2.2 x hx).2.2.2, fun x hx => (hb.2.1.2 x hx).2.1.1, fun x hx => (hb.2.2.2 x hx).2.1.1⟩
    obtain ⟨v, ⟨y1, y2, y3, y4⟩, v1, v2⟩ := same_make _ hk x0 hz (fun x hx => (hb.2.1.2 x hx).2.2.1) x1
    have hbv : Sh.bd (.st (.pair (.sl false 176 (.st (.pair (.int .i64) (.st (.pair (.int .i64) (.int .i64)))))) (.pair (.sl false 110 (.st (.pair (.int .i64) (.pair (.int .i64) (.pair (.int .i64) (.pair (.int .i64) (.pair (.int .i64) .str))))))) (.sl false 167 (.st (.pair (.int .i64) (.int .i64))))))) v := ⟨⟨y1, fun _ _ => ⟨trivial, trivial, trivial⟩⟩, ⟨y2, fun r hr => ⟨trivial, trivial, trivial, trivial, trivial, y4 r hr⟩⟩, ⟨y3, fun _ _ => ⟨trivial, trivial⟩⟩⟩
    obtain ⟨c, g', p1, _, p3, p4⟩ := mk66 1048577 hk x0 hb 1 (by decide) (by decide)
    have p1' : f66 1048577 x0 1 = some (c, g') := p1
    obtain ⟨d, y, m1, m2, m3, m4⟩ := mk22 1048577 hk v hbv 1 (by decide) (by decide)
    have m1' : f22 1048577 v 1 = some (d, y) := m1
    have h1' : f57 1048577 y 1 = some d := hd57 1048577 hk 1 y d (by decide) m3 (by omega) m2
    have c1 : decide ((c : Int) < 0) = false := by simp; omega
    have d1 : decide ((d : Int) < 0) = false := by simp; omega
    simp only [to63 _ hk x0 hb, v1, v2, eq65 _ hk x0 hb, eq20 _ hk v hbv, p1', m1', h1', c1, d1, Option.bind_some]
    simp


theorem own : ownKnob Try.prog.godebug = none := by kernel_rfl
def shs13 : List Sh := [(.st (.pair (.sl false 257 (.st (.pair (.int .i64) (.pair (.st (.pair (.int .i64) (.int .i64))) (.sl false 328 (.st (.pair .str .str))))))) (.pair (.sl false 260 (.st (.pair (.int .i64) (.pair (.sl false 2 (.int .i64)) (.sl false 328 (.st (.pair .str .str))))))) (.sl false 264 (.st (.pair (.int .i64) (.pair (.sl false 331 (.st (.pair (.int .i64) .bool))) (.sl false 328 (.st (.pair .str .str)))))))))), (.int .i64)]
set_option maxRecDepth 100000 in
theorem call13 (ins : List TV) (h1 : ins.map (·.sh) = shs13) (h2 : ∀ t ∈ ins, t.sh.wf t.x) : PCall Try.prog 13 ins [⟨.bool, true⟩] := by
  match ins, h1 with
  | [⟨_, x0⟩, ⟨_, x1⟩], h1 =>
    simp only [List.map_cons, List.map_nil, shs13, List.cons.injEq, and_true] at h1
    obtain ⟨rfl, rfl⟩ := h1
    have w0 := h2 ⟨(.st (.pair (.sl false 257 (.st (.pair (.int .i64) (.pair (.st (.pair (.int .i64) (.int .i64))) (.sl false 328 (.st (.pair .str .str))))))) (.pair (.sl false 260 (.st (.pair (.int .i64) (.pair (.sl false 2 (.int .i64)) (.sl false 328 (.st (.pair .str .str))))))) (.sl false 264 (.st (.pair (.int .i64) (.pair (.sl false 331 (.st (.pair (.int .i64) .bool))) (.sl false 328 (.st (.pair .str .str)))))))))), x0⟩ List.mem_cons_self
    have w1 := h2 ⟨(.int .i64), x1⟩ (List.mem_cons_of_mem _ List.mem_cons_self)
    obtain ⟨k, hk⟩ := law13 x0 w0 x1 w1
    exact c13 k x0 x1 true hk

set_option maxRecDepth 100000 in
theorem lifted13 (os : Os) (started : os.Started) (H : Type) (enc : TypeId × Value → H) :
    ReturnsInHanded {} Try.checked os 13 .any (Rows.fnExactMakeGraphSpec.pre6 enc Try.prog Try.f13 Rows.fnExactMakeGraphRow.domain false) (Rows.fnExactMakeGraphSpec.post enc Try.prog Try.f13 false true false false) := by
  refine returnsInHanded_of_change (C := Try.checked) own started (by kernel_rfl) Try.func13
    (ChangeSpec.witness6 (enc := enc) (C := Try.checked) (s := Rows.fnExactMakeGraphSpec) false ⟨#[], #[.agg #[.slice none 0 0, .slice none 0 0, .slice none 0 0], .int .i64 0], []⟩ 8 (by kernel_rfl) (by kernel_rfl) (by kernel_rfl) (by kernel_rfl)) ?_
  intro W base args ds gs before hval hW _ _
  exact row_step (T := tbl) (m := 12) (tb := 4) tok (by kernel_rfl) (by kernel_rfl) rfl Try.underlying4 rfl
    (fun ds hl => by
      match ds, hl with
      | [d0, d1], _ => rfl)
    (by kernel_rfl) (shs := shs13) (by kernel_rfl) call13 hval hW

theorem band {a b : Bool} (h1 : a = true) (h2 : b = true) : (a && b) = true := by rw [h1, h2]; rfl
set_option maxHeartbeats 4000000 in
theorem closed13 : joinedFacts Try.prog 13 Try.f13 Rows.fnExactMakeGraphSpec Rows.fnExactMakeGraphRow = true := by
  unfold joinedFacts
  iterate 8 rw [Bool.and_assoc]
  refine band ?_ (by as_aux_lemma => kernel_rfl)
  iterate 9 rw [Bool.and_assoc]
  exact band (by as_aux_lemma => kernel_rfl) (by as_aux_lemma => kernel_rfl)

theorem over13 : Rows.fnExactMakeGraphRow.holds Try.pinned (OpenSpec.ofChange Rows.fnExactMakeGraphSpec) :=
  OpenClaim.holds_of_wide 13 Try.f13 rfl rfl rfl rfl rfl rfl rfl ⟨rfl, rfl, rfl, rfl, rfl⟩ rfl rfl rfl rfl rfl (by kernel_rfl) Try.func13 closed13
    (of_decide_eq_true (by kernel_rfl)) (by unfold Func.isWrapper; first | (rw [if_pos (by decide +kernel)]; kernel_rfl) | (rw [if_neg (by decide +kernel)]; exact ⟨rfl, rfl⟩))
    (fun os started H enc _ => lifted13 os started H enc)

theorem FnExactMakeGraph_holds : Rows.FnExactMakeGraphSaid := over13
#print axioms FnExactMakeGraph_holds
end Go.Proofs.Ytchbpdnaodicaaa
