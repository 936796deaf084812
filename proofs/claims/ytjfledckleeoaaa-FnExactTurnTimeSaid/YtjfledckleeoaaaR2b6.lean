/-
  FnExactTurnTime: at every graph and every two roads the law's function returns true. No condition.
-/
import Derived.Test.YtjfledckleeoaaaRows
import Derived.Test.YtjfledckleeoaaaR2ht
import Derived.Test.YtjfledckleeoaaaVmU
set_option linter.unusedVariables false
set_option linter.unusedSimpArgs false
namespace Go.Proofs.Ytjfledckleeoaaa
open Go Go.Vm Go.Proofs V

def timeOf (g : Graph) (e f : Int) : Int := if graphOk g = true ∧ roadIs g e = true ∧ roadIs g f = true ∧ (roadAt g e).2.1 = (roadAt g f).1 then turnOf g e f else -1

theorem e29 (k : Nat) (hk : 1048576 < k) (g : Graph) (h1 : g.1.length ≤ 1048576) (h2 : g.2.1.length ≤ 1048576) (h3 : g.2.2.length ≤ 1048576) (e f : Int) : f29 k g e f = some (timeOf g e f) := by
  unfold f29 timeOf
  rw [spec57 k hk g h1 h2 h3]
  simp only [Option.bind_some, e75, foldR]
  cases hg : graphOk g with
  | false => simp
  | true =>
    cases he : roadIs g e with
    | false => simp
    | true =>
      cases hf : roadIs g f with
      | false => simp
      | true =>
        have be := roadIs_iff.1 he
        have bf := roadIs_iff.1 hf
        simp only [Bool.not_true, if_true, Option.bind_some, cond_false]
        rw [if_t (fun _ => be), if_t (fun _ => bf)]
        by_cases hm : (roadAt g e).2.1 = (roadAt g f).1
        · rw [if_f (by simp [hm]), e76 (gok hg) k hk he hf]
          simp [hm]
        · rw [if_t (by simp [hm])]
          simp [hm]

theorem e30 (k : Nat) (hk : 1048576 < k) (g : Graph) (h1 : g.1.length ≤ 1048576) (h2 : g.2.1.length ≤ 1048576) (h3 : g.2.2.length ≤ 1048576) (e f : Int) : f30 k g e f = some (timeOf g e f) := by
  unfold f30 timeOf
  rw [impl63 k hk g h1 h2 h3]
  simp only [Option.bind_some]
  cases hg : graphOk g with
  | false => simp
  | true =>
    obtain ⟨t, ht, hn⟩ := e64 (gok hg) k hk
    rw [if_f (by simp), ht]
    simp only [Option.bind_some, e65 k hn]
    cases he : roadIs g e with
    | false => simp
    | true =>
      cases hf : roadIs g f with
      | false => simp
      | true =>
        simp only [Bool.not_true, if_true, Option.bind_some, cond_false]
        rw [if_f (by simp), e77 (gok hg) k hn he hf]
        simp

theorem law6 (x0 : Graph) (w0 : Sh.wf (.st (.pair (.sl false 114 (.st (.pair (.int .i64) (.st (.pair (.int .i64) (.int .i64)))))) (.pair (.sl false 103 (.st (.pair (.int .i64) (.pair (.int .i64) (.pair (.int .i64) (.pair (.int .i64) (.pair (.int .i64) .str))))))) (.sl false 117 (.st (.pair (.int .i64) (.int .i64))))))) x0) (x1 : Int) (w1 : Sh.wf (.int .i64) x1) (x2 : Int) (w2 : Sh.wf (.int .i64) x2) : ∃ k, f6 k x0 x1 x2 = some true := by
  refine ⟨1048577, ?_⟩
  have hk : 1048576 < 1048577 := by decide
  obtain ⟨r, q1, q2, q3⟩ := sz15 1048577 hk x0 w0 1048576 (by decide) (by decide)
  have q1' : f15 1048577 x0 1048576 = some r := q1
  unfold f6
  rw [q1']
  simp only [Option.bind_some]
  by_cases hr : r < 0
  · rw [if_t (by simpa using hr)]
  · rw [if_f (by simpa using hr)]
    have hb := q3 (by omega)
    simp only [to17 _ hk x0 hb, e29 _ hk x0 hb.1.1 hb.2.1.1 hb.2.2.1, e30 _ hk x0 hb.1.1 hb.2.1.1 hb.2.2.1, eq20 _ hk x0 hb, Option.bind_some]
    simp

theorem own : ownKnob Try.prog.godebug = none := by kernel_rfl
def shs6 : List Sh := [(.st (.pair (.sl false 114 (.st (.pair (.int .i64) (.st (.pair (.int .i64) (.int .i64)))))) (.pair (.sl false 103 (.st (.pair (.int .i64) (.pair (.int .i64) (.pair (.int .i64) (.pair (.int .i64) (.pair (.int .i64) .str))))))) (.sl false 117 (.st (.pair (.int .i64) (.int .i64))))))), (.int .i64), (.int .i64)]
set_option maxRecDepth 100000 in
theorem call6 (ins : List TV) (h1 : ins.map (·.sh) = shs6) (h2 : ∀ t ∈ ins, t.sh.wf t.x) : PCall Try.prog 6 ins [⟨.bool, true⟩] := by
  match ins, h1 with
  | [⟨_, x0⟩, ⟨_, x1⟩, ⟨_, x2⟩], h1 =>
    simp only [List.map_cons, List.map_nil, shs6, List.cons.injEq, and_true] at h1
    obtain ⟨rfl, rfl, rfl⟩ := h1
    have w0 := h2 ⟨(.st (.pair (.sl false 114 (.st (.pair (.int .i64) (.st (.pair (.int .i64) (.int .i64)))))) (.pair (.sl false 103 (.st (.pair (.int .i64) (.pair (.int .i64) (.pair (.int .i64) (.pair (.int .i64) (.pair (.int .i64) .str))))))) (.sl false 117 (.st (.pair (.int .i64) (.int .i64))))))), x0⟩ List.mem_cons_self
    have w1 := h2 ⟨(.int .i64), x1⟩ (List.mem_cons_of_mem _ List.mem_cons_self)
    have w2 := h2 ⟨(.int .i64), x2⟩ (List.mem_cons_of_mem _ (List.mem_cons_of_mem _ List.mem_cons_self))
    obtain ⟨k, hk⟩ := law6 x0 w0 x1 w1 x2 w2
    exact c6 k x0 x1 x2 true hk

set_option maxRecDepth 100000 in
theorem lifted6 (os : Os) (started : os.Started) (H : Type) (enc : TypeId × Value → H) :
    ReturnsInHanded {} Try.checked os 6 .any (Rows.fnExactTurnTimeSpec.pre6 enc Try.prog Try.f6 Rows.fnExactTurnTimeRow.domain false) (Rows.fnExactTurnTimeSpec.post enc Try.prog Try.f6 false true false false) := by
  refine returnsInHanded_of_change (C := Try.checked) own started (by kernel_rfl) Try.func6
    (ChangeSpec.witness6 (enc := enc) (C := Try.checked) (s := Rows.fnExactTurnTimeSpec) false ⟨#[], #[.agg #[.slice none 0 0, .slice none 0 0, .slice none 0 0], .int .i64 0, .int .i64 0], []⟩ 8 (by kernel_rfl) (by kernel_rfl) (by kernel_rfl) (by kernel_rfl)) ?_
  intro W base args ds gs before hval hW _ _
  exact row_step (T := tbl) (m := 12) (tb := 4) tok (by kernel_rfl) (by kernel_rfl) rfl Try.underlying4 rfl
    (fun ds hl => by
      match ds, hl with
      | [d0, d1, d2], _ => rfl)
    (by kernel_rfl) (shs := shs6) (by kernel_rfl) call6 hval hW

theorem over6 : Rows.fnExactTurnTimeRow.holds Try.pinned (OpenSpec.ofChange Rows.fnExactTurnTimeSpec) :=
  OpenClaim.holds_of_wide 6 Try.f6 rfl rfl rfl rfl rfl rfl rfl ⟨rfl, rfl, rfl, rfl, rfl⟩ rfl rfl rfl rfl rfl (by kernel_rfl) Try.func6 (by kernel_rfl)
    (of_decide_eq_true (by kernel_rfl)) (by unfold Func.isWrapper; first | (rw [if_pos (by decide +kernel)]; kernel_rfl) | (rw [if_neg (by decide +kernel)]; exact ⟨rfl, rfl⟩))
    (fun os started H enc _ => lifted6 os started H enc)

theorem FnExactTurnTime_holds : Rows.FnExactTurnTimeSaid := over6
#print axioms FnExactTurnTime_holds

end Go.Proofs.Ytjfledckleeoaaa
