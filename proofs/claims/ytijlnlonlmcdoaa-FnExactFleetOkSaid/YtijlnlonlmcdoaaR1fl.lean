/-
  FnExactFleetOk: at every graph and fleet the law's function returns true. No condition.
-/
import Derived.Test.YtijlnlonlmcdoaaRows
import Derived.Test.YtijlnlonlmcdoaaR1fg
set_option linter.unusedVariables false
set_option linter.unusedSimpArgs false
namespace Go.Proofs.Ytijlnlonlmcdoaa
open Go Go.Vm Go.Proofs V

abbrev Task := Int × (Int × (Int × (Int × Int)))
abbrev Fleet := Int × (Int × (Int × (Int × List Task)))
abbrev dT : Task := ((0 : Int), ((0 : Int), ((0 : Int), ((0 : Int), (0 : Int)))))

def taskOk (n : Int) (t : Task) : Bool := decide (0 ≤ t.1) && decide (t.1 < n) && decide (0 ≤ t.2.1) && decide (t.2.1 ≤ 1000) && decide (0 ≤ t.2.2.1) && decide (t.2.2.1 ≤ t.2.2.2.1) && decide (t.2.2.2.1 ≤ 1000000) && decide (0 ≤ t.2.2.2.2) && decide (t.2.2.2.2 ≤ 100000)
def fleetHead (n : Int) (f : Fleet) : Bool := decide (0 ≤ f.1) && decide (f.1 < n) && decide (0 ≤ f.2.1) && decide (f.2.1 ≤ 1000000) && decide (1 ≤ f.2.2.1) && decide (f.2.2.1 ≤ 4) && decide (0 ≤ f.2.2.2.1) && decide (f.2.2.2.1 ≤ 10000) && decide (f.2.2.2.2.length ≤ 6)
def fleetOk (g : Graph) (f : Fleet) : Bool := graphOk g && fleetHead (g.1.length : Int) f && allTo (fun i => taskOk (g.1.length : Int) (f.2.2.2.2.getD i dT)) f.2.2.2.2.length

theorem tasks62 (k : Nat) (g : Graph) (f : Fleet) (hf : f.2.2.2.2.length ≤ 1048576) (m i : Nat) (hi : i < f.2.2.2.2.length) : f62.l26 k f g (m + 1) (i : Int) = bif taskOk (g.1.length : Int) (f.2.2.2.2.getD i dT) then f62.l26 k f g m ((i + 1 : Nat) : Int) else some false := by
  rw [f62.l26, if_t (by simpa using hi), if_t ⟨by omega, by omega⟩, wrap_s (by omega)]
  have hr : f.2.2.2.2.getD i dT = List.getD f.2.2.2.2 (Int.toNat (i : Int)) dT := by rw [Int.toNat_natCast]
  rw [hr]
  generalize List.getD f.2.2.2.2 (Int.toNat (i : Int)) dT = t
  unfold taskOk
  have a1 := lt_not t.2.1 0
  have a2 := gt_not t.2.1 1000
  have a3 := lt_not t.2.2.1 0
  have a4 := lt_not t.2.2.2.1 t.2.2.1
  have a5 := gt_not t.2.2.2.1 1000000
  have a6 := lt_not t.2.2.2.2 0
  have a7 := gt_not t.2.2.2.2 100000
  simp only [f126, Option.bind_some, a1, a2, a3, a4, a5, a6, a7, ge_iff_le]
  clear a1 a2 a3 a4 a5 a6 a7
  generalize decide (0 ≤ t.1) = B1
  generalize decide (t.1 < (g.1.length : Int)) = B2
  generalize decide (0 ≤ t.2.1) = B3
  generalize decide (t.2.1 ≤ 1000) = B4
  generalize decide (0 ≤ t.2.2.1) = B5
  generalize decide (t.2.2.1 ≤ t.2.2.2.1) = B6
  generalize decide (t.2.2.2.1 ≤ 1000000) = B7
  generalize decide (0 ≤ t.2.2.2.2) = B8
  generalize decide (t.2.2.2.2 ≤ 100000) = B9
  cases B1 <;> cases B2 <;> cases B3 <;> cases B4 <;> simp
  cases B5 <;> cases B6 <;> cases B7 <;> cases B8 <;> cases B9 <;> simp

theorem tasks128 (k : Nat) (n : Int) (f : Fleet) (hf : f.2.2.2.2.length ≤ 1048576) (m i : Nat) (hi : i < f.2.2.2.2.length) : f128.l12 k f n (m + 1) (i : Int) = bif taskOk n (f.2.2.2.2.getD i dT) then f128.l12 k f n m ((i + 1 : Nat) : Int) else some false := by
  rw [f128.l12, if_t (by simpa using hi), if_t ⟨by omega, by omega⟩, wrap_s (by omega)]
  have hr : f.2.2.2.2.getD i dT = List.getD f.2.2.2.2 (Int.toNat (i : Int)) dT := by rw [Int.toNat_natCast]
  rw [hr]
  generalize List.getD f.2.2.2.2 (Int.toNat (i : Int)) dT = t
  unfold taskOk
  have a1 := lt_not t.2.1 0
  have a2 := gt_not t.2.1 1000
  have a3 := lt_not t.2.2.1 0
  have a4 := lt_not t.2.2.2.1 t.2.2.1
  have a5 := gt_not t.2.2.2.1 1000000
  have a6 := lt_not t.2.2.2.2 0
  have a7 := gt_not t.2.2.2.2 100000
  have a8 := lt_not t.1 0
  have a9 := ge_not t.1 n
  simp only [a1, a2, a3, a4, a5, a6, a7, a8, a9]
  clear a1 a2 a3 a4 a5 a6 a7 a8 a9
  generalize decide (0 ≤ t.1) = B1
  generalize decide (t.1 < n) = B2
  generalize decide (0 ≤ t.2.1) = B3
  generalize decide (t.2.1 ≤ 1000) = B4
  generalize decide (0 ≤ t.2.2.1) = B5
  generalize decide (t.2.2.1 ≤ t.2.2.2.1) = B6
  generalize decide (t.2.2.2.1 ≤ 1000000) = B7
  generalize decide (0 ≤ t.2.2.2.2) = B8
  generalize decide (t.2.2.2.2 ≤ 100000) = B9
  cases B1 <;> cases B2 <;> cases B3 <;> cases B4 <;> simp
  cases B5 <;> cases B6 <;> cases B7 <;> cases B8 <;> cases B9 <;> simp

theorem spec62 (k : Nat) (hk : 1048576 < k) (g : Graph) (f : Fleet) (h1 : g.1.length ≤ 1048576) (h2 : g.2.1.length ≤ 1048576) (h3 : g.2.2.length ≤ 1048576) (hf : f.2.2.2.2.length ≤ 1048576) : f62 k g f = some (fleetOk g f) := by
  have q1 := allLoop (L := f62.l26 k f g) (p := fun i => taskOk (g.1.length : Int) (f.2.2.2.2.getD i dT)) (fun m i hi => tasks62 k g f hf m i hi) (fun m => by rw [f62.l26, if_f (by simp)]) (show f.2.2.2.2.length < k by omega)
  have a1 := lt_not f.2.1 0
  have a2 := gt_not f.2.1 1000000
  have a3 := lt_not f.2.2.1 1
  have a4 := gt_not f.2.2.1 4
  have a5 := lt_not f.2.2.2.1 0
  have a6 := gt_not f.2.2.2.1 10000
  have a7 := gt_lit f.2.2.2.2.length 6 6 rfl
  unfold f62 fleetOk fleetHead
  rw [spec57 k hk g h1 h2 h3, q1]
  simp only [f126, Option.bind_some, a1, a2, a3, a4, a5, a6, a7, ge_iff_le]
  clear a1 a2 a3 a4 a5 a6 a7
  generalize graphOk g = G
  generalize allTo (fun i => taskOk (g.1.length : Int) (f.2.2.2.2.getD i dT)) f.2.2.2.2.length = A
  generalize decide (0 ≤ f.1) = B1
  generalize decide (f.1 < (g.1.length : Int)) = B2
  generalize decide (0 ≤ f.2.1) = B3
  generalize decide (f.2.1 ≤ 1000000) = B4
  generalize decide (1 ≤ f.2.2.1) = B5
  generalize decide (f.2.2.1 ≤ 4) = B6
  generalize decide (0 ≤ f.2.2.2.1) = B7
  generalize decide (f.2.2.2.1 ≤ 10000) = B8
  generalize decide (f.2.2.2.2.length ≤ 6) = B9
  cases G <;> cases B1 <;> cases B2 <;> simp
  cases B3 <;> cases B4 <;> cases B5 <;> cases B6 <;> simp
  cases B7 <;> cases B8 <;> cases B9 <;> cases A <;> simp

theorem impl64 (k : Nat) (hk : 1048576 < k) (g : Graph) (f : Fleet) (h1 : g.1.length ≤ 1048576) (h2 : g.2.1.length ≤ 1048576) (h3 : g.2.2.length ≤ 1048576) (hf : f.2.2.2.2.length ≤ 1048576) : f64 k g f = some (fleetOk g f) := by
  have q1 := allLoop (L := f128.l12 k f (g.1.length : Int)) (p := fun i => taskOk (g.1.length : Int) (f.2.2.2.2.getD i dT)) (fun m i hi => tasks128 k _ f hf m i hi) (fun m => by rw [f128.l12, if_f (by simp)]) (show f.2.2.2.2.length < k by omega)
  have a1 := lt_not f.2.1 0
  have a2 := gt_not f.2.1 1000000
  have a3 := lt_not f.2.2.1 1
  have a4 := gt_not f.2.2.1 4
  have a5 := lt_not f.2.2.2.1 0
  have a6 := gt_not f.2.2.2.1 10000
  have a7 := gt_lit f.2.2.2.2.length 6 6 rfl
  have a8 := lt_not f.1 0
  have a9 := ge_not f.1 (g.1.length : Int)
  unfold f64 f128 fleetOk fleetHead
  rw [impl59 k hk g h1 h2 h3, q1]
  simp only [Option.bind_some, a1, a2, a3, a4, a5, a6, a7, a8, a9]
  clear a1 a2 a3 a4 a5 a6 a7 a8 a9
  generalize graphOk g = G
  generalize allTo (fun i => taskOk (g.1.length : Int) (f.2.2.2.2.getD i dT)) f.2.2.2.2.length = A
  generalize decide (0 ≤ f.1) = B1
  generalize decide (f.1 < (g.1.length : Int)) = B2
  generalize decide (0 ≤ f.2.1) = B3
  generalize decide (f.2.1 ≤ 1000000) = B4
  generalize decide (1 ≤ f.2.2.1) = B5
  generalize decide (f.2.2.1 ≤ 4) = B6
  generalize decide (0 ≤ f.2.2.2.1) = B7
  generalize decide (f.2.2.2.1 ≤ 10000) = B8
  generalize decide (f.2.2.2.2.length ≤ 6) = B9
  cases G <;> cases B1 <;> cases B2 <;> simp
  cases B3 <;> cases B4 <;> cases B5 <;> cases B6 <;> simp
  cases B7 <;> cases B8 <;> cases B9 <;> cases A <;> simp

theorem law13 (x0 : Graph) (w0 : Sh.wf sh4 x0) (x1 : Fleet) (w1 : Sh.wf sh6 x1) : ∃ k, f13 k x0 x1 = some true := by
  refine ⟨1048577, ?_⟩
  have hk : 1048576 < 1048577 := by decide
  obtain ⟨r, q1, q2, q3⟩ := sz56 1048577 hk x0 w0 1048576 (by decide) (by decide)
  have q1' : f56 1048577 x0 1048576 = some r := q1
  unfold f13
  rw [q1']
  simp only [Option.bind_some]
  by_cases hr : r < 0
  · rw [if_t (by simpa using hr)]
  · rw [if_f (by simpa using hr)]
    have hb := q3 (by omega)
    obtain ⟨s, p1, p2, p3⟩ := sz61 1048577 hk x1 w1 r (by omega) (by omega)
    have p1' : f61 1048577 x1 r = some s := p1
    rw [p1']
    simp only [Option.bind_some]
    by_cases hs : s < 0
    · rw [if_t (by simpa using hs)]
    · rw [if_f (by simpa using hs)]
      have hc := p3 (by omega)
      have hcl : x1.2.2.2.2.length ≤ 1048576 := hc.2.2.2.2.1
      simp only [to58 _ hk x0 hb, to63 _ hk x1 hc, spec62 _ hk x0 x1 hb.1.1 hb.2.1.1 hb.2.2.1 hcl, impl64 _ hk x0 x1 hb.1.1 hb.2.1.1 hb.2.2.1 hcl, eq60 _ hk x0 hb, eq65 _ hk x1 hc, Option.bind_some]
      simp

theorem own : ownKnob Try.prog.godebug = none := by kernel_rfl
def shs13 : List Sh := [(.st (.pair (.sl false 201 (.st (.pair (.int .i64) (.st (.pair (.int .i64) (.int .i64)))))) (.pair (.sl false 198 (.st (.pair (.int .i64) (.pair (.int .i64) (.pair (.int .i64) (.pair (.int .i64) (.pair (.int .i64) .str))))))) (.sl false 204 (.st (.pair (.int .i64) (.int .i64))))))), (.st (.pair (.int .i64) (.pair (.int .i64) (.pair (.int .i64) (.pair (.int .i64) (.sl false 208 (.st (.pair (.int .i64) (.pair (.int .i64) (.pair (.int .i64) (.pair (.int .i64) (.int .i64))))))))))))]
set_option maxRecDepth 100000 in
theorem call13 (ins : List TV) (h1 : ins.map (·.sh) = shs13) (h2 : ∀ t ∈ ins, t.sh.wf t.x) : PCall Try.prog 13 ins [⟨.bool, true⟩] := by
  match ins, h1 with
  | [⟨_, x0⟩, ⟨_, x1⟩], h1 =>
    simp only [List.map_cons, List.map_nil, shs13, List.cons.injEq, and_true] at h1
    obtain ⟨rfl, rfl⟩ := h1
    have w0 := h2 ⟨(.st (.pair (.sl false 201 (.st (.pair (.int .i64) (.st (.pair (.int .i64) (.int .i64)))))) (.pair (.sl false 198 (.st (.pair (.int .i64) (.pair (.int .i64) (.pair (.int .i64) (.pair (.int .i64) (.pair (.int .i64) .str))))))) (.sl false 204 (.st (.pair (.int .i64) (.int .i64))))))), x0⟩ List.mem_cons_self
    have w1 := h2 ⟨(.st (.pair (.int .i64) (.pair (.int .i64) (.pair (.int .i64) (.pair (.int .i64) (.sl false 208 (.st (.pair (.int .i64) (.pair (.int .i64) (.pair (.int .i64) (.pair (.int .i64) (.int .i64)))))))))))), x1⟩ (List.mem_cons_of_mem _ List.mem_cons_self)
    obtain ⟨k, hk⟩ := law13 x0 w0 x1 w1
    exact c13 k x0 x1 true hk

set_option maxRecDepth 100000 in
theorem lifted13 (os : Os) (started : os.Started) (H : Type) (enc : TypeId × Value → H) :
    ReturnsInHanded {} Try.checked os 13 .any (Rows.fnExactFleetOkSpec.pre6 enc Try.prog Try.f13 Rows.fnExactFleetOkRow.domain false) (Rows.fnExactFleetOkSpec.post enc Try.prog Try.f13 false true false false) := by
  refine returnsInHanded_of_change (C := Try.checked) own started (by kernel_rfl) Try.func13
    (ChangeSpec.witness6 (enc := enc) (C := Try.checked) (s := Rows.fnExactFleetOkSpec) false ⟨#[], #[.agg #[.slice none 0 0, .slice none 0 0, .slice none 0 0], .agg #[.int .i64 0, .int .i64 0, .int .i64 0, .int .i64 0, .slice none 0 0]], []⟩ 8 (by kernel_rfl) (by kernel_rfl) (by kernel_rfl) (by kernel_rfl)) ?_
  intro W base args ds gs before hval hW _ _
  exact row_step (T := tbl) (m := 12) (tb := 4) tok (by kernel_rfl) (by kernel_rfl) rfl Try.underlying4 rfl
    (fun ds hl => by
      match ds, hl with
      | [d0, d1], _ => rfl)
    (by kernel_rfl) (shs := shs13) (by kernel_rfl) call13 hval hW

theorem over13 : Rows.fnExactFleetOkRow.holds Try.pinned (OpenSpec.ofChange Rows.fnExactFleetOkSpec) :=
  OpenClaim.holds_of_wide 13 Try.f13 rfl rfl rfl rfl rfl rfl rfl ⟨rfl, rfl, rfl, rfl, rfl⟩ rfl rfl rfl rfl rfl (by kernel_rfl) Try.func13 (by kernel_rfl)
    (of_decide_eq_true (by kernel_rfl)) (by unfold Func.isWrapper; first | (rw [if_pos (by decide +kernel)]; kernel_rfl) | (rw [if_neg (by decide +kernel)]; exact ⟨rfl, rfl⟩))
    (fun os started H enc _ => lifted13 os started H enc)

theorem FnExactFleetOk_holds : Rows.FnExactFleetOkSaid := over13
#print axioms FnExactFleetOk_holds
end Go.Proofs.Ytijlnlonlmcdoaa
