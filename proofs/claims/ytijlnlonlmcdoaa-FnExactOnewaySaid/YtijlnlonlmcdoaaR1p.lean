/-
  FnExactOneway: at every tag list and every direction the law's function returns true. No condition.
-/
import Derived.Test.YtijlnlonlmcdoaaRows
import Derived.Test.YtijlnlonlmcdoaaR1c
import Derived.Test.YtijlnlonlmcdoaaVmU
import Derived.Test.YtijlnlonlmcdoaaLawA
set_option linter.unusedVariables false
namespace Go.Proofs.Ytijlnlonlmcdoaa
open Go Go.Vm Go.Proofs V

abbrev Tags := List (ByteArray × ByteArray)

theorem copy34 (k : Nat) (x : Tags) (hx : x.length ≤ 9223372036854775807) : ∀ (m i : Nat) (acc : Tags), acc.length = x.length → acc.take i = x.take i → i ≤ x.length → x.length - i < m → f20.l34 k x m (acc, (i : Int)) = some x
  | 0, i, acc, _, _, _, h => by omega
  | m + 1, i, acc, hl, ht, hi, h => by
    rw [f20.l34]
    by_cases hlt : i < x.length
    · have h1 : (decide ((i : Int) < (List.length x : Int))) = true := by simpa using hlt
      rw [h1, if_t rfl, if_t ⟨by omega, by omega⟩]
      simp only [f82, Option.bind_some]
      rw [if_t ⟨by omega, by omega⟩, wrap_s (by omega)]
      refine copy34 k x hx m (i + 1) _ (by simp [hl]) ?_ (by omega) (by omega)
      rw [Int.toNat_natCast]
      exact take_set hl ht hlt
    · have h1 : (decide ((i : Int) < (List.length x : Int))) = false := by simpa using hlt
      rw [h1, if_f (by simp), take_all hl ht (by omega)]

theorem copy20 (k : Nat) (x : Tags) (hx : x.length ≤ 1048576) (hk : x.length < k) : f20 k x = some x := by
  unfold f20
  rw [if_t ⟨by omega, by simp; omega⟩]
  exact copy34 k x (by omega) k 0 _ (by simp) (by simp) (by omega) (by omega)

theorem eq30 (k : Nat) (x : Tags) (hx : x.length ≤ 9223372036854775807) : ∀ (m i : Nat), i ≤ x.length → x.length - i < m → f22.l30 k x x m (i : Int) = some true
  | 0, i, _, h => by omega
  | m + 1, i, hi, h => by
    rw [f22.l30]
    by_cases hlt : i < x.length
    · have h1 : (decide ((i : Int) < (List.length x : Int))) = true := by simpa using hlt
      rw [h1, if_t rfl, if_t ⟨by omega, by omega⟩, if_t ⟨by omega, by omega⟩]
      have h2 : ∀ a, f84 k a a = some true := fun a => by simp [f84]
      rw [h2]
      simp only [Option.bind_some]
      rw [if_f (by simp), wrap_s (by omega)]
      exact eq30 k x hx m (i + 1) (by omega) (by omega)
    · have h1 : (decide ((i : Int) < (List.length x : Int))) = false := by simpa using hlt
      rw [h1, if_f (by simp)]

theorem sz28 (k : Nat) (x : Tags) (hx : x.length ≤ 9223372036854775807) : ∀ (m i : Nat) (v : Int), i ≤ x.length → x.length - i < m → ∃ r, f18.l28 k x m (v, (i : Int)) = some r
  | 0, i, v, _, h => by omega
  | m + 1, i, v, hi, h => by
    rw [f18.l28]
    by_cases hlt : i < x.length
    · have h1 : (decide ((i : Int) < (List.length x : Int))) = true := by simpa using hlt
      rw [h1, if_t rfl, if_t ⟨by omega, by omega⟩]
      have h2 : ∀ a v, ∃ r, f80 k a v = some r := fun a v => by
        unfold f80
        split
        · exact ⟨_, rfl⟩
        · split <;> exact ⟨_, rfl⟩
      obtain ⟨r, hr⟩ := h2 (List.getD x (Int.toNat (i : Int)) ((⟨#[]⟩ : ByteArray), (⟨#[]⟩ : ByteArray))) v
      rw [hr]
      simp only [Option.bind_some]
      split
      · exact ⟨_, rfl⟩
      · rw [wrap_s (by omega)]
        exact sz28 k x hx m (i + 1) r (by omega) (by omega)
    · have h1 : (decide ((i : Int) < (List.length x : Int))) = false := by simpa using hlt
      rw [h1, if_f (by simp)]
      exact ⟨_, rfl⟩

/-- The tag that is looked for: the specification's word and the program's. -/
theorem find18 (k : Nat) (x : Tags) (s : ByteArray) (hx : x.length ≤ 9223372036854775807) : ∀ (m i : Nat), i ≤ x.length → x.length - i < m →
    ∃ r t, f109.l12 k x s m (i : Int) = some r ∧ f81.l18 k x s m (i : Int) = some t ∧ (if (decide ((r : Int) ≥ (0 : Int))) then (if (0 ≤ r ∧ r < (List.length x : Int)) then (some (List.getD x (Int.toNat r) ((⟨#[]⟩ : ByteArray), (⟨#[]⟩ : ByteArray))).2) else none) else (some (⟨#[]⟩ : ByteArray))) = some t
  | 0, i, _, h => by omega
  | m + 1, i, hi, h => by
    rw [f109.l12, f81.l18]
    by_cases hlt : i < x.length
    · have h1 : (decide ((i : Int) < (List.length x : Int))) = true := by simpa using hlt
      have hbd : (0 : Int) ≤ (i : Int) ∧ (i : Int) < (List.length x : Int) := ⟨by omega, by omega⟩
      rw [h1, if_t rfl, if_t rfl, if_t hbd, if_t hbd]
      by_cases hb : (ByteArray.toList (List.getD x (Int.toNat (i : Int)) ((⟨#[]⟩ : ByteArray), (⟨#[]⟩ : ByteArray))).1 == ByteArray.toList s) = true
      · rw [if_t hb, if_t hb, if_t hbd]
        refine ⟨_, _, rfl, rfl, ?_⟩
        rw [if_t (by simp), if_t hbd]
      · rw [if_f hb, if_f hb, wrap_s (by omega)]
        exact find18 k x s hx m (i + 1) (by omega) (by omega)
    · have h1 : (decide ((i : Int) < (List.length x : Int))) = false := by simpa using hlt
      rw [h1, if_f (by simp), if_f (by simp)]
      refine ⟨_, _, rfl, rfl, ?_⟩
      rw [if_f (by simp)]

theorem tagof (k : Nat) (x : Tags) (s : ByteArray) (hx : x.length ≤ 9223372036854775807) (hk : x.length < k) : ∃ t, f81 k x s = some t ∧ f83 k x s = some t := by
  obtain ⟨r, t, h1, h2, h3⟩ := find18 k x s hx k 0 (by omega) (by omega)
  refine ⟨t, h2, ?_⟩
  unfold f83 f109
  have h1' : f109.l12 k x s k (0 : Int) = some r := h1
  rw [h1']
  exact h3

theorem oneway_same (k : Nat) (x : Tags) (v : Int) (hx : x.length ≤ 9223372036854775807) (hk : x.length < k) : ∃ r, f19 k x v = some r ∧ f21 k x v = some r := by
  obtain ⟨t, h1, h2⟩ := tagof k x (⟨#[111, 110, 101, 119, 97, 121]⟩ : ByteArray) hx hk
  obtain ⟨t', h3, h4⟩ := tagof k x (⟨#[106, 117, 110, 99, 116, 105, 111, 110]⟩ : ByteArray) hx hk
  simp only [f19, f21, h1, h2, h3, h4, Option.bind_some]
  have e1 : (ByteArray.toList (⟨#[]⟩ : ByteArray)) = [] := by decide +kernel
  have e2 : (ByteArray.toList (⟨#[121, 101, 115]⟩ : ByteArray)) = [121, 101, 115] := by decide +kernel
  have e3 : (ByteArray.toList (⟨#[45, 49]⟩ : ByteArray)) = [45, 49] := by decide +kernel
  have e4 : (ByteArray.toList (⟨#[114, 105, 110, 103]⟩ : ByteArray)) = [114, 105, 110, 103] := by decide +kernel
  rw [e1, e2, e3, e4]
  generalize ByteArray.toList t = u
  by_cases hv : v = 1
  · subst hv
    by_cases hu : u = []
    · subst hu
      by_cases hr : ByteArray.toList t' = [114, 105, 110, 103]
      · simp [hr]
      · simp [hr]
    · by_cases hy : u = [121, 101, 115]
      · subst hy; simp
      · by_cases hm : u = [45, 49]
        · subst hm; simp
        · simp [hu, hy, hm]
  · simp [hv]

theorem law4 (k : Nat) (x : Tags) (v : Int) (hx : x.length ≤ 9223372036854775807) (hk : x.length < k) : f4 k x v = some true := by
  have h18 : ∃ r, f18 k x 1048576 = some r ∧ (¬ r < 0 → x.length ≤ 1048576) := by
    unfold f18
    rw [wrap_in (by omega) (by omega)]
    by_cases h : ((1048576 : Int) - (List.length x : Int)) < 0
    · rw [if_t (by simpa using h)]; exact ⟨_, rfl, fun h => absurd (by omega) h⟩
    · rw [if_f (by simpa using h)]
      obtain ⟨r, hr⟩ := sz28 k x (by omega) k 0 ((1048576 : Int) - (List.length x : Int)) (by omega) (by omega)
      exact ⟨r, hr, fun _ => by omega⟩
  obtain ⟨r, hr, hle⟩ := h18
  unfold f4
  rw [hr]
  simp only [Option.bind_some]
  by_cases hneg : r < 0
  · rw [if_t (by simpa using hneg)]
  · rw [if_f (by simpa using hneg)]
    have hle := hle hneg
    obtain ⟨q, h1, h2⟩ := oneway_same k x v (by omega) hk
    simp only [copy20 k x hle hk, Option.bind_some, h1, h2]
    rw [if_f (by simp)]
    have h22 : f22 k x x = some true := by
      unfold f22
      rw [if_f (by simp)]
      exact eq30 k x (by omega) k 0 (by omega) (by omega)
    simp only [h22, Option.bind_some]
    simp

theorem own : ownKnob Try.prog.godebug = none := by kernel_rfl
def shs4 : List Sh := [sh0, .int .i64]
set_option maxRecDepth 100000 in
theorem call4 (ins : List TV) (h1 : ins.map (·.sh) = shs4) (h2 : ∀ t ∈ ins, t.sh.wf t.x) : PCall Try.prog 4 ins [⟨.bool, true⟩] := by
  match ins, h1 with
  | [⟨_, x0⟩, ⟨_, x1⟩], h1 =>
    simp only [List.map_cons, List.map_nil, shs4, List.cons.injEq, and_true] at h1
    obtain ⟨rfl, rfl⟩ := h1
    have hl : List.length (x0 : Tags) ≤ 9223372036854775807 := (h2 ⟨sh0, x0⟩ List.mem_cons_self).1
    exact c4 (List.length (x0 : Tags) + 1) x0 x1 true (law4 _ x0 x1 hl (Nat.lt_succ_self _))

set_option maxRecDepth 100000 in
theorem lifted4 (os : Os) (started : os.Started) (H : Type) (enc : TypeId × Value → H) :
    ReturnsInHanded {} Try.checked os 4 .any (Rows.fnExactOnewaySpec.pre6 enc Try.prog Try.f4 Rows.fnExactOnewayRow.domain false) (Rows.fnExactOnewaySpec.post enc Try.prog Try.f4 false true false false) := by
  refine returnsInHanded_of_change (C := Try.checked) own started (by kernel_rfl) Try.func4
    (ChangeSpec.witness6 (enc := enc) (C := Try.checked) (s := Rows.fnExactOnewaySpec) false ⟨#[], #[.slice none 0 0, .int .i64 0], []⟩ 8 (by kernel_rfl) (by kernel_rfl) (by kernel_rfl) (by kernel_rfl)) ?_
  intro W base args ds gs before hval hW _ _
  exact row_step (T := tbl) (m := 8) (tb := 4) tok (by kernel_rfl) (by kernel_rfl) rfl Try.underlying4 rfl
    (fun ds hl => by
      match ds, hl with
      | [d1, d2], _ => rfl)
    (by kernel_rfl) (shs := shs4) (by kernel_rfl) call4 hval hW

theorem over4 : Rows.fnExactOnewayRow.holds Try.pinned (OpenSpec.ofChange Rows.fnExactOnewaySpec) :=
  OpenClaim.holds_of_wide 4 Try.f4 rfl rfl rfl rfl rfl rfl rfl ⟨rfl, rfl, rfl, rfl, rfl⟩ rfl rfl rfl rfl rfl (by kernel_rfl) Try.func4 (by kernel_rfl)
    (of_decide_eq_true (by kernel_rfl)) (by unfold Func.isWrapper; first | (rw [if_pos (by decide +kernel)]; kernel_rfl) | (rw [if_neg (by decide +kernel)]; exact ⟨rfl, rfl⟩))
    (fun os started H enc _ => lifted4 os started H enc)

theorem FnExactOneway_holds : Rows.FnExactOnewaySaid := over4
#print axioms FnExactOneway_holds
end Go.Proofs.Ytijlnlonlmcdoaa
