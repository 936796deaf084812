/- The contracts of sort.Slice that the printed proofs lean on. -/
import Derived.Test.YtnpaokckkbhdjaaSoG
import Derived.Test.YtnpaokckkbhdjaaVmSr
set_option linter.unusedVariables false
set_option linter.unusedSimpArgs false
open Go Go.Vm Go.Proofs Go.Lib
namespace Go.Proofs.Ytnpaokckkbhdjaa.S
theorem info_get {t : TypeId} {α : Type} {p : TypeInfo → α} {x : α} (h : (Try.prog.info? t).map p = some x) : ∃ i, Try.prog.info? t = some i ∧ p i = x := by
  cases hi : Try.prog.info? t with
  | none => rw [hi] at h; cases h
  | some i => rw [hi] at h; exact ⟨i, rfl, by simpa using h⟩
def swK (p : Bool) (bytes ke : Nat) : Nat := if p && bytes == 8 then 3 else if p && (ke == 24) then 4 else if p then 9 else match bytes with | 8 => 5 | 4 => 6 | 2 => 7 | 1 => 8 | _ => 9
theorem sc73 {t e : TypeId} {sz : Nat} {p : Bool} {bytes ke K f : Nat} {gS : Bool} (hi : (Try.prog.info? t).map (fun i => i.desc) = some (.slice e)) (hpk : Try.prog.packed t = false) (hie : (Try.prog.info? e).map (fun i => (i.size, i.hasPointers, i.bytes)) = some (sz, p, bytes))
    (hke : ∀ w, (Extern.Rtype.kind e).run Try.prog w = .ok ke w) (hk : (∀ w, (Go.isAgg e).run Try.prog w = .ok true w) ∨ (sz = 1 ∧ ∀ w, (Go.isAgg e).run Try.prog w = .ok false w))
    (hK : swK p bytes ke = K)
    (hf : Try.prog.funcs.findIdx? (·.name == "internal/reflectlite" ++ ".Swapper$" ++ toString K) = some f) (hx : ∀ args W, (callFunc f args).run Try.prog W = ((Extern.ReflectliteSwapper.swap gS args).run Try.prog W).andThen fun v w' => .ok (.value v) w') :
    SortC Try.prog 73 t e sz pdqR := by
  obtain ⟨i, hi1, hi2⟩ := info_get hi
  obtain ⟨ie, he1, he2⟩ := info_get hie
  simp only [Prod.mk.injEq] at he2
  obtain ⟨q1, q2, q3⟩ := he2
  intro w1 B A n cp c rest lt g lb hn hB hnil hc h1 hlt hless
  refine slice73 hi1 hi2 hpk he1 hke hn hB hnil q1 hc h1 hk hlt hless (fun h2 => ⟨f, gS, ?_, hx⟩)
  have a1 : (n == 0) = false := by simp; omega
  have a2 : (n == 1) = false := by simp; omega
  have : swapperK n ie ke = K := by
    unfold swapperK
    simp only [a1, a2, Bool.false_eq_true, if_false]
    rw [q2, q3]
    exact hK
  rw [this]
  exact hf
/-- A row of labels. -/
theorem sc73_26 : SortC Try.prog 73 26 54 6 pdqR := sc73 (gS := false) (p := false) (bytes := 48) (ke := 25) (by kernel_rfl) (by kernel_rfl) (by kernel_rfl) (fun w => by kernel_rfl) (.inl fun w => by kernel_rfl) (K := 9) (by kernel_rfl) find9 lit9
/-- A row of numbers. -/
theorem sc73_23 : SortC Try.prog 73 23 2 1 pdqR := sc73 (gS := true) (p := false) (bytes := 8) (ke := 6) (by kernel_rfl) (by kernel_rfl) (by kernel_rfl) (fun w => by kernel_rfl) (.inr ⟨rfl, fun w => by kernel_rfl⟩) (K := 5) (by kernel_rfl) find5 lit5
end Go.Proofs.Ytnpaokckkbhdjaa.S
