/-
  THE CONTRACTS OF SOME FUNCTIONS OF THIS SEAT, PRINTED BY A PROGRAM OF THIS PROJECT (wip/gen/vgen.py).
-/
import Derived.Test.YtchbpdnaodicaaaProg
import Derived.Test.YtchbpdnaodicaaaVmW
import Derived.Test.YtchbpdnaodicaaaVmZ
import Derived.KernelRfl
set_option linter.unusedVariables false
open Go Go.Vm Go.Proofs
namespace Go.Proofs.Ytchbpdnaodicaaa.V
set_option maxRecDepth 100000
abbrev zR : Int × (Int × (Int × (Int × (Int × ByteArray)))) := ((0 : Int), ((0 : Int), ((0 : Int), ((0 : Int), ((0 : Int), (⟨#[]⟩ : ByteArray))))))
abbrev tG := ((List (Int × (Int × Int))) × ((List (Int × (Int × (Int × (Int × (Int × ByteArray)))))) × (List (Int × Int))))
abbrev tN := (((List (Int × (Int × Int))) × ((List (Int × (Int × (Int × (Int × (Int × ByteArray)))))) × (List (Int × Int)))) × ((List (List Int)) × ((List (List Int)) × (Option (List ((Int × Int) × Bool))))))
abbrev gD {α : Type} (l : List α) (i : Nat) (d : α) : α := List.getD l i d
abbrev tZ (n : Int) : Nat := Int.toNat n
abbrev iO : Int := 0
abbrev lO : List Int := []
theorem nw {p : Prop} : ([] : List Nat) = [] ∨ p := .inl rfl
abbrev o0 := orcL []
theorem ac {p : Prop} {l : List Prop} (h : p) (t : AllP l) : AllP (p :: l) := AllP.cons h t
theorem an : AllP [] := AllP.nil
abbrev sh0 : Sh := (.sl false 213 (.st (.pair (.int .i64) (.st (.pair (.int .i64) (.int .i64))))))
abbrev sh1 : Sh := (.st (.pair (.int .i64) (.pair (.int .i64) (.pair (.int .i64) (.pair (.int .i64) (.pair (.int .i64) .str))))))
abbrev sh2 : Sh := (.sl false 205 (.st (.pair (.int .i64) (.pair (.int .i64) (.pair (.int .i64) (.pair (.int .i64) (.pair (.int .i64) .str)))))))
abbrev sh3 : Sh := (.sl false 216 (.st (.pair (.int .i64) (.int .i64))))
abbrev sh4 : Sh := (.st (.pair (.sl false 213 (.st (.pair (.int .i64) (.st (.pair (.int .i64) (.int .i64)))))) (.pair (.sl false 205 (.st (.pair (.int .i64) (.pair (.int .i64) (.pair (.int .i64) (.pair (.int .i64) (.pair (.int .i64) .str))))))) (.sl false 216 (.st (.pair (.int .i64) (.int .i64)))))))
abbrev sh5 : Sh := (.st (.pair (.int .i64) (.pair (.int .i64) (.pair .str (.pair (.int .i64) (.int .i64))))))
abbrev sh6 : Sh := (.sl false 134 (.st (.pair (.int .i64) (.pair (.int .i64) (.pair .str (.pair (.int .i64) (.int .i64)))))))
abbrev sh7 : Sh := (.st (.pair (.int .i64) (.int .i64)))
abbrev sh8 : Sh := (.st (.pair (.int .i64) (.st (.pair (.int .i64) (.int .i64)))))
abbrev sh9 : Sh := (.sl true 176 (.st (.pair (.int .i64) (.st (.pair (.int .i64) (.int .i64))))))
abbrev sh10 : Sh := (.sl true 110 (.st (.pair (.int .i64) (.pair (.int .i64) (.pair (.int .i64) (.pair (.int .i64) (.pair (.int .i64) .str)))))))
abbrev sh11 : Sh := (.sl true 167 (.st (.pair (.int .i64) (.int .i64))))
abbrev sh12 : Sh := (.st (.pair (.sl true 176 (.st (.pair (.int .i64) (.st (.pair (.int .i64) (.int .i64)))))) (.pair (.sl true 110 (.st (.pair (.int .i64) (.pair (.int .i64) (.pair (.int .i64) (.pair (.int .i64) (.pair (.int .i64) .str))))))) (.sl true 167 (.st (.pair (.int .i64) (.int .i64)))))))
abbrev sh13 : Sh := (.sl true 114 (.st (.pair (.int .i64) (.pair (.int .i64) (.pair .str (.pair (.int .i64) (.int .i64)))))))
abbrev sh14 : Sh := (.pt true 35 (.st (.pair (.sl false 176 (.st (.pair (.int .i64) (.st (.pair (.int .i64) (.int .i64)))))) (.pair (.sl false 110 (.st (.pair (.int .i64) (.pair (.int .i64) (.pair (.int .i64) (.pair (.int .i64) (.pair (.int .i64) .str))))))) (.sl false 167 (.st (.pair (.int .i64) (.int .i64))))))))
abbrev sh15 : Sh := (.st (.pair (.sl false 176 (.st (.pair (.int .i64) (.st (.pair (.int .i64) (.int .i64)))))) (.pair (.sl false 110 (.st (.pair (.int .i64) (.pair (.int .i64) (.pair (.int .i64) (.pair (.int .i64) (.pair (.int .i64) .str))))))) (.sl false 167 (.st (.pair (.int .i64) (.int .i64)))))))
abbrev sh16 : Sh := (.sl true 27 (.sl true 2 (.int .i64)))
abbrev sh17 : Sh := (.pt true 167 (.st (.pair (.int .i64) (.int .i64))))
abbrev sh18 : Sh := (.sl false 27 (.sl false 2 (.int .i64)))
abbrev sh19 : Sh := (.pt true 114 (.st (.pair (.int .i64) (.pair (.int .i64) (.pair .str (.pair (.int .i64) (.int .i64)))))))
abbrev sh20 : Sh := (.sl false 114 (.st (.pair (.int .i64) (.pair (.int .i64) (.pair .str (.pair (.int .i64) (.int .i64)))))))
abbrev sh21 : Sh := (.pt true 152 (.st (.pair (.sl true 2 (.int .i64)) (.sl true 2 (.int .i64)))))
abbrev sh22 : Sh := (.st (.pair (.sl true 2 (.int .i64)) (.sl true 2 (.int .i64))))
abbrev sh23 : Sh := (.pt true 152 (.st (.pair (.sl false 2 (.int .i64)) (.sl false 2 (.int .i64)))))
abbrev sh24 : Sh := (.st (.pair (.sl false 2 (.int .i64)) (.sl false 2 (.int .i64))))
abbrev sh25 : Sh := (.pt true 69 (.st (.pair .bool (.pair (.sl true 2 (.int .i64)) (.pair (.int .i64) (.int .i64))))))
abbrev sh26 : Sh := (.st (.pair .bool (.pair (.sl true 2 (.int .i64)) (.pair (.int .i64) (.int .i64)))))
abbrev sh27 : Sh := (.sl false 176 (.st (.pair (.int .i64) (.st (.pair (.int .i64) (.int .i64))))))
abbrev sh28 : Sh := (.sl false 110 (.st (.pair (.int .i64) (.pair (.int .i64) (.pair (.int .i64) (.pair (.int .i64) (.pair (.int .i64) .str)))))))
abbrev sh29 : Sh := (.sl false 167 (.st (.pair (.int .i64) (.int .i64))))
abbrev sh30 : Sh := (.pt true 218 (.st (.pair (.st (.pair (.sl false 176 (.st (.pair (.int .i64) (.st (.pair (.int .i64) (.int .i64)))))) (.pair (.sl false 110 (.st (.pair (.int .i64) (.pair (.int .i64) (.pair (.int .i64) (.pair (.int .i64) (.pair (.int .i64) .str))))))) (.sl false 167 (.st (.pair (.int .i64) (.int .i64))))))) (.pair (.sl true 27 (.sl true 2 (.int .i64))) (.pair (.sl true 27 (.sl true 2 (.int .i64))) (.mp true (.st (.pair (.int .i64) (.int .i64))) .bool))))))
abbrev sh31 : Sh := (.pt false 0 (.st (.pair (.st (.pair (.sl false 176 (.st (.pair (.int .i64) (.st (.pair (.int .i64) (.int .i64)))))) (.pair (.sl false 110 (.st (.pair (.int .i64) (.pair (.int .i64) (.pair (.int .i64) (.pair (.int .i64) (.pair (.int .i64) .str))))))) (.sl false 167 (.st (.pair (.int .i64) (.int .i64))))))) (.pair (.sl false 27 (.sl false 2 (.int .i64))) (.pair (.sl false 27 (.sl false 2 (.int .i64))) (.mp false (.st (.pair (.int .i64) (.int .i64))) .bool))))))
abbrev sh32 : Sh := (.st (.pair (.int .i64) (.pair (.int .i64) (.int .i64))))
abbrev sh33 : Sh := (.pt true 294 (.st (.pair (.sl true 297 (.st (.pair (.int .i64) (.pair (.int .i64) (.int .i64))))) .unit)))
abbrev sh34 : Sh := (.pt true 297 (.st (.pair (.int .i64) (.pair (.int .i64) (.int .i64)))))
abbrev sh35 : Sh := (.pt false 0 (.sl false 2 (.int .i64)))
abbrev sh36 : Sh := (.pt false 0 (.pt false 0 (.st (.pair (.st (.pair (.sl false 176 (.st (.pair (.int .i64) (.st (.pair (.int .i64) (.int .i64)))))) (.pair (.sl false 110 (.st (.pair (.int .i64) (.pair (.int .i64) (.pair (.int .i64) (.pair (.int .i64) (.pair (.int .i64) .str))))))) (.sl false 167 (.st (.pair (.int .i64) (.int .i64))))))) (.pair (.sl false 27 (.sl false 2 (.int .i64))) (.pair (.sl false 27 (.sl false 2 (.int .i64))) (.mp false (.st (.pair (.int .i64) (.int .i64))) .bool)))))))
abbrev sh37 : Sh := (.fn 188 (.pair (.pt false 0 (.pt false 0 (.st (.pair (.st (.pair (.sl false 176 (.st (.pair (.int .i64) (.st (.pair (.int .i64) (.int .i64)))))) (.pair (.sl false 110 (.st (.pair (.int .i64) (.pair (.int .i64) (.pair (.int .i64) (.pair (.int .i64) (.pair (.int .i64) .str))))))) (.sl false 167 (.st (.pair (.int .i64) (.int .i64))))))) (.pair (.sl false 27 (.sl false 2 (.int .i64))) (.pair (.sl false 27 (.sl false 2 (.int .i64))) (.mp false (.st (.pair (.int .i64) (.int .i64))) .bool))))))) (.pair (.pt false 0 (.int .i64)) .unit)))
abbrev sh38 : Sh := (.pt true 120 (.pt false 0 (.st (.pair (.st (.pair (.sl false 176 (.st (.pair (.int .i64) (.st (.pair (.int .i64) (.int .i64)))))) (.pair (.sl false 110 (.st (.pair (.int .i64) (.pair (.int .i64) (.pair (.int .i64) (.pair (.int .i64) (.pair (.int .i64) .str))))))) (.sl false 167 (.st (.pair (.int .i64) (.int .i64))))))) (.pair (.sl false 27 (.sl false 2 (.int .i64))) (.pair (.sl false 27 (.sl false 2 (.int .i64))) (.mp false (.st (.pair (.int .i64) (.int .i64))) .bool)))))))
abbrev sh39 : Sh := (.pt true 27 (.sl true 2 (.int .i64)))
abbrev sh40 : Sh := (.st (.pair .bool (.pair (.sl false 2 (.int .i64)) (.pair (.int .i64) (.int .i64)))))
def tbl : Tbl := [⟨2, .int .i64, 1, 8, (.int .i64)⟩,
  ⟨3, .int .i64, 1, 8, (.int .i64)⟩,
  ⟨4, .bool, 1, 1, .bool⟩,
  ⟨5, .int .u8, 1, 1, (.int .u8)⟩,
  ⟨9, .string, 1, 16, .str⟩,
  ⟨22, .slice 213, 1, 24, (.sl true 213 (.st (.pair (.int .i64) (.st (.pair (.int .i64) (.int .i64))))))⟩,
  ⟨23, .slice 205, 1, 24, (.sl true 205 (.st (.pair (.int .i64) (.pair (.int .i64) (.pair (.int .i64) (.pair (.int .i64) (.pair (.int .i64) .str)))))))⟩,
  ⟨24, .slice 216, 1, 24, (.sl true 216 (.st (.pair (.int .i64) (.int .i64))))⟩,
  ⟨26, .struct [(22, 0), (23, 1), (24, 2)], 3, 72, (.st (.pair (.sl true 213 (.st (.pair (.int .i64) (.st (.pair (.int .i64) (.int .i64)))))) (.pair (.sl true 205 (.st (.pair (.int .i64) (.pair (.int .i64) (.pair (.int .i64) (.pair (.int .i64) (.pair (.int .i64) .str))))))) (.sl true 216 (.st (.pair (.int .i64) (.int .i64)))))))⟩,
  ⟨27, .slice 2, 1, 24, (.sl true 2 (.int .i64))⟩,
  ⟨29, .slice 114, 1, 24, (.sl true 114 (.st (.pair (.int .i64) (.pair (.int .i64) (.pair .str (.pair (.int .i64) (.int .i64)))))))⟩,
  ⟨31, .slice 176, 1, 24, (.sl true 176 (.st (.pair (.int .i64) (.st (.pair (.int .i64) (.int .i64))))))⟩,
  ⟨32, .slice 110, 1, 24, (.sl true 110 (.st (.pair (.int .i64) (.pair (.int .i64) (.pair (.int .i64) (.pair (.int .i64) (.pair (.int .i64) .str)))))))⟩,
  ⟨33, .slice 167, 1, 24, (.sl true 167 (.st (.pair (.int .i64) (.int .i64))))⟩,
  ⟨35, .struct [(31, 0), (32, 1), (33, 2)], 3, 72, (.st (.pair (.sl true 176 (.st (.pair (.int .i64) (.st (.pair (.int .i64) (.int .i64)))))) (.pair (.sl true 110 (.st (.pair (.int .i64) (.pair (.int .i64) (.pair (.int .i64) (.pair (.int .i64) (.pair (.int .i64) .str))))))) (.sl true 167 (.st (.pair (.int .i64) (.int .i64)))))))⟩,
  ⟨45, .slice 134, 1, 24, (.sl true 134 (.st (.pair (.int .i64) (.pair (.int .i64) (.pair .str (.pair (.int .i64) (.int .i64)))))))⟩,
  ⟨62, .slice 27, 1, 24, (.sl true 27 (.sl true 2 (.int .i64)))⟩,
  ⟨69, .struct [(4, 0), (27, 1), (2, 2), (2, 3)], 4, 48, (.st (.pair .bool (.pair (.sl true 2 (.int .i64)) (.pair (.int .i64) (.int .i64)))))⟩,
  ⟨110, .struct [(2, 0), (2, 1), (2, 2), (2, 3), (2, 4), (9, 5)], 6, 56, (.st (.pair (.int .i64) (.pair (.int .i64) (.pair (.int .i64) (.pair (.int .i64) (.pair (.int .i64) .str))))))⟩,
  ⟨114, .struct [(2, 0), (2, 1), (9, 2), (2, 3), (2, 4)], 5, 48, (.st (.pair (.int .i64) (.pair (.int .i64) (.pair .str (.pair (.int .i64) (.int .i64))))))⟩,
  ⟨120, .ptr 218, 1, 8, (.pt true 218 (.st (.pair (.st (.pair (.sl true 176 (.st (.pair (.int .i64) (.st (.pair (.int .i64) (.int .i64)))))) (.pair (.sl true 110 (.st (.pair (.int .i64) (.pair (.int .i64) (.pair (.int .i64) (.pair (.int .i64) (.pair (.int .i64) .str))))))) (.sl true 167 (.st (.pair (.int .i64) (.int .i64))))))) (.pair (.sl true 27 (.sl true 2 (.int .i64))) (.pair (.sl true 27 (.sl true 2 (.int .i64))) (.mp true (.st (.pair (.int .i64) (.int .i64))) .bool))))))⟩,
  ⟨134, .struct [(2, 0), (2, 1), (9, 2), (2, 3), (2, 4)], 5, 48, (.st (.pair (.int .i64) (.pair (.int .i64) (.pair .str (.pair (.int .i64) (.int .i64))))))⟩,
  ⟨152, .struct [(27, 0), (27, 1)], 2, 48, (.st (.pair (.sl true 2 (.int .i64)) (.sl true 2 (.int .i64))))⟩,
  ⟨167, .struct [(2, 0), (2, 1)], 2, 16, (.st (.pair (.int .i64) (.int .i64)))⟩,
  ⟨168, .map 167 4, 1, 8, (.mp true (.st (.pair (.int .i64) (.int .i64))) .bool)⟩,
  ⟨174, .struct [(2, 0), (2, 1)], 2, 16, (.st (.pair (.int .i64) (.int .i64)))⟩,
  ⟨176, .struct [(2, 0), (174, 1)], 3, 24, (.st (.pair (.int .i64) (.st (.pair (.int .i64) (.int .i64)))))⟩,
  ⟨181, .slice 4, 1, 24, (.sl true 4 .bool)⟩,
  ⟨205, .struct [(2, 0), (2, 1), (2, 2), (2, 3), (2, 4), (9, 5)], 6, 56, (.st (.pair (.int .i64) (.pair (.int .i64) (.pair (.int .i64) (.pair (.int .i64) (.pair (.int .i64) .str))))))⟩,
  ⟨211, .struct [(2, 0), (2, 1)], 2, 16, (.st (.pair (.int .i64) (.int .i64)))⟩,
  ⟨213, .struct [(2, 0), (211, 1)], 3, 24, (.st (.pair (.int .i64) (.st (.pair (.int .i64) (.int .i64)))))⟩,
  ⟨216, .struct [(2, 0), (2, 1)], 2, 16, (.st (.pair (.int .i64) (.int .i64)))⟩,
  ⟨218, .struct [(35, 0), (62, 3), (62, 4), (168, 5)], 6, 128, (.st (.pair (.st (.pair (.sl true 176 (.st (.pair (.int .i64) (.st (.pair (.int .i64) (.int .i64)))))) (.pair (.sl true 110 (.st (.pair (.int .i64) (.pair (.int .i64) (.pair (.int .i64) (.pair (.int .i64) (.pair (.int .i64) .str))))))) (.sl true 167 (.st (.pair (.int .i64) (.int .i64))))))) (.pair (.sl true 27 (.sl true 2 (.int .i64))) (.pair (.sl true 27 (.sl true 2 (.int .i64))) (.mp true (.st (.pair (.int .i64) (.int .i64))) .bool)))))⟩,
  ⟨222, .slice 5, 1, 24, (.sl true 5 (.int .u8))⟩,
  ⟨291, .ptr 294, 1, 8, (.pt true 294 (.st (.pair (.sl true 297 (.st (.pair (.int .i64) (.pair (.int .i64) (.int .i64))))) .unit)))⟩,
  ⟨292, .slice 297, 1, 24, (.sl true 297 (.st (.pair (.int .i64) (.pair (.int .i64) (.int .i64)))))⟩,
  ⟨294, .struct [(292, 0)], 1, 24, (.st (.pair (.sl true 297 (.st (.pair (.int .i64) (.pair (.int .i64) (.int .i64))))) .unit))⟩,
  ⟨297, .struct [(2, 0), (2, 1), (2, 2)], 3, 24, (.st (.pair (.int .i64) (.pair (.int .i64) (.int .i64))))⟩]
theorem tok : TOk Try.prog tbl := by unfold TOk; kernel_rfl

def f67 (k : Nat) (x0 : (List (Int × (Int × Int)))) (x1 : Int) : Option Int := if (decide (((IntKind.i64.wrap (x1 - (List.length x0 : Int))) : Int) < (0 : Int))) then (some (-1 : Int)) else (some (IntKind.i64.wrap (x1 - (List.length x0 : Int))))
theorem c67 (k : Nat) (x0 : (List (Int × (Int × Int)))) (x1 : Int) (r : Int) (hF : f67 k x0 x1 = some r) : PCall Try.prog 67 [⟨sh0, x0⟩, ⟨(.int .i64), x1⟩] [⟨(.int .i64), r⟩] := by
  refine pcall_intro Try.func67 rfl rfl (Nat.le_of_ble_eq_true rfl) ?_
  intro w0 Zi a w h
  rw [f67] at hF
  refine wp_reg_seq tok (orc := o0) (l := [0, 1]) nw h (by kernel_rfl) an fun a w h => ?_
  refine wp_reg_seq tok (orc := o0) (l := [1]) nw h (by kernel_rfl) an fun a w h => ?_
  refine wp_seq ?_
  refine wp_reg_seq tok (orc := o0) (l := [1, 10]) nw h (by kernel_rfl) an fun a w h => ?_
  refine wp_if h (b := (decide (((w64 (x1 - (List.length x0 : Int))) : Int) < iO))) (by kernel_rfl) (fun hb => ?_) (fun hb => ?_)
  · replace hF := of_t hb hF
    refine wp_reg_seq tok (orc := o0) (l := [4]) nw h (by kernel_rfl) an fun a w h => ?_
    cases hF
    exact wp_ret (ret_okR tok h rfl (by kernel_rfl)).1
  · replace hF := of_f hb hF
    refine wp_skip ?_
    refine wp_reg_seq tok (orc := o0) (l := [4]) nw h (by kernel_rfl) an fun a w h => ?_
    cases hF
    exact wp_ret (ret_okR tok h rfl (by kernel_rfl)).1

def f157 (k : Nat) (x0 : (Int × (Int × (Int × (Int × (Int × ByteArray)))))) (x1 : Int) : Option Int := if (decide (((IntKind.i64.wrap (x1 - (ByteArray.size x0.2.2.2.2.2 : Int))) : Int) < (0 : Int))) then (some (-1 : Int)) else (some (IntKind.i64.wrap (x1 - (ByteArray.size x0.2.2.2.2.2 : Int))))
theorem c157 (k : Nat) (x0 : (Int × (Int × (Int × (Int × (Int × ByteArray)))))) (x1 : Int) (r : Int) (hF : f157 k x0 x1 = some r) : PCall Try.prog 157 [⟨sh1, x0⟩, ⟨(.int .i64), x1⟩] [⟨(.int .i64), r⟩] := by
  refine pcall_intro Try.func157 rfl rfl (Nat.le_of_ble_eq_true rfl) ?_
  intro w0 Zi a w h
  rw [f157] at hF
  refine wp_reg_seq tok (orc := o0) (l := [1, 2]) nw h (by kernel_rfl) an fun a w h => ?_
  refine wp_reg_seq tok (orc := o0) (l := [1]) nw h (by kernel_rfl) an fun a w h => ?_
  refine wp_seq ?_
  refine wp_reg_seq tok (orc := o0) (l := [1, 11]) nw h (by kernel_rfl) an fun a w h => ?_
  refine wp_if h (b := (decide (((w64 (x1 - (ByteArray.size x0.2.2.2.2.2 : Int))) : Int) < iO))) (by kernel_rfl) (fun hb => ?_) (fun hb => ?_)
  · replace hF := of_t hb hF
    refine wp_reg_seq tok (orc := o0) (l := [4]) nw h (by kernel_rfl) an fun a w h => ?_
    cases hF
    exact wp_ret (ret_okR tok h rfl (by kernel_rfl)).1
  · replace hF := of_f hb hF
    refine wp_skip ?_
    refine wp_reg_seq tok (orc := o0) (l := [4]) nw h (by kernel_rfl) an fun a w h => ?_
    cases hF
    exact wp_ret (ret_okR tok h rfl (by kernel_rfl)).1

def f68.l28 (k : Nat) (x0 : (List (Int × (Int × (Int × (Int × (Int × ByteArray))))))) : Nat → (Int × Int) → Option Int
  | 0, _ => none
  | m28 + 1, (v47, v48) => if (decide ((v48 : Int) < (List.length x0 : Int))) then (if (0 ≤ v48 ∧ v48 < (List.length x0 : Int)) then ((f157 k (List.getD x0 (Int.toNat v48) ((0 : Int), ((0 : Int), ((0 : Int), ((0 : Int), ((0 : Int), (⟨#[]⟩ : ByteArray))))))) v47).bind fun r52 => (if (decide ((r52 : Int) < (0 : Int))) then (some (-1 : Int)) else ((f68.l28 k x0) m28 (r52, (IntKind.i64.wrap (v48 + (1 : Int))))))) else none) else (some v47)
def f68 (k : Nat) (x0 : (List (Int × (Int × (Int × (Int × (Int × ByteArray))))))) (x1 : Int) : Option Int := if (decide (((IntKind.i64.wrap (x1 - (List.length x0 : Int))) : Int) < (0 : Int))) then (some (-1 : Int)) else (f68.l28 k x0 k ((IntKind.i64.wrap (x1 - (List.length x0 : Int))), (0 : Int)))
theorem c68 (k : Nat) (x0 : (List (Int × (Int × (Int × (Int × (Int × ByteArray))))))) (x1 : Int) (r : Int) (hF : f68 k x0 x1 = some r) : PCall Try.prog 68 [⟨sh2, x0⟩, ⟨(.int .i64), x1⟩] [⟨(.int .i64), r⟩] := by
  refine pcall_intro Try.func68 rfl rfl (Nat.le_of_ble_eq_true rfl) ?_
  intro w0 Zi a w h
  rw [f68] at hF
  refine wp_reg_seq tok (orc := o0) (l := [0, 1]) nw h (by kernel_rfl) an fun a w h => ?_
  refine wp_reg_seq tok (orc := o0) (l := [0, 1]) nw h (by kernel_rfl) an fun a w h => ?_
  refine wp_seq ?_
  refine wp_reg_seq tok (orc := o0) (l := [0, 1, 11]) nw h (by kernel_rfl) an fun a w h => ?_
  refine wp_if h (b := (decide (((w64 (x1 - (List.length x0 : Int))) : Int) < iO))) (by kernel_rfl) (fun hb => ?_) (fun hb => ?_)
  · replace hF := of_t hb hF
    refine wp_reg_seq tok (orc := o0) (l := [4]) nw h (by kernel_rfl) an fun a w h => ?_
    cases hF
    exact wp_ret (ret_okR tok h rfl (by kernel_rfl)).1
  · replace hF := of_f hb hF
    refine wp_skip ?_
    refine wp_seq ?_
    refine wp_reg_seq tok (orc := o0) (l := [0, 1, 5]) nw h (by kernel_rfl) an fun a w h => ?_
    refine wp_block ?_
    refine wp_loop_fuel (f68.l28 k x0) (fun ((v47, v48) : (Int × Int)) => [(0, .val sh2 x0), (1, .val (.int .i64) v47), (5, .val (.int .i64) v48)]) (fun v h => by obtain ⟨v47, v48⟩ := v; rw [f68.l28] at h; cases h) ?_ hF (h.arrive (l := [0, 1, 5]) nw (by kernel_rfl))
    intro m28 v a w hF h
    obtain ⟨v47, v48⟩ := v
    rw [f68.l28] at hF
    refine wp_seq ?_
    refine wp_reg_seq tok (orc := o0) (l := [0, 1, 5, 15]) nw h (by kernel_rfl) an fun a w h => ?_
    refine wp_if h (b := (decide ((v48 : Int) < (List.length x0 : Int)))) (by kernel_rfl) (fun hb => ?_) (fun hb => ?_)
    · replace hF := of_t hb hF
      refine wp_skip ?_
      refine wp_seq <| wp_block ?_
      obtain ⟨hc53, hF⟩ := of_if hF
      obtain ⟨r52, hr54, hF⟩ := of_bind hF
      refine wp_reg_seq tok (orc := orcL [(23, [⟨(.int .i64), r52⟩])]) (l := [0, 1, 5]) nw h (by kernel_rfl) (ac hc53 (ac (c157 k (gD x0 (tZ v48) zR) v47 r52 hr54) an)) fun a w h => ?_
      refine wp_reg_seq tok (orc := o0) (l := [0, 1, 5, 25]) nw h (by kernel_rfl) an fun a w h => ?_
      refine wp_if h (b := (decide ((r52 : Int) < iO))) (by kernel_rfl) (fun hb => ?_) (fun hb => ?_)
      · replace hF := of_t hb hF
        refine wp_reg_seq tok (orc := o0) (l := [4]) nw h (by kernel_rfl) an fun a w h => ?_
        cases hF
        exact wp_ret (ret_okR tok h rfl (by kernel_rfl)).1
      · replace hF := of_f hb hF
        refine wp_skip ?_
        refine wp_reg tok (orc := o0) (l := [0, 1, 5]) nw h (by kernel_rfl) an fun a w h => ?_
        exact ⟨(r52, (w64 (v48 + (1 : Int)))), hF, h.arrive (l := [0, 1, 5]) nw (by kernel_rfl)⟩
    · replace hF := of_f hb hF
      refine wp_exit ?_
      refine wp_reg_seq tok (orc := o0) (l := [4]) nw h (by kernel_rfl) an fun a w h => ?_
      cases hF
      exact wp_ret (ret_okR tok h rfl (by kernel_rfl)).1

def f69 (k : Nat) (x0 : (List (Int × Int))) (x1 : Int) : Option Int := if (decide (((IntKind.i64.wrap (x1 - (List.length x0 : Int))) : Int) < (0 : Int))) then (some (-1 : Int)) else (some (IntKind.i64.wrap (x1 - (List.length x0 : Int))))
theorem c69 (k : Nat) (x0 : (List (Int × Int))) (x1 : Int) (r : Int) (hF : f69 k x0 x1 = some r) : PCall Try.prog 69 [⟨sh3, x0⟩, ⟨(.int .i64), x1⟩] [⟨(.int .i64), r⟩] := by
  refine pcall_intro Try.func69 rfl rfl (Nat.le_of_ble_eq_true rfl) ?_
  intro w0 Zi a w h
  rw [f69] at hF
  refine wp_reg_seq tok (orc := o0) (l := [0, 1]) nw h (by kernel_rfl) an fun a w h => ?_
  refine wp_reg_seq tok (orc := o0) (l := [1]) nw h (by kernel_rfl) an fun a w h => ?_
  refine wp_seq ?_
  refine wp_reg_seq tok (orc := o0) (l := [1, 10]) nw h (by kernel_rfl) an fun a w h => ?_
  refine wp_if h (b := (decide (((w64 (x1 - (List.length x0 : Int))) : Int) < iO))) (by kernel_rfl) (fun hb => ?_) (fun hb => ?_)
  · replace hF := of_t hb hF
    refine wp_reg_seq tok (orc := o0) (l := [4]) nw h (by kernel_rfl) an fun a w h => ?_
    cases hF
    exact wp_ret (ret_okR tok h rfl (by kernel_rfl)).1
  · replace hF := of_f hb hF
    refine wp_skip ?_
    refine wp_reg_seq tok (orc := o0) (l := [4]) nw h (by kernel_rfl) an fun a w h => ?_
    cases hF
    exact wp_ret (ret_okR tok h rfl (by kernel_rfl)).1

def f14 (k : Nat) (x0 : ((List (Int × (Int × Int))) × ((List (Int × (Int × (Int × (Int × (Int × ByteArray)))))) × (List (Int × Int))))) (x1 : Int) : Option Int := (f67 k x0.1 x1).bind fun r1 => (if (decide ((r1 : Int) < (0 : Int))) then (some (-1 : Int)) else ((f68 k x0.2.1 r1).bind fun r2 => (if (decide ((r2 : Int) < (0 : Int))) then (some (-1 : Int)) else ((f69 k x0.2.2 r2).bind fun r3 => (if (decide ((r3 : Int) < (0 : Int))) then (some (-1 : Int)) else (some r3))))))
theorem c14 (k : Nat) (x0 : tG) (x1 : Int) (r : Int) (hF : f14 k x0 x1 = some r) : PCall Try.prog 14 [⟨sh4, x0⟩, ⟨(.int .i64), x1⟩] [⟨(.int .i64), r⟩] := by
  refine pcall_intro Try.func14 rfl rfl (Nat.le_of_ble_eq_true rfl) ?_
  intro w0 Zi a w h
  rw [f14] at hF
  refine wp_reg_seq tok (orc := o0) (l := [1, 2]) nw h (by kernel_rfl) an fun a w h => ?_
  obtain ⟨r1, hr6, hF⟩ := of_bind hF
  refine wp_reg_seq tok (orc := orcL [(8, [⟨(.int .i64), r1⟩])]) (l := [1, 2]) nw h (by kernel_rfl) (ac (c67 k x0.1 x1 r1 hr6) an) fun a w h => ?_
  refine wp_seq ?_
  refine wp_reg_seq tok (orc := o0) (l := [1, 2, 10]) nw h (by kernel_rfl) an fun a w h => ?_
  refine wp_if h (b := (decide ((r1 : Int) < iO))) (by kernel_rfl) (fun hb => ?_) (fun hb => ?_)
  · replace hF := of_t hb hF
    refine wp_reg_seq tok (orc := o0) (l := [4]) nw h (by kernel_rfl) an fun a w h => ?_
    cases hF
    exact wp_ret (ret_okR tok h rfl (by kernel_rfl)).1
  · replace hF := of_f hb hF
    refine wp_skip ?_
    obtain ⟨r2, hr5, hF⟩ := of_bind hF
    refine wp_reg_seq tok (orc := orcL [(14, [⟨(.int .i64), r2⟩])]) (l := [1, 2]) nw h (by kernel_rfl) (ac (c68 k x0.2.1 r1 r2 hr5) an) fun a w h => ?_
    refine wp_seq ?_
    refine wp_reg_seq tok (orc := o0) (l := [1, 2, 16]) nw h (by kernel_rfl) an fun a w h => ?_
    refine wp_if h (b := (decide ((r2 : Int) < iO))) (by kernel_rfl) (fun hb => ?_) (fun hb => ?_)
    · replace hF := of_t hb hF
      refine wp_reg_seq tok (orc := o0) (l := [4]) nw h (by kernel_rfl) an fun a w h => ?_
      cases hF
      exact wp_ret (ret_okR tok h rfl (by kernel_rfl)).1
    · replace hF := of_f hb hF
      refine wp_skip ?_
      obtain ⟨r3, hr4, hF⟩ := of_bind hF
      refine wp_reg_seq tok (orc := orcL [(20, [⟨(.int .i64), r3⟩])]) (l := [1]) nw h (by kernel_rfl) (ac (c69 k x0.2.2 r2 r3 hr4) an) fun a w h => ?_
      refine wp_seq ?_
      refine wp_reg_seq tok (orc := o0) (l := [1, 22]) nw h (by kernel_rfl) an fun a w h => ?_
      refine wp_if h (b := (decide ((r3 : Int) < iO))) (by kernel_rfl) (fun hb => ?_) (fun hb => ?_)
      · replace hF := of_t hb hF
        refine wp_reg_seq tok (orc := o0) (l := [4]) nw h (by kernel_rfl) an fun a w h => ?_
        cases hF
        exact wp_ret (ret_okR tok h rfl (by kernel_rfl)).1
      · replace hF := of_f hb hF
        refine wp_skip ?_
        refine wp_reg_seq tok (orc := o0) (l := [4]) nw h (by kernel_rfl) an fun a w h => ?_
        cases hF
        exact wp_ret (ret_okR tok h rfl (by kernel_rfl)).1

def f92 (k : Nat) (x0 : (Int × (Int × (ByteArray × (Int × Int))))) (x1 : Int) : Option Int := if (decide (((IntKind.i64.wrap (x1 - (ByteArray.size x0.2.2.1 : Int))) : Int) < (0 : Int))) then (some (-1 : Int)) else (some (IntKind.i64.wrap (x1 - (ByteArray.size x0.2.2.1 : Int))))
theorem c92 (k : Nat) (x0 : (Int × (Int × (ByteArray × (Int × Int))))) (x1 : Int) (r : Int) (hF : f92 k x0 x1 = some r) : PCall Try.prog 92 [⟨sh5, x0⟩, ⟨(.int .i64), x1⟩] [⟨(.int .i64), r⟩] := by
  refine pcall_intro Try.func92 rfl rfl (Nat.le_of_ble_eq_true rfl) ?_
  intro w0 Zi a w h
  rw [f92] at hF
  refine wp_reg_seq tok (orc := o0) (l := [1, 2]) nw h (by kernel_rfl) an fun a w h => ?_
  refine wp_reg_seq tok (orc := o0) (l := [1]) nw h (by kernel_rfl) an fun a w h => ?_
  refine wp_seq ?_
  refine wp_reg_seq tok (orc := o0) (l := [1, 11]) nw h (by kernel_rfl) an fun a w h => ?_
  refine wp_if h (b := (decide (((w64 (x1 - (ByteArray.size x0.2.2.1 : Int))) : Int) < iO))) (by kernel_rfl) (fun hb => ?_) (fun hb => ?_)
  · replace hF := of_t hb hF
    refine wp_reg_seq tok (orc := o0) (l := [4]) nw h (by kernel_rfl) an fun a w h => ?_
    cases hF
    exact wp_ret (ret_okR tok h rfl (by kernel_rfl)).1
  · replace hF := of_f hb hF
    refine wp_skip ?_
    refine wp_reg_seq tok (orc := o0) (l := [4]) nw h (by kernel_rfl) an fun a w h => ?_
    cases hF
    exact wp_ret (ret_okR tok h rfl (by kernel_rfl)).1

def f26.l28 (k : Nat) (x0 : (List (Int × (Int × (ByteArray × (Int × Int)))))) : Nat → (Int × Int) → Option Int
  | 0, _ => none
  | m28 + 1, (v47, v48) => if (decide ((v48 : Int) < (List.length x0 : Int))) then (if (0 ≤ v48 ∧ v48 < (List.length x0 : Int)) then ((f92 k (List.getD x0 (Int.toNat v48) ((0 : Int), ((0 : Int), ((⟨#[]⟩ : ByteArray), ((0 : Int), (0 : Int)))))) v47).bind fun r52 => (if (decide ((r52 : Int) < (0 : Int))) then (some (-1 : Int)) else ((f26.l28 k x0) m28 (r52, (IntKind.i64.wrap (v48 + (1 : Int))))))) else none) else (some v47)
def f26 (k : Nat) (x0 : (List (Int × (Int × (ByteArray × (Int × Int)))))) (x1 : Int) : Option Int := if (decide (((IntKind.i64.wrap (x1 - (List.length x0 : Int))) : Int) < (0 : Int))) then (some (-1 : Int)) else (f26.l28 k x0 k ((IntKind.i64.wrap (x1 - (List.length x0 : Int))), (0 : Int)))
theorem c26 (k : Nat) (x0 : (List (Int × (Int × (ByteArray × (Int × Int)))))) (x1 : Int) (r : Int) (hF : f26 k x0 x1 = some r) : PCall Try.prog 26 [⟨sh6, x0⟩, ⟨(.int .i64), x1⟩] [⟨(.int .i64), r⟩] := by
  refine pcall_intro Try.func26 rfl rfl (Nat.le_of_ble_eq_true rfl) ?_
  intro w0 Zi a w h
  rw [f26] at hF
  refine wp_reg_seq tok (orc := o0) (l := [0, 1]) nw h (by kernel_rfl) an fun a w h => ?_
  refine wp_reg_seq tok (orc := o0) (l := [0, 1]) nw h (by kernel_rfl) an fun a w h => ?_
  refine wp_seq ?_
  refine wp_reg_seq tok (orc := o0) (l := [0, 1, 11]) nw h (by kernel_rfl) an fun a w h => ?_
  refine wp_if h (b := (decide (((w64 (x1 - (List.length x0 : Int))) : Int) < iO))) (by kernel_rfl) (fun hb => ?_) (fun hb => ?_)
  · replace hF := of_t hb hF
    refine wp_reg_seq tok (orc := o0) (l := [4]) nw h (by kernel_rfl) an fun a w h => ?_
    cases hF
    exact wp_ret (ret_okR tok h rfl (by kernel_rfl)).1
  · replace hF := of_f hb hF
    refine wp_skip ?_
    refine wp_seq ?_
    refine wp_reg_seq tok (orc := o0) (l := [0, 1, 5]) nw h (by kernel_rfl) an fun a w h => ?_
    refine wp_block ?_
    refine wp_loop_fuel (f26.l28 k x0) (fun ((v47, v48) : (Int × Int)) => [(0, .val sh6 x0), (1, .val (.int .i64) v47), (5, .val (.int .i64) v48)]) (fun v h => by obtain ⟨v47, v48⟩ := v; rw [f26.l28] at h; cases h) ?_ hF (h.arrive (l := [0, 1, 5]) nw (by kernel_rfl))
    intro m28 v a w hF h
    obtain ⟨v47, v48⟩ := v
    rw [f26.l28] at hF
    refine wp_seq ?_
    refine wp_reg_seq tok (orc := o0) (l := [0, 1, 5, 15]) nw h (by kernel_rfl) an fun a w h => ?_
    refine wp_if h (b := (decide ((v48 : Int) < (List.length x0 : Int)))) (by kernel_rfl) (fun hb => ?_) (fun hb => ?_)
    · replace hF := of_t hb hF
      refine wp_skip ?_
      refine wp_seq <| wp_block ?_
      obtain ⟨hc53, hF⟩ := of_if hF
      obtain ⟨r52, hr54, hF⟩ := of_bind hF
      refine wp_reg_seq tok (orc := orcL [(23, [⟨(.int .i64), r52⟩])]) (l := [0, 1, 5]) nw h (by kernel_rfl) (ac hc53 (ac (c92 k (gD x0 (tZ v48) (iO, (iO, ((⟨#[]⟩ : ByteArray), (iO, iO))))) v47 r52 hr54) an)) fun a w h => ?_
      refine wp_reg_seq tok (orc := o0) (l := [0, 1, 5, 25]) nw h (by kernel_rfl) an fun a w h => ?_
      refine wp_if h (b := (decide ((r52 : Int) < iO))) (by kernel_rfl) (fun hb => ?_) (fun hb => ?_)
      · replace hF := of_t hb hF
        refine wp_reg_seq tok (orc := o0) (l := [4]) nw h (by kernel_rfl) an fun a w h => ?_
        cases hF
        exact wp_ret (ret_okR tok h rfl (by kernel_rfl)).1
      · replace hF := of_f hb hF
        refine wp_skip ?_
        refine wp_reg tok (orc := o0) (l := [0, 1, 5]) nw h (by kernel_rfl) an fun a w h => ?_
        exact ⟨(r52, (w64 (v48 + (1 : Int)))), hF, h.arrive (l := [0, 1, 5]) nw (by kernel_rfl)⟩
    · replace hF := of_f hb hF
      refine wp_exit ?_
      refine wp_reg_seq tok (orc := o0) (l := [4]) nw h (by kernel_rfl) an fun a w h => ?_
      cases hF
      exact wp_ret (ret_okR tok h rfl (by kernel_rfl)).1

def f220 (k : Nat) (x0 : (Int × Int)) : Option (Int × Int) := some (x0.1, x0.2)
theorem c220 (k : Nat) (x0 : (Int × Int)) (r : (Int × Int)) (hF : f220 k x0 = some r) : PCall Try.prog 220 [⟨sh7, x0⟩] [⟨sh7, r⟩] := by
  refine pcall_intro Try.func220 rfl rfl (Nat.le_of_ble_eq_true rfl) ?_
  intro w0 Zi a w h
  rw [f220] at hF
  refine wp_reg_seq tok (orc := o0) (l := [1, 2]) nw h (by kernel_rfl) an fun a w h => ?_
  refine wp_reg_seq tok (orc := o0) (l := [1, 2, 3]) nw h (by kernel_rfl) an fun a w h => ?_
  refine wp_reg_seq tok (orc := o0) (l := [1, 2, 3]) nw h (by kernel_rfl) an fun a w h => ?_
  refine wp_reg_seq tok (orc := o0) (l := [2, 3]) nw h (by kernel_rfl) an fun a w h => ?_
  refine wp_reg_seq tok (orc := o0) (l := [2]) nw h (by kernel_rfl) an fun a w h => ?_
  cases hF
  exact wp_ret (ret_okR tok h rfl (by kernel_rfl)).1

def f165 (k : Nat) (x0 : (Int × (Int × Int))) : Option (Int × (Int × Int)) := (f220 k x0.2).bind fun r1 => (some (x0.1, r1))
theorem c165 (k : Nat) (x0 : (Int × (Int × Int))) (r : (Int × (Int × Int))) (hF : f165 k x0 = some r) : PCall Try.prog 165 [⟨sh8, x0⟩] [⟨sh8, r⟩] := by
  refine pcall_intro Try.func165 rfl rfl (Nat.le_of_ble_eq_true rfl) ?_
  intro w0 Zi a w h
  rw [f165] at hF
  refine wp_reg_seq tok (orc := o0) (l := [1, 2]) nw h (by kernel_rfl) an fun a w h => ?_
  refine wp_reg_seq tok (orc := o0) (l := [1, 2, 3]) nw h (by kernel_rfl) an fun a w h => ?_
  refine wp_reg_seq tok (orc := o0) (l := [1, 2, 3]) nw h (by kernel_rfl) an fun a w h => ?_
  obtain ⟨r1, hr2, hF⟩ := of_bind hF
  refine wp_reg_seq tok (orc := orcL [(9, [⟨sh7, r1⟩])]) (l := [2, 3]) nw h (by kernel_rfl) (ac (c220 k x0.2 r1 hr2) an) fun a w h => ?_
  refine wp_reg_seq tok (orc := o0) (l := [2]) nw h (by kernel_rfl) an fun a w h => ?_
  cases hF
  exact wp_ret (ret_okR tok h rfl (by kernel_rfl)).1

def f76.l34 (k : Nat) (x0 : (List (Int × (Int × Int)))) : Nat → ((List (Int × (Int × Int))) × Int) → Option (List (Int × (Int × Int)))
  | 0, _ => none
  | m34 + 1, (v57, v58) => if (decide ((v58 : Int) < (List.length x0 : Int))) then (if (0 ≤ v58 ∧ v58 < (List.length x0 : Int)) then ((f165 k (List.getD x0 (Int.toNat v58) ((0 : Int), ((0 : Int), (0 : Int))))).bind fun r63 => (if (0 ≤ v58 ∧ v58 < (List.length v57 : Int)) then ((f76.l34 k x0) m34 ((List.set v57 (Int.toNat v58) r63), (IntKind.i64.wrap (v58 + (1 : Int))))) else none)) else none) else (some v57)
def f76 (k : Nat) (x0 : (List (Int × (Int × Int)))) : Option (List (Int × (Int × Int))) := if (0 ≤ (List.length x0 : Int) ∧ Int.toNat (List.length x0 : Int) * 24 ≤ 140737488355328) then (f76.l34 k x0 k ((List.replicate (Int.toNat (List.length x0 : Int)) ((0 : Int), ((0 : Int), (0 : Int)))), (0 : Int))) else none
theorem c76 (k : Nat) (x0 : (List (Int × (Int × Int)))) (r : (List (Int × (Int × Int)))) (hF : f76 k x0 = some r) : PCall Try.prog 76 [⟨sh0, x0⟩] [⟨sh9, r⟩] := by
  refine pcall_intro Try.func76 rfl rfl (Nat.le_of_ble_eq_true rfl) ?_
  intro w0 Zi a w h
  rw [f76] at hF
  refine wp_reg_seq tok (orc := o0) (l := [0]) nw h (by kernel_rfl) an fun a w h => ?_
  obtain ⟨hc67, hF⟩ := of_if hF
  refine wp_reg_seq tok (orc := o0) (l := [0, 3]) nw h (by kernel_rfl) (ac hc67 an) fun a w h => ?_
  refine wp_seq ?_
  refine wp_reg_seq tok (orc := o0) (l := [0, 3, 4]) nw h (by kernel_rfl) an fun a w h => ?_
  refine wp_block ?_
  refine wp_loop_fuel (f76.l34 k x0) (fun ((v57, v58) : ((List (Int × (Int × Int))) × Int)) => [(0, .val sh0 x0), (3, .val sh9 v57), (4, .val (.int .i64) v58)]) (fun v h => by obtain ⟨v57, v58⟩ := v; rw [f76.l34] at h; cases h) ?_ hF (h.arrive (l := [0, 3, 4]) nw (by kernel_rfl))
  intro m34 v a w hF h
  obtain ⟨v57, v58⟩ := v
  rw [f76.l34] at hF
  refine wp_seq ?_
  refine wp_reg_seq tok (orc := o0) (l := [0, 3, 4, 11]) nw h (by kernel_rfl) an fun a w h => ?_
  refine wp_if h (b := (decide ((v58 : Int) < (List.length x0 : Int)))) (by kernel_rfl) (fun hb => ?_) (fun hb => ?_)
  · replace hF := of_t hb hF
    refine wp_skip ?_
    refine wp_seq <| wp_block ?_
    obtain ⟨hc64, hF⟩ := of_if hF
    obtain ⟨r63, hr65, hF⟩ := of_bind hF
    obtain ⟨hc66, hF⟩ := of_if hF
    refine wp_reg tok (orc := orcL [(20, [⟨sh8, r63⟩])]) (l := [0, 3, 4]) nw h (by kernel_rfl) (ac hc64 (ac (c165 k (gD x0 (tZ v58) (iO, (iO, iO))) r63 hr65) (ac hc66 an))) fun a w h => ?_
    refine wp_reg tok (orc := o0) (l := [0, 3, 4]) nw h (by kernel_rfl) an fun a w h => ?_
    exact ⟨((List.set v57 (tZ v58) r63), (w64 (v58 + (1 : Int)))), hF, h.arrive (l := [0, 3, 4]) nw (by kernel_rfl)⟩
  · replace hF := of_f hb hF
    refine wp_exit ?_
    refine wp_reg_seq tok (orc := o0) (l := [2, 3]) nw h (by kernel_rfl) an fun a w h => ?_
    cases hF
    exact wp_ret (ret_okR tok h rfl (by kernel_rfl)).1

def f166 (k : Nat) (x0 : (Int × (Int × (Int × (Int × (Int × ByteArray)))))) : Option (Int × (Int × (Int × (Int × (Int × ByteArray))))) := some (x0.1, (x0.2.1, (x0.2.2.1, (x0.2.2.2.1, (x0.2.2.2.2.1, x0.2.2.2.2.2)))))
theorem c166 (k : Nat) (x0 : (Int × (Int × (Int × (Int × (Int × ByteArray)))))) (r : (Int × (Int × (Int × (Int × (Int × ByteArray)))))) (hF : f166 k x0 = some r) : PCall Try.prog 166 [⟨sh1, x0⟩] [⟨sh1, r⟩] := by
  refine pcall_intro Try.func166 rfl rfl (Nat.le_of_ble_eq_true rfl) ?_
  intro w0 Zi a w h
  rw [f166] at hF
  refine wp_reg_seq tok (orc := o0) (l := [1, 2]) nw h (by kernel_rfl) an fun a w h => ?_
  refine wp_reg_seq tok (orc := o0) (l := [1, 2, 3]) nw h (by kernel_rfl) an fun a w h => ?_
  refine wp_reg_seq tok (orc := o0) (l := [1, 2, 3]) nw h (by kernel_rfl) an fun a w h => ?_
  refine wp_reg_seq tok (orc := o0) (l := [1, 2, 3]) nw h (by kernel_rfl) an fun a w h => ?_
  refine wp_reg_seq tok (orc := o0) (l := [1, 2, 3]) nw h (by kernel_rfl) an fun a w h => ?_
  refine wp_reg_seq tok (orc := o0) (l := [1, 2, 3]) nw h (by kernel_rfl) an fun a w h => ?_
  refine wp_reg_seq tok (orc := o0) (l := [1, 2, 3]) nw h (by kernel_rfl) an fun a w h => ?_
  refine wp_reg_seq tok (orc := o0) (l := [2, 3]) nw h (by kernel_rfl) an fun a w h => ?_
  refine wp_reg_seq tok (orc := o0) (l := [2]) nw h (by kernel_rfl) an fun a w h => ?_
  cases hF
  exact wp_ret (ret_okR tok h rfl (by kernel_rfl)).1

def f77.l34 (k : Nat) (x0 : (List (Int × (Int × (Int × (Int × (Int × ByteArray))))))) : Nat → ((List (Int × (Int × (Int × (Int × (Int × ByteArray)))))) × Int) → Option (List (Int × (Int × (Int × (Int × (Int × ByteArray))))))
  | 0, _ => none
  | m34 + 1, (v57, v58) => if (decide ((v58 : Int) < (List.length x0 : Int))) then (if (0 ≤ v58 ∧ v58 < (List.length x0 : Int)) then ((f166 k (List.getD x0 (Int.toNat v58) ((0 : Int), ((0 : Int), ((0 : Int), ((0 : Int), ((0 : Int), (⟨#[]⟩ : ByteArray)))))))).bind fun r63 => (if (0 ≤ v58 ∧ v58 < (List.length v57 : Int)) then ((f77.l34 k x0) m34 ((List.set v57 (Int.toNat v58) r63), (IntKind.i64.wrap (v58 + (1 : Int))))) else none)) else none) else (some v57)
def f77 (k : Nat) (x0 : (List (Int × (Int × (Int × (Int × (Int × ByteArray))))))) : Option (List (Int × (Int × (Int × (Int × (Int × ByteArray)))))) := if (0 ≤ (List.length x0 : Int) ∧ Int.toNat (List.length x0 : Int) * 56 ≤ 140737488355328) then (f77.l34 k x0 k ((List.replicate (Int.toNat (List.length x0 : Int)) ((0 : Int), ((0 : Int), ((0 : Int), ((0 : Int), ((0 : Int), (⟨#[]⟩ : ByteArray))))))), (0 : Int))) else none
theorem c77 (k : Nat) (x0 : (List (Int × (Int × (Int × (Int × (Int × ByteArray))))))) (r : (List (Int × (Int × (Int × (Int × (Int × ByteArray))))))) (hF : f77 k x0 = some r) : PCall Try.prog 77 [⟨sh2, x0⟩] [⟨sh10, r⟩] := by
  refine pcall_intro Try.func77 rfl rfl (Nat.le_of_ble_eq_true rfl) ?_
  intro w0 Zi a w h
  rw [f77] at hF
  refine wp_reg_seq tok (orc := o0) (l := [0]) nw h (by kernel_rfl) an fun a w h => ?_
  obtain ⟨hc67, hF⟩ := of_if hF
  refine wp_reg_seq tok (orc := o0) (l := [0, 3]) nw h (by kernel_rfl) (ac hc67 an) fun a w h => ?_
  refine wp_seq ?_
  refine wp_reg_seq tok (orc := o0) (l := [0, 3, 4]) nw h (by kernel_rfl) an fun a w h => ?_
  refine wp_block ?_
  refine wp_loop_fuel (f77.l34 k x0) (fun ((v57, v58) : ((List (Int × (Int × (Int × (Int × (Int × ByteArray)))))) × Int)) => [(0, .val sh2 x0), (3, .val sh10 v57), (4, .val (.int .i64) v58)]) (fun v h => by obtain ⟨v57, v58⟩ := v; rw [f77.l34] at h; cases h) ?_ hF (h.arrive (l := [0, 3, 4]) nw (by kernel_rfl))
  intro m34 v a w hF h
  obtain ⟨v57, v58⟩ := v
  rw [f77.l34] at hF
  refine wp_seq ?_
  refine wp_reg_seq tok (orc := o0) (l := [0, 3, 4, 11]) nw h (by kernel_rfl) an fun a w h => ?_
  refine wp_if h (b := (decide ((v58 : Int) < (List.length x0 : Int)))) (by kernel_rfl) (fun hb => ?_) (fun hb => ?_)
  · replace hF := of_t hb hF
    refine wp_skip ?_
    refine wp_seq <| wp_block ?_
    obtain ⟨hc64, hF⟩ := of_if hF
    obtain ⟨r63, hr65, hF⟩ := of_bind hF
    obtain ⟨hc66, hF⟩ := of_if hF
    refine wp_reg tok (orc := orcL [(20, [⟨sh1, r63⟩])]) (l := [0, 3, 4]) nw h (by kernel_rfl) (ac hc64 (ac (c166 k (gD x0 (tZ v58) zR) r63 hr65) (ac hc66 an))) fun a w h => ?_
    refine wp_reg tok (orc := o0) (l := [0, 3, 4]) nw h (by kernel_rfl) an fun a w h => ?_
    exact ⟨((List.set v57 (tZ v58) r63), (w64 (v58 + (1 : Int)))), hF, h.arrive (l := [0, 3, 4]) nw (by kernel_rfl)⟩
  · replace hF := of_f hb hF
    refine wp_exit ?_
    refine wp_reg_seq tok (orc := o0) (l := [2, 3]) nw h (by kernel_rfl) an fun a w h => ?_
    cases hF
    exact wp_ret (ret_okR tok h rfl (by kernel_rfl)).1

def f167 (k : Nat) (x0 : (Int × Int)) : Option (Int × Int) := some (x0.1, x0.2)
theorem c167 (k : Nat) (x0 : (Int × Int)) (r : (Int × Int)) (hF : f167 k x0 = some r) : PCall Try.prog 167 [⟨sh7, x0⟩] [⟨sh7, r⟩] := by
  refine pcall_intro Try.func167 rfl rfl (Nat.le_of_ble_eq_true rfl) ?_
  intro w0 Zi a w h
  rw [f167] at hF
  refine wp_reg_seq tok (orc := o0) (l := [1, 2]) nw h (by kernel_rfl) an fun a w h => ?_
  refine wp_reg_seq tok (orc := o0) (l := [1, 2, 3]) nw h (by kernel_rfl) an fun a w h => ?_
  refine wp_reg_seq tok (orc := o0) (l := [1, 2, 3]) nw h (by kernel_rfl) an fun a w h => ?_
  refine wp_reg_seq tok (orc := o0) (l := [2, 3]) nw h (by kernel_rfl) an fun a w h => ?_
  refine wp_reg_seq tok (orc := o0) (l := [2]) nw h (by kernel_rfl) an fun a w h => ?_
  cases hF
  exact wp_ret (ret_okR tok h rfl (by kernel_rfl)).1

def f78.l34 (k : Nat) (x0 : (List (Int × Int))) : Nat → ((List (Int × Int)) × Int) → Option (List (Int × Int))
  | 0, _ => none
  | m34 + 1, (v57, v58) => if (decide ((v58 : Int) < (List.length x0 : Int))) then (if (0 ≤ v58 ∧ v58 < (List.length x0 : Int)) then ((f167 k (List.getD x0 (Int.toNat v58) ((0 : Int), (0 : Int)))).bind fun r63 => (if (0 ≤ v58 ∧ v58 < (List.length v57 : Int)) then ((f78.l34 k x0) m34 ((List.set v57 (Int.toNat v58) r63), (IntKind.i64.wrap (v58 + (1 : Int))))) else none)) else none) else (some v57)
def f78 (k : Nat) (x0 : (List (Int × Int))) : Option (List (Int × Int)) := if (0 ≤ (List.length x0 : Int) ∧ Int.toNat (List.length x0 : Int) * 16 ≤ 140737488355328) then (f78.l34 k x0 k ((List.replicate (Int.toNat (List.length x0 : Int)) ((0 : Int), (0 : Int))), (0 : Int))) else none
theorem c78 (k : Nat) (x0 : (List (Int × Int))) (r : (List (Int × Int))) (hF : f78 k x0 = some r) : PCall Try.prog 78 [⟨sh3, x0⟩] [⟨sh11, r⟩] := by
  refine pcall_intro Try.func78 rfl rfl (Nat.le_of_ble_eq_true rfl) ?_
  intro w0 Zi a w h
  rw [f78] at hF
  refine wp_reg_seq tok (orc := o0) (l := [0]) nw h (by kernel_rfl) an fun a w h => ?_
  obtain ⟨hc67, hF⟩ := of_if hF
  refine wp_reg_seq tok (orc := o0) (l := [0, 3]) nw h (by kernel_rfl) (ac hc67 an) fun a w h => ?_
  refine wp_seq ?_
  refine wp_reg_seq tok (orc := o0) (l := [0, 3, 4]) nw h (by kernel_rfl) an fun a w h => ?_
  refine wp_block ?_
  refine wp_loop_fuel (f78.l34 k x0) (fun ((v57, v58) : ((List (Int × Int)) × Int)) => [(0, .val sh3 x0), (3, .val sh11 v57), (4, .val (.int .i64) v58)]) (fun v h => by obtain ⟨v57, v58⟩ := v; rw [f78.l34] at h; cases h) ?_ hF (h.arrive (l := [0, 3, 4]) nw (by kernel_rfl))
  intro m34 v a w hF h
  obtain ⟨v57, v58⟩ := v
  rw [f78.l34] at hF
  refine wp_seq ?_
  refine wp_reg_seq tok (orc := o0) (l := [0, 3, 4, 11]) nw h (by kernel_rfl) an fun a w h => ?_
  refine wp_if h (b := (decide ((v58 : Int) < (List.length x0 : Int)))) (by kernel_rfl) (fun hb => ?_) (fun hb => ?_)
  · replace hF := of_t hb hF
    refine wp_skip ?_
    refine wp_seq <| wp_block ?_
    obtain ⟨hc64, hF⟩ := of_if hF
    obtain ⟨r63, hr65, hF⟩ := of_bind hF
    obtain ⟨hc66, hF⟩ := of_if hF
    refine wp_reg tok (orc := orcL [(20, [⟨sh7, r63⟩])]) (l := [0, 3, 4]) nw h (by kernel_rfl) (ac hc64 (ac (c167 k (gD x0 (tZ v58) (iO, iO)) r63 hr65) (ac hc66 an))) fun a w h => ?_
    refine wp_reg tok (orc := o0) (l := [0, 3, 4]) nw h (by kernel_rfl) an fun a w h => ?_
    exact ⟨((List.set v57 (tZ v58) r63), (w64 (v58 + (1 : Int)))), hF, h.arrive (l := [0, 3, 4]) nw (by kernel_rfl)⟩
  · replace hF := of_f hb hF
    refine wp_exit ?_
    refine wp_reg_seq tok (orc := o0) (l := [2, 3]) nw h (by kernel_rfl) an fun a w h => ?_
    cases hF
    exact wp_ret (ret_okR tok h rfl (by kernel_rfl)).1

def f16 (k : Nat) (x0 : ((List (Int × (Int × Int))) × ((List (Int × (Int × (Int × (Int × (Int × ByteArray)))))) × (List (Int × Int))))) : Option ((List (Int × (Int × Int))) × ((List (Int × (Int × (Int × (Int × (Int × ByteArray)))))) × (List (Int × Int)))) := (f76 k x0.1).bind fun r1 => ((f77 k x0.2.1).bind fun r2 => ((f78 k x0.2.2).bind fun r3 => (some (r1, (r2, r3)))))
theorem c16 (k : Nat) (x0 : tG) (r : tG) (hF : f16 k x0 = some r) : PCall Try.prog 16 [⟨sh4, x0⟩] [⟨sh12, r⟩] := by
  refine pcall_intro Try.func16 rfl rfl (Nat.le_of_ble_eq_true rfl) ?_
  intro w0 Zi a w h
  rw [f16] at hF
  refine wp_reg_seq tok (orc := o0) (l := [1, 2]) nw h (by kernel_rfl) an fun a w h => ?_
  refine wp_reg_seq tok (orc := o0) (l := [1, 2, 3]) nw h (by kernel_rfl) an fun a w h => ?_
  obtain ⟨r1, hr6, hF⟩ := of_bind hF
  refine wp_reg_seq tok (orc := orcL [(6, [⟨sh9, r1⟩])]) (l := [1, 2, 3]) nw h (by kernel_rfl) (ac (c76 k x0.1 r1 hr6) an) fun a w h => ?_
  obtain ⟨r2, hr5, hF⟩ := of_bind hF
  refine wp_reg_seq tok (orc := orcL [(10, [⟨sh10, r2⟩])]) (l := [1, 2, 3]) nw h (by kernel_rfl) (ac (c77 k x0.2.1 r2 hr5) an) fun a w h => ?_
  obtain ⟨r3, hr4, hF⟩ := of_bind hF
  refine wp_reg_seq tok (orc := orcL [(14, [⟨sh11, r3⟩])]) (l := [2, 3]) nw h (by kernel_rfl) (ac (c78 k x0.2.2 r3 hr4) an) fun a w h => ?_
  refine wp_reg_seq tok (orc := o0) (l := [2]) nw h (by kernel_rfl) an fun a w h => ?_
  cases hF
  exact wp_ret (ret_okR tok h rfl (by kernel_rfl)).1

def f95 (k : Nat) (x0 : (Int × (Int × (ByteArray × (Int × Int))))) : Option (Int × (Int × (ByteArray × (Int × Int)))) := some (x0.1, (x0.2.1, (x0.2.2.1, (x0.2.2.2.1, x0.2.2.2.2))))
theorem c95 (k : Nat) (x0 : (Int × (Int × (ByteArray × (Int × Int))))) (r : (Int × (Int × (ByteArray × (Int × Int))))) (hF : f95 k x0 = some r) : PCall Try.prog 95 [⟨sh5, x0⟩] [⟨sh5, r⟩] := by
  refine pcall_intro Try.func95 rfl rfl (Nat.le_of_ble_eq_true rfl) ?_
  intro w0 Zi a w h
  rw [f95] at hF
  refine wp_reg_seq tok (orc := o0) (l := [1, 2]) nw h (by kernel_rfl) an fun a w h => ?_
  refine wp_reg_seq tok (orc := o0) (l := [1, 2, 3]) nw h (by kernel_rfl) an fun a w h => ?_
  refine wp_reg_seq tok (orc := o0) (l := [1, 2, 3]) nw h (by kernel_rfl) an fun a w h => ?_
  refine wp_reg_seq tok (orc := o0) (l := [1, 2, 3]) nw h (by kernel_rfl) an fun a w h => ?_
  refine wp_reg_seq tok (orc := o0) (l := [1, 2, 3]) nw h (by kernel_rfl) an fun a w h => ?_
  refine wp_reg_seq tok (orc := o0) (l := [1, 2, 3]) nw h (by kernel_rfl) an fun a w h => ?_
  refine wp_reg_seq tok (orc := o0) (l := [2, 3]) nw h (by kernel_rfl) an fun a w h => ?_
  refine wp_reg_seq tok (orc := o0) (l := [2]) nw h (by kernel_rfl) an fun a w h => ?_
  cases hF
  exact wp_ret (ret_okR tok h rfl (by kernel_rfl)).1

def f28.l34 (k : Nat) (x0 : (List (Int × (Int × (ByteArray × (Int × Int)))))) : Nat → ((List (Int × (Int × (ByteArray × (Int × Int))))) × Int) → Option (List (Int × (Int × (ByteArray × (Int × Int)))))
  | 0, _ => none
  | m34 + 1, (v57, v58) => if (decide ((v58 : Int) < (List.length x0 : Int))) then (if (0 ≤ v58 ∧ v58 < (List.length x0 : Int)) then ((f95 k (List.getD x0 (Int.toNat v58) ((0 : Int), ((0 : Int), ((⟨#[]⟩ : ByteArray), ((0 : Int), (0 : Int))))))).bind fun r63 => (if (0 ≤ v58 ∧ v58 < (List.length v57 : Int)) then ((f28.l34 k x0) m34 ((List.set v57 (Int.toNat v58) r63), (IntKind.i64.wrap (v58 + (1 : Int))))) else none)) else none) else (some v57)
def f28 (k : Nat) (x0 : (List (Int × (Int × (ByteArray × (Int × Int)))))) : Option (List (Int × (Int × (ByteArray × (Int × Int))))) := if (0 ≤ (List.length x0 : Int) ∧ Int.toNat (List.length x0 : Int) * 48 ≤ 140737488355328) then (f28.l34 k x0 k ((List.replicate (Int.toNat (List.length x0 : Int)) ((0 : Int), ((0 : Int), ((⟨#[]⟩ : ByteArray), ((0 : Int), (0 : Int)))))), (0 : Int))) else none
theorem c28 (k : Nat) (x0 : (List (Int × (Int × (ByteArray × (Int × Int)))))) (r : (List (Int × (Int × (ByteArray × (Int × Int)))))) (hF : f28 k x0 = some r) : PCall Try.prog 28 [⟨sh6, x0⟩] [⟨sh13, r⟩] := by
  refine pcall_intro Try.func28 rfl rfl (Nat.le_of_ble_eq_true rfl) ?_
  intro w0 Zi a w h
  rw [f28] at hF
  refine wp_reg_seq tok (orc := o0) (l := [0]) nw h (by kernel_rfl) an fun a w h => ?_
  obtain ⟨hc67, hF⟩ := of_if hF
  refine wp_reg_seq tok (orc := o0) (l := [0, 3]) nw h (by kernel_rfl) (ac hc67 an) fun a w h => ?_
  refine wp_seq ?_
  refine wp_reg_seq tok (orc := o0) (l := [0, 3, 4]) nw h (by kernel_rfl) an fun a w h => ?_
  refine wp_block ?_
  refine wp_loop_fuel (f28.l34 k x0) (fun ((v57, v58) : ((List (Int × (Int × (ByteArray × (Int × Int))))) × Int)) => [(0, .val sh6 x0), (3, .val sh13 v57), (4, .val (.int .i64) v58)]) (fun v h => by obtain ⟨v57, v58⟩ := v; rw [f28.l34] at h; cases h) ?_ hF (h.arrive (l := [0, 3, 4]) nw (by kernel_rfl))
  intro m34 v a w hF h
  obtain ⟨v57, v58⟩ := v
  rw [f28.l34] at hF
  refine wp_seq ?_
  refine wp_reg_seq tok (orc := o0) (l := [0, 3, 4, 11]) nw h (by kernel_rfl) an fun a w h => ?_
  refine wp_if h (b := (decide ((v58 : Int) < (List.length x0 : Int)))) (by kernel_rfl) (fun hb => ?_) (fun hb => ?_)
  · replace hF := of_t hb hF
    refine wp_skip ?_
    refine wp_seq <| wp_block ?_
    obtain ⟨hc64, hF⟩ := of_if hF
    obtain ⟨r63, hr65, hF⟩ := of_bind hF
    obtain ⟨hc66, hF⟩ := of_if hF
    refine wp_reg tok (orc := orcL [(20, [⟨sh5, r63⟩])]) (l := [0, 3, 4]) nw h (by kernel_rfl) (ac hc64 (ac (c95 k (gD x0 (tZ v58) (iO, (iO, ((⟨#[]⟩ : ByteArray), (iO, iO))))) r63 hr65) (ac hc66 an))) fun a w h => ?_
    refine wp_reg tok (orc := o0) (l := [0, 3, 4]) nw h (by kernel_rfl) an fun a w h => ?_
    exact ⟨((List.set v57 (tZ v58) r63), (w64 (v58 + (1 : Int)))), hF, h.arrive (l := [0, 3, 4]) nw (by kernel_rfl)⟩
  · replace hF := of_f hb hF
    refine wp_exit ?_
    refine wp_reg_seq tok (orc := o0) (l := [2, 3]) nw h (by kernel_rfl) an fun a w h => ?_
    cases hF
    exact wp_ret (ret_okR tok h rfl (by kernel_rfl)).1

def f158 (k : Nat) (x0 : Int) : Option Bool := some (bif (decide ((x0 : Int) ≥ (1 : Int))) then (decide ((x0 : Int) ≤ (1000000000 : Int))) else false)
theorem c158 (k : Nat) (x0 : Int) (r : Bool) (hF : f158 k x0 = some r) : PCall Try.prog 158 [⟨(.int .i64), x0⟩] [⟨.bool, r⟩] := by
  refine pcall_intro Try.func158 rfl rfl (Nat.le_of_ble_eq_true rfl) ?_
  intro w0 Zi a w h
  rw [f158] at hF
  refine wp_reg_seq tok (orc := o0) (l := [0]) nw h (by kernel_rfl) an fun a w h => ?_
  refine wp_reg_seq tok (orc := o0) (l := [2]) nw h (by kernel_rfl) an fun a w h => ?_
  cases hF
  exact wp_ret (ret_okR tok h rfl (by kernel_rfl)).1

def f159 (k : Nat) (x0 : (Int × Int)) : Option Bool := some (bif (bif (bif (decide ((x0.1 : Int) ≥ (-10000000 : Int))) then (decide ((x0.1 : Int) ≤ (10000000 : Int))) else false) then (decide ((x0.2 : Int) ≥ (-10000000 : Int))) else false) then (decide ((x0.2 : Int) ≤ (10000000 : Int))) else false)
theorem c159 (k : Nat) (x0 : (Int × Int)) (r : Bool) (hF : f159 k x0 = some r) : PCall Try.prog 159 [⟨sh7, x0⟩] [⟨.bool, r⟩] := by
  refine pcall_intro Try.func159 rfl rfl (Nat.le_of_ble_eq_true rfl) ?_
  intro w0 Zi a w h
  rw [f159] at hF
  refine wp_reg_seq tok (orc := o0) (l := [1]) nw h (by kernel_rfl) an fun a w h => ?_
  refine wp_reg_seq tok (orc := o0) (l := [2]) nw h (by kernel_rfl) an fun a w h => ?_
  cases hF
  exact wp_ret (ret_okR tok h rfl (by kernel_rfl)).1

def f160 (k : Nat) (x0 : (Int × Int)) (x1 : (Int × Int)) : Option Bool := some (bif (decide ((x0.1 : Int) < x1.1)) then true else (bif ((x0.1 : Int) == x1.1) then (decide ((x0.2 : Int) < x1.2)) else false))
theorem c160 (k : Nat) (x0 : (Int × Int)) (x1 : (Int × Int)) (r : Bool) (hF : f160 k x0 x1 = some r) : PCall Try.prog 160 [⟨sh7, x0⟩, ⟨sh7, x1⟩] [⟨.bool, r⟩] := by
  refine pcall_intro Try.func160 rfl rfl (Nat.le_of_ble_eq_true rfl) ?_
  intro w0 Zi a w h
  rw [f160] at hF
  refine wp_reg_seq tok (orc := o0) (l := [2, 3]) nw h (by kernel_rfl) an fun a w h => ?_
  refine wp_reg_seq tok (orc := o0) (l := [4]) nw h (by kernel_rfl) an fun a w h => ?_
  cases hF
  exact wp_ret (ret_okR tok h rfl (by kernel_rfl)).1

def f70.l206 (k : Nat) (x0 : ((List (Int × (Int × Int))) × ((List (Int × (Int × (Int × (Int × (Int × ByteArray)))))) × (List (Int × Int))))) : Nat → Int → Option Bool
  | 0, _ => none
  | m206 + 1, v242 => if (decide ((v242 : Int) < (List.length x0.2.2 : Int))) then (if (0 ≤ v242 ∧ v242 < (List.length x0.2.2 : Int)) then (if (((bif (bif (bif (decide (((List.getD x0.2.2 (Int.toNat v242) ((0 : Int), (0 : Int))).1 : Int) < (0 : Int))) then true else (decide (((List.getD x0.2.2 (Int.toNat v242) ((0 : Int), (0 : Int))).1 : Int) ≥ (List.length x0.2.1 : Int)))) then true else (decide (((List.getD x0.2.2 (Int.toNat v242) ((0 : Int), (0 : Int))).2 : Int) < (0 : Int)))) then true else (decide (((List.getD x0.2.2 (Int.toNat v242) ((0 : Int), (0 : Int))).2 : Int) ≥ (List.length x0.2.1 : Int)))) = false) → (0 ≤ (List.getD x0.2.2 (Int.toNat v242) ((0 : Int), (0 : Int))).1 ∧ (List.getD x0.2.2 (Int.toNat v242) ((0 : Int), (0 : Int))).1 < (List.length x0.2.1 : Int))) then (if (((bif (bif (bif (decide (((List.getD x0.2.2 (Int.toNat v242) ((0 : Int), (0 : Int))).1 : Int) < (0 : Int))) then true else (decide (((List.getD x0.2.2 (Int.toNat v242) ((0 : Int), (0 : Int))).1 : Int) ≥ (List.length x0.2.1 : Int)))) then true else (decide (((List.getD x0.2.2 (Int.toNat v242) ((0 : Int), (0 : Int))).2 : Int) < (0 : Int)))) then true else (decide (((List.getD x0.2.2 (Int.toNat v242) ((0 : Int), (0 : Int))).2 : Int) ≥ (List.length x0.2.1 : Int)))) = false) → (0 ≤ (List.getD x0.2.2 (Int.toNat v242) ((0 : Int), (0 : Int))).2 ∧ (List.getD x0.2.2 (Int.toNat v242) ((0 : Int), (0 : Int))).2 < (List.length x0.2.1 : Int))) then (if ((((bif (bif (bif (bif (decide (((List.getD x0.2.2 (Int.toNat v242) ((0 : Int), (0 : Int))).1 : Int) < (0 : Int))) then true else (decide (((List.getD x0.2.2 (Int.toNat v242) ((0 : Int), (0 : Int))).1 : Int) ≥ (List.length x0.2.1 : Int)))) then true else (decide (((List.getD x0.2.2 (Int.toNat v242) ((0 : Int), (0 : Int))).2 : Int) < (0 : Int)))) then true else (decide (((List.getD x0.2.2 (Int.toNat v242) ((0 : Int), (0 : Int))).2 : Int) ≥ (List.length x0.2.1 : Int)))) then true else (((List.getD x0.2.1 (Int.toNat (List.getD x0.2.2 (Int.toNat v242) ((0 : Int), (0 : Int))).1) ((0 : Int), ((0 : Int), ((0 : Int), ((0 : Int), ((0 : Int), (⟨#[]⟩ : ByteArray))))))).2.1 : Int) != (List.getD x0.2.1 (Int.toNat (List.getD x0.2.2 (Int.toNat v242) ((0 : Int), (0 : Int))).2) ((0 : Int), ((0 : Int), ((0 : Int), ((0 : Int), ((0 : Int), (⟨#[]⟩ : ByteArray))))))).1)) = false) ∧ ((decide ((v242 : Int) > (0 : Int))) = true)) → (0 ≤ (IntKind.i64.wrap (v242 - (1 : Int))) ∧ (IntKind.i64.wrap (v242 - (1 : Int))) < (List.length x0.2.2 : Int))) then ((if (((bif (bif (bif (bif (decide (((List.getD x0.2.2 (Int.toNat v242) ((0 : Int), (0 : Int))).1 : Int) < (0 : Int))) then true else (decide (((List.getD x0.2.2 (Int.toNat v242) ((0 : Int), (0 : Int))).1 : Int) ≥ (List.length x0.2.1 : Int)))) then true else (decide (((List.getD x0.2.2 (Int.toNat v242) ((0 : Int), (0 : Int))).2 : Int) < (0 : Int)))) then true else (decide (((List.getD x0.2.2 (Int.toNat v242) ((0 : Int), (0 : Int))).2 : Int) ≥ (List.length x0.2.1 : Int)))) then true else (((List.getD x0.2.1 (Int.toNat (List.getD x0.2.2 (Int.toNat v242) ((0 : Int), (0 : Int))).1) ((0 : Int), ((0 : Int), ((0 : Int), ((0 : Int), ((0 : Int), (⟨#[]⟩ : ByteArray))))))).2.1 : Int) != (List.getD x0.2.1 (Int.toNat (List.getD x0.2.2 (Int.toNat v242) ((0 : Int), (0 : Int))).2) ((0 : Int), ((0 : Int), ((0 : Int), ((0 : Int), ((0 : Int), (⟨#[]⟩ : ByteArray))))))).1)) = false) ∧ ((decide ((v242 : Int) > (0 : Int))) = true)) then f160 k (List.getD x0.2.2 (Int.toNat (IntKind.i64.wrap (v242 - (1 : Int)))) ((0 : Int), (0 : Int))) (List.getD x0.2.2 (Int.toNat v242) ((0 : Int), (0 : Int))) else some default).bind fun r251 => ((some ((bif (bif (bif (bif (bif (decide (((List.getD x0.2.2 (Int.toNat v242) ((0 : Int), (0 : Int))).1 : Int) < (0 : Int))) then true else (decide (((List.getD x0.2.2 (Int.toNat v242) ((0 : Int), (0 : Int))).1 : Int) ≥ (List.length x0.2.1 : Int)))) then true else (decide (((List.getD x0.2.2 (Int.toNat v242) ((0 : Int), (0 : Int))).2 : Int) < (0 : Int)))) then true else (decide (((List.getD x0.2.2 (Int.toNat v242) ((0 : Int), (0 : Int))).2 : Int) ≥ (List.length x0.2.1 : Int)))) then true else (((List.getD x0.2.1 (Int.toNat (List.getD x0.2.2 (Int.toNat v242) ((0 : Int), (0 : Int))).1) ((0 : Int), ((0 : Int), ((0 : Int), ((0 : Int), ((0 : Int), (⟨#[]⟩ : ByteArray))))))).2.1 : Int) != (List.getD x0.2.1 (Int.toNat (List.getD x0.2.2 (Int.toNat v242) ((0 : Int), (0 : Int))).2) ((0 : Int), ((0 : Int), ((0 : Int), ((0 : Int), ((0 : Int), (⟨#[]⟩ : ByteArray))))))).1)) then true else (bif (decide ((v242 : Int) > (0 : Int))) then (!r251) else false)) : Bool)).bind fun v252 => (if v252 then (some false) else ((f70.l206 k x0) m206 (IntKind.i64.wrap (v242 + (1 : Int))))))) else none) else none) else none) else none) else (some true)
def f70.l118 (k : Nat) (x0 : ((List (Int × (Int × Int))) × ((List (Int × (Int × (Int × (Int × (Int × ByteArray)))))) × (List (Int × Int))))) : Nat → Int → Option Bool
  | 0, _ => none
  | m118 + 1, v142 => if (decide ((v142 : Int) < (List.length x0.2.1 : Int))) then (if (0 ≤ v142 ∧ v142 < (List.length x0.2.1 : Int)) then ((if ((bif (bif (bif (decide (((List.getD x0.2.1 (Int.toNat v142) ((0 : Int), ((0 : Int), ((0 : Int), ((0 : Int), ((0 : Int), (⟨#[]⟩ : ByteArray))))))).1 : Int) < (0 : Int))) then true else (decide (((List.getD x0.2.1 (Int.toNat v142) ((0 : Int), ((0 : Int), ((0 : Int), ((0 : Int), ((0 : Int), (⟨#[]⟩ : ByteArray))))))).1 : Int) ≥ (List.length x0.1 : Int)))) then true else (decide (((List.getD x0.2.1 (Int.toNat v142) ((0 : Int), ((0 : Int), ((0 : Int), ((0 : Int), ((0 : Int), (⟨#[]⟩ : ByteArray))))))).2.1 : Int) < (0 : Int)))) then true else (decide (((List.getD x0.2.1 (Int.toNat v142) ((0 : Int), ((0 : Int), ((0 : Int), ((0 : Int), ((0 : Int), (⟨#[]⟩ : ByteArray))))))).2.1 : Int) ≥ (List.length x0.1 : Int)))) = false) then f158 k (List.getD x0.2.1 (Int.toNat v142) ((0 : Int), ((0 : Int), ((0 : Int), ((0 : Int), ((0 : Int), (⟨#[]⟩ : ByteArray))))))).2.2.1 else some default).bind fun r148 => ((some ((bif (bif (bif (bif (bif (bif (bif (bif (decide (((List.getD x0.2.1 (Int.toNat v142) ((0 : Int), ((0 : Int), ((0 : Int), ((0 : Int), ((0 : Int), (⟨#[]⟩ : ByteArray))))))).1 : Int) < (0 : Int))) then true else (decide (((List.getD x0.2.1 (Int.toNat v142) ((0 : Int), ((0 : Int), ((0 : Int), ((0 : Int), ((0 : Int), (⟨#[]⟩ : ByteArray))))))).1 : Int) ≥ (List.length x0.1 : Int)))) then true else (decide (((List.getD x0.2.1 (Int.toNat v142) ((0 : Int), ((0 : Int), ((0 : Int), ((0 : Int), ((0 : Int), (⟨#[]⟩ : ByteArray))))))).2.1 : Int) < (0 : Int)))) then true else (decide (((List.getD x0.2.1 (Int.toNat v142) ((0 : Int), ((0 : Int), ((0 : Int), ((0 : Int), ((0 : Int), (⟨#[]⟩ : ByteArray))))))).2.1 : Int) ≥ (List.length x0.1 : Int)))) then true else (!r148)) then true else (decide (((List.getD x0.2.1 (Int.toNat v142) ((0 : Int), ((0 : Int), ((0 : Int), ((0 : Int), ((0 : Int), (⟨#[]⟩ : ByteArray))))))).2.2.2.1 : Int) < (1 : Int)))) then true else (decide (((List.getD x0.2.1 (Int.toNat v142) ((0 : Int), ((0 : Int), ((0 : Int), ((0 : Int), ((0 : Int), (⟨#[]⟩ : ByteArray))))))).2.2.2.1 : Int) > (1000000 : Int)))) then true else (decide (((List.getD x0.2.1 (Int.toNat v142) ((0 : Int), ((0 : Int), ((0 : Int), ((0 : Int), ((0 : Int), (⟨#[]⟩ : ByteArray))))))).2.2.2.2.1 : Int) < (0 : Int)))) then true else (decide (((List.getD x0.2.1 (Int.toNat v142) ((0 : Int), ((0 : Int), ((0 : Int), ((0 : Int), ((0 : Int), (⟨#[]⟩ : ByteArray))))))).2.2.2.2.1 : Int) > (1000000000 : Int)))) : Bool)).bind fun v149 => (if v149 then (some false) else ((f70.l118 k x0) m118 (IntKind.i64.wrap (v142 + (1 : Int))))))) else none) else (f70.l206 k x0 k (0 : Int))
def f70.l42 (k : Nat) (x0 : ((List (Int × (Int × Int))) × ((List (Int × (Int × (Int × (Int × (Int × ByteArray)))))) × (List (Int × Int))))) : Nat → Int → Option Bool
  | 0, _ => none
  | m42 + 1, v70 => if (decide ((v70 : Int) < (List.length x0.1 : Int))) then (if (0 ≤ v70 ∧ v70 < (List.length x0.1 : Int)) then ((f158 k (List.getD x0.1 (Int.toNat v70) ((0 : Int), ((0 : Int), (0 : Int)))).1).bind fun r77 => ((if ((!r77) = false) then f159 k (List.getD x0.1 (Int.toNat v70) ((0 : Int), ((0 : Int), (0 : Int)))).2 else some default).bind fun r78 => (if ((((bif (!r77) then true else (!r78)) = false) ∧ ((decide ((v70 : Int) > (0 : Int))) = true)) → (0 ≤ (IntKind.i64.wrap (v70 - (1 : Int))) ∧ (IntKind.i64.wrap (v70 - (1 : Int))) < (List.length x0.1 : Int))) then (if (bif (bif (!r77) then true else (!r78)) then true else (bif (decide ((v70 : Int) > (0 : Int))) then (decide (((List.getD x0.1 (Int.toNat (IntKind.i64.wrap (v70 - (1 : Int)))) ((0 : Int), ((0 : Int), (0 : Int)))).1 : Int) ≥ (List.getD x0.1 (Int.toNat v70) ((0 : Int), ((0 : Int), (0 : Int)))).1)) else false)) then (some false) else ((f70.l42 k x0) m42 (IntKind.i64.wrap (v70 + (1 : Int))))) else none))) else none) else (f70.l118 k x0 k (0 : Int))
def f70 (k : Nat) (x0 : ((List (Int × (Int × Int))) × ((List (Int × (Int × (Int × (Int × (Int × ByteArray)))))) × (List (Int × Int))))) : Option Bool := if (bif (bif (decide (((List.length x0.1 : Int) : Int) > (5000 : Int))) then true else (decide (((List.length x0.2.1 : Int) : Int) > (8000 : Int)))) then true else (decide (((List.length x0.2.2 : Int) : Int) > (2000 : Int)))) then (some false) else (f70.l42 k x0 k (0 : Int))
theorem c70 (k : Nat) (x0 : tG) (r : Bool) (hF : f70 k x0 = some r) : PCall Try.prog 70 [⟨sh15, x0⟩] [⟨.bool, r⟩] := by
  refine pcall_intro Try.func70 rfl rfl (Nat.le_of_ble_eq_true rfl) ?_
  intro w0 Zi a w h
  rw [f70] at hF
  refine wp_reg_seq tok (orc := o0) (l := [1]) nw h (by kernel_rfl) an fun a w h => ?_
  refine wp_seq ?_
  refine wp_reg_seq tok (orc := o0) (l := [1, 26]) nw h (by kernel_rfl) an fun a w h => ?_
  refine wp_if h (b := (bif (bif (decide (((List.length x0.1 : Int) : Int) > (5000 : Int))) then true else (decide (((List.length x0.2.1 : Int) : Int) > (8000 : Int)))) then true else (decide (((List.length x0.2.2 : Int) : Int) > (2000 : Int))))) (by kernel_rfl) (fun hb => ?_) (fun hb => ?_)
  · replace hF := of_t hb hF
    refine wp_reg_seq tok (orc := o0) (l := [2]) nw h (by kernel_rfl) an fun a w h => ?_
    cases hF
    exact wp_ret (ret_okR tok h rfl (by kernel_rfl)).1
  · replace hF := of_f hb hF
    refine wp_skip ?_
    refine wp_seq ?_
    refine wp_reg_seq tok (orc := o0) (l := [1, 3]) nw h (by kernel_rfl) an fun a w h => ?_
    refine wp_block ?_
    refine wp_loop_fuel (f70.l42 k x0) (fun (v70 : Int) => [(1, .val sh14 (some x0)), (3, .val (.int .i64) v70)]) (fun v h => by rw [f70.l42] at h; cases h) ?_ hF (h.arrive (l := [1, 3]) nw (by kernel_rfl))
    intro m42 v70 a w hF h
    rw [f70.l42] at hF
    refine wp_seq ?_
    refine wp_reg_seq tok (orc := o0) (l := [1, 3, 31]) nw h (by kernel_rfl) an fun a w h => ?_
    refine wp_if h (b := (decide ((v70 : Int) < (List.length x0.1 : Int)))) (by kernel_rfl) (fun hb => ?_) (fun hb => ?_)
    · replace hF := of_t hb hF
      refine wp_skip ?_
      refine wp_seq <| wp_block ?_
      obtain ⟨hc82, hF⟩ := of_if hF
      refine wp_reg_seq tok (orc := o0) (l := [1, 3, 4]) nw h (by kernel_rfl) (ac hc82 an) fun a w h => ?_
      obtain ⟨r77, hr79, hF⟩ := of_bind hF
      obtain ⟨r78, hr80, hF⟩ := of_bind hF
      obtain ⟨hc81, hF⟩ := of_if hF
      refine wp_regy_seq tok (orc := orcL [(41, [⟨.bool, r77⟩]), (46, [⟨.bool, r78⟩])]) (l := [1, 3, 64]) ([], [], [], []) 26 nw h (by kernel_rfl) (by kernel_rfl) (ac (c158 k (gD x0.1 (tZ v70) (iO, (iO, iO))).1 r77 hr79) (ac (fun (hg : ((!r77) = false)) => c159 k (gD x0.1 (tZ v70) (iO, (iO, iO))).2 r78 (of_g hg hr80)) (ac hc81 an))) fun a w h => ?_
      refine wp_if h (b := (bif (bif (!r77) then true else (!r78)) then true else (bif (decide ((v70 : Int) > iO)) then (decide (((gD x0.1 (tZ (w64 (v70 - (1 : Int)))) (iO, (iO, iO))).1 : Int) ≥ (gD x0.1 (tZ v70) (iO, (iO, iO))).1)) else false))) (by kernel_rfl) (fun hb => ?_) (fun hb => ?_)
      · replace hF := of_t hb hF
        refine wp_reg_seq tok (orc := o0) (l := [2]) nw h (by kernel_rfl) an fun a w h => ?_
        cases hF
        exact wp_ret (ret_okR tok h rfl (by kernel_rfl)).1
      · replace hF := of_f hb hF
        refine wp_skip ?_
        refine wp_reg tok (orc := o0) (l := [1, 3]) nw h (by kernel_rfl) an fun a w h => ?_
        exact ⟨(w64 (v70 + (1 : Int))), hF, h.arrive (l := [1, 3]) nw (by kernel_rfl)⟩
    · replace hF := of_f hb hF
      refine wp_exit ?_
      refine wp_reg_seq tok (orc := o0) (l := [1, 5]) nw h (by kernel_rfl) an fun a w h => ?_
      refine wp_seq ?_
      refine wp_reg_seq tok (orc := o0) (l := [1, 5, 6]) nw h (by kernel_rfl) an fun a w h => ?_
      refine wp_block ?_
      refine wp_loop_fuel (f70.l118 k x0) (fun (v142 : Int) => [(1, .val sh14 (some x0)), (5, .val (.int .i64) (List.length x0.1 : Int)), (6, .val (.int .i64) v142)]) (fun v h => by rw [f70.l118] at h; cases h) ?_ hF (h.arrive (l := [1, 5, 6]) nw (by kernel_rfl))
      intro m118 v142 a w hF h
      rw [f70.l118] at hF
      refine wp_seq ?_
      refine wp_reg_seq tok (orc := o0) (l := [1, 5, 6, 72]) nw h (by kernel_rfl) an fun a w h => ?_
      refine wp_if h (b := (decide ((v142 : Int) < (List.length x0.2.1 : Int)))) (by kernel_rfl) (fun hb => ?_) (fun hb => ?_)
      · replace hF := of_t hb hF
        refine wp_skip ?_
        refine wp_seq <| wp_block ?_
        obtain ⟨hc152, hF⟩ := of_if hF
        refine wp_reg_seq tok (orc := o0) (l := [1, 5, 6, 7]) nw h (by kernel_rfl) (ac hc152 an) fun a w h => ?_
        obtain ⟨r148, hr151, hF⟩ := of_bind hF
        refine wp_reg_seq tok (orc := orcL [(103, [⟨.bool, r148⟩])]) (l := [1, 5, 6, 125]) nw h (by kernel_rfl) (ac (fun (hg : ((bif (bif (bif (decide (((gD x0.2.1 (tZ v142) zR).1 : Int) < iO)) then true else (decide (((gD x0.2.1 (tZ v142) zR).1 : Int) ≥ (List.length x0.1 : Int)))) then true else (decide (((gD x0.2.1 (tZ v142) zR).2.1 : Int) < iO))) then true else (decide (((gD x0.2.1 (tZ v142) zR).2.1 : Int) ≥ (List.length x0.1 : Int)))) = false)) => c158 k (gD x0.2.1 (tZ v142) zR).2.2.1 r148 (of_g hg hr151)) an) fun a w h => ?_
        obtain ⟨v149, hv150, hF⟩ := of_bind hF
        replace h := h.cast (S' := [(1, .val sh14 (some x0)), (5, .val (.int .i64) (List.length x0.1 : Int)), (6, .val (.int .i64) v142), (125, .val .bool v149)]) (by cases hv150; kernel_rfl)
        refine wp_if h (b := v149) (by kernel_rfl) (fun hb => ?_) (fun hb => ?_)
        · replace hF := of_t hb hF
          refine wp_reg_seq tok (orc := o0) (l := [2]) nw h (by kernel_rfl) an fun a w h => ?_
          cases hF
          exact wp_ret (ret_okR tok h rfl (by kernel_rfl)).1
        · replace hF := of_f hb hF
          refine wp_skip ?_
          refine wp_reg tok (orc := o0) (l := [1, 5, 6]) nw h (by kernel_rfl) an fun a w h => ?_
          exact ⟨(w64 (v142 + (1 : Int))), hF, h.arrive (l := [1, 5, 6]) nw (by kernel_rfl)⟩
      · replace hF := of_f hb hF
        refine wp_exit ?_
        refine wp_reg_seq tok (orc := o0) (l := [1, 8]) nw h (by kernel_rfl) an fun a w h => ?_
        refine wp_seq ?_
        refine wp_reg_seq tok (orc := o0) (l := [1, 8, 9]) nw h (by kernel_rfl) an fun a w h => ?_
        refine wp_block ?_
        refine wp_loop_fuel (f70.l206 k x0) (fun (v242 : Int) => [(1, .val sh14 (some x0)), (8, .val (.int .i64) (List.length x0.2.1 : Int)), (9, .val (.int .i64) v242)]) (fun v h => by rw [f70.l206] at h; cases h) ?_ hF (h.arrive (l := [1, 8, 9]) nw (by kernel_rfl))
        intro m206 v242 a w hF h
        rw [f70.l206] at hF
        refine wp_seq ?_
        refine wp_reg_seq tok (orc := o0) (l := [1, 8, 9, 133]) nw h (by kernel_rfl) an fun a w h => ?_
        refine wp_if h (b := (decide ((v242 : Int) < (List.length x0.2.2 : Int)))) (by kernel_rfl) (fun hb => ?_) (fun hb => ?_)
        · replace hF := of_t hb hF
          refine wp_skip ?_
          refine wp_seq <| wp_block ?_
          obtain ⟨hc258, hF⟩ := of_if hF
          refine wp_reg_seq tok (orc := o0) (l := [1, 8, 9, 10]) nw h (by kernel_rfl) (ac hc258 an) fun a w h => ?_
          obtain ⟨hc254, hF⟩ := of_if hF
          obtain ⟨hc255, hF⟩ := of_if hF
          obtain ⟨hc256, hF⟩ := of_if hF
          obtain ⟨r251, hr257, hF⟩ := of_bind hF
          refine wp_regy_seq tok (orc := orcL [(189, [⟨.bool, r251⟩])]) (l := [1, 8, 9, 192]) ([], [], [], []) 52 nw h (by kernel_rfl) (by kernel_rfl) (ac hc254 (ac hc255 (ac hc256 (ac (fun (hg : (((bif (bif (bif (bif (decide (((gD x0.2.2 (tZ v242) (iO, iO)).1 : Int) < iO)) then true else (decide (((gD x0.2.2 (tZ v242) (iO, iO)).1 : Int) ≥ (List.length x0.2.1 : Int)))) then true else (decide (((gD x0.2.2 (tZ v242) (iO, iO)).2 : Int) < iO))) then true else (decide (((gD x0.2.2 (tZ v242) (iO, iO)).2 : Int) ≥ (List.length x0.2.1 : Int)))) then true else (((gD x0.2.1 (tZ (gD x0.2.2 (tZ v242) (iO, iO)).1) zR).2.1 : Int) != (gD x0.2.1 (tZ (gD x0.2.2 (tZ v242) (iO, iO)).2) zR).1)) = false) ∧ ((decide ((v242 : Int) > iO)) = true))) => c160 k (gD x0.2.2 (tZ (w64 (v242 - (1 : Int)))) (iO, iO)) (gD x0.2.2 (tZ v242) (iO, iO)) r251 (of_g hg hr257)) an)))) fun a w h => ?_
          obtain ⟨v252, hv253, hF⟩ := of_bind hF
          replace h := h.cast (S' := [(1, .val sh14 (some x0)), (8, .val (.int .i64) (List.length x0.2.1 : Int)), (9, .val (.int .i64) v242), (192, .val .bool v252)]) (by cases hv253; kernel_rfl)
          refine wp_if h (b := v252) (by kernel_rfl) (fun hb => ?_) (fun hb => ?_)
          · replace hF := of_t hb hF
            refine wp_reg_seq tok (orc := o0) (l := [2]) nw h (by kernel_rfl) an fun a w h => ?_
            cases hF
            exact wp_ret (ret_okR tok h rfl (by kernel_rfl)).1
          · replace hF := of_f hb hF
            refine wp_skip ?_
            refine wp_reg tok (orc := o0) (l := [1, 8, 9]) nw h (by kernel_rfl) an fun a w h => ?_
            exact ⟨(w64 (v242 + (1 : Int))), hF, h.arrive (l := [1, 8, 9]) nw (by kernel_rfl)⟩
        · replace hF := of_f hb hF
          refine wp_exit ?_
          refine wp_reg_seq tok (orc := o0) (l := [2]) nw h (by kernel_rfl) an fun a w h => ?_
          cases hF
          exact wp_ret (ret_okR tok h rfl (by kernel_rfl)).1

def f93 (k : Nat) (x0 : ((List (Int × (Int × Int))) × ((List (Int × (Int × (Int × (Int × (Int × ByteArray)))))) × (List (Int × Int))))) (x1 : Int) : Option Bool := some (bif (decide ((x1 : Int) ≥ (0 : Int))) then (decide ((x1 : Int) < (List.length x0.1 : Int))) else false)
theorem c93 (k : Nat) (x0 : tG) (x1 : Int) (r : Bool) (hF : f93 k x0 x1 = some r) : PCall Try.prog 93 [⟨sh15, x0⟩, ⟨(.int .i64), x1⟩] [⟨.bool, r⟩] := by
  refine pcall_intro Try.func93 rfl rfl (Nat.le_of_ble_eq_true rfl) ?_
  intro w0 Zi a w h
  rw [f93] at hF
  refine wp_reg_seq tok (orc := o0) (l := [1, 2]) nw h (by kernel_rfl) an fun a w h => ?_
  refine wp_reg_seq tok (orc := o0) (l := [4]) nw h (by kernel_rfl) an fun a w h => ?_
  cases hF
  exact wp_ret (ret_okR tok h rfl (by kernel_rfl)).1

def f73.j109 (k : Nat) (v97 : (List (List Int))) (v98 : Int) (q58 : ((List (List Int)) × Int) → Option (List (List Int))) : Int → Option (List (List Int))
  | v108 => if (0 ≤ v108 ∧ v108 < (List.length v97 : Int)) then (if ((List.length (List.getD v97 (Int.toNat v108) ([] : (List Int))) + List.length [v98]) * 8 ≤ 140737488355328) then (if (0 ≤ v108 ∧ v108 < (List.length v97 : Int)) then (q58 ((List.set v97 (Int.toNat v108) (List.append (List.getD v97 (Int.toNat v108) ([] : (List Int))) [v98])), (IntKind.i64.wrap (v98 + (1 : Int))))) else none) else none) else none
def f73.l58 (k : Nat) (x0 : ((List (Int × (Int × Int))) × ((List (Int × (Int × (Int × (Int × (Int × ByteArray)))))) × (List (Int × Int))))) (x1 : Bool) : Nat → ((List (List Int)) × Int) → Option (List (List Int))
  | 0, _ => none
  | m58 + 1, (v97, v98) => if (decide ((v98 : Int) < (List.length x0.2.1 : Int))) then (if (0 ≤ v98 ∧ v98 < (List.length x0.2.1 : Int)) then (if x1 then (if (0 ≤ v98 ∧ v98 < (List.length x0.2.1 : Int)) then (f73.j109 k v97 v98 ((f73.l58 k x0 x1) m58) (List.getD x0.2.1 (Int.toNat v98) ((0 : Int), ((0 : Int), ((0 : Int), ((0 : Int), ((0 : Int), (⟨#[]⟩ : ByteArray))))))).2.1) else none) else (f73.j109 k v97 v98 ((f73.l58 k x0 x1) m58) (List.getD x0.2.1 (Int.toNat v98) ((0 : Int), ((0 : Int), ((0 : Int), ((0 : Int), ((0 : Int), (⟨#[]⟩ : ByteArray))))))).1)) else none) else (some v97)
def f73 (k : Nat) (x0 : ((List (Int × (Int × Int))) × ((List (Int × (Int × (Int × (Int × (Int × ByteArray)))))) × (List (Int × Int))))) (x1 : Bool) : Option (List (List Int)) := if (0 ≤ (List.length x0.1 : Int) ∧ Int.toNat (List.length x0.1 : Int) * 24 ≤ 140737488355328) then (f73.l58 k x0 x1 k ((List.replicate (Int.toNat (List.length x0.1 : Int)) ([] : (List Int))), (0 : Int))) else none
theorem c73 (k : Nat) (x0 : tG) (x1 : Bool) (r : (List (List Int))) (hF : f73 k x0 x1 = some r) : PCall Try.prog 73 [⟨sh15, x0⟩, ⟨.bool, x1⟩] [⟨sh16, r⟩] := by
  refine pcall_intro Try.func73 rfl rfl (Nat.le_of_ble_eq_true rfl) ?_
  intro w0 Zi a w h
  rw [f73] at hF
  refine wp_reg_seq tok (orc := o0) (l := [1, 2]) nw h (by kernel_rfl) an fun a w h => ?_
  obtain ⟨hc115, hF⟩ := of_if hF
  refine wp_reg_seq tok (orc := o0) (l := [1, 2, 5]) nw h (by kernel_rfl) (ac hc115 an) fun a w h => ?_
  refine wp_seq ?_
  refine wp_reg_seq tok (orc := o0) (l := [1, 2, 5, 6]) nw h (by kernel_rfl) an fun a w h => ?_
  refine wp_block ?_
  refine wp_loop_fuel (f73.l58 k x0 x1) (fun ((v97, v98) : ((List (List Int)) × Int)) => [(1, .val .bool x1), (2, .val sh14 (some x0)), (5, .val sh16 v97), (6, .val (.int .i64) v98)]) (fun v h => by obtain ⟨v97, v98⟩ := v; rw [f73.l58] at h; cases h) ?_ hF (h.arrive (l := [1, 2, 5, 6]) nw (by kernel_rfl))
  intro m58 v a w hF h
  obtain ⟨v97, v98⟩ := v
  rw [f73.l58] at hF
  refine wp_seq ?_
  refine wp_reg_seq tok (orc := o0) (l := [1, 2, 5, 6, 16]) nw h (by kernel_rfl) an fun a w h => ?_
  refine wp_if h (b := (decide ((v98 : Int) < (List.length x0.2.1 : Int)))) (by kernel_rfl) (fun hb => ?_) (fun hb => ?_)
  · replace hF := of_t hb hF
    refine wp_skip ?_
    refine wp_seq <| wp_block ?_
    obtain ⟨hc114, hF⟩ := of_if hF
    refine wp_reg_seq tok (orc := o0) (l := [1, 2, 5, 6, 7]) nw h (by kernel_rfl) (ac hc114 an) fun a w h => ?_
    refine wp_seq ?_
    refine wp_reg_seq tok (orc := o0) (l := [1, 2, 5, 6, 7, 25]) nw h (by kernel_rfl) an fun a w h => ?_
    refine wp_midT (fun a w => ∃ v : Int, f73.j109 k v97 v98 ((f73.l58 k x0 x1) m58) v = some r ∧ Rel w0 (fun _ => False) Zi Try.f73.ntmps ((fun (v108 : Int) => ([(1, .val .bool x1), (2, .val sh14 (some x0)), (5, .val sh16 v97), (6, .val (.int .i64) v98), (7, .val (.int .i64) v108)] : SS)) v) a w) ?_ ?_
    ·
      refine wp_if h (b := x1) (by kernel_rfl) (fun hb => ?_) (fun hb => ?_)
      · replace hF := of_t hb hF
        obtain ⟨hc113, hF⟩ := of_if hF
        refine wp_reg tok (orc := o0) (l := [1, 2, 5, 6, 7]) nw h (by kernel_rfl) (ac hc113 an) fun a w h => ?_
        exact ⟨(gD x0.2.1 (tZ v98) zR).2.1, hF, h.arrive (l := [1, 2, 5, 6, 7]) nw (by kernel_rfl)⟩
      · replace hF := of_f hb hF
        refine wp_skip ?_
        exact ⟨(gD x0.2.1 (tZ v98) zR).1, hF, h.arrive (l := [1, 2, 5, 6, 7]) nw (by kernel_rfl)⟩
    · rintro a w ⟨v108, hF, h⟩
      rw [f73.j109] at hF
      obtain ⟨hc110, hF⟩ := of_if hF
      obtain ⟨hc111, hF⟩ := of_if hF
      obtain ⟨hc112, hF⟩ := of_if hF
      refine wp_reg tok (orc := orcL [(40, [⟨.pt false 4294967293 .unit, some ()⟩])]) (l := [1, 2, 5, 6]) nw h (by kernel_rfl) (ac hc110 (ac (PrefL.mk (l := [[], [], [.idx (tZ v108)], [.idx (tZ v108)]]) (p := [.idx (tZ v108)]) rfl) (ac hc111 (ac hc112 (ac (show ([.idx (tZ v108)] : Path) = [.idx (tZ v108)] from rfl) an))))) fun a w h => ?_
      refine wp_reg tok (orc := o0) (l := [1, 2, 5, 6]) nw h (by kernel_rfl) an fun a w h => ?_
      exact ⟨((List.set v97 (tZ v108) (List.append (gD v97 (tZ v108) lO) [v98])), (w64 (v98 + (1 : Int)))), hF, h.arrive (l := [1, 2, 5, 6]) nw (by kernel_rfl)⟩
  · replace hF := of_f hb hF
    refine wp_exit ?_
    refine wp_reg_seq tok (orc := o0) (l := [4, 5]) nw h (by kernel_rfl) an fun a w h => ?_
    cases hF
    exact wp_ret (ret_okR tok h rfl (by kernel_rfl)).1

def f218.l22 (k : Nat) (x0 : ((List (Int × (Int × Int))) × ((List (Int × (Int × (Int × (Int × (Int × ByteArray)))))) × (List (Int × Int))))) (x1 : Int) (x2 : Int) : Nat → (Int × Int) → Option Bool
  | 0, _ => none
  | m22 + 1, (v37, v38) => if (decide ((v37 : Int) < v38)) then (if (((2 : Int) : Int) ≠ 0) then (if (0 ≤ (IntKind.i64.wrap (Int.tdiv (IntKind.i64.wrap (v37 + v38)) (2 : Int))) ∧ (IntKind.i64.wrap (Int.tdiv (IntKind.i64.wrap (v37 + v38)) (2 : Int))) < (List.length x0.2.2 : Int)) then ((f160 k (List.getD x0.2.2 (Int.toNat (IntKind.i64.wrap (Int.tdiv (IntKind.i64.wrap (v37 + v38)) (2 : Int)))) ((0 : Int), (0 : Int))) (x1, x2)).bind fun r39 => (if r39 then ((f218.l22 k x0 x1 x2) m22 ((IntKind.i64.wrap ((IntKind.i64.wrap (Int.tdiv (IntKind.i64.wrap (v37 + v38)) (2 : Int))) + (1 : Int))), v38)) else ((f218.l22 k x0 x1 x2) m22 (v37, (IntKind.i64.wrap (Int.tdiv (IntKind.i64.wrap (v37 + v38)) (2 : Int))))))) else none) else none) else (if (((decide ((v37 : Int) < (List.length x0.2.2 : Int))) = true) → (0 ≤ v37 ∧ v37 < (List.length x0.2.2 : Int))) then (some (bif (decide ((v37 : Int) < (List.length x0.2.2 : Int))) then (Sh.beq sh7 (List.getD x0.2.2 (Int.toNat v37) ((0 : Int), (0 : Int))) (x1, x2)) else false)) else none)
def f218 (k : Nat) (x0 : ((List (Int × (Int × Int))) × ((List (Int × (Int × (Int × (Int × (Int × ByteArray)))))) × (List (Int × Int))))) (x1 : Int) (x2 : Int) : Option Bool := f218.l22 k x0 x1 x2 k ((0 : Int), (List.length x0.2.2 : Int))
theorem c218 (k : Nat) (x0 : tG) (x1 : Int) (x2 : Int) (r : Bool) (hF : f218 k x0 x1 x2 = some r) : PCall Try.prog 218 [⟨sh15, x0⟩, ⟨(.int .i64), x1⟩, ⟨(.int .i64), x2⟩] [⟨.bool, r⟩] := by
  refine pcall_intro Try.func218 rfl rfl (Nat.le_of_ble_eq_true rfl) ?_
  intro w0 Zi a w h
  rw [f218] at hF
  refine wp_reg_seq tok (orc := o0) (l := [1, 2, 3]) nw h (by kernel_rfl) an fun a w h => ?_
  refine wp_reg_seq tok (orc := o0) (l := [3, 7]) nw h (by kernel_rfl) an fun a w h => ?_
  refine wp_reg_seq tok (orc := o0) (l := [3, 7, 8]) nw h (by kernel_rfl) an fun a w h => ?_
  refine wp_reg_seq tok (orc := o0) (l := [3, 7, 8, 9]) nw h (by kernel_rfl) an fun a w h => ?_
  refine wp_seq <| wp_block ?_
  refine wp_loop_fuel (f218.l22 k x0 x1 x2) (fun ((v37, v38) : (Int × Int)) => [(3, .val sh14 (some x0)), (7, .val sh17 (some (x1, x2))), (8, .val (.int .i64) v37), (9, .val (.int .i64) v38)]) (fun v h => by obtain ⟨v37, v38⟩ := v; rw [f218.l22] at h; cases h) ?_ hF (h.arrive (l := [3, 7, 8, 9]) nw (by kernel_rfl))
  intro m22 v a w hF h
  obtain ⟨v37, v38⟩ := v
  rw [f218.l22] at hF
  refine wp_seq ?_
  refine wp_reg_seq tok (orc := o0) (l := [3, 7, 8, 9, 19]) nw h (by kernel_rfl) an fun a w h => ?_
  refine wp_if h (b := (decide ((v37 : Int) < v38))) (by kernel_rfl) (fun hb => ?_) (fun hb => ?_)
  · replace hF := of_t hb hF
    refine wp_skip ?_
    refine wp_block ?_
    obtain ⟨hc42, hF⟩ := of_if hF
    refine wp_reg_seq tok (orc := o0) (l := [3, 7, 8, 9, 10]) nw h (by kernel_rfl) (ac hc42 an) fun a w h => ?_
    obtain ⟨hc40, hF⟩ := of_if hF
    obtain ⟨r39, hr41, hF⟩ := of_bind hF
    refine wp_regy_seq tok (orc := orcL [(30, [⟨.bool, r39⟩])]) (l := [3, 7, 8, 9, 10, 30]) ([], [], [], []) 7 nw h (by kernel_rfl) (by kernel_rfl) (ac hc40 (ac (c160 k (gD x0.2.2 (tZ (w64 (Int.tdiv (w64 (v37 + v38)) (2 : Int)))) (iO, iO)) (x1, x2) r39 hr41) an)) fun a w h => ?_
    refine wp_if h (b := r39) (by kernel_rfl) (fun hb => ?_) (fun hb => ?_)
    · replace hF := of_t hb hF
      refine wp_reg tok (orc := o0) (l := [3, 7, 8, 9]) nw h (by kernel_rfl) an fun a w h => ?_
      exact ⟨((w64 ((w64 (Int.tdiv (w64 (v37 + v38)) (2 : Int))) + (1 : Int))), v38), hF, h.arrive (l := [3, 7, 8, 9]) nw (by kernel_rfl)⟩
    · replace hF := of_f hb hF
      refine wp_reg tok (orc := o0) (l := [3, 7, 8, 9]) nw h (by kernel_rfl) an fun a w h => ?_
      exact ⟨(v37, (w64 (Int.tdiv (w64 (v37 + v38)) (2 : Int)))), hF, h.arrive (l := [3, 7, 8, 9]) nw (by kernel_rfl)⟩
  · replace hF := of_f hb hF
    refine wp_exit ?_
    obtain ⟨hc43, hF⟩ := of_if hF
    refine wp_regy_seq tok (orc := o0) (l := [6]) ([], [], [], []) 15 nw h (by kernel_rfl) (by kernel_rfl) (ac hc43 (ac (fun (_ : ((decide ((v37 : Int) < (List.length x0.2.2 : Int))) = true)) => (And.intro (show eqTy Try.prog 9 167 (.st (.pair (.int .i64) (.int .i64))) = true from by kernel_rfl) (show Try.prog.eqGuardType Try.prog.depth 167 = false from by kernel_rfl))) an)) fun a w h => ?_
    cases hF
    exact wp_ret (ret_okR tok h rfl (by kernel_rfl)).1

def f163.j85 (k : Nat) (v78 : Int) (q46 : ((List Int) × Int) → Option (List Int)) : (List Int) → Option (List Int)
  | v84 => q46 (v84, (IntKind.i64.wrap (v78 + (1 : Int))))
def f163.l46 (k : Nat) (x1 : (List (List Int))) (x0 : ((List (Int × (Int × Int))) × ((List (Int × (Int × (Int × (Int × (Int × ByteArray)))))) × (List (Int × Int))))) (x2 : Int) : Nat → ((List Int) × Int) → Option (List Int)
  | 0, _ => none
  | m46 + 1, (v77, v78) => if (decide ((v78 : Int) < (List.length (List.getD x1 (Int.toNat (List.getD x0.2.1 (Int.toNat x2) ((0 : Int), ((0 : Int), ((0 : Int), ((0 : Int), ((0 : Int), (⟨#[]⟩ : ByteArray))))))).2.1) ([] : (List Int))) : Int))) then (if (0 ≤ v78 ∧ v78 < (List.length (List.getD x1 (Int.toNat (List.getD x0.2.1 (Int.toNat x2) ((0 : Int), ((0 : Int), ((0 : Int), ((0 : Int), ((0 : Int), (⟨#[]⟩ : ByteArray))))))).2.1) ([] : (List Int))) : Int)) then ((f218 k x0 x2 (List.getD (List.getD x1 (Int.toNat (List.getD x0.2.1 (Int.toNat x2) ((0 : Int), ((0 : Int), ((0 : Int), ((0 : Int), ((0 : Int), (⟨#[]⟩ : ByteArray))))))).2.1) ([] : (List Int))) (Int.toNat v78) (0 : Int))).bind fun r86 => (if (!r86) then (if (0 ≤ v78 ∧ v78 < (List.length (List.getD x1 (Int.toNat (List.getD x0.2.1 (Int.toNat x2) ((0 : Int), ((0 : Int), ((0 : Int), ((0 : Int), ((0 : Int), (⟨#[]⟩ : ByteArray))))))).2.1) ([] : (List Int))) : Int)) then (if ((List.length v77 + List.length [(List.getD (List.getD x1 (Int.toNat (List.getD x0.2.1 (Int.toNat x2) ((0 : Int), ((0 : Int), ((0 : Int), ((0 : Int), ((0 : Int), (⟨#[]⟩ : ByteArray))))))).2.1) ([] : (List Int))) (Int.toNat v78) (0 : Int))]) * 8 ≤ 140737488355328) then (f163.j85 k v78 ((f163.l46 k x1 x0 x2) m46) (v77 ++ [(List.getD (List.getD x1 (Int.toNat (List.getD x0.2.1 (Int.toNat x2) ((0 : Int), ((0 : Int), ((0 : Int), ((0 : Int), ((0 : Int), (⟨#[]⟩ : ByteArray))))))).2.1) ([] : (List Int))) (Int.toNat v78) (0 : Int))])) else none) else none) else (f163.j85 k v78 ((f163.l46 k x1 x0 x2) m46) v77))) else none) else (some v77)
def f163 (k : Nat) (x0 : ((List (Int × (Int × Int))) × ((List (Int × (Int × (Int × (Int × (Int × ByteArray)))))) × (List (Int × Int))))) (x1 : (List (List Int))) (x2 : Int) : Option (List Int) := if (0 ≤ x2 ∧ x2 < (List.length x0.2.1 : Int)) then (if (0 ≤ (List.getD x0.2.1 (Int.toNat x2) ((0 : Int), ((0 : Int), ((0 : Int), ((0 : Int), ((0 : Int), (⟨#[]⟩ : ByteArray))))))).2.1 ∧ (List.getD x0.2.1 (Int.toNat x2) ((0 : Int), ((0 : Int), ((0 : Int), ((0 : Int), ((0 : Int), (⟨#[]⟩ : ByteArray))))))).2.1 < (List.length x1 : Int)) then (f163.l46 k x1 x0 x2 k (([] : List Int), (0 : Int))) else none) else none
theorem c163 (k : Nat) (x0 : tG) (x1 : (List (List Int))) (x2 : Int) (r : (List Int)) (hF : f163 k x0 x1 x2 = some r) : PCall Try.prog 163 [⟨sh15, x0⟩, ⟨sh18, x1⟩, ⟨(.int .i64), x2⟩] [⟨(.sl true 2 (.int .i64)), r⟩] := by
  refine pcall_intro Try.func163 rfl rfl (Nat.le_of_ble_eq_true rfl) ?_
  intro w0 Zi a w h
  rw [f163] at hF
  refine wp_reg_seq tok (orc := o0) (l := [1, 2, 3]) nw h (by kernel_rfl) an fun a w h => ?_
  refine wp_reg_seq tok (orc := o0) (l := [1, 2, 3, 7]) nw h (by kernel_rfl) an fun a w h => ?_
  obtain ⟨hc91, hF⟩ := of_if hF
  obtain ⟨hc92, hF⟩ := of_if hF
  refine wp_reg_seq tok (orc := o0) (l := [2, 3, 7, 8]) nw h (by kernel_rfl) (ac hc91 (ac hc92 an)) fun a w h => ?_
  refine wp_seq ?_
  refine wp_reg_seq tok (orc := o0) (l := [2, 3, 7, 8, 9]) nw h (by kernel_rfl) an fun a w h => ?_
  refine wp_block ?_
  refine wp_loop_fuel (f163.l46 k x1 x0 x2) (fun ((v77, v78) : ((List Int) × Int)) => [(2, .val (.int .i64) x2), (3, .val sh14 (some x0)), (7, .val (.sl true 2 (.int .i64)) v77), (8, .val (.sl false 2 (.int .i64)) (gD x1 (tZ (gD x0.2.1 (tZ x2) zR).2.1) lO)), (9, .val (.int .i64) v78)]) (fun v h => by obtain ⟨v77, v78⟩ := v; rw [f163.l46] at h; cases h) ?_ hF (h.arrive (l := [2, 3, 7, 8, 9]) nw (by kernel_rfl))
  intro m46 v a w hF h
  obtain ⟨v77, v78⟩ := v
  rw [f163.l46] at hF
  refine wp_seq ?_
  refine wp_reg_seq tok (orc := o0) (l := [2, 3, 7, 8, 9, 23]) nw h (by kernel_rfl) an fun a w h => ?_
  refine wp_if h (b := (decide ((v78 : Int) < (List.length (gD x1 (tZ (gD x0.2.1 (tZ x2) zR).2.1) lO) : Int)))) (by kernel_rfl) (fun hb => ?_) (fun hb => ?_)
  · replace hF := of_t hb hF
    refine wp_skip ?_
    refine wp_mid (fun a w => ∃ v : (List Int), f163.j85 k v78 ((f163.l46 k x1 x0 x2) m46) v = some r ∧ Rel w0 (fun _ => False) Zi Try.f163.ntmps ((fun (v84 : (List Int)) => ([(2, .val (.int .i64) x2), (3, .val sh14 (some x0)), (7, .val (.sl true 2 (.int .i64)) v84), (8, .val (.sl false 2 (.int .i64)) (gD x1 (tZ (gD x0.2.1 (tZ x2) zR).2.1) lO)), (9, .val (.int .i64) v78)] : SS)) v) a w) ?_ ?_
    ·
      refine wp_block ?_
      obtain ⟨hc89, hF⟩ := of_if hF
      obtain ⟨r86, hr90, hF⟩ := of_bind hF
      refine wp_regy_seq tok (orc := orcL [(32, [⟨.bool, r86⟩])]) (l := [2, 3, 7, 8, 9, 33]) ([], [], [], []) 8 nw h (by kernel_rfl) (by kernel_rfl) (ac hc89 (ac (c218 k x0 x2 (gD (gD x1 (tZ (gD x0.2.1 (tZ x2) zR).2.1) lO) (tZ v78) iO) r86 hr90) an)) fun a w h => ?_
      refine wp_if h (b := (!r86)) (by kernel_rfl) (fun hb => ?_) (fun hb => ?_)
      · replace hF := of_t hb hF
        obtain ⟨hc87, hF⟩ := of_if hF
        obtain ⟨hc88, hF⟩ := of_if hF
        refine wp_reg tok (orc := o0) (l := [2, 3, 7, 8, 9]) nw h (by kernel_rfl) (ac hc87 (ac hc88 an)) fun a w h => ?_
        exact ⟨(v77 ++ [(gD (gD x1 (tZ (gD x0.2.1 (tZ x2) zR).2.1) lO) (tZ v78) iO)]), hF, h.arrive (l := [2, 3, 7, 8, 9]) nw (by kernel_rfl)⟩
      · replace hF := of_f hb hF
        refine wp_skip ?_
        exact ⟨v77, hF, h.arrive (l := [2, 3, 7, 8, 9]) nw (by kernel_rfl)⟩
    · rintro a w ⟨v84, hF, h⟩
      rw [f163.j85] at hF
      refine wp_reg tok (orc := o0) (l := [2, 3, 7, 8, 9]) nw h (by kernel_rfl) an fun a w h => ?_
      exact ⟨(v84, (w64 (v78 + (1 : Int)))), hF, h.arrive (l := [2, 3, 7, 8, 9]) nw (by kernel_rfl)⟩
  · replace hF := of_f hb hF
    refine wp_exit ?_
    refine wp_reg_seq tok (orc := o0) (l := [6, 7]) nw h (by kernel_rfl) an fun a w h => ?_
    cases hF
    exact wp_ret (ret_okR tok h rfl (by kernel_rfl)).1

def f250 (k : Nat) (x0 : Int) : Option Int := if (decide ((x0 : Int) < (0 : Int))) then (some (IntKind.i64.wrap (0 - x0))) else (some x0)
theorem c250 (k : Nat) (x0 : Int) (r : Int) (hF : f250 k x0 = some r) : PCall Try.prog 250 [⟨(.int .i64), x0⟩] [⟨(.int .i64), r⟩] := by
  refine pcall_intro Try.func250 rfl rfl (Nat.le_of_ble_eq_true rfl) ?_
  intro w0 Zi a w h
  rw [f250] at hF
  refine wp_reg_seq tok (orc := o0) (l := [0]) nw h (by kernel_rfl) an fun a w h => ?_
  refine wp_seq ?_
  refine wp_reg_seq tok (orc := o0) (l := [0, 4]) nw h (by kernel_rfl) an fun a w h => ?_
  refine wp_if h (b := (decide ((x0 : Int) < iO))) (by kernel_rfl) (fun hb => ?_) (fun hb => ?_)
  · replace hF := of_t hb hF
    refine wp_reg_seq tok (orc := o0) (l := [2]) nw h (by kernel_rfl) an fun a w h => ?_
    cases hF
    exact wp_ret (ret_okR tok h rfl (by kernel_rfl)).1
  · replace hF := of_f hb hF
    refine wp_skip ?_
    refine wp_reg_seq tok (orc := o0) (l := [2]) nw h (by kernel_rfl) an fun a w h => ?_
    cases hF
    exact wp_ret (ret_okR tok h rfl (by kernel_rfl)).1

def f219 (k : Nat) (x0 : (Int × Int)) (x1 : (Int × Int)) : Option Int := (f159 k x0).bind fun r1 => ((if ((!r1) = false) then f159 k x1 else some default).bind fun r2 => (if (bif (bif (!r1) then true else (!r2)) then true else (Sh.beq sh7 x0 x1)) then (some (-1 : Int)) else ((f250 k (IntKind.i64.wrap (x1.1 - x0.1))).bind fun r3 => ((f250 k (IntKind.i64.wrap (x1.2 - x0.2))).bind fun r4 => (if (bif (decide (((IntKind.i64.wrap ((5 : Int) * r4)) : Int) < (IntKind.i64.wrap ((2 : Int) * r3)))) then (decide (((IntKind.i64.wrap (x1.1 - x0.1)) : Int) > (0 : Int))) else false) then (some (0 : Int)) else (if (decide (((IntKind.i64.wrap ((5 : Int) * r4)) : Int) < (IntKind.i64.wrap ((2 : Int) * r3)))) then (some (4 : Int)) else (if (bif (decide (((IntKind.i64.wrap ((5 : Int) * r3)) : Int) < (IntKind.i64.wrap ((2 : Int) * r4)))) then (decide (((IntKind.i64.wrap (x1.2 - x0.2)) : Int) > (0 : Int))) else false) then (some (2 : Int)) else (if (decide (((IntKind.i64.wrap ((5 : Int) * r3)) : Int) < (IntKind.i64.wrap ((2 : Int) * r4)))) then (some (6 : Int)) else (if (bif (decide (((IntKind.i64.wrap (x1.1 - x0.1)) : Int) > (0 : Int))) then (decide (((IntKind.i64.wrap (x1.2 - x0.2)) : Int) > (0 : Int))) else false) then (some (1 : Int)) else (if (bif (decide (((IntKind.i64.wrap (x1.1 - x0.1)) : Int) < (0 : Int))) then (decide (((IntKind.i64.wrap (x1.2 - x0.2)) : Int) > (0 : Int))) else false) then (some (3 : Int)) else (if (decide (((IntKind.i64.wrap (x1.1 - x0.1)) : Int) < (0 : Int))) then (some (5 : Int)) else (some (7 : Int)))))))))))))
theorem c219 (k : Nat) (x0 : (Int × Int)) (x1 : (Int × Int)) (r : Int) (hF : f219 k x0 x1 = some r) : PCall Try.prog 219 [⟨sh7, x0⟩, ⟨sh7, x1⟩] [⟨(.int .i64), r⟩] := by
  refine pcall_intro Try.func219 rfl rfl (Nat.le_of_ble_eq_true rfl) ?_
  intro w0 Zi a w h
  rw [f219] at hF
  refine wp_reg_seq tok (orc := o0) (l := [2, 3]) nw h (by kernel_rfl) an fun a w h => ?_
  refine wp_seq ?_
  obtain ⟨r1, hr7, hF⟩ := of_bind hF
  obtain ⟨r2, hr8, hF⟩ := of_bind hF
  refine wp_reg_seq tok (orc := orcL [(10, [⟨.bool, r1⟩]), (14, [⟨.bool, r2⟩])]) (l := [2, 3, 21]) nw h (by kernel_rfl) (ac (c159 k x0 r1 hr7) (ac (fun (hg : ((!r1) = false)) => c159 k x1 r2 (of_g hg hr8)) (ac (fun (_ : ((bif (!r1) then true else (!r2)) = false)) => (And.intro (show eqTy Try.prog 9 174 (.st (.pair (.int .i64) (.int .i64))) = true from by kernel_rfl) (show Try.prog.eqGuardType Try.prog.depth 174 = false from by kernel_rfl))) an))) fun a w h => ?_
  refine wp_if h (b := (bif (bif (!r1) then true else (!r2)) then true else (Sh.beq sh7 x0 x1))) (by kernel_rfl) (fun hb => ?_) (fun hb => ?_)
  · replace hF := of_t hb hF
    refine wp_reg_seq tok (orc := o0) (l := [4]) nw h (by kernel_rfl) an fun a w h => ?_
    cases hF
    exact wp_ret (ret_okR tok h rfl (by kernel_rfl)).1
  · replace hF := of_f hb hF
    refine wp_skip ?_
    refine wp_reg_seq tok (orc := o0) (l := [2, 3, 5]) nw h (by kernel_rfl) an fun a w h => ?_
    refine wp_reg_seq tok (orc := o0) (l := [5, 6]) nw h (by kernel_rfl) an fun a w h => ?_
    obtain ⟨r3, hr6, hF⟩ := of_bind hF
    refine wp_reg_seq tok (orc := orcL [(33, [⟨(.int .i64), r3⟩])]) (l := [5, 6, 7]) nw h (by kernel_rfl) (ac (c250 k (w64 (x1.1 - x0.1)) r3 hr6) an) fun a w h => ?_
    obtain ⟨r4, hr5, hF⟩ := of_bind hF
    refine wp_reg_seq tok (orc := orcL [(35, [⟨(.int .i64), r4⟩])]) (l := [5, 6, 7, 8]) nw h (by kernel_rfl) (ac (c250 k (w64 (x1.2 - x0.2)) r4 hr5) an) fun a w h => ?_
    refine wp_seq <| wp_block ?_
    refine wp_reg_seq tok (orc := o0) (l := [5, 6, 7, 8, 36]) nw h (by kernel_rfl) an fun a w h => ?_
    refine wp_if h (b := (bif (decide (((w64 ((5 : Int) * r4)) : Int) < (w64 ((2 : Int) * r3)))) then (decide (((w64 (x1.1 - x0.1)) : Int) > iO)) else false)) (by kernel_rfl) (fun hb => ?_) (fun hb => ?_)
    · replace hF := of_t hb hF
      refine wp_reg_seq tok (orc := o0) (l := [4]) nw h (by kernel_rfl) an fun a w h => ?_
      cases hF
      exact wp_ret (ret_okR tok h rfl (by kernel_rfl)).1
    · replace hF := of_f hb hF
      refine wp_reg_seq tok (orc := o0) (l := [5, 6, 7, 8, 46]) nw h (by kernel_rfl) an fun a w h => ?_
      refine wp_if h (b := (decide (((w64 ((5 : Int) * r4)) : Int) < (w64 ((2 : Int) * r3))))) (by kernel_rfl) (fun hb => ?_) (fun hb => ?_)
      · replace hF := of_t hb hF
        refine wp_reg_seq tok (orc := o0) (l := [4]) nw h (by kernel_rfl) an fun a w h => ?_
        cases hF
        exact wp_ret (ret_okR tok h rfl (by kernel_rfl)).1
      · replace hF := of_f hb hF
        refine wp_reg_seq tok (orc := o0) (l := [5, 6, 7, 8, 52]) nw h (by kernel_rfl) an fun a w h => ?_
        refine wp_if h (b := (bif (decide (((w64 ((5 : Int) * r3)) : Int) < (w64 ((2 : Int) * r4)))) then (decide (((w64 (x1.2 - x0.2)) : Int) > iO)) else false)) (by kernel_rfl) (fun hb => ?_) (fun hb => ?_)
        · replace hF := of_t hb hF
          refine wp_reg_seq tok (orc := o0) (l := [4]) nw h (by kernel_rfl) an fun a w h => ?_
          cases hF
          exact wp_ret (ret_okR tok h rfl (by kernel_rfl)).1
        · replace hF := of_f hb hF
          refine wp_reg_seq tok (orc := o0) (l := [5, 6, 62]) nw h (by kernel_rfl) an fun a w h => ?_
          refine wp_if h (b := (decide (((w64 ((5 : Int) * r3)) : Int) < (w64 ((2 : Int) * r4))))) (by kernel_rfl) (fun hb => ?_) (fun hb => ?_)
          · replace hF := of_t hb hF
            refine wp_reg_seq tok (orc := o0) (l := [4]) nw h (by kernel_rfl) an fun a w h => ?_
            cases hF
            exact wp_ret (ret_okR tok h rfl (by kernel_rfl)).1
          · replace hF := of_f hb hF
            refine wp_reg_seq tok (orc := o0) (l := [5, 6, 68]) nw h (by kernel_rfl) an fun a w h => ?_
            refine wp_if h (b := (bif (decide (((w64 (x1.1 - x0.1)) : Int) > iO)) then (decide (((w64 (x1.2 - x0.2)) : Int) > iO)) else false)) (by kernel_rfl) (fun hb => ?_) (fun hb => ?_)
            · replace hF := of_t hb hF
              refine wp_reg_seq tok (orc := o0) (l := [4]) nw h (by kernel_rfl) an fun a w h => ?_
              cases hF
              exact wp_ret (ret_okR tok h rfl (by kernel_rfl)).1
            · replace hF := of_f hb hF
              refine wp_reg_seq tok (orc := o0) (l := [5, 75]) nw h (by kernel_rfl) an fun a w h => ?_
              refine wp_if h (b := (bif (decide (((w64 (x1.1 - x0.1)) : Int) < iO)) then (decide (((w64 (x1.2 - x0.2)) : Int) > iO)) else false)) (by kernel_rfl) (fun hb => ?_) (fun hb => ?_)
              · replace hF := of_t hb hF
                refine wp_reg_seq tok (orc := o0) (l := [4]) nw h (by kernel_rfl) an fun a w h => ?_
                cases hF
                exact wp_ret (ret_okR tok h rfl (by kernel_rfl)).1
              · replace hF := of_f hb hF
                refine wp_reg_seq tok (orc := o0) (l := [82]) nw h (by kernel_rfl) an fun a w h => ?_
                refine wp_if h (b := (decide (((w64 (x1.1 - x0.1)) : Int) < iO))) (by kernel_rfl) (fun hb => ?_) (fun hb => ?_)
                · replace hF := of_t hb hF
                  refine wp_reg_seq tok (orc := o0) (l := [4]) nw h (by kernel_rfl) an fun a w h => ?_
                  cases hF
                  exact wp_ret (ret_okR tok h rfl (by kernel_rfl)).1
                · replace hF := of_f hb hF
                  refine wp_skip ?_
                  refine wp_reg_seq tok (orc := o0) (l := [4]) nw h (by kernel_rfl) an fun a w h => ?_
                  cases hF
                  exact wp_ret (ret_okR tok h rfl (by kernel_rfl)).1

def f164 (k : Nat) (x0 : ((List (Int × (Int × Int))) × ((List (Int × (Int × (Int × (Int × (Int × ByteArray)))))) × (List (Int × Int))))) (x1 : Int) (x2 : Int) : Option Int := if (0 ≤ x1 ∧ x1 < (List.length x0.2.1 : Int)) then (if (0 ≤ x2 ∧ x2 < (List.length x0.2.1 : Int)) then (if (((List.getD x0.2.1 (Int.toNat x2) ((0 : Int), ((0 : Int), ((0 : Int), ((0 : Int), ((0 : Int), (⟨#[]⟩ : ByteArray))))))).2.1 : Int) == (List.getD x0.2.1 (Int.toNat x1) ((0 : Int), ((0 : Int), ((0 : Int), ((0 : Int), ((0 : Int), (⟨#[]⟩ : ByteArray))))))).1) then (some (8 : Int)) else (if (0 ≤ (List.getD x0.2.1 (Int.toNat x1) ((0 : Int), ((0 : Int), ((0 : Int), ((0 : Int), ((0 : Int), (⟨#[]⟩ : ByteArray))))))).1 ∧ (List.getD x0.2.1 (Int.toNat x1) ((0 : Int), ((0 : Int), ((0 : Int), ((0 : Int), ((0 : Int), (⟨#[]⟩ : ByteArray))))))).1 < (List.length x0.1 : Int)) then (if (0 ≤ (List.getD x0.2.1 (Int.toNat x1) ((0 : Int), ((0 : Int), ((0 : Int), ((0 : Int), ((0 : Int), (⟨#[]⟩ : ByteArray))))))).2.1 ∧ (List.getD x0.2.1 (Int.toNat x1) ((0 : Int), ((0 : Int), ((0 : Int), ((0 : Int), ((0 : Int), (⟨#[]⟩ : ByteArray))))))).2.1 < (List.length x0.1 : Int)) then ((f219 k (List.getD x0.1 (Int.toNat (List.getD x0.2.1 (Int.toNat x1) ((0 : Int), ((0 : Int), ((0 : Int), ((0 : Int), ((0 : Int), (⟨#[]⟩ : ByteArray))))))).1) ((0 : Int), ((0 : Int), (0 : Int)))).2 (List.getD x0.1 (Int.toNat (List.getD x0.2.1 (Int.toNat x1) ((0 : Int), ((0 : Int), ((0 : Int), ((0 : Int), ((0 : Int), (⟨#[]⟩ : ByteArray))))))).2.1) ((0 : Int), ((0 : Int), (0 : Int)))).2).bind fun r1 => (if (0 ≤ (List.getD x0.2.1 (Int.toNat x2) ((0 : Int), ((0 : Int), ((0 : Int), ((0 : Int), ((0 : Int), (⟨#[]⟩ : ByteArray))))))).1 ∧ (List.getD x0.2.1 (Int.toNat x2) ((0 : Int), ((0 : Int), ((0 : Int), ((0 : Int), ((0 : Int), (⟨#[]⟩ : ByteArray))))))).1 < (List.length x0.1 : Int)) then (if (0 ≤ (List.getD x0.2.1 (Int.toNat x2) ((0 : Int), ((0 : Int), ((0 : Int), ((0 : Int), ((0 : Int), (⟨#[]⟩ : ByteArray))))))).2.1 ∧ (List.getD x0.2.1 (Int.toNat x2) ((0 : Int), ((0 : Int), ((0 : Int), ((0 : Int), ((0 : Int), (⟨#[]⟩ : ByteArray))))))).2.1 < (List.length x0.1 : Int)) then ((f219 k (List.getD x0.1 (Int.toNat (List.getD x0.2.1 (Int.toNat x2) ((0 : Int), ((0 : Int), ((0 : Int), ((0 : Int), ((0 : Int), (⟨#[]⟩ : ByteArray))))))).1) ((0 : Int), ((0 : Int), (0 : Int)))).2 (List.getD x0.1 (Int.toNat (List.getD x0.2.1 (Int.toNat x2) ((0 : Int), ((0 : Int), ((0 : Int), ((0 : Int), ((0 : Int), (⟨#[]⟩ : ByteArray))))))).2.1) ((0 : Int), ((0 : Int), (0 : Int)))).2).bind fun r2 => (if (bif (decide ((r1 : Int) < (0 : Int))) then true else (decide ((r2 : Int) < (0 : Int)))) then (some (0 : Int)) else (if (((8 : Int) : Int) ≠ 0) then (some (Int.tmod (IntKind.i64.wrap ((IntKind.i64.wrap (r2 - r1)) + (8 : Int))) (8 : Int))) else none))) else none) else none)) else none) else none)) else none) else none
theorem c164 (k : Nat) (x0 : tG) (x1 : Int) (x2 : Int) (r : Int) (hF : f164 k x0 x1 x2 = some r) : PCall Try.prog 164 [⟨sh15, x0⟩, ⟨(.int .i64), x1⟩, ⟨(.int .i64), x2⟩] [⟨(.int .i64), r⟩] := by
  refine pcall_intro Try.func164 rfl rfl (Nat.le_of_ble_eq_true rfl) ?_
  intro w0 Zi a w h
  rw [f164] at hF
  refine wp_reg_seq tok (orc := o0) (l := [1, 2, 3]) nw h (by kernel_rfl) an fun a w h => ?_
  obtain ⟨hc11, hF⟩ := of_if hF
  refine wp_reg_seq tok (orc := o0) (l := [2, 3, 7]) nw h (by kernel_rfl) (ac hc11 an) fun a w h => ?_
  obtain ⟨hc10, hF⟩ := of_if hF
  refine wp_reg_seq tok (orc := o0) (l := [3, 7, 8]) nw h (by kernel_rfl) (ac hc10 an) fun a w h => ?_
  refine wp_seq ?_
  refine wp_reg_seq tok (orc := o0) (l := [3, 7, 8, 25]) nw h (by kernel_rfl) an fun a w h => ?_
  refine wp_if h (b := (((gD x0.2.1 (tZ x2) zR).2.1 : Int) == (gD x0.2.1 (tZ x1) zR).1)) (by kernel_rfl) (fun hb => ?_) (fun hb => ?_)
  · replace hF := of_t hb hF
    refine wp_reg_seq tok (orc := o0) (l := [6]) nw h (by kernel_rfl) an fun a w h => ?_
    cases hF
    exact wp_ret (ret_okR tok h rfl (by kernel_rfl)).1
  · replace hF := of_f hb hF
    refine wp_skip ?_
    obtain ⟨hc7, hF⟩ := of_if hF
    obtain ⟨hc8, hF⟩ := of_if hF
    obtain ⟨r1, hr9, hF⟩ := of_bind hF
    refine wp_regy_seq tok (orc := orcL [(40, [⟨(.int .i64), r1⟩])]) (l := [3, 8, 9]) ([], [], [], []) 16 nw h (by kernel_rfl) (by kernel_rfl) (ac hc7 (ac hc8 (ac (c219 k (gD x0.1 (tZ (gD x0.2.1 (tZ x1) zR).1) (iO, (iO, iO))).2 (gD x0.1 (tZ (gD x0.2.1 (tZ x1) zR).2.1) (iO, (iO, iO))).2 r1 hr9) an))) fun a w h => ?_
    obtain ⟨hc4, hF⟩ := of_if hF
    obtain ⟨hc5, hF⟩ := of_if hF
    obtain ⟨r2, hr6, hF⟩ := of_bind hF
    refine wp_regy_seq tok (orc := orcL [(55, [⟨(.int .i64), r2⟩])]) (l := [9, 10]) ([], [], [], []) 16 nw h (by kernel_rfl) (by kernel_rfl) (ac hc4 (ac hc5 (ac (c219 k (gD x0.1 (tZ (gD x0.2.1 (tZ x2) zR).1) (iO, (iO, iO))).2 (gD x0.1 (tZ (gD x0.2.1 (tZ x2) zR).2.1) (iO, (iO, iO))).2 r2 hr6) an))) fun a w h => ?_
    refine wp_seq ?_
    refine wp_reg_seq tok (orc := o0) (l := [9, 10, 61]) nw h (by kernel_rfl) an fun a w h => ?_
    refine wp_if h (b := (bif (decide ((r1 : Int) < iO)) then true else (decide ((r2 : Int) < iO)))) (by kernel_rfl) (fun hb => ?_) (fun hb => ?_)
    · replace hF := of_t hb hF
      refine wp_reg_seq tok (orc := o0) (l := [6]) nw h (by kernel_rfl) an fun a w h => ?_
      cases hF
      exact wp_ret (ret_okR tok h rfl (by kernel_rfl)).1
    · replace hF := of_f hb hF
      refine wp_skip ?_
      obtain ⟨hc3, hF⟩ := of_if hF
      refine wp_reg_seq tok (orc := o0) (l := [6]) nw h (by kernel_rfl) (ac hc3 an) fun a w h => ?_
      cases hF
      exact wp_ret (ret_okR tok h rfl (by kernel_rfl)).1

def f177.j92 (k : Nat) (v85 : Int) (q53 : (Int × Int) → Option Int) : Int → Option Int
  | v91 => q53 (v91, (IntKind.i64.wrap (v85 + (1 : Int))))
def f177.l53 (k : Nat) (r7 : (List Int)) (x0 : ((List (Int × (Int × Int))) × ((List (Int × (Int × (Int × (Int × (Int × ByteArray)))))) × (List (Int × Int))))) (x3 : (List Int)) (x4 : (Int × (Int × (ByteArray × (Int × Int))))) : Nat → (Int × Int) → Option Int
  | 0, _ => none
  | m53 + 1, (v84, v85) => if (decide ((v85 : Int) < (List.length r7 : Int))) then (if (0 ≤ v85 ∧ v85 < (List.length r7 : Int)) then ((f164 k x0 (List.getD x3 (Int.toNat (IntKind.i64.wrap ((List.length x3 : Int) - (1 : Int)))) (0 : Int)) (List.getD r7 (Int.toNat v85) (0 : Int))).bind fun r93 => (if ((r93 : Int) != x4.1) then (f177.j92 k v85 ((f177.l53 k r7 x0 x3 x4) m53) v84) else (if ((v84 : Int) == (0 : Int)) then (if (0 ≤ v85 ∧ v85 < (List.length r7 : Int)) then (some (List.getD r7 (Int.toNat v85) (0 : Int))) else none) else (f177.j92 k v85 ((f177.l53 k r7 x0 x3 x4) m53) (IntKind.i64.wrap (v84 - (1 : Int))))))) else none) else (some (-1 : Int))
def f177 (k : Nat) (x0 : ((List (Int × (Int × Int))) × ((List (Int × (Int × (Int × (Int × (Int × ByteArray)))))) × (List (Int × Int))))) (x1 : (List (List Int))) (x2 : Int) (x3 : (List Int)) (x4 : (Int × (Int × (ByteArray × (Int × Int))))) : Option Int := if (((List.length x3 : Int) : Int) == (0 : Int)) then (if (((bif ((x4.1 : Int) != (9 : Int)) then true else (decide ((x4.2.1 : Int) < (0 : Int)))) = false) → (0 ≤ x2 ∧ x2 < (List.length x1 : Int))) then (if (bif (bif ((x4.1 : Int) != (9 : Int)) then true else (decide ((x4.2.1 : Int) < (0 : Int)))) then true else (decide ((x4.2.1 : Int) ≥ (List.length (List.getD x1 (Int.toNat x2) ([] : (List Int))) : Int)))) then (some (-1 : Int)) else (if (0 ≤ x2 ∧ x2 < (List.length x1 : Int)) then (if (0 ≤ x4.2.1 ∧ x4.2.1 < (List.length (List.getD x1 (Int.toNat x2) ([] : (List Int))) : Int)) then (some (List.getD (List.getD x1 (Int.toNat x2) ([] : (List Int))) (Int.toNat x4.2.1) (0 : Int))) else none) else none)) else none) else (if (0 ≤ (IntKind.i64.wrap ((List.length x3 : Int) - (1 : Int))) ∧ (IntKind.i64.wrap ((List.length x3 : Int) - (1 : Int))) < (List.length x3 : Int)) then ((f163 k x0 x1 (List.getD x3 (Int.toNat (IntKind.i64.wrap ((List.length x3 : Int) - (1 : Int)))) (0 : Int))).bind fun r7 => (f177.l53 k r7 x0 x3 x4 k (x4.2.1, (0 : Int)))) else none)
theorem c177 (k : Nat) (x0 : tG) (x1 : (List (List Int))) (x2 : Int) (x3 : (List Int)) (x4 : (Int × (Int × (ByteArray × (Int × Int))))) (r : Int) (hF : f177 k x0 x1 x2 x3 x4 = some r) : PCall Try.prog 177 [⟨sh15, x0⟩, ⟨sh18, x1⟩, ⟨(.int .i64), x2⟩, ⟨(.sl false 2 (.int .i64)), x3⟩, ⟨sh5, x4⟩] [⟨(.int .i64), r⟩] := by
  refine pcall_intro Try.func177 rfl rfl (Nat.le_of_ble_eq_true rfl) ?_
  intro w0 Zi a w h
  rw [f177] at hF
  refine wp_reg_seq tok (orc := o0) (l := [1, 2, 3, 5, 9]) nw h (by kernel_rfl) an fun a w h => ?_
  refine wp_reg_seq tok (orc := o0) (l := [1, 2, 3, 5, 9, 11]) nw h (by kernel_rfl) an fun a w h => ?_
  refine wp_seq ?_
  refine wp_reg_seq tok (orc := o0) (l := [1, 2, 3, 5, 9, 11, 19]) nw h (by kernel_rfl) an fun a w h => ?_
  refine wp_if h (b := (((List.length x3 : Int) : Int) == iO)) (by kernel_rfl) (fun hb => ?_) (fun hb => ?_)
  · replace hF := of_t hb hF
    refine wp_seq ?_
    obtain ⟨hc6, hF⟩ := of_if hF
    refine wp_reg_seq tok (orc := o0) (l := [1, 2, 11, 35]) nw h (by kernel_rfl) (ac hc6 an) fun a w h => ?_
    refine wp_if h (b := (bif (bif ((x4.1 : Int) != (9 : Int)) then true else (decide ((x4.2.1 : Int) < iO))) then true else (decide ((x4.2.1 : Int) ≥ (List.length (gD x1 (tZ x2) lO) : Int))))) (by kernel_rfl) (fun hb => ?_) (fun hb => ?_)
    · replace hF := of_t hb hF
      refine wp_reg_seq tok (orc := o0) (l := [10]) nw h (by kernel_rfl) an fun a w h => ?_
      cases hF
      exact wp_ret (ret_okR tok h rfl (by kernel_rfl)).1
    · replace hF := of_f hb hF
      refine wp_skip ?_
      obtain ⟨hc4, hF⟩ := of_if hF
      obtain ⟨hc5, hF⟩ := of_if hF
      refine wp_reg_seq tok (orc := o0) (l := [10]) nw h (by kernel_rfl) (ac hc4 (ac hc5 an)) fun a w h => ?_
      cases hF
      exact wp_ret (ret_okR tok h rfl (by kernel_rfl)).1
  · replace hF := of_f hb hF
    refine wp_skip ?_
    obtain ⟨hc99, hF⟩ := of_if hF
    refine wp_reg_seq tok (orc := o0) (l := [1, 5, 9, 11, 12]) nw h (by kernel_rfl) (ac hc99 an) fun a w h => ?_
    obtain ⟨r7, hr98, hF⟩ := of_bind hF
    refine wp_reg_seq tok (orc := orcL [(52, [⟨(.sl true 2 (.int .i64)), r7⟩])]) (l := [5, 9, 11, 12, 13]) nw h (by kernel_rfl) (ac (c163 k x0 x1 (gD x3 (tZ (w64 ((List.length x3 : Int) - (1 : Int)))) iO) r7 hr98) an) fun a w h => ?_
    refine wp_seq ?_
    refine wp_reg_seq tok (orc := o0) (l := [5, 9, 11, 12, 13, 14]) nw h (by kernel_rfl) an fun a w h => ?_
    refine wp_block ?_
    refine wp_loop_fuel (f177.l53 k r7 x0 x3 x4) (fun ((v84, v85) : (Int × Int)) => [(5, .val sh14 (some x0)), (9, .val sh19 (some x4)), (11, .val (.int .i64) v84), (12, .val (.int .i64) (gD x3 (tZ (w64 ((List.length x3 : Int) - (1 : Int)))) iO)), (13, .val (.sl true 2 (.int .i64)) r7), (14, .val (.int .i64) v85)]) (fun v h => by obtain ⟨v84, v85⟩ := v; rw [f177.l53] at h; cases h) ?_ hF (h.arrive (l := [5, 9, 11, 12, 13, 14]) nw (by kernel_rfl))
    intro m53 v a w hF h
    obtain ⟨v84, v85⟩ := v
    rw [f177.l53] at hF
    refine wp_seq ?_
    refine wp_reg_seq tok (orc := o0) (l := [5, 9, 11, 12, 13, 14, 56]) nw h (by kernel_rfl) an fun a w h => ?_
    refine wp_if h (b := (decide ((v85 : Int) < (List.length r7 : Int)))) (by kernel_rfl) (fun hb => ?_) (fun hb => ?_)
    · replace hF := of_t hb hF
      refine wp_skip ?_
      refine wp_mid (fun a w => ∃ v : Int, f177.j92 k v85 ((f177.l53 k r7 x0 x3 x4) m53) v = some r ∧ Rel w0 (fun _ => False) Zi Try.f177.ntmps ((fun (v91 : Int) => ([(5, .val sh14 (some x0)), (9, .val sh19 (some x4)), (11, .val (.int .i64) v91), (12, .val (.int .i64) (gD x3 (tZ (w64 ((List.length x3 : Int) - (1 : Int)))) iO)), (13, .val (.sl true 2 (.int .i64)) r7), (14, .val (.int .i64) v85)] : SS)) v) a w) ?_ ?_
      ·
        refine wp_block ?_
        refine wp_seq ?_
        obtain ⟨hc96, hF⟩ := of_if hF
        obtain ⟨r93, hr97, hF⟩ := of_bind hF
        refine wp_regy_seq tok (orc := orcL [(65, [⟨(.int .i64), r93⟩])]) (l := [5, 9, 11, 12, 13, 14, 68]) ([], [], [], []) 10 nw h (by kernel_rfl) (by kernel_rfl) (ac hc96 (ac (c164 k x0 (gD x3 (tZ (w64 ((List.length x3 : Int) - (1 : Int)))) iO) (gD r7 (tZ v85) iO) r93 hr97) an)) fun a w h => ?_
        refine wp_if h (b := ((r93 : Int) != x4.1)) (by kernel_rfl) (fun hb => ?_) (fun hb => ?_)
        · replace hF := of_t hb hF
          refine wp_exit ?_
          exact ⟨v84, hF, h.arrive (l := [5, 9, 11, 12, 13, 14]) nw (by kernel_rfl)⟩
        · replace hF := of_f hb hF
          refine wp_skip ?_
          refine wp_seq ?_
          refine wp_reg_seq tok (orc := o0) (l := [5, 9, 11, 12, 13, 14, 70]) nw h (by kernel_rfl) an fun a w h => ?_
          refine wp_if h (b := ((v84 : Int) == iO)) (by kernel_rfl) (fun hb => ?_) (fun hb => ?_)
          · replace hF := of_t hb hF
            obtain ⟨hc95, hF⟩ := of_if hF
            refine wp_reg_seq tok (orc := o0) (l := [10]) nw h (by kernel_rfl) (ac hc95 an) fun a w h => ?_
            cases hF
            exact wp_ret (ret_okR tok h rfl (by kernel_rfl)).1
          · replace hF := of_f hb hF
            refine wp_skip ?_
            refine wp_reg tok (orc := o0) (l := [5, 9, 11, 12, 13, 14]) nw h (by kernel_rfl) an fun a w h => ?_
            exact ⟨(w64 (v84 - (1 : Int))), hF, h.arrive (l := [5, 9, 11, 12, 13, 14]) nw (by kernel_rfl)⟩
      · rintro a w ⟨v91, hF, h⟩
        rw [f177.j92] at hF
        refine wp_reg tok (orc := o0) (l := [5, 9, 11, 12, 13, 14]) nw h (by kernel_rfl) an fun a w h => ?_
        exact ⟨(v91, (w64 (v85 + (1 : Int)))), hF, h.arrive (l := [5, 9, 11, 12, 13, 14]) nw (by kernel_rfl)⟩
    · replace hF := of_f hb hF
      refine wp_exit ?_
      refine wp_reg_seq tok (orc := o0) (l := [10]) nw h (by kernel_rfl) an fun a w h => ?_
      cases hF
      exact wp_ret (ret_okR tok h rfl (by kernel_rfl)).1

def f74.j144 (k : Nat) (v132 : Int) (q78 : (Int × Int × Int) → Option Int) : (Int × Int) → Option Int
  | (v142, v143) => q78 (v142, v143, (IntKind.i64.wrap (v132 + (1 : Int))))
def f74.j147 (k : Nat) (v130 : Int) (v131 : Int) (v132 : Int) (r1 : (List Int)) (q144 : (Int × Int) → Option Int) : Int → Option Int
  | v146 => if (bif (decide ((v130 : Int) < (0 : Int))) then true else (decide ((v146 : Int) < v131))) then (if (0 ≤ v132 ∧ v132 < (List.length r1 : Int)) then (q144 ((List.getD r1 (Int.toNat v132) (0 : Int)), v146)) else none) else (q144 (v130, v131))
def f74.l78 (k : Nat) (r1 : (List Int)) (x0 : ((List (Int × (Int × Int))) × ((List (Int × (Int × (Int × (Int × (Int × ByteArray)))))) × (List (Int × Int))))) (x2 : Int) : Nat → (Int × Int × Int) → Option Int
  | 0, _ => none
  | m78 + 1, (v130, v131, v132) => if (decide ((v132 : Int) < (List.length r1 : Int))) then (if (0 ≤ v132 ∧ v132 < (List.length r1 : Int)) then (if (0 ≤ (List.getD r1 (Int.toNat v132) (0 : Int)) ∧ (List.getD r1 (Int.toNat v132) (0 : Int)) < (List.length x0.2.1 : Int)) then (if (0 ≤ x2 ∧ x2 < (List.length x0.2.1 : Int)) then (if (!(ByteArray.toList (List.getD x0.2.1 (Int.toNat (List.getD r1 (Int.toNat v132) (0 : Int))) ((0 : Int), ((0 : Int), ((0 : Int), ((0 : Int), ((0 : Int), (⟨#[]⟩ : ByteArray))))))).2.2.2.2.2 == ByteArray.toList (List.getD x0.2.1 (Int.toNat x2) ((0 : Int), ((0 : Int), ((0 : Int), ((0 : Int), ((0 : Int), (⟨#[]⟩ : ByteArray))))))).2.2.2.2.2)) then (f74.j144 k v132 ((f74.l78 k r1 x0 x2) m78) (v130, v131)) else (if (0 ≤ v132 ∧ v132 < (List.length r1 : Int)) then ((f164 k x0 x2 (List.getD r1 (Int.toNat v132) (0 : Int))).bind fun r145 => (if (bif (decide ((r145 : Int) < (8 : Int))) then (decide (((IntKind.i64.wrap ((8 : Int) - r145)) : Int) < r145)) else false) then (f74.j147 k v130 v131 v132 r1 (f74.j144 k v132 ((f74.l78 k r1 x0 x2) m78)) (IntKind.i64.wrap ((8 : Int) - r145))) else (f74.j147 k v130 v131 v132 r1 (f74.j144 k v132 ((f74.l78 k r1 x0 x2) m78)) r145))) else none)) else none) else none) else none) else (some v130)
def f74 (k : Nat) (x0 : ((List (Int × (Int × Int))) × ((List (Int × (Int × (Int × (Int × (Int × ByteArray)))))) × (List (Int × Int))))) (x1 : (List (List Int))) (x2 : Int) : Option Int := (f163 k x0 x1 x2).bind fun r1 => (f74.l78 k r1 x0 x2 k ((-1 : Int), (0 : Int), (0 : Int)))
theorem c74 (k : Nat) (x0 : tG) (x1 : (List (List Int))) (x2 : Int) (r : Int) (hF : f74 k x0 x1 x2 = some r) : PCall Try.prog 74 [⟨sh15, x0⟩, ⟨sh18, x1⟩, ⟨(.int .i64), x2⟩] [⟨(.int .i64), r⟩] := by
  refine pcall_intro Try.func74 rfl rfl (Nat.le_of_ble_eq_true rfl) ?_
  intro w0 Zi a w h
  rw [f74] at hF
  refine wp_reg_seq tok (orc := o0) (l := [1, 2, 3]) nw h (by kernel_rfl) an fun a w h => ?_
  refine wp_reg_seq tok (orc := o0) (l := [1, 2, 3, 7]) nw h (by kernel_rfl) an fun a w h => ?_
  refine wp_reg_seq tok (orc := o0) (l := [1, 2, 3, 7, 8]) nw h (by kernel_rfl) an fun a w h => ?_
  obtain ⟨r1, hr154, hF⟩ := of_bind hF
  refine wp_reg_seq tok (orc := orcL [(15, [⟨(.sl true 2 (.int .i64)), r1⟩])]) (l := [2, 3, 7, 8, 9]) nw h (by kernel_rfl) (ac (c163 k x0 x1 x2 r1 hr154) an) fun a w h => ?_
  refine wp_seq ?_
  refine wp_reg_seq tok (orc := o0) (l := [2, 3, 7, 8, 9, 10]) nw h (by kernel_rfl) an fun a w h => ?_
  refine wp_block ?_
  refine wp_loop_fuel (f74.l78 k r1 x0 x2) (fun ((v130, v131, v132) : (Int × Int × Int)) => [(2, .val (.int .i64) x2), (3, .val sh14 (some x0)), (7, .val (.int .i64) v130), (8, .val (.int .i64) v131), (9, .val (.sl true 2 (.int .i64)) r1), (10, .val (.int .i64) v132)]) (fun v h => by obtain ⟨v130, v131, v132⟩ := v; rw [f74.l78] at h; cases h) ?_ hF (h.arrive (l := [2, 3, 7, 8, 9, 10]) nw (by kernel_rfl))
  intro m78 v a w hF h
  obtain ⟨v130, v131, v132⟩ := v
  rw [f74.l78] at hF
  refine wp_seq ?_
  refine wp_reg_seq tok (orc := o0) (l := [2, 3, 7, 8, 9, 10, 19]) nw h (by kernel_rfl) an fun a w h => ?_
  refine wp_if h (b := (decide ((v132 : Int) < (List.length r1 : Int)))) (by kernel_rfl) (fun hb => ?_) (fun hb => ?_)
  · replace hF := of_t hb hF
    refine wp_skip ?_
    refine wp_mid (fun a w => ∃ v : (Int × Int), f74.j144 k v132 ((f74.l78 k r1 x0 x2) m78) v = some r ∧ Rel w0 (fun _ => False) Zi Try.f74.ntmps ((fun ((v142, v143) : (Int × Int)) => ([(2, .val (.int .i64) x2), (3, .val sh14 (some x0)), (7, .val (.int .i64) v142), (8, .val (.int .i64) v143), (9, .val (.sl true 2 (.int .i64)) r1), (10, .val (.int .i64) v132)] : SS)) v) a w) ?_ ?_
    ·
      refine wp_block ?_
      refine wp_seq ?_
      obtain ⟨hc151, hF⟩ := of_if hF
      obtain ⟨hc152, hF⟩ := of_if hF
      obtain ⟨hc153, hF⟩ := of_if hF
      refine wp_regy_seq tok (orc := o0) (l := [2, 3, 7, 8, 9, 10, 37]) ([], [], [], []) 16 nw h (by kernel_rfl) (by kernel_rfl) (ac hc151 (ac hc152 (ac hc153 an))) fun a w h => ?_
      refine wp_if h (b := (!(ByteArray.toList (gD x0.2.1 (tZ (gD r1 (tZ v132) iO)) zR).2.2.2.2.2 == ByteArray.toList (gD x0.2.1 (tZ x2) zR).2.2.2.2.2))) (by kernel_rfl) (fun hb => ?_) (fun hb => ?_)
      · replace hF := of_t hb hF
        refine wp_exit ?_
        exact ⟨(v130, v131), hF, h.arrive (l := [2, 3, 7, 8, 9, 10]) nw (by kernel_rfl)⟩
      · replace hF := of_f hb hF
        refine wp_skip ?_
        obtain ⟨hc149, hF⟩ := of_if hF
        obtain ⟨r145, hr150, hF⟩ := of_bind hF
        refine wp_regy_seq tok (orc := orcL [(44, [⟨(.int .i64), r145⟩])]) (l := [2, 3, 7, 8, 9, 10, 11]) ([], [], [], []) 8 nw h (by kernel_rfl) (by kernel_rfl) (ac hc149 (ac (c164 k x0 x2 (gD r1 (tZ v132) iO) r145 hr150) an)) fun a w h => ?_
        refine wp_seq ?_
        refine wp_reg_seq tok (orc := o0) (l := [2, 3, 7, 8, 9, 10, 11, 52]) nw h (by kernel_rfl) an fun a w h => ?_
        refine wp_midT (fun a w => ∃ v : Int, f74.j147 k v130 v131 v132 r1 (f74.j144 k v132 ((f74.l78 k r1 x0 x2) m78)) v = some r ∧ Rel w0 (fun _ => False) Zi Try.f74.ntmps ((fun (v146 : Int) => ([(2, .val (.int .i64) x2), (3, .val sh14 (some x0)), (7, .val (.int .i64) v130), (8, .val (.int .i64) v131), (9, .val (.sl true 2 (.int .i64)) r1), (10, .val (.int .i64) v132), (11, .val (.int .i64) v146)] : SS)) v) a w) ?_ ?_
        ·
          refine wp_if h (b := (bif (decide ((r145 : Int) < (8 : Int))) then (decide (((w64 ((8 : Int) - r145)) : Int) < r145)) else false)) (by kernel_rfl) (fun hb => ?_) (fun hb => ?_)
          · replace hF := of_t hb hF
            refine wp_reg tok (orc := o0) (l := [2, 3, 7, 8, 9, 10, 11]) nw h (by kernel_rfl) an fun a w h => ?_
            exact ⟨(w64 ((8 : Int) - r145)), hF, h.arrive (l := [2, 3, 7, 8, 9, 10, 11]) nw (by kernel_rfl)⟩
          · replace hF := of_f hb hF
            refine wp_skip ?_
            exact ⟨r145, hF, h.arrive (l := [2, 3, 7, 8, 9, 10, 11]) nw (by kernel_rfl)⟩
        · rintro a w ⟨v146, hF, h⟩
          rw [f74.j147] at hF
          refine wp_reg_seq tok (orc := o0) (l := [2, 3, 7, 8, 9, 10, 11, 61]) nw h (by kernel_rfl) an fun a w h => ?_
          refine wp_if h (b := (bif (decide ((v130 : Int) < iO)) then true else (decide ((v146 : Int) < v131)))) (by kernel_rfl) (fun hb => ?_) (fun hb => ?_)
          · replace hF := of_t hb hF
            obtain ⟨hc148, hF⟩ := of_if hF
            refine wp_reg_seq tok (orc := o0) (l := [2, 3, 7, 9, 10, 11]) nw h (by kernel_rfl) (ac hc148 an) fun a w h => ?_
            refine wp_reg tok (orc := o0) (l := [2, 3, 7, 8, 9, 10]) nw h (by kernel_rfl) an fun a w h => ?_
            exact ⟨((gD r1 (tZ v132) iO), v146), hF, h.arrive (l := [2, 3, 7, 8, 9, 10]) nw (by kernel_rfl)⟩
          · replace hF := of_f hb hF
            refine wp_skip ?_
            exact ⟨(v130, v131), hF, h.arrive (l := [2, 3, 7, 8, 9, 10]) nw (by kernel_rfl)⟩
    · rintro a w ⟨v, hF, h⟩
      obtain ⟨v142, v143⟩ := v
      rw [f74.j144] at hF
      refine wp_reg tok (orc := o0) (l := [2, 3, 7, 8, 9, 10]) nw h (by kernel_rfl) an fun a w h => ?_
      exact ⟨(v142, v143, (w64 (v132 + (1 : Int)))), hF, h.arrive (l := [2, 3, 7, 8, 9, 10]) nw (by kernel_rfl)⟩
  · replace hF := of_f hb hF
    refine wp_exit ?_
    refine wp_reg_seq tok (orc := o0) (l := [6]) nw h (by kernel_rfl) an fun a w h => ?_
    cases hF
    exact wp_ret (ret_okR tok h rfl (by kernel_rfl)).1

def f94.j527 (k : Nat) (v520 : (List Int)) (v521 : Int) (v522 : Int) (q494 : ((List Int) × Int × Int) → Option ((List Int) × Bool)) : Int → Option ((List Int) × Bool)
  | v526 => q494 ((v520 ++ [v521]), v526, (IntKind.i64.wrap (v522 - (1 : Int))))
def f94.l494 (k : Nat) (x0 : ((List (Int × (Int × Int))) × ((List (Int × (Int × (Int × (Int × (Int × ByteArray)))))) × (List (Int × Int))))) (r1 : (List (List Int))) (v449 : Int) (q269 : ((List Int) × Int) → Option ((List Int) × Bool)) : Nat → ((List Int) × Int × Int) → Option ((List Int) × Bool)
  | 0, _ => none
  | m494 + 1, (v520, v521, v522) => if (decide ((v522 : Int) > (0 : Int))) then (if (bif (decide ((v521 : Int) < (0 : Int))) then true else (((List.length v520 : Int) : Int) == (8000 : Int))) then (some (v520, false)) else (if ((List.length v520 + List.length [v521]) * 8 ≤ 140737488355328) then (if (decide ((v522 : Int) > (1 : Int))) then ((f74 k x0 r1 v521).bind fun r528 => (f94.j527 k v520 v521 v522 ((f94.l494 k x0 r1 v449 q269) m494) r528)) else (f94.j527 k v520 v521 v522 ((f94.l494 k x0 r1 v449 q269) m494) v521)) else none)) else (q269 (v520, (IntKind.i64.wrap (v449 + (1 : Int)))))
def f94.l269 (k : Nat) (x2 : (List (Int × (Int × (ByteArray × (Int × Int)))))) (x0 : ((List (Int × (Int × Int))) × ((List (Int × (Int × (Int × (Int × (Int × ByteArray)))))) × (List (Int × Int))))) (r1 : (List (List Int))) (x1 : Int) : Nat → ((List Int) × Int) → Option ((List Int) × Bool)
  | 0, _ => none
  | m269 + 1, (v448, v449) => if (decide ((v449 : Int) < (List.length x2 : Int))) then (if (0 ≤ v449 ∧ v449 < (List.length x2 : Int)) then (if (((decide (((List.getD x2 (Int.toNat v449) ((0 : Int), ((0 : Int), ((⟨#[]⟩ : ByteArray), ((0 : Int), (0 : Int)))))).2.2.2.1 : Int) < (1 : Int))) = false) → (0 ≤ v449 ∧ v449 < (List.length x2 : Int))) then (if (bif (decide (((List.getD x2 (Int.toNat v449) ((0 : Int), ((0 : Int), ((⟨#[]⟩ : ByteArray), ((0 : Int), (0 : Int)))))).2.2.2.1 : Int) < (1 : Int))) then true else (decide (((List.getD x2 (Int.toNat v449) ((0 : Int), ((0 : Int), ((⟨#[]⟩ : ByteArray), ((0 : Int), (0 : Int)))))).2.2.2.1 : Int) > (8000 : Int)))) then (some (v448, false)) else (if (0 ≤ v449 ∧ v449 < (List.length x2 : Int)) then ((f177 k x0 r1 x1 v448 (List.getD x2 (Int.toNat v449) ((0 : Int), ((0 : Int), ((⟨#[]⟩ : ByteArray), ((0 : Int), (0 : Int))))))).bind fun r493 => (if (0 ≤ v449 ∧ v449 < (List.length x2 : Int)) then (f94.l494 k x0 r1 v449 ((f94.l269 k x2 x0 r1 x1) m269) k (v448, r493, (List.getD x2 (Int.toNat v449) ((0 : Int), ((0 : Int), ((⟨#[]⟩ : ByteArray), ((0 : Int), (0 : Int)))))).2.2.2.1)) else none)) else none)) else none) else none) else (some (v448, true))
def f94 (k : Nat) (x0 : ((List (Int × (Int × Int))) × ((List (Int × (Int × (Int × (Int × (Int × ByteArray)))))) × (List (Int × Int))))) (x1 : Int) (x2 : (List (Int × (Int × (ByteArray × (Int × Int)))))) : Option ((List Int) × Bool) := (f73 k x0 false).bind fun r1 => (f94.l269 k x2 x0 r1 x1 k (([] : List Int), (0 : Int)))
theorem c94 (k : Nat) (x0 : tG) (x1 : Int) (x2 : (List (Int × (Int × (ByteArray × (Int × Int)))))) (r : ((List Int) × Bool)) (hF : f94 k x0 x1 x2 = some r) : PCall Try.prog 94 [⟨sh15, x0⟩, ⟨(.int .i64), x1⟩, ⟨sh20, x2⟩] [⟨(.sl true 2 (.int .i64)), r.1⟩, ⟨.bool, r.2⟩] := by
  refine pcall_intro Try.func94 rfl rfl (Nat.le_of_ble_eq_true rfl) ?_
  intro w0 Zi a w h
  rw [f94] at hF
  refine wp_reg_seq tok (orc := o0) (l := [1, 2, 3]) nw h (by kernel_rfl) an fun a w h => ?_
  refine wp_reg_seq tok (orc := o0) (l := [1, 2, 3, 8]) nw h (by kernel_rfl) an fun a w h => ?_
  obtain ⟨r1, hr536, hF⟩ := of_bind hF
  refine wp_reg_seq tok (orc := orcL [(15, [⟨sh16, r1⟩])]) (l := [1, 2, 3, 8, 9]) nw h (by kernel_rfl) (ac (c73 k x0 false r1 hr536) an) fun a w h => ?_
  refine wp_seq ?_
  refine wp_reg_seq tok (orc := o0) (l := [1, 2, 3, 8, 9, 10]) nw h (by kernel_rfl) an fun a w h => ?_
  refine wp_block ?_
  refine wp_loop_fuel (f94.l269 k x2 x0 r1 x1) (fun ((v448, v449) : ((List Int) × Int)) => [(1, .val (.int .i64) x1), (2, .val sh20 x2), (3, .val sh14 (some x0)), (8, .val (.sl true 2 (.int .i64)) v448), (9, .val sh16 r1), (10, .val (.int .i64) v449)]) (fun v h => by obtain ⟨v448, v449⟩ := v; rw [f94.l269] at h; cases h) ?_ hF (h.arrive (l := [1, 2, 3, 8, 9, 10]) nw (by kernel_rfl))
  intro m269 v a w hF h
  obtain ⟨v448, v449⟩ := v
  rw [f94.l269] at hF
  refine wp_seq ?_
  refine wp_reg_seq tok (orc := o0) (l := [1, 2, 3, 8, 9, 10, 19]) nw h (by kernel_rfl) an fun a w h => ?_
  refine wp_if h (b := (decide ((v449 : Int) < (List.length x2 : Int)))) (by kernel_rfl) (fun hb => ?_) (fun hb => ?_)
  · replace hF := of_t hb hF
    refine wp_skip ?_
    refine wp_seq <| wp_block ?_
    refine wp_seq ?_
    obtain ⟨hc534, hF⟩ := of_if hF
    obtain ⟨hc535, hF⟩ := of_if hF
    refine wp_reg_seq tok (orc := o0) (l := [1, 2, 3, 8, 9, 10, 35]) nw h (by kernel_rfl) (ac hc534 (ac hc535 an)) fun a w h => ?_
    refine wp_if h (b := (bif (decide (((gD x2 (tZ v449) (iO, (iO, ((⟨#[]⟩ : ByteArray), (iO, iO))))).2.2.2.1 : Int) < (1 : Int))) then true else (decide (((gD x2 (tZ v449) (iO, (iO, ((⟨#[]⟩ : ByteArray), (iO, iO))))).2.2.2.1 : Int) > (8000 : Int))))) (by kernel_rfl) (fun hb => ?_) (fun hb => ?_)
    · replace hF := of_t hb hF
      refine wp_reg_seq tok (orc := o0) (l := [6, 7, 8]) nw h (by kernel_rfl) an fun a w h => ?_
      cases hF
      exact wp_ret (ret_okR tok h rfl (by kernel_rfl)).1
    · replace hF := of_f hb hF
      refine wp_skip ?_
      obtain ⟨hc532, hF⟩ := of_if hF
      obtain ⟨r493, hr533, hF⟩ := of_bind hF
      refine wp_regy_seq tok (orc := orcL [(45, [⟨(.int .i64), r493⟩])]) (l := [1, 2, 3, 8, 9, 10, 11]) ([], [], [], []) 10 nw h (by kernel_rfl) (by kernel_rfl) (ac hc532 (ac (c177 k x0 r1 x1 v448 (gD x2 (tZ v449) (iO, (iO, ((⟨#[]⟩ : ByteArray), (iO, iO))))) r493 hr533) an)) fun a w h => ?_
      obtain ⟨hc531, hF⟩ := of_if hF
      refine wp_reg_seq tok (orc := o0) (l := [1, 2, 3, 8, 9, 10, 11, 12]) nw h (by kernel_rfl) (ac hc531 an) fun a w h => ?_
      refine wp_block ?_
      refine wp_loop_fuel (f94.l494 k x0 r1 v449 ((f94.l269 k x2 x0 r1 x1) m269)) (fun ((v520, v521, v522) : ((List Int) × Int × Int)) => [(1, .val (.int .i64) x1), (2, .val sh20 x2), (3, .val sh14 (some x0)), (8, .val (.sl true 2 (.int .i64)) v520), (9, .val sh16 r1), (10, .val (.int .i64) v449), (11, .val (.int .i64) v521), (12, .val (.int .i64) v522)]) (fun v h => by obtain ⟨v520, v521, v522⟩ := v; rw [f94.l494] at h; cases h) ?_ hF (h.arrive (l := [1, 2, 3, 8, 9, 10, 11, 12]) nw (by kernel_rfl))
      intro m494 v a w hF h
      obtain ⟨v520, v521, v522⟩ := v
      rw [f94.l494] at hF
      refine wp_seq ?_
      refine wp_reg_seq tok (orc := o0) (l := [1, 2, 3, 8, 9, 10, 11, 12, 52]) nw h (by kernel_rfl) an fun a w h => ?_
      refine wp_if h (b := (decide ((v522 : Int) > iO))) (by kernel_rfl) (fun hb => ?_) (fun hb => ?_)
      · replace hF := of_t hb hF
        refine wp_skip ?_
        refine wp_mid (fun a w => ∃ v : Int, f94.j527 k v520 v521 v522 ((f94.l494 k x0 r1 v449 ((f94.l269 k x2 x0 r1 x1) m269)) m494) v = some r ∧ Rel w0 (fun _ => False) Zi Try.f94.ntmps ((fun (v526 : Int) => ([(1, .val (.int .i64) x1), (2, .val sh20 x2), (3, .val sh14 (some x0)), (8, .val (.sl true 2 (.int .i64)) (v520 ++ [v521])), (9, .val sh16 r1), (10, .val (.int .i64) v449), (11, .val (.int .i64) v526), (12, .val (.int .i64) v522)] : SS)) v) a w) ?_ ?_
        ·
          refine wp_block ?_
          refine wp_seq ?_
          refine wp_reg_seq tok (orc := o0) (l := [1, 2, 3, 8, 9, 10, 11, 12, 61]) nw h (by kernel_rfl) an fun a w h => ?_
          refine wp_if h (b := (bif (decide ((v521 : Int) < iO)) then true else (((List.length v520 : Int) : Int) == (8000 : Int)))) (by kernel_rfl) (fun hb => ?_) (fun hb => ?_)
          · replace hF := of_t hb hF
            refine wp_reg_seq tok (orc := o0) (l := [6, 7, 8]) nw h (by kernel_rfl) an fun a w h => ?_
            cases hF
            exact wp_ret (ret_okR tok h rfl (by kernel_rfl)).1
          · replace hF := of_f hb hF
            refine wp_skip ?_
            obtain ⟨hc530, hF⟩ := of_if hF
            refine wp_reg_seq tok (orc := o0) (l := [1, 2, 3, 8, 9, 10, 11, 12]) nw h (by kernel_rfl) (ac hc530 an) fun a w h => ?_
            refine wp_reg_seq tok (orc := o0) (l := [1, 2, 3, 8, 9, 10, 11, 12, 68]) nw h (by kernel_rfl) an fun a w h => ?_
            refine wp_if h (b := (decide ((v522 : Int) > (1 : Int)))) (by kernel_rfl) (fun hb => ?_) (fun hb => ?_)
            · replace hF := of_t hb hF
              obtain ⟨r528, hr529, hF⟩ := of_bind hF
              refine wp_reg tok (orc := orcL [(72, [⟨(.int .i64), r528⟩])]) (l := [1, 2, 3, 8, 9, 10, 11, 12]) nw h (by kernel_rfl) (ac (c74 k x0 r1 v521 r528 hr529) an) fun a w h => ?_
              exact ⟨r528, hF, h.arrive (l := [1, 2, 3, 8, 9, 10, 11, 12]) nw (by kernel_rfl)⟩
            · replace hF := of_f hb hF
              refine wp_skip ?_
              exact ⟨v521, hF, h.arrive (l := [1, 2, 3, 8, 9, 10, 11, 12]) nw (by kernel_rfl)⟩
        · rintro a w ⟨v526, hF, h⟩
          rw [f94.j527] at hF
          refine wp_reg tok (orc := o0) (l := [1, 2, 3, 8, 9, 10, 11, 12]) nw h (by kernel_rfl) an fun a w h => ?_
          exact ⟨((v520 ++ [v521]), v526, (w64 (v522 - (1 : Int)))), hF, h.arrive (l := [1, 2, 3, 8, 9, 10, 11, 12]) nw (by kernel_rfl)⟩
      · replace hF := of_f hb hF
        refine wp_exit ?_
        refine wp_reg tok (orc := o0) (l := [1, 2, 3, 8, 9, 10]) nw h (by kernel_rfl) an fun a w h => ?_
        exact ⟨(v520, (w64 (v449 + (1 : Int)))), hF, h.arrive (l := [1, 2, 3, 8, 9, 10]) nw (by kernel_rfl)⟩
  · replace hF := of_f hb hF
    refine wp_exit ?_
    refine wp_reg_seq tok (orc := o0) (l := [6, 7, 8]) nw h (by kernel_rfl) an fun a w h => ?_
    cases hF
    exact wp_ret (ret_okR tok h rfl (by kernel_rfl)).1

def f27 (k : Nat) (x0 : ((List (Int × (Int × Int))) × ((List (Int × (Int × (Int × (Int × (Int × ByteArray)))))) × (List (Int × Int))))) (x1 : Int) (x2 : (List (Int × (Int × (ByteArray × (Int × Int)))))) : Option ((List Int) × Bool) := (f70 k x0).bind fun r1 => ((if ((!r1) = false) then f93 k x0 x1 else some default).bind fun r2 => (if (bif (!r1) then true else (!r2)) then (some (([] : List Int), false)) else ((f94 k x0 x1 x2).bind fun r3 => (some (r3.1, r3.2)))))
theorem c27 (k : Nat) (x0 : tG) (x1 : Int) (x2 : (List (Int × (Int × (ByteArray × (Int × Int)))))) (r : ((List Int) × Bool)) (hF : f27 k x0 x1 x2 = some r) : PCall Try.prog 27 [⟨sh15, x0⟩, ⟨(.int .i64), x1⟩, ⟨sh20, x2⟩] [⟨(.sl true 2 (.int .i64)), r.1⟩, ⟨.bool, r.2⟩] := by
  refine pcall_intro Try.func27 rfl rfl (Nat.le_of_ble_eq_true rfl) ?_
  intro w0 Zi a w h
  rw [f27] at hF
  refine wp_reg_seq tok (orc := o0) (l := [1, 2, 3]) nw h (by kernel_rfl) an fun a w h => ?_
  refine wp_seq ?_
  obtain ⟨r1, hr5, hF⟩ := of_bind hF
  obtain ⟨r2, hr6, hF⟩ := of_bind hF
  refine wp_reg_seq tok (orc := orcL [(9, [⟨.bool, r1⟩]), (14, [⟨.bool, r2⟩])]) (l := [1, 2, 3, 16]) nw h (by kernel_rfl) (ac (c70 k x0 r1 hr5) (ac (fun (hg : ((!r1) = false)) => c93 k x0 x1 r2 (of_g hg hr6)) an)) fun a w h => ?_
  refine wp_if h (b := (bif (!r1) then true else (!r2))) (by kernel_rfl) (fun hb => ?_) (fun hb => ?_)
  · replace hF := of_t hb hF
    refine wp_reg_seq tok (orc := o0) (l := [6, 7]) nw h (by kernel_rfl) an fun a w h => ?_
    cases hF
    exact wp_ret (ret_okR tok h rfl (by kernel_rfl)).1
  · replace hF := of_f hb hF
    refine wp_skip ?_
    obtain ⟨r3, hr4, hF⟩ := of_bind hF
    refine wp_reg_seq tok (orc := orcL [(21, [⟨(.sl true 2 (.int .i64)), r3.1⟩, ⟨.bool, r3.2⟩])]) (l := [6, 7]) nw h (by kernel_rfl) (ac (c94 k x0 x1 x2 r3 hr4) an) fun a w h => ?_
    cases hF
    exact wp_ret (ret_okR tok h rfl (by kernel_rfl)).1

def f162.j11 (k : Nat) : Bool → Option Int
  | v10 => if v10 then (some (3 : Int)) else (some (0 : Int))
def f162.j9 (k : Nat) (r3 : Int) (r2 : Int) : Bool → Option Int
  | v8 => if v8 then (some (5 : Int)) else (if (((Int.tmod (IntKind.i64.wrap ((IntKind.i64.wrap (r3 - r2)) + (8 : Int))) (8 : Int)) : Int) == (5 : Int)) then (f162.j11 k (((Int.tmod (IntKind.i64.wrap ((IntKind.i64.wrap (r3 - r2)) + (8 : Int))) (8 : Int)) : Int) == (5 : Int))) else (f162.j11 k (((Int.tmod (IntKind.i64.wrap ((IntKind.i64.wrap (r3 - r2)) + (8 : Int))) (8 : Int)) : Int) == (6 : Int))))
def f162 (k : Nat) (x0 : ((List (Int × (Int × Int))) × ((List (Int × (Int × (Int × (Int × (Int × ByteArray)))))) × (List (Int × Int))))) (x1 : Int) (x2 : Int) : Option Int := (f218 k x0 x1 x2).bind fun r1 => (if r1 then (some (-1 : Int)) else (if (0 ≤ x1 ∧ x1 < (List.length x0.2.1 : Int)) then (if (0 ≤ x2 ∧ x2 < (List.length x0.2.1 : Int)) then (if (((List.getD x0.2.1 (Int.toNat x2) ((0 : Int), ((0 : Int), ((0 : Int), ((0 : Int), ((0 : Int), (⟨#[]⟩ : ByteArray))))))).2.1 : Int) == (List.getD x0.2.1 (Int.toNat x1) ((0 : Int), ((0 : Int), ((0 : Int), ((0 : Int), ((0 : Int), (⟨#[]⟩ : ByteArray))))))).1) then (some (20 : Int)) else (if (0 ≤ (List.getD x0.2.1 (Int.toNat x1) ((0 : Int), ((0 : Int), ((0 : Int), ((0 : Int), ((0 : Int), (⟨#[]⟩ : ByteArray))))))).1 ∧ (List.getD x0.2.1 (Int.toNat x1) ((0 : Int), ((0 : Int), ((0 : Int), ((0 : Int), ((0 : Int), (⟨#[]⟩ : ByteArray))))))).1 < (List.length x0.1 : Int)) then (if (0 ≤ (List.getD x0.2.1 (Int.toNat x1) ((0 : Int), ((0 : Int), ((0 : Int), ((0 : Int), ((0 : Int), (⟨#[]⟩ : ByteArray))))))).2.1 ∧ (List.getD x0.2.1 (Int.toNat x1) ((0 : Int), ((0 : Int), ((0 : Int), ((0 : Int), ((0 : Int), (⟨#[]⟩ : ByteArray))))))).2.1 < (List.length x0.1 : Int)) then ((f219 k (List.getD x0.1 (Int.toNat (List.getD x0.2.1 (Int.toNat x1) ((0 : Int), ((0 : Int), ((0 : Int), ((0 : Int), ((0 : Int), (⟨#[]⟩ : ByteArray))))))).1) ((0 : Int), ((0 : Int), (0 : Int)))).2 (List.getD x0.1 (Int.toNat (List.getD x0.2.1 (Int.toNat x1) ((0 : Int), ((0 : Int), ((0 : Int), ((0 : Int), ((0 : Int), (⟨#[]⟩ : ByteArray))))))).2.1) ((0 : Int), ((0 : Int), (0 : Int)))).2).bind fun r2 => (if (0 ≤ (List.getD x0.2.1 (Int.toNat x2) ((0 : Int), ((0 : Int), ((0 : Int), ((0 : Int), ((0 : Int), (⟨#[]⟩ : ByteArray))))))).1 ∧ (List.getD x0.2.1 (Int.toNat x2) ((0 : Int), ((0 : Int), ((0 : Int), ((0 : Int), ((0 : Int), (⟨#[]⟩ : ByteArray))))))).1 < (List.length x0.1 : Int)) then (if (0 ≤ (List.getD x0.2.1 (Int.toNat x2) ((0 : Int), ((0 : Int), ((0 : Int), ((0 : Int), ((0 : Int), (⟨#[]⟩ : ByteArray))))))).2.1 ∧ (List.getD x0.2.1 (Int.toNat x2) ((0 : Int), ((0 : Int), ((0 : Int), ((0 : Int), ((0 : Int), (⟨#[]⟩ : ByteArray))))))).2.1 < (List.length x0.1 : Int)) then ((f219 k (List.getD x0.1 (Int.toNat (List.getD x0.2.1 (Int.toNat x2) ((0 : Int), ((0 : Int), ((0 : Int), ((0 : Int), ((0 : Int), (⟨#[]⟩ : ByteArray))))))).1) ((0 : Int), ((0 : Int), (0 : Int)))).2 (List.getD x0.1 (Int.toNat (List.getD x0.2.1 (Int.toNat x2) ((0 : Int), ((0 : Int), ((0 : Int), ((0 : Int), ((0 : Int), (⟨#[]⟩ : ByteArray))))))).2.1) ((0 : Int), ((0 : Int), (0 : Int)))).2).bind fun r3 => (if (bif (decide ((r2 : Int) < (0 : Int))) then true else (decide ((r3 : Int) < (0 : Int)))) then (some (0 : Int)) else (if (((8 : Int) : Int) ≠ 0) then (if (((Int.tmod (IntKind.i64.wrap ((IntKind.i64.wrap (r3 - r2)) + (8 : Int))) (8 : Int)) : Int) == (2 : Int)) then (f162.j9 k r3 r2 (((Int.tmod (IntKind.i64.wrap ((IntKind.i64.wrap (r3 - r2)) + (8 : Int))) (8 : Int)) : Int) == (2 : Int))) else (if (((Int.tmod (IntKind.i64.wrap ((IntKind.i64.wrap (r3 - r2)) + (8 : Int))) (8 : Int)) : Int) == (3 : Int)) then (f162.j9 k r3 r2 (((Int.tmod (IntKind.i64.wrap ((IntKind.i64.wrap (r3 - r2)) + (8 : Int))) (8 : Int)) : Int) == (3 : Int))) else (f162.j9 k r3 r2 (((Int.tmod (IntKind.i64.wrap ((IntKind.i64.wrap (r3 - r2)) + (8 : Int))) (8 : Int)) : Int) == (4 : Int))))) else none))) else none) else none)) else none) else none)) else none) else none))
theorem c162 (k : Nat) (x0 : tG) (x1 : Int) (x2 : Int) (r : Int) (hF : f162 k x0 x1 x2 = some r) : PCall Try.prog 162 [⟨sh15, x0⟩, ⟨(.int .i64), x1⟩, ⟨(.int .i64), x2⟩] [⟨(.int .i64), r⟩] := by
  refine pcall_intro Try.func162 rfl rfl (Nat.le_of_ble_eq_true rfl) ?_
  intro w0 Zi a w h
  rw [f162] at hF
  refine wp_reg_seq tok (orc := o0) (l := [1, 2, 3]) nw h (by kernel_rfl) an fun a w h => ?_
  refine wp_seq ?_
  obtain ⟨r1, hr21, hF⟩ := of_bind hF
  refine wp_reg_seq tok (orc := orcL [(14, [⟨.bool, r1⟩])]) (l := [1, 2, 3, 14]) nw h (by kernel_rfl) (ac (c218 k x0 x1 x2 r1 hr21) an) fun a w h => ?_
  refine wp_if h (b := r1) (by kernel_rfl) (fun hb => ?_) (fun hb => ?_)
  · replace hF := of_t hb hF
    refine wp_reg_seq tok (orc := o0) (l := [6]) nw h (by kernel_rfl) an fun a w h => ?_
    cases hF
    exact wp_ret (ret_okR tok h rfl (by kernel_rfl)).1
  · replace hF := of_f hb hF
    refine wp_skip ?_
    obtain ⟨hc20, hF⟩ := of_if hF
    refine wp_reg_seq tok (orc := o0) (l := [2, 3, 7]) nw h (by kernel_rfl) (ac hc20 an) fun a w h => ?_
    obtain ⟨hc19, hF⟩ := of_if hF
    refine wp_reg_seq tok (orc := o0) (l := [3, 7, 8]) nw h (by kernel_rfl) (ac hc19 an) fun a w h => ?_
    refine wp_seq ?_
    refine wp_reg_seq tok (orc := o0) (l := [3, 7, 8, 29]) nw h (by kernel_rfl) an fun a w h => ?_
    refine wp_if h (b := (((gD x0.2.1 (tZ x2) zR).2.1 : Int) == (gD x0.2.1 (tZ x1) zR).1)) (by kernel_rfl) (fun hb => ?_) (fun hb => ?_)
    · replace hF := of_t hb hF
      refine wp_reg_seq tok (orc := o0) (l := [6]) nw h (by kernel_rfl) an fun a w h => ?_
      cases hF
      exact wp_ret (ret_okR tok h rfl (by kernel_rfl)).1
    · replace hF := of_f hb hF
      refine wp_skip ?_
      obtain ⟨hc16, hF⟩ := of_if hF
      obtain ⟨hc17, hF⟩ := of_if hF
      obtain ⟨r2, hr18, hF⟩ := of_bind hF
      refine wp_regy_seq tok (orc := orcL [(44, [⟨(.int .i64), r2⟩])]) (l := [3, 8, 9]) ([], [], [], []) 16 nw h (by kernel_rfl) (by kernel_rfl) (ac hc16 (ac hc17 (ac (c219 k (gD x0.1 (tZ (gD x0.2.1 (tZ x1) zR).1) (iO, (iO, iO))).2 (gD x0.1 (tZ (gD x0.2.1 (tZ x1) zR).2.1) (iO, (iO, iO))).2 r2 hr18) an))) fun a w h => ?_
      obtain ⟨hc13, hF⟩ := of_if hF
      obtain ⟨hc14, hF⟩ := of_if hF
      obtain ⟨r3, hr15, hF⟩ := of_bind hF
      refine wp_regy_seq tok (orc := orcL [(59, [⟨(.int .i64), r3⟩])]) (l := [9, 10]) ([], [], [], []) 16 nw h (by kernel_rfl) (by kernel_rfl) (ac hc13 (ac hc14 (ac (c219 k (gD x0.1 (tZ (gD x0.2.1 (tZ x2) zR).1) (iO, (iO, iO))).2 (gD x0.1 (tZ (gD x0.2.1 (tZ x2) zR).2.1) (iO, (iO, iO))).2 r3 hr15) an))) fun a w h => ?_
      refine wp_seq ?_
      refine wp_reg_seq tok (orc := o0) (l := [9, 10, 65]) nw h (by kernel_rfl) an fun a w h => ?_
      refine wp_if h (b := (bif (decide ((r2 : Int) < iO)) then true else (decide ((r3 : Int) < iO)))) (by kernel_rfl) (fun hb => ?_) (fun hb => ?_)
      · replace hF := of_t hb hF
        refine wp_reg_seq tok (orc := o0) (l := [6]) nw h (by kernel_rfl) an fun a w h => ?_
        cases hF
        exact wp_ret (ret_okR tok h rfl (by kernel_rfl)).1
      · replace hF := of_f hb hF
        refine wp_skip ?_
        refine wp_seq ?_
        obtain ⟨hc12, hF⟩ := of_if hF
        refine wp_reg_seq tok (orc := o0) (l := [70]) nw h (by kernel_rfl) (ac hc12 an) fun a w h => ?_
        refine wp_block ?_
        refine wp_seq ?_
        refine wp_reg_seq tok (orc := o0) (l := [70, 71]) nw h (by kernel_rfl) an fun a w h => ?_
        refine wp_midT (fun a w => ∃ v : Bool, f162.j9 k r3 r2 v = some r ∧ Rel w0 (fun _ => False) Zi Try.f162.ntmps ((fun (v8 : Bool) => ([(70, .val (.int .i64) (Int.tmod (w64 ((w64 (r3 - r2)) + (8 : Int))) (8 : Int))), (71, .val .bool v8)] : SS)) v) a w) ?_ ?_
        ·
          refine wp_if h (b := (((Int.tmod (w64 ((w64 (r3 - r2)) + (8 : Int))) (8 : Int)) : Int) == (2 : Int))) (by kernel_rfl) (fun hb => ?_) (fun hb => ?_)
          · replace hF := of_t hb hF
            refine wp_skip ?_
            exact ⟨(((Int.tmod (w64 ((w64 (r3 - r2)) + (8 : Int))) (8 : Int)) : Int) == (2 : Int)), hF, h.arrive (l := [70, 71]) nw (by kernel_rfl)⟩
          · replace hF := of_f hb hF
            refine wp_reg_seq tok (orc := o0) (l := [70, 71]) nw h (by kernel_rfl) an fun a w h => ?_
            refine wp_if h (b := (((Int.tmod (w64 ((w64 (r3 - r2)) + (8 : Int))) (8 : Int)) : Int) == (3 : Int))) (by kernel_rfl) (fun hb => ?_) (fun hb => ?_)
            · replace hF := of_t hb hF
              refine wp_skip ?_
              exact ⟨(((Int.tmod (w64 ((w64 (r3 - r2)) + (8 : Int))) (8 : Int)) : Int) == (3 : Int)), hF, h.arrive (l := [70, 71]) nw (by kernel_rfl)⟩
            · replace hF := of_f hb hF
              refine wp_reg tok (orc := o0) (l := [70, 71]) nw h (by kernel_rfl) an fun a w h => ?_
              exact ⟨(((Int.tmod (w64 ((w64 (r3 - r2)) + (8 : Int))) (8 : Int)) : Int) == (4 : Int)), hF, h.arrive (l := [70, 71]) nw (by kernel_rfl)⟩
        · rintro a w ⟨v8, hF, h⟩
          rw [f162.j9] at hF
          refine wp_if h (b := v8) (by kernel_rfl) (fun hb => ?_) (fun hb => ?_)
          · replace hF := of_t hb hF
            refine wp_reg_seq tok (orc := o0) (l := [6]) nw h (by kernel_rfl) an fun a w h => ?_
            cases hF
            exact wp_ret (ret_okR tok h rfl (by kernel_rfl)).1
          · replace hF := of_f hb hF
            refine wp_seq ?_
            refine wp_reg_seq tok (orc := o0) (l := [70, 75]) nw h (by kernel_rfl) an fun a w h => ?_
            refine wp_midT (fun a w => ∃ v : Bool, f162.j11 k v = some r ∧ Rel w0 (fun _ => False) Zi Try.f162.ntmps ((fun (v10 : Bool) => ([(75, .val .bool v10)] : SS)) v) a w) ?_ ?_
            ·
              refine wp_if h (b := (((Int.tmod (w64 ((w64 (r3 - r2)) + (8 : Int))) (8 : Int)) : Int) == (5 : Int))) (by kernel_rfl) (fun hb => ?_) (fun hb => ?_)
              · replace hF := of_t hb hF
                refine wp_skip ?_
                exact ⟨(((Int.tmod (w64 ((w64 (r3 - r2)) + (8 : Int))) (8 : Int)) : Int) == (5 : Int)), hF, h.arrive (l := [75]) nw (by kernel_rfl)⟩
              · replace hF := of_f hb hF
                refine wp_reg tok (orc := o0) (l := [75]) nw h (by kernel_rfl) an fun a w h => ?_
                exact ⟨(((Int.tmod (w64 ((w64 (r3 - r2)) + (8 : Int))) (8 : Int)) : Int) == (6 : Int)), hF, h.arrive (l := [75]) nw (by kernel_rfl)⟩
            · rintro a w ⟨v10, hF, h⟩
              rw [f162.j11] at hF
              refine wp_if h (b := v10) (by kernel_rfl) (fun hb => ?_) (fun hb => ?_)
              · replace hF := of_t hb hF
                refine wp_reg_seq tok (orc := o0) (l := [6]) nw h (by kernel_rfl) an fun a w h => ?_
                cases hF
                exact wp_ret (ret_okR tok h rfl (by kernel_rfl)).1
              · replace hF := of_f hb hF
                refine wp_skip ?_
                refine wp_reg_seq tok (orc := o0) (l := [6]) nw h (by kernel_rfl) an fun a w h => ?_
                cases hF
                exact wp_ret (ret_okR tok h rfl (by kernel_rfl)).1

def f111.j124 (k : Nat) (v114 : Int) (q66 : ((List Int) × (List Int) × (List Int) × Int) → Option ((List Int) × (List Int))) : ((List Int) × (List Int) × (List Int)) → Option ((List Int) × (List Int))
  | (v121, v122, v123) => q66 (v121, v122, v123, (IntKind.i64.wrap (v114 + (1 : Int))))
def f111.j2115 (k : Nat) (v2103 : Int) (q2051 : (Int × Int) → Option ((List Int) × (List Int))) : Int → Option ((List Int) × (List Int))
  | v2114 => q2051 (v2114, (IntKind.i64.wrap (v2103 + (1 : Int))))
def f111.j2302 (k : Nat) (v2270 : Int) (q2126 : ((List Int) × (List Int) × (List Int) × Int) → Option ((List Int) × (List Int))) : ((List Int) × (List Int) × (List Int)) → Option ((List Int) × (List Int))
  | (v2299, v2300, v2301) => q2126 (v2299, v2300, v2301, (IntKind.i64.wrap (v2270 + (1 : Int))))
def f111.j2313 (k : Nat) (r131 : (List (List Int))) (x0 : ((List (Int × (Int × Int))) × ((List (Int × (Int × (Int × (Int × (Int × ByteArray)))))) × (List (Int × Int))))) (v1975 : (List Int)) (v2102 : Int) (v2270 : Int) (v2267 : (List Int)) (v2268 : (List Int)) (v2304 : Int) (q2302 : ((List Int) × (List Int) × (List Int)) → Option ((List Int) × (List Int))) : (List Int) → Option ((List Int) × (List Int))
  | v2312 => if (0 ≤ (List.getD (List.getD r131 (Int.toNat (List.getD x0.2.1 (Int.toNat (List.getD v1975 (Int.toNat v2102) (0 : Int))) ((0 : Int), ((0 : Int), ((0 : Int), ((0 : Int), ((0 : Int), (⟨#[]⟩ : ByteArray))))))).1) ([] : (List Int))) (Int.toNat v2270) (0 : Int)) ∧ (List.getD (List.getD r131 (Int.toNat (List.getD x0.2.1 (Int.toNat (List.getD v1975 (Int.toNat v2102) (0 : Int))) ((0 : Int), ((0 : Int), ((0 : Int), ((0 : Int), ((0 : Int), (⟨#[]⟩ : ByteArray))))))).1) ([] : (List Int))) (Int.toNat v2270) (0 : Int)) < (List.length v2267 : Int)) then (if (0 ≤ (List.getD v1975 (Int.toNat v2102) (0 : Int)) ∧ (List.getD v1975 (Int.toNat v2102) (0 : Int)) < (List.length v2268 : Int)) then (if (0 ≤ (List.getD (List.getD r131 (Int.toNat (List.getD x0.2.1 (Int.toNat (List.getD v1975 (Int.toNat v2102) (0 : Int))) ((0 : Int), ((0 : Int), ((0 : Int), ((0 : Int), ((0 : Int), (⟨#[]⟩ : ByteArray))))))).1) ([] : (List Int))) (Int.toNat v2270) (0 : Int)) ∧ (List.getD (List.getD r131 (Int.toNat (List.getD x0.2.1 (Int.toNat (List.getD v1975 (Int.toNat v2102) (0 : Int))) ((0 : Int), ((0 : Int), ((0 : Int), ((0 : Int), ((0 : Int), (⟨#[]⟩ : ByteArray))))))).1) ([] : (List Int))) (Int.toNat v2270) (0 : Int)) < (List.length v2268 : Int)) then (q2302 ((List.set v2267 (Int.toNat (List.getD (List.getD r131 (Int.toNat (List.getD x0.2.1 (Int.toNat (List.getD v1975 (Int.toNat v2102) (0 : Int))) ((0 : Int), ((0 : Int), ((0 : Int), ((0 : Int), ((0 : Int), (⟨#[]⟩ : ByteArray))))))).1) ([] : (List Int))) (Int.toNat v2270) (0 : Int))) v2304), (List.set v2268 (Int.toNat (List.getD (List.getD r131 (Int.toNat (List.getD x0.2.1 (Int.toNat (List.getD v1975 (Int.toNat v2102) (0 : Int))) ((0 : Int), ((0 : Int), ((0 : Int), ((0 : Int), ((0 : Int), (⟨#[]⟩ : ByteArray))))))).1) ([] : (List Int))) (Int.toNat v2270) (0 : Int))) (IntKind.i64.wrap ((List.getD v2268 (Int.toNat (List.getD v1975 (Int.toNat v2102) (0 : Int))) (0 : Int)) + (1 : Int)))), v2312)) else none) else none) else none
def f111.l2126 (k : Nat) (r131 : (List (List Int))) (x0 : ((List (Int × (Int × Int))) × ((List (Int × (Int × (Int × (Int × (Int × ByteArray)))))) × (List (Int × Int))))) (v1975 : (List Int)) (v2102 : Int) (v1974 : (List Bool)) (q1235 : ((List Int) × (List Int) × (List Bool) × (List Int)) → Option ((List Int) × (List Int))) : Nat → ((List Int) × (List Int) × (List Int) × Int) → Option ((List Int) × (List Int))
  | 0, _ => none
  | m2126 + 1, (v2267, v2268, v2269, v2270) => if (decide ((v2270 : Int) < (List.length (List.getD r131 (Int.toNat (List.getD x0.2.1 (Int.toNat (List.getD v1975 (Int.toNat v2102) (0 : Int))) ((0 : Int), ((0 : Int), ((0 : Int), ((0 : Int), ((0 : Int), (⟨#[]⟩ : ByteArray))))))).1) ([] : (List Int))) : Int))) then (if (0 ≤ v2270 ∧ v2270 < (List.length (List.getD r131 (Int.toNat (List.getD x0.2.1 (Int.toNat (List.getD v1975 (Int.toNat v2102) (0 : Int))) ((0 : Int), ((0 : Int), ((0 : Int), ((0 : Int), ((0 : Int), (⟨#[]⟩ : ByteArray))))))).1) ([] : (List Int))) : Int)) then ((f162 k x0 (List.getD (List.getD r131 (Int.toNat (List.getD x0.2.1 (Int.toNat (List.getD v1975 (Int.toNat v2102) (0 : Int))) ((0 : Int), ((0 : Int), ((0 : Int), ((0 : Int), ((0 : Int), (⟨#[]⟩ : ByteArray))))))).1) ([] : (List Int))) (Int.toNat v2270) (0 : Int)) (List.getD v1975 (Int.toNat v2102) (0 : Int))).bind fun r2303 => (if (0 ≤ (List.getD (List.getD r131 (Int.toNat (List.getD x0.2.1 (Int.toNat (List.getD v1975 (Int.toNat v2102) (0 : Int))) ((0 : Int), ((0 : Int), ((0 : Int), ((0 : Int), ((0 : Int), (⟨#[]⟩ : ByteArray))))))).1) ([] : (List Int))) (Int.toNat v2270) (0 : Int)) ∧ (List.getD (List.getD r131 (Int.toNat (List.getD x0.2.1 (Int.toNat (List.getD v1975 (Int.toNat v2102) (0 : Int))) ((0 : Int), ((0 : Int), ((0 : Int), ((0 : Int), ((0 : Int), (⟨#[]⟩ : ByteArray))))))).1) ([] : (List Int))) (Int.toNat v2270) (0 : Int)) < (List.length (List.set v1974 (Int.toNat (List.getD v1975 (Int.toNat v2102) (0 : Int))) true) : Int)) then (if (bif (List.getD (List.set v1974 (Int.toNat (List.getD v1975 (Int.toNat v2102) (0 : Int))) true) (Int.toNat (List.getD (List.getD r131 (Int.toNat (List.getD x0.2.1 (Int.toNat (List.getD v1975 (Int.toNat v2102) (0 : Int))) ((0 : Int), ((0 : Int), ((0 : Int), ((0 : Int), ((0 : Int), (⟨#[]⟩ : ByteArray))))))).1) ([] : (List Int))) (Int.toNat v2270) (0 : Int))) false) then true else (decide ((r2303 : Int) < (0 : Int)))) then (f111.j2302 k v2270 ((f111.l2126 k r131 x0 v1975 v2102 v1974 q1235) m2126) (v2267, v2268, v2269)) else (if (0 ≤ (List.getD (List.getD r131 (Int.toNat (List.getD x0.2.1 (Int.toNat (List.getD v1975 (Int.toNat v2102) (0 : Int))) ((0 : Int), ((0 : Int), ((0 : Int), ((0 : Int), ((0 : Int), (⟨#[]⟩ : ByteArray))))))).1) ([] : (List Int))) (Int.toNat v2270) (0 : Int)) ∧ (List.getD (List.getD r131 (Int.toNat (List.getD x0.2.1 (Int.toNat (List.getD v1975 (Int.toNat v2102) (0 : Int))) ((0 : Int), ((0 : Int), ((0 : Int), ((0 : Int), ((0 : Int), (⟨#[]⟩ : ByteArray))))))).1) ([] : (List Int))) (Int.toNat v2270) (0 : Int)) < (List.length x0.2.1 : Int)) then (if (0 ≤ (List.getD v1975 (Int.toNat v2102) (0 : Int)) ∧ (List.getD v1975 (Int.toNat v2102) (0 : Int)) < (List.length v2267 : Int)) then ((some ((IntKind.i64.wrap ((IntKind.i64.wrap ((List.getD x0.2.1 (Int.toNat (List.getD (List.getD r131 (Int.toNat (List.getD x0.2.1 (Int.toNat (List.getD v1975 (Int.toNat v2102) (0 : Int))) ((0 : Int), ((0 : Int), ((0 : Int), ((0 : Int), ((0 : Int), (⟨#[]⟩ : ByteArray))))))).1) ([] : (List Int))) (Int.toNat v2270) (0 : Int))) ((0 : Int), ((0 : Int), ((0 : Int), ((0 : Int), ((0 : Int), (⟨#[]⟩ : ByteArray))))))).2.2.2.1 + r2303)) + (List.getD v2267 (Int.toNat (List.getD v1975 (Int.toNat v2102) (0 : Int))) (0 : Int)))) : Int)).bind fun v2304 => (if (0 ≤ (List.getD (List.getD r131 (Int.toNat (List.getD x0.2.1 (Int.toNat (List.getD v1975 (Int.toNat v2102) (0 : Int))) ((0 : Int), ((0 : Int), ((0 : Int), ((0 : Int), ((0 : Int), (⟨#[]⟩ : ByteArray))))))).1) ([] : (List Int))) (Int.toNat v2270) (0 : Int)) ∧ (List.getD (List.getD r131 (Int.toNat (List.getD x0.2.1 (Int.toNat (List.getD v1975 (Int.toNat v2102) (0 : Int))) ((0 : Int), ((0 : Int), ((0 : Int), ((0 : Int), ((0 : Int), (⟨#[]⟩ : ByteArray))))))).1) ([] : (List Int))) (Int.toNat v2270) (0 : Int)) < (List.length v2267 : Int)) then (if (decide (((List.getD v2267 (Int.toNat (List.getD (List.getD r131 (Int.toNat (List.getD x0.2.1 (Int.toNat (List.getD v1975 (Int.toNat v2102) (0 : Int))) ((0 : Int), ((0 : Int), ((0 : Int), ((0 : Int), ((0 : Int), (⟨#[]⟩ : ByteArray))))))).1) ([] : (List Int))) (Int.toNat v2270) (0 : Int))) (0 : Int)) : Int) < (0 : Int))) then (if ((List.length v2269 + List.length [(List.getD (List.getD r131 (Int.toNat (List.getD x0.2.1 (Int.toNat (List.getD v1975 (Int.toNat v2102) (0 : Int))) ((0 : Int), ((0 : Int), ((0 : Int), ((0 : Int), ((0 : Int), (⟨#[]⟩ : ByteArray))))))).1) ([] : (List Int))) (Int.toNat v2270) (0 : Int))]) * 8 ≤ 140737488355328) then (f111.j2313 k r131 x0 v1975 v2102 v2270 v2267 v2268 v2304 (f111.j2302 k v2270 ((f111.l2126 k r131 x0 v1975 v2102 v1974 q1235) m2126)) (v2269 ++ [(List.getD (List.getD r131 (Int.toNat (List.getD x0.2.1 (Int.toNat (List.getD v1975 (Int.toNat v2102) (0 : Int))) ((0 : Int), ((0 : Int), ((0 : Int), ((0 : Int), ((0 : Int), (⟨#[]⟩ : ByteArray))))))).1) ([] : (List Int))) (Int.toNat v2270) (0 : Int))])) else none) else (if (0 ≤ (List.getD (List.getD r131 (Int.toNat (List.getD x0.2.1 (Int.toNat (List.getD v1975 (Int.toNat v2102) (0 : Int))) ((0 : Int), ((0 : Int), ((0 : Int), ((0 : Int), ((0 : Int), (⟨#[]⟩ : ByteArray))))))).1) ([] : (List Int))) (Int.toNat v2270) (0 : Int)) ∧ (List.getD (List.getD r131 (Int.toNat (List.getD x0.2.1 (Int.toNat (List.getD v1975 (Int.toNat v2102) (0 : Int))) ((0 : Int), ((0 : Int), ((0 : Int), ((0 : Int), ((0 : Int), (⟨#[]⟩ : ByteArray))))))).1) ([] : (List Int))) (Int.toNat v2270) (0 : Int)) < (List.length v2267 : Int)) then (if (((decide ((v2304 : Int) > (List.getD v2267 (Int.toNat (List.getD (List.getD r131 (Int.toNat (List.getD x0.2.1 (Int.toNat (List.getD v1975 (Int.toNat v2102) (0 : Int))) ((0 : Int), ((0 : Int), ((0 : Int), ((0 : Int), ((0 : Int), (⟨#[]⟩ : ByteArray))))))).1) ([] : (List Int))) (Int.toNat v2270) (0 : Int))) (0 : Int)))) = false) → (0 ≤ (List.getD (List.getD r131 (Int.toNat (List.getD x0.2.1 (Int.toNat (List.getD v1975 (Int.toNat v2102) (0 : Int))) ((0 : Int), ((0 : Int), ((0 : Int), ((0 : Int), ((0 : Int), (⟨#[]⟩ : ByteArray))))))).1) ([] : (List Int))) (Int.toNat v2270) (0 : Int)) ∧ (List.getD (List.getD r131 (Int.toNat (List.getD x0.2.1 (Int.toNat (List.getD v1975 (Int.toNat v2102) (0 : Int))) ((0 : Int), ((0 : Int), ((0 : Int), ((0 : Int), ((0 : Int), (⟨#[]⟩ : ByteArray))))))).1) ([] : (List Int))) (Int.toNat v2270) (0 : Int)) < (List.length v2267 : Int))) then (if ((((decide ((v2304 : Int) > (List.getD v2267 (Int.toNat (List.getD (List.getD r131 (Int.toNat (List.getD x0.2.1 (Int.toNat (List.getD v1975 (Int.toNat v2102) (0 : Int))) ((0 : Int), ((0 : Int), ((0 : Int), ((0 : Int), ((0 : Int), (⟨#[]⟩ : ByteArray))))))).1) ([] : (List Int))) (Int.toNat v2270) (0 : Int))) (0 : Int)))) = false) ∧ (((v2304 : Int) == (List.getD v2267 (Int.toNat (List.getD (List.getD r131 (Int.toNat (List.getD x0.2.1 (Int.toNat (List.getD v1975 (Int.toNat v2102) (0 : Int))) ((0 : Int), ((0 : Int), ((0 : Int), ((0 : Int), ((0 : Int), (⟨#[]⟩ : ByteArray))))))).1) ([] : (List Int))) (Int.toNat v2270) (0 : Int))) (0 : Int))) = true)) → (0 ≤ (List.getD v1975 (Int.toNat v2102) (0 : Int)) ∧ (List.getD v1975 (Int.toNat v2102) (0 : Int)) < (List.length v2268 : Int))) then (if ((((decide ((v2304 : Int) > (List.getD v2267 (Int.toNat (List.getD (List.getD r131 (Int.toNat (List.getD x0.2.1 (Int.toNat (List.getD v1975 (Int.toNat v2102) (0 : Int))) ((0 : Int), ((0 : Int), ((0 : Int), ((0 : Int), ((0 : Int), (⟨#[]⟩ : ByteArray))))))).1) ([] : (List Int))) (Int.toNat v2270) (0 : Int))) (0 : Int)))) = false) ∧ (((v2304 : Int) == (List.getD v2267 (Int.toNat (List.getD (List.getD r131 (Int.toNat (List.getD x0.2.1 (Int.toNat (List.getD v1975 (Int.toNat v2102) (0 : Int))) ((0 : Int), ((0 : Int), ((0 : Int), ((0 : Int), ((0 : Int), (⟨#[]⟩ : ByteArray))))))).1) ([] : (List Int))) (Int.toNat v2270) (0 : Int))) (0 : Int))) = true)) → (0 ≤ (List.getD (List.getD r131 (Int.toNat (List.getD x0.2.1 (Int.toNat (List.getD v1975 (Int.toNat v2102) (0 : Int))) ((0 : Int), ((0 : Int), ((0 : Int), ((0 : Int), ((0 : Int), (⟨#[]⟩ : ByteArray))))))).1) ([] : (List Int))) (Int.toNat v2270) (0 : Int)) ∧ (List.getD (List.getD r131 (Int.toNat (List.getD x0.2.1 (Int.toNat (List.getD v1975 (Int.toNat v2102) (0 : Int))) ((0 : Int), ((0 : Int), ((0 : Int), ((0 : Int), ((0 : Int), (⟨#[]⟩ : ByteArray))))))).1) ([] : (List Int))) (Int.toNat v2270) (0 : Int)) < (List.length v2268 : Int))) then ((some ((bif (decide ((v2304 : Int) > (List.getD v2267 (Int.toNat (List.getD (List.getD r131 (Int.toNat (List.getD x0.2.1 (Int.toNat (List.getD v1975 (Int.toNat v2102) (0 : Int))) ((0 : Int), ((0 : Int), ((0 : Int), ((0 : Int), ((0 : Int), (⟨#[]⟩ : ByteArray))))))).1) ([] : (List Int))) (Int.toNat v2270) (0 : Int))) (0 : Int)))) then true else (bif ((v2304 : Int) == (List.getD v2267 (Int.toNat (List.getD (List.getD r131 (Int.toNat (List.getD x0.2.1 (Int.toNat (List.getD v1975 (Int.toNat v2102) (0 : Int))) ((0 : Int), ((0 : Int), ((0 : Int), ((0 : Int), ((0 : Int), (⟨#[]⟩ : ByteArray))))))).1) ([] : (List Int))) (Int.toNat v2270) (0 : Int))) (0 : Int))) then (decide (((IntKind.i64.wrap ((List.getD v2268 (Int.toNat (List.getD v1975 (Int.toNat v2102) (0 : Int))) (0 : Int)) + (1 : Int))) : Int) ≥ (List.getD v2268 (Int.toNat (List.getD (List.getD r131 (Int.toNat (List.getD x0.2.1 (Int.toNat (List.getD v1975 (Int.toNat v2102) (0 : Int))) ((0 : Int), ((0 : Int), ((0 : Int), ((0 : Int), ((0 : Int), (⟨#[]⟩ : ByteArray))))))).1) ([] : (List Int))) (Int.toNat v2270) (0 : Int))) (0 : Int)))) else false)) : Bool)).bind fun v2318 => (if v2318 then (f111.j2302 k v2270 ((f111.l2126 k r131 x0 v1975 v2102 v1974 q1235) m2126) (v2267, v2268, v2269)) else (f111.j2313 k r131 x0 v1975 v2102 v2270 v2267 v2268 v2304 (f111.j2302 k v2270 ((f111.l2126 k r131 x0 v1975 v2102 v1974 q1235) m2126)) v2269))) else none) else none) else none) else none)) else none)) else none) else none)) else none)) else none) else (q1235 (v2267, v2268, (List.set v1974 (Int.toNat (List.getD v1975 (Int.toNat v2102) (0 : Int))) true), v2269))
def f111.l2051 (k : Nat) (v1975 : (List Int)) (v1972 : (List Int)) (v1973 : (List Int)) (v1974 : (List Bool)) (x0 : ((List (Int × (Int × Int))) × ((List (Int × (Int × (Int × (Int × (Int × ByteArray)))))) × (List (Int × Int))))) (r131 : (List (List Int))) (q1235 : ((List Int) × (List Int) × (List Bool) × (List Int)) → Option ((List Int) × (List Int))) : Nat → (Int × Int) → Option ((List Int) × (List Int))
  | 0, _ => none
  | m2051 + 1, (v2102, v2103) => if (decide ((v2103 : Int) < (List.length v1975 : Int))) then (if (0 ≤ v2103 ∧ v2103 < (List.length v1975 : Int)) then (if (0 ≤ v2102 ∧ v2102 < (List.length v1975 : Int)) then (if (0 ≤ (List.getD v1975 (Int.toNat v2103) (0 : Int)) ∧ (List.getD v1975 (Int.toNat v2103) (0 : Int)) < (List.length v1972 : Int)) then (if (0 ≤ (List.getD v1975 (Int.toNat v2102) (0 : Int)) ∧ (List.getD v1975 (Int.toNat v2102) (0 : Int)) < (List.length v1972 : Int)) then (if (((decide (((List.getD v1972 (Int.toNat (List.getD v1975 (Int.toNat v2103) (0 : Int))) (0 : Int)) : Int) < (List.getD v1972 (Int.toNat (List.getD v1975 (Int.toNat v2102) (0 : Int))) (0 : Int)))) = false) → (0 ≤ (List.getD v1975 (Int.toNat v2103) (0 : Int)) ∧ (List.getD v1975 (Int.toNat v2103) (0 : Int)) < (List.length v1972 : Int))) then (if (((decide (((List.getD v1972 (Int.toNat (List.getD v1975 (Int.toNat v2103) (0 : Int))) (0 : Int)) : Int) < (List.getD v1972 (Int.toNat (List.getD v1975 (Int.toNat v2102) (0 : Int))) (0 : Int)))) = false) → (0 ≤ (List.getD v1975 (Int.toNat v2102) (0 : Int)) ∧ (List.getD v1975 (Int.toNat v2102) (0 : Int)) < (List.length v1972 : Int))) then (if ((((decide (((List.getD v1972 (Int.toNat (List.getD v1975 (Int.toNat v2103) (0 : Int))) (0 : Int)) : Int) < (List.getD v1972 (Int.toNat (List.getD v1975 (Int.toNat v2102) (0 : Int))) (0 : Int)))) = false) ∧ ((((List.getD v1972 (Int.toNat (List.getD v1975 (Int.toNat v2103) (0 : Int))) (0 : Int)) : Int) == (List.getD v1972 (Int.toNat (List.getD v1975 (Int.toNat v2102) (0 : Int))) (0 : Int))) = true)) → (0 ≤ (List.getD v1975 (Int.toNat v2103) (0 : Int)) ∧ (List.getD v1975 (Int.toNat v2103) (0 : Int)) < (List.length v1973 : Int))) then (if ((((decide (((List.getD v1972 (Int.toNat (List.getD v1975 (Int.toNat v2103) (0 : Int))) (0 : Int)) : Int) < (List.getD v1972 (Int.toNat (List.getD v1975 (Int.toNat v2102) (0 : Int))) (0 : Int)))) = false) ∧ ((((List.getD v1972 (Int.toNat (List.getD v1975 (Int.toNat v2103) (0 : Int))) (0 : Int)) : Int) == (List.getD v1972 (Int.toNat (List.getD v1975 (Int.toNat v2102) (0 : Int))) (0 : Int))) = true)) → (0 ≤ (List.getD v1975 (Int.toNat v2102) (0 : Int)) ∧ (List.getD v1975 (Int.toNat v2102) (0 : Int)) < (List.length v1973 : Int))) then ((some ((bif (decide (((List.getD v1972 (Int.toNat (List.getD v1975 (Int.toNat v2103) (0 : Int))) (0 : Int)) : Int) < (List.getD v1972 (Int.toNat (List.getD v1975 (Int.toNat v2102) (0 : Int))) (0 : Int)))) then true else (bif (((List.getD v1972 (Int.toNat (List.getD v1975 (Int.toNat v2103) (0 : Int))) (0 : Int)) : Int) == (List.getD v1972 (Int.toNat (List.getD v1975 (Int.toNat v2102) (0 : Int))) (0 : Int))) then (decide (((List.getD v1973 (Int.toNat (List.getD v1975 (Int.toNat v2103) (0 : Int))) (0 : Int)) : Int) < (List.getD v1973 (Int.toNat (List.getD v1975 (Int.toNat v2102) (0 : Int))) (0 : Int)))) else false)) : Bool)).bind fun v2116 => (if v2116 then (f111.j2115 k v2103 ((f111.l2051 k v1975 v1972 v1973 v1974 x0 r131 q1235) m2051) v2103) else (f111.j2115 k v2103 ((f111.l2051 k v1975 v1972 v1973 v1974 x0 r131 q1235) m2051) v2102))) else none) else none) else none) else none) else none) else none) else none) else none) else (if (0 ≤ v2102 ∧ v2102 < (List.length v1975 : Int)) then (if (0 ≤ (IntKind.i64.wrap ((List.length v1975 : Int) - (1 : Int))) ∧ (IntKind.i64.wrap ((List.length v1975 : Int) - (1 : Int))) < (List.length v1975 : Int)) then (if (0 ≤ v2102 ∧ v2102 < (List.length v1975 : Int)) then (if ((0 : Int) ≤ (IntKind.i64.wrap ((List.length (List.set v1975 (Int.toNat v2102) (List.getD v1975 (Int.toNat (IntKind.i64.wrap ((List.length v1975 : Int) - (1 : Int)))) (0 : Int))) : Int) - (1 : Int))) ∧ ((IntKind.i64.wrap ((List.length (List.set v1975 (Int.toNat v2102) (List.getD v1975 (Int.toNat (IntKind.i64.wrap ((List.length v1975 : Int) - (1 : Int)))) (0 : Int))) : Int) - (1 : Int))) : Int) ≤ (List.length (List.set v1975 (Int.toNat v2102) (List.getD v1975 (Int.toNat (IntKind.i64.wrap ((List.length v1975 : Int) - (1 : Int)))) (0 : Int))) : Int)) then (if (0 ≤ (List.getD v1975 (Int.toNat v2102) (0 : Int)) ∧ (List.getD v1975 (Int.toNat v2102) (0 : Int)) < (List.length v1974 : Int)) then (if (0 ≤ (List.getD v1975 (Int.toNat v2102) (0 : Int)) ∧ (List.getD v1975 (Int.toNat v2102) (0 : Int)) < (List.length x0.2.1 : Int)) then (if (0 ≤ (List.getD x0.2.1 (Int.toNat (List.getD v1975 (Int.toNat v2102) (0 : Int))) ((0 : Int), ((0 : Int), ((0 : Int), ((0 : Int), ((0 : Int), (⟨#[]⟩ : ByteArray))))))).1 ∧ (List.getD x0.2.1 (Int.toNat (List.getD v1975 (Int.toNat v2102) (0 : Int))) ((0 : Int), ((0 : Int), ((0 : Int), ((0 : Int), ((0 : Int), (⟨#[]⟩ : ByteArray))))))).1 < (List.length r131 : Int)) then (f111.l2126 k r131 x0 v1975 v2102 v1974 (q1235) k (v1972, v1973, (List.take (Int.toNat (IntKind.i64.wrap ((List.length (List.set v1975 (Int.toNat v2102) (List.getD v1975 (Int.toNat (IntKind.i64.wrap ((List.length v1975 : Int) - (1 : Int)))) (0 : Int))) : Int) - (1 : Int)))) (List.set v1975 (Int.toNat v2102) (List.getD v1975 (Int.toNat (IntKind.i64.wrap ((List.length v1975 : Int) - (1 : Int)))) (0 : Int)))), (0 : Int))) else none) else none) else none) else none) else none) else none) else none)
def f111.l1235 (k : Nat) (x0 : ((List (Int × (Int × Int))) × ((List (Int × (Int × (Int × (Int × (Int × ByteArray)))))) × (List (Int × Int))))) (r131 : (List (List Int))) : Nat → ((List Int) × (List Int) × (List Bool) × (List Int)) → Option ((List Int) × (List Int))
  | 0, _ => none
  | m1235 + 1, (v1972, v1973, v1974, v1975) => if (decide (((List.length v1975 : Int) : Int) > (0 : Int))) then (f111.l2051 k v1975 v1972 v1973 v1974 x0 r131 ((f111.l1235 k x0 r131) m1235) k ((0 : Int), (1 : Int))) else (some (v1972, v1973))
def f111.l66 (k : Nat) (x0 : ((List (Int × (Int × Int))) × ((List (Int × (Int × (Int × (Int × (Int × ByteArray)))))) × (List (Int × Int))))) (x1 : Int) : Nat → ((List Int) × (List Int) × (List Int) × Int) → Option ((List Int) × (List Int))
  | 0, _ => none
  | m66 + 1, (v111, v112, v113, v114) => if (decide ((v114 : Int) < (List.length x0.2.1 : Int))) then (if (0 ≤ v114 ∧ v114 < (List.length v111 : Int)) then (if (0 ≤ v114 ∧ v114 < (List.length x0.2.1 : Int)) then (if (((List.getD x0.2.1 (Int.toNat v114) ((0 : Int), ((0 : Int), ((0 : Int), ((0 : Int), ((0 : Int), (⟨#[]⟩ : ByteArray))))))).2.1 : Int) == x1) then (if (0 ≤ v114 ∧ v114 < (List.length x0.2.1 : Int)) then (if (0 ≤ v114 ∧ v114 < (List.length (List.set v111 (Int.toNat v114) (-1 : Int)) : Int)) then (if (0 ≤ v114 ∧ v114 < (List.length v112 : Int)) then (if ((List.length v113 + List.length [v114]) * 8 ≤ 140737488355328) then (f111.j124 k v114 ((f111.l66 k x0 x1) m66) ((List.set (List.set v111 (Int.toNat v114) (-1 : Int)) (Int.toNat v114) (List.getD x0.2.1 (Int.toNat v114) ((0 : Int), ((0 : Int), ((0 : Int), ((0 : Int), ((0 : Int), (⟨#[]⟩ : ByteArray))))))).2.2.2.1), (List.set v112 (Int.toNat v114) (1 : Int)), (v113 ++ [v114]))) else none) else none) else none) else none) else (f111.j124 k v114 ((f111.l66 k x0 x1) m66) ((List.set v111 (Int.toNat v114) (-1 : Int)), v112, v113))) else none) else none) else ((f73 k x0 true).bind fun r131 => (f111.l1235 k x0 r131 k (v111, v112, (List.replicate (Int.toNat (List.length x0.2.1 : Int)) false), v113)))
def f111 (k : Nat) (x0 : ((List (Int × (Int × Int))) × ((List (Int × (Int × (Int × (Int × (Int × ByteArray)))))) × (List (Int × Int))))) (x1 : Int) : Option ((List Int) × (List Int)) := if (0 ≤ (List.length x0.2.1 : Int) ∧ Int.toNat (List.length x0.2.1 : Int) * 8 ≤ 140737488355328) then (if (0 ≤ (List.length x0.2.1 : Int) ∧ Int.toNat (List.length x0.2.1 : Int) * 8 ≤ 140737488355328) then (if (0 ≤ (List.length x0.2.1 : Int) ∧ Int.toNat (List.length x0.2.1 : Int) * 1 ≤ 140737488355328) then (f111.l66 k x0 x1 k ((List.replicate (Int.toNat (List.length x0.2.1 : Int)) (0 : Int)), (List.replicate (Int.toNat (List.length x0.2.1 : Int)) (0 : Int)), ([] : List Int), (0 : Int))) else none) else none) else none
theorem c111 (k : Nat) (x0 : tG) (x1 : Int) (r : ((List Int) × (List Int))) (hF : f111 k x0 x1 = some r) : PCall Try.prog 111 [⟨sh15, x0⟩, ⟨(.int .i64), x1⟩] [⟨sh22, r⟩] := by
  refine pcall_intro Try.func111 rfl rfl (Nat.le_of_ble_eq_true rfl) ?_
  intro w0 Zi a w h
  rw [f111] at hF
  refine wp_reg_seq tok (orc := o0) (l := [1, 2, 4]) nw h (by kernel_rfl) an fun a w h => ?_
  refine wp_reg_seq tok (orc := o0) (l := [1, 2, 4, 5]) nw h (by kernel_rfl) an fun a w h => ?_
  obtain ⟨hc2340, hF⟩ := of_if hF
  obtain ⟨hc2341, hF⟩ := of_if hF
  refine wp_regy_seq tok (orc := o0) (l := [1, 2, 4, 5, 6]) ([], [(4, [25, 27])], [], [(5, [])]) 6 nw h (by kernel_rfl) (by kernel_rfl) (ac hc2340 (ac hc2341 an)) fun a w h => ?_
  obtain ⟨hc2339, hF⟩ := of_if hF
  refine wp_reg_seq tok (orc := o0) (l := [1, 2, 4, 5, 6, 7]) nw h (by kernel_rfl) (ac hc2339 an) fun a w h => ?_
  refine wp_reg_seq tok (orc := o0) (l := [1, 2, 4, 5, 6, 7, 8]) nw h (by kernel_rfl) an fun a w h => ?_
  refine wp_seq ?_
  refine wp_reg_seq tok (orc := o0) (l := [1, 2, 4, 5, 6, 7, 8, 9]) nw h (by kernel_rfl) an fun a w h => ?_
  refine wp_block ?_
  refine wp_loop_fuel (f111.l66 k x0 x1) (fun ((v111, v112, v113, v114) : ((List Int) × (List Int) × (List Int) × Int)) => [(1, .val (.int .i64) x1), (2, .val sh14 (some x0)), (4, .val sh21 (some (lO, lO))), (5, .val (.int .i64) (List.length x0.2.1 : Int)), (6, .val sh21 (some (v111, v112))), (7, .val (.sl true 4 .bool) (List.replicate (tZ (List.length x0.2.1 : Int)) false)), (8, .val (.sl true 2 (.int .i64)) v113), (9, .val (.int .i64) v114)]) (fun v h => by obtain ⟨v111, v112, v113, v114⟩ := v; rw [f111.l66] at h; cases h) ?_ hF (h.arrive (l := [1, 2, 4, 5, 6, 7, 8, 9]) nw (by kernel_rfl))
  intro m66 v a w hF h
  obtain ⟨v111, v112, v113, v114⟩ := v
  rw [f111.l66] at hF
  refine wp_seq ?_
  refine wp_reg_seq tok (orc := o0) (l := [1, 2, 4, 5, 6, 7, 8, 9, 34]) nw h (by kernel_rfl) an fun a w h => ?_
  refine wp_if h (b := (decide ((v114 : Int) < (List.length x0.2.1 : Int)))) (by kernel_rfl) (fun hb => ?_) (fun hb => ?_)
  · replace hF := of_t hb hF
    refine wp_skip ?_
    refine wp_mid (fun a w => ∃ v : ((List Int) × (List Int) × (List Int)), f111.j124 k v114 ((f111.l66 k x0 x1) m66) v = some r ∧ Rel w0 (fun _ => False) Zi Try.f111.ntmps ((fun ((v121, v122, v123) : ((List Int) × (List Int) × (List Int))) => ([(1, .val (.int .i64) x1), (2, .val sh14 (some x0)), (4, .val sh21 (some (lO, lO))), (5, .val (.int .i64) (List.length x0.2.1 : Int)), (6, .val sh21 (some (v121, v122))), (7, .val (.sl true 4 .bool) (List.replicate (tZ (List.length x0.2.1 : Int)) false)), (8, .val (.sl true 2 (.int .i64)) v123), (9, .val (.int .i64) v114)] : SS)) v) a w) ?_ ?_
    ·
      refine wp_block ?_
      obtain ⟨hc130, hF⟩ := of_if hF
      refine wp_reg_seq tok (orc := o0) (l := [1, 2, 4, 5, 6, 7, 8, 9]) nw h (by kernel_rfl) (ac hc130 an) fun a w h => ?_
      obtain ⟨hc129, hF⟩ := of_if hF
      refine wp_reg_seq tok (orc := o0) (l := [1, 2, 4, 5, 6, 7, 8, 9, 48]) nw h (by kernel_rfl) (ac hc129 an) fun a w h => ?_
      refine wp_if h (b := (((gD x0.2.1 (tZ v114) zR).2.1 : Int) == x1)) (by kernel_rfl) (fun hb => ?_) (fun hb => ?_)
      · replace hF := of_t hb hF
        obtain ⟨hc127, hF⟩ := of_if hF
        obtain ⟨hc128, hF⟩ := of_if hF
        refine wp_regy_seq tok (orc := o0) (l := [1, 2, 4, 5, 6, 7, 8, 9]) ([], [], [], []) 10 nw h (by kernel_rfl) (by kernel_rfl) (ac hc127 (ac hc128 an)) fun a w h => ?_
        obtain ⟨hc126, hF⟩ := of_if hF
        refine wp_reg_seq tok (orc := o0) (l := [1, 2, 4, 5, 6, 7, 8, 9]) nw h (by kernel_rfl) (ac hc126 an) fun a w h => ?_
        obtain ⟨hc125, hF⟩ := of_if hF
        refine wp_reg tok (orc := o0) (l := [1, 2, 4, 5, 6, 7, 8, 9]) nw h (by kernel_rfl) (ac hc125 an) fun a w h => ?_
        exact ⟨((List.set (List.set v111 (tZ v114) (-1 : Int)) (tZ v114) (gD x0.2.1 (tZ v114) zR).2.2.2.1), (List.set v112 (tZ v114) (1 : Int)), (v113 ++ [v114])), hF, h.arrive (l := [1, 2, 4, 5, 6, 7, 8, 9]) nw (by kernel_rfl)⟩
      · replace hF := of_f hb hF
        refine wp_skip ?_
        exact ⟨((List.set v111 (tZ v114) (-1 : Int)), v112, v113), hF, h.arrive (l := [1, 2, 4, 5, 6, 7, 8, 9]) nw (by kernel_rfl)⟩
    · rintro a w ⟨v, hF, h⟩
      obtain ⟨v121, v122, v123⟩ := v
      rw [f111.j124] at hF
      refine wp_reg tok (orc := o0) (l := [1, 2, 4, 5, 6, 7, 8, 9]) nw h (by kernel_rfl) an fun a w h => ?_
      exact ⟨(v121, v122, v123, (w64 (v114 + (1 : Int)))), hF, h.arrive (l := [1, 2, 4, 5, 6, 7, 8, 9]) nw (by kernel_rfl)⟩
  · replace hF := of_f hb hF
    refine wp_exit ?_
    obtain ⟨r131, hr2338, hF⟩ := of_bind hF
    refine wp_reg_seq tok (orc := orcL [(68, [⟨sh16, r131⟩])]) (l := [2, 4, 6, 7, 8, 10]) nw h (by kernel_rfl) (ac (c73 k x0 true r131 hr2338) an) fun a w h => ?_
    refine wp_seq <| wp_block ?_
    refine wp_loop_fuel (f111.l1235 k x0 r131) (fun ((v1972, v1973, v1974, v1975) : ((List Int) × (List Int) × (List Bool) × (List Int))) => [(2, .val sh14 (some x0)), (4, .val sh21 (some (lO, lO))), (6, .val sh21 (some (v1972, v1973))), (7, .val (.sl true 4 .bool) v1974), (8, .val (.sl true 2 (.int .i64)) v1975), (10, .val sh16 r131)]) (fun v h => by obtain ⟨v1972, v1973, v1974, v1975⟩ := v; rw [f111.l1235] at h; cases h) ?_ hF (h.arrive (l := [2, 4, 6, 7, 8, 10]) nw (by kernel_rfl))
    intro m1235 v a w hF h
    obtain ⟨v1972, v1973, v1974, v1975⟩ := v
    rw [f111.l1235] at hF
    refine wp_seq ?_
    refine wp_reg_seq tok (orc := o0) (l := [2, 4, 6, 7, 8, 10, 71]) nw h (by kernel_rfl) an fun a w h => ?_
    refine wp_if h (b := (decide (((List.length v1975 : Int) : Int) > iO))) (by kernel_rfl) (fun hb => ?_) (fun hb => ?_)
    · replace hF := of_t hb hF
      refine wp_skip ?_
      refine wp_block ?_
      refine wp_reg_seq tok (orc := o0) (l := [2, 4, 6, 7, 8, 10, 11]) nw h (by kernel_rfl) an fun a w h => ?_
      refine wp_seq ?_
      refine wp_reg_seq tok (orc := o0) (l := [2, 4, 6, 7, 8, 10, 11, 12]) nw h (by kernel_rfl) an fun a w h => ?_
      refine wp_block ?_
      refine wp_loop_fuel (f111.l2051 k v1975 v1972 v1973 v1974 x0 r131 ((f111.l1235 k x0 r131) m1235)) (fun ((v2102, v2103) : (Int × Int)) => [(2, .val sh14 (some x0)), (4, .val sh21 (some (lO, lO))), (6, .val sh21 (some (v1972, v1973))), (7, .val (.sl true 4 .bool) v1974), (8, .val (.sl true 2 (.int .i64)) v1975), (10, .val sh16 r131), (11, .val (.int .i64) v2102), (12, .val (.int .i64) v2103)]) (fun v h => by obtain ⟨v2102, v2103⟩ := v; rw [f111.l2051] at h; cases h) ?_ hF (h.arrive (l := [2, 4, 6, 7, 8, 10, 11, 12]) nw (by kernel_rfl))
      intro m2051 v a w hF h
      obtain ⟨v2102, v2103⟩ := v
      rw [f111.l2051] at hF
      refine wp_seq ?_
      refine wp_reg_seq tok (orc := o0) (l := [2, 4, 6, 7, 8, 10, 11, 12, 75]) nw h (by kernel_rfl) an fun a w h => ?_
      refine wp_if h (b := (decide ((v2103 : Int) < (List.length v1975 : Int)))) (by kernel_rfl) (fun hb => ?_) (fun hb => ?_)
      · replace hF := of_t hb hF
        refine wp_skip ?_
        refine wp_mid (fun a w => ∃ v : Int, f111.j2115 k v2103 ((f111.l2051 k v1975 v1972 v1973 v1974 x0 r131 ((f111.l1235 k x0 r131) m1235)) m2051) v = some r ∧ Rel w0 (fun _ => False) Zi Try.f111.ntmps ((fun (v2114 : Int) => ([(2, .val sh14 (some x0)), (4, .val sh21 (some (lO, lO))), (6, .val sh21 (some (v1972, v1973))), (7, .val (.sl true 4 .bool) v1974), (8, .val (.sl true 2 (.int .i64)) v1975), (10, .val sh16 r131), (11, .val (.int .i64) v2114), (12, .val (.int .i64) v2103)] : SS)) v) a w) ?_ ?_
        ·
          refine wp_block ?_
          obtain ⟨hc2125, hF⟩ := of_if hF
          refine wp_reg_seq tok (orc := o0) (l := [2, 4, 6, 7, 8, 10, 11, 12, 13]) nw h (by kernel_rfl) (ac hc2125 an) fun a w h => ?_
          obtain ⟨hc2124, hF⟩ := of_if hF
          refine wp_reg_seq tok (orc := o0) (l := [2, 4, 6, 7, 8, 10, 11, 12, 13, 14]) nw h (by kernel_rfl) (ac hc2124 an) fun a w h => ?_
          obtain ⟨hc2118, hF⟩ := of_if hF
          obtain ⟨hc2119, hF⟩ := of_if hF
          obtain ⟨hc2120, hF⟩ := of_if hF
          obtain ⟨hc2121, hF⟩ := of_if hF
          obtain ⟨hc2122, hF⟩ := of_if hF
          obtain ⟨hc2123, hF⟩ := of_if hF
          refine wp_regy_seq tok (orc := o0) (l := [2, 4, 6, 7, 8, 10, 11, 12, 122]) ([], [], [], []) 37 nw h (by kernel_rfl) (by kernel_rfl) (ac hc2118 (ac hc2119 (ac hc2120 (ac hc2121 (ac hc2122 (ac hc2123 an)))))) fun a w h => ?_
          obtain ⟨v2116, hv2117, hF⟩ := of_bind hF
          replace h := h.cast (S' := [(2, .val sh14 (some x0)), (4, .val sh21 (some (lO, lO))), (6, .val sh21 (some (v1972, v1973))), (7, .val (.sl true 4 .bool) v1974), (8, .val (.sl true 2 (.int .i64)) v1975), (10, .val sh16 r131), (11, .val (.int .i64) v2102), (12, .val (.int .i64) v2103), (122, .val .bool v2116)]) (by cases hv2117; kernel_rfl)
          refine wp_if h (b := v2116) (by kernel_rfl) (fun hb => ?_) (fun hb => ?_)
          · replace hF := of_t hb hF
            refine wp_reg tok (orc := o0) (l := [2, 4, 6, 7, 8, 10, 11, 12]) nw h (by kernel_rfl) an fun a w h => ?_
            exact ⟨v2103, hF, h.arrive (l := [2, 4, 6, 7, 8, 10, 11, 12]) nw (by kernel_rfl)⟩
          · replace hF := of_f hb hF
            refine wp_skip ?_
            exact ⟨v2102, hF, h.arrive (l := [2, 4, 6, 7, 8, 10, 11, 12]) nw (by kernel_rfl)⟩
        · rintro a w ⟨v2114, hF, h⟩
          rw [f111.j2115] at hF
          refine wp_reg tok (orc := o0) (l := [2, 4, 6, 7, 8, 10, 11, 12]) nw h (by kernel_rfl) an fun a w h => ?_
          exact ⟨(v2114, (w64 (v2103 + (1 : Int)))), hF, h.arrive (l := [2, 4, 6, 7, 8, 10, 11, 12]) nw (by kernel_rfl)⟩
      · replace hF := of_f hb hF
        refine wp_exit ?_
        obtain ⟨hc2337, hF⟩ := of_if hF
        refine wp_reg_seq tok (orc := o0) (l := [2, 4, 6, 7, 8, 10, 11, 15]) nw h (by kernel_rfl) (ac hc2337 an) fun a w h => ?_
        obtain ⟨hc2335, hF⟩ := of_if hF
        obtain ⟨hc2336, hF⟩ := of_if hF
        refine wp_reg_seq tok (orc := o0) (l := [2, 4, 6, 7, 8, 10, 15]) nw h (by kernel_rfl) (ac hc2335 (ac hc2336 an)) fun a w h => ?_
        obtain ⟨hc2334, hF⟩ := of_if hF
        refine wp_reg_seq tok (orc := o0) (l := [2, 4, 6, 7, 8, 10, 15]) nw h (by kernel_rfl) (ac hc2334 an) fun a w h => ?_
        obtain ⟨hc2333, hF⟩ := of_if hF
        refine wp_reg_seq tok (orc := o0) (l := [2, 4, 6, 7, 8, 10, 15]) nw h (by kernel_rfl) (ac hc2333 an) fun a w h => ?_
        obtain ⟨hc2331, hF⟩ := of_if hF
        obtain ⟨hc2332, hF⟩ := of_if hF
        refine wp_reg_seq tok (orc := o0) (l := [2, 4, 6, 7, 8, 10, 15, 16]) nw h (by kernel_rfl) (ac hc2331 (ac hc2332 an)) fun a w h => ?_
        refine wp_reg_seq tok (orc := o0) (l := [2, 4, 6, 7, 8, 10, 15, 16, 17]) nw h (by kernel_rfl) an fun a w h => ?_
        refine wp_block ?_
        refine wp_loop_fuel (f111.l2126 k r131 x0 v1975 v2102 v1974 ((f111.l1235 k x0 r131) m1235)) (fun ((v2267, v2268, v2269, v2270) : ((List Int) × (List Int) × (List Int) × Int)) => [(2, .val sh14 (some x0)), (4, .val sh21 (some (lO, lO))), (6, .val sh21 (some (v2267, v2268))), (7, .val (.sl true 4 .bool) (List.set v1974 (tZ (gD v1975 (tZ v2102) iO)) true)), (8, .val (.sl true 2 (.int .i64)) v2269), (10, .val sh16 r131), (15, .val (.int .i64) (gD v1975 (tZ v2102) iO)), (16, .copy 10 [.idx (tZ (gD x0.2.1 (tZ (gD v1975 (tZ v2102) iO)) zR).1)]), (17, .val (.int .i64) v2270)]) (fun v h => by obtain ⟨v2267, v2268, v2269, v2270⟩ := v; rw [f111.l2126] at h; cases h) ?_ hF (h.arrive (l := [2, 4, 6, 7, 8, 10, 15, 16, 17]) nw (by kernel_rfl))
        intro m2126 v a w hF h
        obtain ⟨v2267, v2268, v2269, v2270⟩ := v
        rw [f111.l2126] at hF
        refine wp_seq ?_
        refine wp_reg_seq tok (orc := o0) (l := [2, 4, 6, 7, 8, 10, 15, 16, 17, 157]) nw h (by kernel_rfl) an fun a w h => ?_
        refine wp_if h (b := (decide ((v2270 : Int) < (List.length (gD r131 (tZ (gD x0.2.1 (tZ (gD v1975 (tZ v2102) iO)) zR).1) lO) : Int)))) (by kernel_rfl) (fun hb => ?_) (fun hb => ?_)
        · replace hF := of_t hb hF
          refine wp_skip ?_
          refine wp_mid (fun a w => ∃ v : ((List Int) × (List Int) × (List Int)), f111.j2302 k v2270 ((f111.l2126 k r131 x0 v1975 v2102 v1974 ((f111.l1235 k x0 r131) m1235)) m2126) v = some r ∧ Rel w0 (fun _ => False) Zi Try.f111.ntmps ((fun ((v2299, v2300, v2301) : ((List Int) × (List Int) × (List Int))) => ([(2, .val sh14 (some x0)), (4, .val sh21 (some (lO, lO))), (6, .val sh21 (some (v2299, v2300))), (7, .val (.sl true 4 .bool) (List.set v1974 (tZ (gD v1975 (tZ v2102) iO)) true)), (8, .val (.sl true 2 (.int .i64)) v2301), (10, .val sh16 r131), (15, .val (.int .i64) (gD v1975 (tZ v2102) iO)), (16, .copy 10 [.idx (tZ (gD x0.2.1 (tZ (gD v1975 (tZ v2102) iO)) zR).1)]), (17, .val (.int .i64) v2270)] : SS)) v) a w) ?_ ?_
          ·
            refine wp_block ?_
            obtain ⟨hc2330, hF⟩ := of_if hF
            refine wp_reg_seq tok (orc := o0) (l := [2, 4, 6, 7, 8, 10, 15, 16, 17, 18]) nw h (by kernel_rfl) (ac hc2330 an) fun a w h => ?_
            obtain ⟨r2303, hr2329, hF⟩ := of_bind hF
            refine wp_reg_seq tok (orc := orcL [(167, [⟨(.int .i64), r2303⟩])]) (l := [2, 4, 6, 7, 8, 10, 15, 16, 17, 18, 19]) nw h (by kernel_rfl) (ac (c162 k x0 (gD (gD r131 (tZ (gD x0.2.1 (tZ (gD v1975 (tZ v2102) iO)) zR).1) lO) (tZ v2270) iO) (gD v1975 (tZ v2102) iO) r2303 hr2329) an) fun a w h => ?_
            refine wp_seq ?_
            obtain ⟨hc2328, hF⟩ := of_if hF
            refine wp_reg_seq tok (orc := o0) (l := [2, 4, 6, 7, 8, 10, 15, 16, 17, 18, 19, 175]) nw h (by kernel_rfl) (ac hc2328 an) fun a w h => ?_
            refine wp_if h (b := (bif (gD (List.set v1974 (tZ (gD v1975 (tZ v2102) iO)) true) (tZ (gD (gD r131 (tZ (gD x0.2.1 (tZ (gD v1975 (tZ v2102) iO)) zR).1) lO) (tZ v2270) iO)) false) then true else (decide ((r2303 : Int) < iO)))) (by kernel_rfl) (fun hb => ?_) (fun hb => ?_)
            · replace hF := of_t hb hF
              refine wp_exit ?_
              exact ⟨(v2267, v2268, v2269), hF, h.arrive (l := [2, 4, 6, 7, 8, 10, 15, 16, 17]) nw (by kernel_rfl)⟩
            · replace hF := of_f hb hF
              refine wp_skip ?_
              obtain ⟨hc2326, hF⟩ := of_if hF
              obtain ⟨hc2327, hF⟩ := of_if hF
              refine wp_regy_seq tok (orc := o0) (l := [2, 4, 6, 7, 8, 10, 15, 16, 17, 18, 20]) ([], [], [], []) 15 nw h (by kernel_rfl) (by kernel_rfl) (ac hc2326 (ac hc2327 an)) fun a w h => ?_
              obtain ⟨v2304, hv2325, hF⟩ := of_bind hF
              replace h := h.cast (S' := [(2, .val sh14 (some x0)), (4, .val sh21 (some (lO, lO))), (6, .val sh21 (some (v2267, v2268))), (7, .val (.sl true 4 .bool) (List.set v1974 (tZ (gD v1975 (tZ v2102) iO)) true)), (8, .val (.sl true 2 (.int .i64)) v2269), (10, .val sh16 r131), (15, .val (.int .i64) (gD v1975 (tZ v2102) iO)), (16, .copy 10 [.idx (tZ (gD x0.2.1 (tZ (gD v1975 (tZ v2102) iO)) zR).1)]), (17, .val (.int .i64) v2270), (18, .val (.int .i64) (gD (gD r131 (tZ (gD x0.2.1 (tZ (gD v1975 (tZ v2102) iO)) zR).1) lO) (tZ v2270) iO)), (20, .val (.int .i64) v2304)]) (by cases hv2325; kernel_rfl)
              refine wp_seq ?_
              obtain ⟨hc2324, hF⟩ := of_if hF
              refine wp_reg_seq tok (orc := o0) (l := [2, 4, 6, 7, 8, 10, 15, 16, 17, 18, 20, 195]) nw h (by kernel_rfl) (ac hc2324 an) fun a w h => ?_
              refine wp_midT (fun a w => ∃ v : (List Int), f111.j2313 k r131 x0 v1975 v2102 v2270 v2267 v2268 v2304 (f111.j2302 k v2270 ((f111.l2126 k r131 x0 v1975 v2102 v1974 ((f111.l1235 k x0 r131) m1235)) m2126)) v = some r ∧ Rel w0 (fun _ => False) Zi Try.f111.ntmps ((fun (v2312 : (List Int)) => ([(2, .val sh14 (some x0)), (4, .val sh21 (some (lO, lO))), (6, .val sh21 (some (v2267, v2268))), (7, .val (.sl true 4 .bool) (List.set v1974 (tZ (gD v1975 (tZ v2102) iO)) true)), (8, .val (.sl true 2 (.int .i64)) v2312), (10, .val sh16 r131), (15, .val (.int .i64) (gD v1975 (tZ v2102) iO)), (16, .copy 10 [.idx (tZ (gD x0.2.1 (tZ (gD v1975 (tZ v2102) iO)) zR).1)]), (17, .val (.int .i64) v2270), (18, .val (.int .i64) (gD (gD r131 (tZ (gD x0.2.1 (tZ (gD v1975 (tZ v2102) iO)) zR).1) lO) (tZ v2270) iO)), (20, .val (.int .i64) v2304)] : SS)) v) a w) ?_ ?_
              ·
                refine wp_if h (b := (decide (((gD v2267 (tZ (gD (gD r131 (tZ (gD x0.2.1 (tZ (gD v1975 (tZ v2102) iO)) zR).1) lO) (tZ v2270) iO)) iO) : Int) < iO))) (by kernel_rfl) (fun hb => ?_) (fun hb => ?_)
                · replace hF := of_t hb hF
                  obtain ⟨hc2317, hF⟩ := of_if hF
                  refine wp_reg tok (orc := o0) (l := [2, 4, 6, 7, 8, 10, 15, 16, 17, 18, 20]) nw h (by kernel_rfl) (ac hc2317 an) fun a w h => ?_
                  exact ⟨(v2269 ++ [(gD (gD r131 (tZ (gD x0.2.1 (tZ (gD v1975 (tZ v2102) iO)) zR).1) lO) (tZ v2270) iO)]), hF, h.arrive (l := [2, 4, 6, 7, 8, 10, 15, 16, 17, 18, 20]) nw (by kernel_rfl)⟩
                · replace hF := of_f hb hF
                  obtain ⟨hc2320, hF⟩ := of_if hF
                  obtain ⟨hc2321, hF⟩ := of_if hF
                  obtain ⟨hc2322, hF⟩ := of_if hF
                  obtain ⟨hc2323, hF⟩ := of_if hF
                  refine wp_regy_seq tok (orc := o0) (l := [2, 4, 6, 7, 8, 10, 15, 16, 17, 18, 20, 229]) ([], [], [], []) 30 nw h (by kernel_rfl) (by kernel_rfl) (ac hc2320 (ac hc2321 (ac hc2322 (ac hc2323 an)))) fun a w h => ?_
                  obtain ⟨v2318, hv2319, hF⟩ := of_bind hF
                  replace h := h.cast (S' := [(2, .val sh14 (some x0)), (4, .val sh21 (some (lO, lO))), (6, .val sh21 (some (v2267, v2268))), (7, .val (.sl true 4 .bool) (List.set v1974 (tZ (gD v1975 (tZ v2102) iO)) true)), (8, .val (.sl true 2 (.int .i64)) v2269), (10, .val sh16 r131), (15, .val (.int .i64) (gD v1975 (tZ v2102) iO)), (16, .copy 10 [.idx (tZ (gD x0.2.1 (tZ (gD v1975 (tZ v2102) iO)) zR).1)]), (17, .val (.int .i64) v2270), (18, .val (.int .i64) (gD (gD r131 (tZ (gD x0.2.1 (tZ (gD v1975 (tZ v2102) iO)) zR).1) lO) (tZ v2270) iO)), (20, .val (.int .i64) v2304), (229, .val .bool v2318)]) (by cases hv2319; kernel_rfl)
                  refine wp_if h (b := v2318) (by kernel_rfl) (fun hb => ?_) (fun hb => ?_)
                  · replace hF := of_t hb hF
                    refine wp_exit ?_
                    exact ⟨(v2267, v2268, v2269), hF, h.arrive (l := [2, 4, 6, 7, 8, 10, 15, 16, 17]) nw (by kernel_rfl)⟩
                  · replace hF := of_f hb hF
                    refine wp_skip ?_
                    exact ⟨v2269, hF, h.arrive (l := [2, 4, 6, 7, 8, 10, 15, 16, 17, 18, 20]) nw (by kernel_rfl)⟩
              · rintro a w ⟨v2312, hF, h⟩
                rw [f111.j2313] at hF
                obtain ⟨hc2316, hF⟩ := of_if hF
                refine wp_reg_seq tok (orc := o0) (l := [2, 4, 6, 7, 8, 10, 15, 16, 17, 18]) nw h (by kernel_rfl) (ac hc2316 an) fun a w h => ?_
                obtain ⟨hc2314, hF⟩ := of_if hF
                obtain ⟨hc2315, hF⟩ := of_if hF
                refine wp_regy tok (orc := o0) (l := [2, 4, 6, 7, 8, 10, 15, 16, 17]) ([], [], [], []) 10 nw h (by kernel_rfl) (by kernel_rfl) (ac hc2314 (ac hc2315 an)) fun a w h => ?_
                exact ⟨((List.set v2267 (tZ (gD (gD r131 (tZ (gD x0.2.1 (tZ (gD v1975 (tZ v2102) iO)) zR).1) lO) (tZ v2270) iO)) v2304), (List.set v2268 (tZ (gD (gD r131 (tZ (gD x0.2.1 (tZ (gD v1975 (tZ v2102) iO)) zR).1) lO) (tZ v2270) iO)) (w64 ((gD v2268 (tZ (gD v1975 (tZ v2102) iO)) iO) + (1 : Int)))), v2312), hF, h.arrive (l := [2, 4, 6, 7, 8, 10, 15, 16, 17]) nw (by kernel_rfl)⟩
          · rintro a w ⟨v, hF, h⟩
            obtain ⟨v2299, v2300, v2301⟩ := v
            rw [f111.j2302] at hF
            refine wp_reg tok (orc := o0) (l := [2, 4, 6, 7, 8, 10, 15, 16, 17]) nw h (by kernel_rfl) an fun a w h => ?_
            exact ⟨(v2299, v2300, v2301, (w64 (v2270 + (1 : Int)))), hF, h.arrive (l := [2, 4, 6, 7, 8, 10, 15, 16, 17]) nw (by kernel_rfl)⟩
        · replace hF := of_f hb hF
          refine wp_exit ?_
          exact ⟨(v2267, v2268, (List.set v1974 (tZ (gD v1975 (tZ v2102) iO)) true), v2269), hF, h.arrive (l := [2, 4, 6, 7, 8, 10]) nw (by kernel_rfl)⟩
    · replace hF := of_f hb hF
      refine wp_exit ?_
      refine wp_reg_seq tok (orc := o0) (l := [4]) nw h (by kernel_rfl) an fun a w h => ?_
      cases hF
      exact wp_ret (ret_okR tok h rfl (by kernel_rfl)).1

end Go.Proofs.Ytchbpdnaodicaaa.V
