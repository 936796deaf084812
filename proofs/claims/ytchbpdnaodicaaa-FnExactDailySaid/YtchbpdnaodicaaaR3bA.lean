/-
  THE CONTRACTS OF SOME FUNCTIONS OF THIS SEAT, PRINTED BY A PROGRAM OF THIS PROJECT (wip/gen/vgen.py).
-/
import Derived.Test.YtchbpdnaodicaaaProg
import Derived.Test.YtchbpdnaodicaaaVmW
import Derived.Test.YtchbpdnaodicaaaVmZ
import Derived.KernelRfl
set_option linter.unusedVariables false
open Go Go.Vm Go.Proofs
namespace Go.Proofs.Ytchbpdnaodicaaa.V
abbrev sh0 : Sh := (.sl false 213 (.st (.pair (.int .i64) (.st (.pair (.int .i64) (.int .i64))))))
abbrev sh1 : Sh := (.st (.pair (.int .i64) (.pair (.int .i64) (.pair (.int .i64) (.pair (.int .i64) (.pair (.int .i64) .str))))))
abbrev sh2 : Sh := (.sl false 205 (.st (.pair (.int .i64) (.pair (.int .i64) (.pair (.int .i64) (.pair (.int .i64) (.pair (.int .i64) .str)))))))
abbrev sh3 : Sh := (.sl false 216 (.st (.pair (.int .i64) (.int .i64))))
abbrev sh4 : Sh := (.st (.pair (.sl false 213 (.st (.pair (.int .i64) (.st (.pair (.int .i64) (.int .i64)))))) (.pair (.sl false 205 (.st (.pair (.int .i64) (.pair (.int .i64) (.pair (.int .i64) (.pair (.int .i64) (.pair (.int .i64) .str))))))) (.sl false 216 (.st (.pair (.int .i64) (.int .i64)))))))
abbrev sh5 : Sh := (.st (.pair (.int .i64) (.int .i64)))
abbrev sh6 : Sh := (.st (.pair (.int .i64) (.st (.pair (.int .i64) (.int .i64)))))
abbrev sh7 : Sh := (.sl true 176 (.st (.pair (.int .i64) (.st (.pair (.int .i64) (.int .i64))))))
abbrev sh8 : Sh := (.sl true 110 (.st (.pair (.int .i64) (.pair (.int .i64) (.pair (.int .i64) (.pair (.int .i64) (.pair (.int .i64) .str)))))))
abbrev sh9 : Sh := (.sl true 167 (.st (.pair (.int .i64) (.int .i64))))
abbrev sh10 : Sh := (.st (.pair (.sl true 176 (.st (.pair (.int .i64) (.st (.pair (.int .i64) (.int .i64)))))) (.pair (.sl true 110 (.st (.pair (.int .i64) (.pair (.int .i64) (.pair (.int .i64) (.pair (.int .i64) (.pair (.int .i64) .str))))))) (.sl true 167 (.st (.pair (.int .i64) (.int .i64)))))))
abbrev sh11 : Sh := (.pt true 35 (.st (.pair (.sl false 176 (.st (.pair (.int .i64) (.st (.pair (.int .i64) (.int .i64)))))) (.pair (.sl false 110 (.st (.pair (.int .i64) (.pair (.int .i64) (.pair (.int .i64) (.pair (.int .i64) (.pair (.int .i64) .str))))))) (.sl false 167 (.st (.pair (.int .i64) (.int .i64))))))))
abbrev sh12 : Sh := (.st (.pair (.sl false 176 (.st (.pair (.int .i64) (.st (.pair (.int .i64) (.int .i64)))))) (.pair (.sl false 110 (.st (.pair (.int .i64) (.pair (.int .i64) (.pair (.int .i64) (.pair (.int .i64) (.pair (.int .i64) .str))))))) (.sl false 167 (.st (.pair (.int .i64) (.int .i64)))))))
abbrev sh13 : Sh := (.pt true 69 (.st (.pair .bool (.pair (.sl true 2 (.int .i64)) (.pair (.int .i64) (.int .i64))))))
abbrev sh14 : Sh := (.pt true 35 (.st (.pair (.sl true 176 (.st (.pair (.int .i64) (.st (.pair (.int .i64) (.int .i64)))))) (.pair (.sl true 110 (.st (.pair (.int .i64) (.pair (.int .i64) (.pair (.int .i64) (.pair (.int .i64) (.pair (.int .i64) .str))))))) (.sl true 167 (.st (.pair (.int .i64) (.int .i64))))))))
abbrev sh15 : Sh := (.pt true 152 (.st (.pair (.sl true 2 (.int .i64)) (.sl true 2 (.int .i64)))))
abbrev sh16 : Sh := (.sl true 27 (.sl true 2 (.int .i64)))
abbrev sh17 : Sh := (.pt true 167 (.st (.pair (.int .i64) (.int .i64))))
abbrev sh18 : Sh := (.st (.pair (.sl true 2 (.int .i64)) (.sl true 2 (.int .i64))))
abbrev sh19 : Sh := (.pt true 152 (.st (.pair (.sl false 2 (.int .i64)) (.sl false 2 (.int .i64)))))
abbrev sh20 : Sh := (.st (.pair (.sl false 2 (.int .i64)) (.sl false 2 (.int .i64))))
abbrev sh21 : Sh := (.sl false 27 (.sl false 2 (.int .i64)))
abbrev sh22 : Sh := (.st (.pair .bool (.pair (.sl true 2 (.int .i64)) (.pair (.int .i64) (.int .i64)))))
abbrev sh23 : Sh := (.sl false 176 (.st (.pair (.int .i64) (.st (.pair (.int .i64) (.int .i64))))))
abbrev sh24 : Sh := (.sl false 110 (.st (.pair (.int .i64) (.pair (.int .i64) (.pair (.int .i64) (.pair (.int .i64) (.pair (.int .i64) .str)))))))
abbrev sh25 : Sh := (.sl false 167 (.st (.pair (.int .i64) (.int .i64))))
abbrev sh26 : Sh := (.pt true 218 (.st (.pair (.st (.pair (.sl false 176 (.st (.pair (.int .i64) (.st (.pair (.int .i64) (.int .i64)))))) (.pair (.sl false 110 (.st (.pair (.int .i64) (.pair (.int .i64) (.pair (.int .i64) (.pair (.int .i64) (.pair (.int .i64) .str))))))) (.sl false 167 (.st (.pair (.int .i64) (.int .i64))))))) (.pair (.sl true 27 (.sl true 2 (.int .i64))) (.pair (.sl true 27 (.sl true 2 (.int .i64))) (.mp true (.st (.pair (.int .i64) (.int .i64))) .bool))))))
abbrev sh27 : Sh := (.pt false 0 (.st (.pair (.st (.pair (.sl false 176 (.st (.pair (.int .i64) (.st (.pair (.int .i64) (.int .i64)))))) (.pair (.sl false 110 (.st (.pair (.int .i64) (.pair (.int .i64) (.pair (.int .i64) (.pair (.int .i64) (.pair (.int .i64) .str))))))) (.sl false 167 (.st (.pair (.int .i64) (.int .i64))))))) (.pair (.sl false 27 (.sl false 2 (.int .i64))) (.pair (.sl false 27 (.sl false 2 (.int .i64))) (.mp false (.st (.pair (.int .i64) (.int .i64))) .bool))))))
abbrev sh28 : Sh := (.st (.pair (.int .i64) (.pair (.int .i64) (.int .i64))))
abbrev sh29 : Sh := (.pt true 294 (.st (.pair (.sl true 297 (.st (.pair (.int .i64) (.pair (.int .i64) (.int .i64))))) .unit)))
abbrev sh30 : Sh := (.pt true 297 (.st (.pair (.int .i64) (.pair (.int .i64) (.int .i64)))))
abbrev sh31 : Sh := (.pt false 0 (.sl false 2 (.int .i64)))
abbrev sh32 : Sh := (.pt false 0 (.pt false 0 (.st (.pair (.st (.pair (.sl false 176 (.st (.pair (.int .i64) (.st (.pair (.int .i64) (.int .i64)))))) (.pair (.sl false 110 (.st (.pair (.int .i64) (.pair (.int .i64) (.pair (.int .i64) (.pair (.int .i64) (.pair (.int .i64) .str))))))) (.sl false 167 (.st (.pair (.int .i64) (.int .i64))))))) (.pair (.sl false 27 (.sl false 2 (.int .i64))) (.pair (.sl false 27 (.sl false 2 (.int .i64))) (.mp false (.st (.pair (.int .i64) (.int .i64))) .bool)))))))
abbrev sh33 : Sh := (.fn 188 (.pair (.pt false 0 (.pt false 0 (.st (.pair (.st (.pair (.sl false 176 (.st (.pair (.int .i64) (.st (.pair (.int .i64) (.int .i64)))))) (.pair (.sl false 110 (.st (.pair (.int .i64) (.pair (.int .i64) (.pair (.int .i64) (.pair (.int .i64) (.pair (.int .i64) .str))))))) (.sl false 167 (.st (.pair (.int .i64) (.int .i64))))))) (.pair (.sl false 27 (.sl false 2 (.int .i64))) (.pair (.sl false 27 (.sl false 2 (.int .i64))) (.mp false (.st (.pair (.int .i64) (.int .i64))) .bool))))))) (.pair (.pt false 0 (.int .i64)) .unit)))
abbrev sh34 : Sh := (.pt true 120 (.pt false 0 (.st (.pair (.st (.pair (.sl false 176 (.st (.pair (.int .i64) (.st (.pair (.int .i64) (.int .i64)))))) (.pair (.sl false 110 (.st (.pair (.int .i64) (.pair (.int .i64) (.pair (.int .i64) (.pair (.int .i64) (.pair (.int .i64) .str))))))) (.sl false 167 (.st (.pair (.int .i64) (.int .i64))))))) (.pair (.sl false 27 (.sl false 2 (.int .i64))) (.pair (.sl false 27 (.sl false 2 (.int .i64))) (.mp false (.st (.pair (.int .i64) (.int .i64))) .bool)))))))
abbrev sh35 : Sh := (.pt true 27 (.sl true 2 (.int .i64)))
abbrev sh36 : Sh := (.st (.pair .bool (.pair (.sl false 2 (.int .i64)) (.pair (.int .i64) (.int .i64)))))
def tbl : Tbl := [⟨2, .int .i64, 1, 8, (.int .i64)⟩,
  ⟨3, .int .i64, 1, 8, (.int .i64)⟩,
  ⟨4, .bool, 1, 1, .bool⟩,
  ⟨5, .int .u8, 1, 1, (.int .u8)⟩,
  ⟨9, .string, 1, 16, .str⟩,
  ⟨22, .slice 213, 1, 24, (.sl true 213 (.st (.pair (.int .i64) (.st (.pair (.int .i64) (.int .i64))))))⟩,
  ⟨23, .slice 205, 1, 24, (.sl true 205 (.st (.pair (.int .i64) (.pair (.int .i64) (.pair (.int .i64) (.pair (.int .i64) (.pair (.int .i64) .str)))))))⟩,
  ⟨24, .slice 216, 1, 24, (.sl true 216 (.st (.pair (.int .i64) (.int .i64))))⟩,
  ⟨26, .struct [(22, 0), (23, 1), (24, 2)], 3, 72, (.st (.pair (.sl true 213 (.st (.pair (.int .i64) (.st (.pair (.int .i64) (.int .i64)))))) (.pair (.sl true 205 (.st (.pair (.int .i64) (.pair (.int .i64) (.pair (.int .i64) (.pair (.int .i64) (.pair (.int .i64) .str))))))) (.sl true 216 (.st (.pair (.int .i64) (.int .i64)))))))⟩,
  ⟨27, .slice 2, 1, 24, (.sl true 2 (.int .i64))⟩,
  ⟨31, .slice 176, 1, 24, (.sl true 176 (.st (.pair (.int .i64) (.st (.pair (.int .i64) (.int .i64))))))⟩,
  ⟨32, .slice 110, 1, 24, (.sl true 110 (.st (.pair (.int .i64) (.pair (.int .i64) (.pair (.int .i64) (.pair (.int .i64) (.pair (.int .i64) .str)))))))⟩,
  ⟨33, .slice 167, 1, 24, (.sl true 167 (.st (.pair (.int .i64) (.int .i64))))⟩,
  ⟨35, .struct [(31, 0), (32, 1), (33, 2)], 3, 72, (.st (.pair (.sl true 176 (.st (.pair (.int .i64) (.st (.pair (.int .i64) (.int .i64)))))) (.pair (.sl true 110 (.st (.pair (.int .i64) (.pair (.int .i64) (.pair (.int .i64) (.pair (.int .i64) (.pair (.int .i64) .str))))))) (.sl true 167 (.st (.pair (.int .i64) (.int .i64)))))))⟩,
  ⟨62, .slice 27, 1, 24, (.sl true 27 (.sl true 2 (.int .i64)))⟩,
  ⟨69, .struct [(4, 0), (27, 1), (2, 2), (2, 3)], 4, 48, (.st (.pair .bool (.pair (.sl true 2 (.int .i64)) (.pair (.int .i64) (.int .i64)))))⟩,
  ⟨110, .struct [(2, 0), (2, 1), (2, 2), (2, 3), (2, 4), (9, 5)], 6, 56, (.st (.pair (.int .i64) (.pair (.int .i64) (.pair (.int .i64) (.pair (.int .i64) (.pair (.int .i64) .str))))))⟩,
  ⟨120, .ptr 218, 1, 8, (.pt true 218 (.st (.pair (.st (.pair (.sl true 176 (.st (.pair (.int .i64) (.st (.pair (.int .i64) (.int .i64)))))) (.pair (.sl true 110 (.st (.pair (.int .i64) (.pair (.int .i64) (.pair (.int .i64) (.pair (.int .i64) (.pair (.int .i64) .str))))))) (.sl true 167 (.st (.pair (.int .i64) (.int .i64))))))) (.pair (.sl true 27 (.sl true 2 (.int .i64))) (.pair (.sl true 27 (.sl true 2 (.int .i64))) (.mp true (.st (.pair (.int .i64) (.int .i64))) .bool))))))⟩,
  ⟨152, .struct [(27, 0), (27, 1)], 2, 48, (.st (.pair (.sl true 2 (.int .i64)) (.sl true 2 (.int .i64))))⟩,
  ⟨167, .struct [(2, 0), (2, 1)], 2, 16, (.st (.pair (.int .i64) (.int .i64)))⟩,
  ⟨168, .map 167 4, 1, 8, (.mp true (.st (.pair (.int .i64) (.int .i64))) .bool)⟩,
  ⟨174, .struct [(2, 0), (2, 1)], 2, 16, (.st (.pair (.int .i64) (.int .i64)))⟩,
  ⟨176, .struct [(2, 0), (174, 1)], 3, 24, (.st (.pair (.int .i64) (.st (.pair (.int .i64) (.int .i64)))))⟩,
  ⟨181, .slice 4, 1, 24, (.sl true 4 .bool)⟩,
  ⟨205, .struct [(2, 0), (2, 1), (2, 2), (2, 3), (2, 4), (9, 5)], 6, 56, (.st (.pair (.int .i64) (.pair (.int .i64) (.pair (.int .i64) (.pair (.int .i64) (.pair (.int .i64) .str))))))⟩,
  ⟨211, .struct [(2, 0), (2, 1)], 2, 16, (.st (.pair (.int .i64) (.int .i64)))⟩,
  ⟨213, .struct [(2, 0), (211, 1)], 3, 24, (.st (.pair (.int .i64) (.st (.pair (.int .i64) (.int .i64)))))⟩,
  ⟨216, .struct [(2, 0), (2, 1)], 2, 16, (.st (.pair (.int .i64) (.int .i64)))⟩,
  ⟨218, .struct [(35, 0), (62, 3), (62, 4), (168, 5)], 6, 128, (.st (.pair (.st (.pair (.sl true 176 (.st (.pair (.int .i64) (.st (.pair (.int .i64) (.int .i64)))))) (.pair (.sl true 110 (.st (.pair (.int .i64) (.pair (.int .i64) (.pair (.int .i64) (.pair (.int .i64) (.pair (.int .i64) .str))))))) (.sl true 167 (.st (.pair (.int .i64) (.int .i64))))))) (.pair (.sl true 27 (.sl true 2 (.int .i64))) (.pair (.sl true 27 (.sl true 2 (.int .i64))) (.mp true (.st (.pair (.int .i64) (.int .i64))) .bool)))))⟩,
  ⟨222, .slice 5, 1, 24, (.sl true 5 (.int .u8))⟩,
  ⟨291, .ptr 294, 1, 8, (.pt true 294 (.st (.pair (.sl true 297 (.st (.pair (.int .i64) (.pair (.int .i64) (.int .i64))))) .unit)))⟩,
  ⟨292, .slice 297, 1, 24, (.sl true 297 (.st (.pair (.int .i64) (.pair (.int .i64) (.int .i64)))))⟩,
  ⟨294, .struct [(292, 0)], 1, 24, (.st (.pair (.sl true 297 (.st (.pair (.int .i64) (.pair (.int .i64) (.int .i64))))) .unit))⟩,
  ⟨297, .struct [(2, 0), (2, 1), (2, 2)], 3, 24, (.st (.pair (.int .i64) (.pair (.int .i64) (.int .i64))))⟩]
theorem tok : TOk Try.prog tbl := by unfold TOk; kernel_rfl

def f67 (k : Nat) (x0 : (List (Int × (Int × Int)))) (x1 : Int) : Option Int := if (decide (((IntKind.i64.wrap (x1 - (List.length x0 : Int))) : Int) < (0 : Int))) then (some (-1 : Int)) else (some (IntKind.i64.wrap (x1 - (List.length x0 : Int))))
set_option maxRecDepth 100000 in
/-- 'laws.szSpotS'. -/
theorem c67 (k : Nat) (x0 : (List (Int × (Int × Int)))) (x1 : Int) (r : Int) (hF : f67 k x0 x1 = some r) : PCall Try.prog 67 [⟨sh0, x0⟩, ⟨(.int .i64), x1⟩] [⟨(.int .i64), r⟩] := by
  refine pcall_intro Try.func67 rfl rfl (Nat.le_of_ble_eq_true rfl) ?_
  intro w0 Zi a w h
  rw [f67] at hF
  refine wp_reg_seq tok (orc := orcL []) (fz := []) (l := [0, 1]) (c := _) (.inr fun i h => h) h (by kernel_rfl) (AllP.nil) ?_
  intro a w h
  refine wp_reg_seq tok (orc := orcL []) (fz := []) (l := [1]) (c := _) (.inr fun i h => h) h (by kernel_rfl) (AllP.nil) ?_
  intro a w h
  refine wp_seq ?_
  refine wp_reg_seq tok (orc := orcL []) (fz := []) (l := [1, 10]) (c := _) (.inr fun i h => h) h (by kernel_rfl) (AllP.nil) ?_
  intro a w h
  refine wp_if h (b := (decide (((IntKind.i64.wrap (x1 - (List.length x0 : Int))) : Int) < (0 : Int)))) (by kernel_rfl) (fun hb => ?_) (fun hb => ?_)
  · replace hF := of_t hb hF
    refine wp_reg_seq tok (orc := orcL []) (fz := []) (l := [4]) (c := _) (.inr fun i h => h) h (by kernel_rfl) (AllP.nil) ?_
    intro a w h
    cases hF
    exact wp_ret (ret_okR tok h rfl (by kernel_rfl)).1
  · replace hF := of_f hb hF
    refine wp_skip ?_
    refine wp_reg_seq tok (orc := orcL []) (fz := []) (l := [4]) (c := _) (.inr fun i h => h) h (by kernel_rfl) (AllP.nil) ?_
    intro a w h
    cases hF
    exact wp_ret (ret_okR tok h rfl (by kernel_rfl)).1

def f157 (k : Nat) (x0 : (Int × (Int × (Int × (Int × (Int × ByteArray)))))) (x1 : Int) : Option Int := if (decide (((IntKind.i64.wrap (x1 - (ByteArray.size x0.2.2.2.2.2 : Int))) : Int) < (0 : Int))) then (some (-1 : Int)) else (some (IntKind.i64.wrap (x1 - (ByteArray.size x0.2.2.2.2.2 : Int))))
set_option maxRecDepth 100000 in
/-- 'laws.szRoad'. -/
theorem c157 (k : Nat) (x0 : (Int × (Int × (Int × (Int × (Int × ByteArray)))))) (x1 : Int) (r : Int) (hF : f157 k x0 x1 = some r) : PCall Try.prog 157 [⟨sh1, x0⟩, ⟨(.int .i64), x1⟩] [⟨(.int .i64), r⟩] := by
  refine pcall_intro Try.func157 rfl rfl (Nat.le_of_ble_eq_true rfl) ?_
  intro w0 Zi a w h
  rw [f157] at hF
  refine wp_reg_seq tok (orc := orcL []) (fz := []) (l := [1, 2]) (c := _) (.inr fun i h => h) h (by kernel_rfl) (AllP.nil) ?_
  intro a w h
  refine wp_reg_seq tok (orc := orcL []) (fz := []) (l := [1]) (c := _) (.inr fun i h => h) h (by kernel_rfl) (AllP.nil) ?_
  intro a w h
  refine wp_seq ?_
  refine wp_reg_seq tok (orc := orcL []) (fz := []) (l := [1, 11]) (c := _) (.inr fun i h => h) h (by kernel_rfl) (AllP.nil) ?_
  intro a w h
  refine wp_if h (b := (decide (((IntKind.i64.wrap (x1 - (ByteArray.size x0.2.2.2.2.2 : Int))) : Int) < (0 : Int)))) (by kernel_rfl) (fun hb => ?_) (fun hb => ?_)
  · replace hF := of_t hb hF
    refine wp_reg_seq tok (orc := orcL []) (fz := []) (l := [4]) (c := _) (.inr fun i h => h) h (by kernel_rfl) (AllP.nil) ?_
    intro a w h
    cases hF
    exact wp_ret (ret_okR tok h rfl (by kernel_rfl)).1
  · replace hF := of_f hb hF
    refine wp_skip ?_
    refine wp_reg_seq tok (orc := orcL []) (fz := []) (l := [4]) (c := _) (.inr fun i h => h) h (by kernel_rfl) (AllP.nil) ?_
    intro a w h
    cases hF
    exact wp_ret (ret_okR tok h rfl (by kernel_rfl)).1

def f68.l28 (k : Nat) (x0 : (List (Int × (Int × (Int × (Int × (Int × ByteArray))))))) : Nat → (Int × Int) → Option Int
  | 0, _ => none
  | m28 + 1, (v47, v48) => if (decide ((v48 : Int) < (List.length x0 : Int))) then (if (0 ≤ v48 ∧ v48 < (List.length x0 : Int)) then ((f157 k (List.getD x0 (Int.toNat v48) ((0 : Int), ((0 : Int), ((0 : Int), ((0 : Int), ((0 : Int), (⟨#[]⟩ : ByteArray))))))) v47).bind fun r52 => (if (decide ((r52 : Int) < (0 : Int))) then (some (-1 : Int)) else ((f68.l28 k x0) m28 (r52, (IntKind.i64.wrap (v48 + (1 : Int))))))) else none) else (some v47)
def f68 (k : Nat) (x0 : (List (Int × (Int × (Int × (Int × (Int × ByteArray))))))) (x1 : Int) : Option Int := if (decide (((IntKind.i64.wrap (x1 - (List.length x0 : Int))) : Int) < (0 : Int))) then (some (-1 : Int)) else (f68.l28 k x0 k ((IntKind.i64.wrap (x1 - (List.length x0 : Int))), (0 : Int)))
set_option maxRecDepth 100000 in
/-- 'laws.szRoadS'. -/
theorem c68 (k : Nat) (x0 : (List (Int × (Int × (Int × (Int × (Int × ByteArray))))))) (x1 : Int) (r : Int) (hF : f68 k x0 x1 = some r) : PCall Try.prog 68 [⟨sh2, x0⟩, ⟨(.int .i64), x1⟩] [⟨(.int .i64), r⟩] := by
  refine pcall_intro Try.func68 rfl rfl (Nat.le_of_ble_eq_true rfl) ?_
  intro w0 Zi a w h
  rw [f68] at hF
  refine wp_reg_seq tok (orc := orcL []) (fz := []) (l := [0, 1]) (c := _) (.inr fun i h => h) h (by kernel_rfl) (AllP.nil) ?_
  intro a w h
  refine wp_reg_seq tok (orc := orcL []) (fz := []) (l := [0, 1]) (c := _) (.inr fun i h => h) h (by kernel_rfl) (AllP.nil) ?_
  intro a w h
  refine wp_seq ?_
  refine wp_reg_seq tok (orc := orcL []) (fz := []) (l := [0, 1, 11]) (c := _) (.inr fun i h => h) h (by kernel_rfl) (AllP.nil) ?_
  intro a w h
  refine wp_if h (b := (decide (((IntKind.i64.wrap (x1 - (List.length x0 : Int))) : Int) < (0 : Int)))) (by kernel_rfl) (fun hb => ?_) (fun hb => ?_)
  · replace hF := of_t hb hF
    refine wp_reg_seq tok (orc := orcL []) (fz := []) (l := [4]) (c := _) (.inr fun i h => h) h (by kernel_rfl) (AllP.nil) ?_
    intro a w h
    cases hF
    exact wp_ret (ret_okR tok h rfl (by kernel_rfl)).1
  · replace hF := of_f hb hF
    refine wp_skip ?_
    refine wp_seq ?_
    refine wp_reg_seq tok (orc := orcL []) (fz := []) (l := [0, 1, 5]) (c := _) (.inr fun i h => h) h (by kernel_rfl) (AllP.nil) ?_
    intro a w h
    refine wp_block ?_
    refine wp_loop_fuel (f68.l28 k x0) (fun ((v47, v48) : (Int × Int)) => [(0, .val sh2 x0), (1, .val (.int .i64) v47), (5, .val (.int .i64) v48)]) (fun v h => by obtain ⟨v47, v48⟩ := v; rw [f68.l28] at h; cases h) ?_ hF (h.arrive (fz := []) (l := [0, 1, 5]) (.inr fun i h => h) (by kernel_rfl))
    intro m28 v a w hF h
    obtain ⟨v47, v48⟩ := v
    rw [f68.l28] at hF
    refine wp_seq ?_
    refine wp_reg_seq tok (orc := orcL []) (fz := []) (l := [0, 1, 5, 15]) (c := _) (.inr fun i h => h) h (by kernel_rfl) (AllP.nil) ?_
    intro a w h
    refine wp_if h (b := (decide ((v48 : Int) < (List.length x0 : Int)))) (by kernel_rfl) (fun hb => ?_) (fun hb => ?_)
    · replace hF := of_t hb hF
      refine wp_skip ?_
      refine wp_seq <| wp_block ?_
      obtain ⟨hc53, hF⟩ := of_if hF
      obtain ⟨r52, hr54, hF⟩ := of_bind hF
      refine wp_reg_seq tok (orc := orcL [(23, [⟨(.int .i64), r52⟩])]) (fz := []) (l := [0, 1, 5]) (c := _) (.inr fun i h => h) h (by kernel_rfl) (AllP.cons hc53 (AllP.cons (c157 k (List.getD x0 (Int.toNat v48) ((0 : Int), ((0 : Int), ((0 : Int), ((0 : Int), ((0 : Int), (⟨#[]⟩ : ByteArray))))))) v47 r52 hr54) AllP.nil)) ?_
      intro a w h
      refine wp_reg_seq tok (orc := orcL []) (fz := []) (l := [0, 1, 5, 25]) (c := _) (.inr fun i h => h) h (by kernel_rfl) (AllP.nil) ?_
      intro a w h
      refine wp_if h (b := (decide ((r52 : Int) < (0 : Int)))) (by kernel_rfl) (fun hb => ?_) (fun hb => ?_)
      · replace hF := of_t hb hF
        refine wp_reg_seq tok (orc := orcL []) (fz := []) (l := [4]) (c := _) (.inr fun i h => h) h (by kernel_rfl) (AllP.nil) ?_
        intro a w h
        cases hF
        exact wp_ret (ret_okR tok h rfl (by kernel_rfl)).1
      · replace hF := of_f hb hF
        refine wp_skip ?_
        refine wp_reg tok (orc := orcL []) (fz := []) (l := [0, 1, 5]) (c := _) (.inr fun i h => h) h (by kernel_rfl) (AllP.nil) ?_
        intro a w h
        exact ⟨(r52, (IntKind.i64.wrap (v48 + (1 : Int)))), hF, h.arrive (fz := []) (l := [0, 1, 5]) (.inr fun i h => h) (by kernel_rfl)⟩
    · replace hF := of_f hb hF
      refine wp_exit ?_
      refine wp_reg_seq tok (orc := orcL []) (fz := []) (l := [4]) (c := _) (.inr fun i h => h) h (by kernel_rfl) (AllP.nil) ?_
      intro a w h
      cases hF
      exact wp_ret (ret_okR tok h rfl (by kernel_rfl)).1

def f69 (k : Nat) (x0 : (List (Int × Int))) (x1 : Int) : Option Int := if (decide (((IntKind.i64.wrap (x1 - (List.length x0 : Int))) : Int) < (0 : Int))) then (some (-1 : Int)) else (some (IntKind.i64.wrap (x1 - (List.length x0 : Int))))
set_option maxRecDepth 100000 in
/-- 'laws.szBanS'. -/
theorem c69 (k : Nat) (x0 : (List (Int × Int))) (x1 : Int) (r : Int) (hF : f69 k x0 x1 = some r) : PCall Try.prog 69 [⟨sh3, x0⟩, ⟨(.int .i64), x1⟩] [⟨(.int .i64), r⟩] := by
  refine pcall_intro Try.func69 rfl rfl (Nat.le_of_ble_eq_true rfl) ?_
  intro w0 Zi a w h
  rw [f69] at hF
  refine wp_reg_seq tok (orc := orcL []) (fz := []) (l := [0, 1]) (c := _) (.inr fun i h => h) h (by kernel_rfl) (AllP.nil) ?_
  intro a w h
  refine wp_reg_seq tok (orc := orcL []) (fz := []) (l := [1]) (c := _) (.inr fun i h => h) h (by kernel_rfl) (AllP.nil) ?_
  intro a w h
  refine wp_seq ?_
  refine wp_reg_seq tok (orc := orcL []) (fz := []) (l := [1, 10]) (c := _) (.inr fun i h => h) h (by kernel_rfl) (AllP.nil) ?_
  intro a w h
  refine wp_if h (b := (decide (((IntKind.i64.wrap (x1 - (List.length x0 : Int))) : Int) < (0 : Int)))) (by kernel_rfl) (fun hb => ?_) (fun hb => ?_)
  · replace hF := of_t hb hF
    refine wp_reg_seq tok (orc := orcL []) (fz := []) (l := [4]) (c := _) (.inr fun i h => h) h (by kernel_rfl) (AllP.nil) ?_
    intro a w h
    cases hF
    exact wp_ret (ret_okR tok h rfl (by kernel_rfl)).1
  · replace hF := of_f hb hF
    refine wp_skip ?_
    refine wp_reg_seq tok (orc := orcL []) (fz := []) (l := [4]) (c := _) (.inr fun i h => h) h (by kernel_rfl) (AllP.nil) ?_
    intro a w h
    cases hF
    exact wp_ret (ret_okR tok h rfl (by kernel_rfl)).1

def f14 (k : Nat) (x0 : ((List (Int × (Int × Int))) × ((List (Int × (Int × (Int × (Int × (Int × ByteArray)))))) × (List (Int × Int))))) (x1 : Int) : Option Int := (f67 k x0.1 x1).bind fun r1 => (if (decide ((r1 : Int) < (0 : Int))) then (some (-1 : Int)) else ((f68 k x0.2.1 r1).bind fun r2 => (if (decide ((r2 : Int) < (0 : Int))) then (some (-1 : Int)) else ((f69 k x0.2.2 r2).bind fun r3 => (if (decide ((r3 : Int) < (0 : Int))) then (some (-1 : Int)) else (some r3))))))
set_option maxRecDepth 100000 in
/-- 'laws.szGraph'. -/
theorem c14 (k : Nat) (x0 : ((List (Int × (Int × Int))) × ((List (Int × (Int × (Int × (Int × (Int × ByteArray)))))) × (List (Int × Int))))) (x1 : Int) (r : Int) (hF : f14 k x0 x1 = some r) : PCall Try.prog 14 [⟨sh4, x0⟩, ⟨(.int .i64), x1⟩] [⟨(.int .i64), r⟩] := by
  refine pcall_intro Try.func14 rfl rfl (Nat.le_of_ble_eq_true rfl) ?_
  intro w0 Zi a w h
  rw [f14] at hF
  refine wp_reg_seq tok (orc := orcL []) (fz := []) (l := [1, 2]) (c := _) (.inr fun i h => h) h (by kernel_rfl) (AllP.nil) ?_
  intro a w h
  obtain ⟨r1, hr6, hF⟩ := of_bind hF
  refine wp_reg_seq tok (orc := orcL [(8, [⟨(.int .i64), r1⟩])]) (fz := []) (l := [1, 2]) (c := _) (.inr fun i h => h) h (by kernel_rfl) (AllP.cons (c67 k x0.1 x1 r1 hr6) AllP.nil) ?_
  intro a w h
  refine wp_seq ?_
  refine wp_reg_seq tok (orc := orcL []) (fz := []) (l := [1, 2, 10]) (c := _) (.inr fun i h => h) h (by kernel_rfl) (AllP.nil) ?_
  intro a w h
  refine wp_if h (b := (decide ((r1 : Int) < (0 : Int)))) (by kernel_rfl) (fun hb => ?_) (fun hb => ?_)
  · replace hF := of_t hb hF
    refine wp_reg_seq tok (orc := orcL []) (fz := []) (l := [4]) (c := _) (.inr fun i h => h) h (by kernel_rfl) (AllP.nil) ?_
    intro a w h
    cases hF
    exact wp_ret (ret_okR tok h rfl (by kernel_rfl)).1
  · replace hF := of_f hb hF
    refine wp_skip ?_
    obtain ⟨r2, hr5, hF⟩ := of_bind hF
    refine wp_reg_seq tok (orc := orcL [(14, [⟨(.int .i64), r2⟩])]) (fz := []) (l := [1, 2]) (c := _) (.inr fun i h => h) h (by kernel_rfl) (AllP.cons (c68 k x0.2.1 r1 r2 hr5) AllP.nil) ?_
    intro a w h
    refine wp_seq ?_
    refine wp_reg_seq tok (orc := orcL []) (fz := []) (l := [1, 2, 16]) (c := _) (.inr fun i h => h) h (by kernel_rfl) (AllP.nil) ?_
    intro a w h
    refine wp_if h (b := (decide ((r2 : Int) < (0 : Int)))) (by kernel_rfl) (fun hb => ?_) (fun hb => ?_)
    · replace hF := of_t hb hF
      refine wp_reg_seq tok (orc := orcL []) (fz := []) (l := [4]) (c := _) (.inr fun i h => h) h (by kernel_rfl) (AllP.nil) ?_
      intro a w h
      cases hF
      exact wp_ret (ret_okR tok h rfl (by kernel_rfl)).1
    · replace hF := of_f hb hF
      refine wp_skip ?_
      obtain ⟨r3, hr4, hF⟩ := of_bind hF
      refine wp_reg_seq tok (orc := orcL [(20, [⟨(.int .i64), r3⟩])]) (fz := []) (l := [1]) (c := _) (.inr fun i h => h) h (by kernel_rfl) (AllP.cons (c69 k x0.2.2 r2 r3 hr4) AllP.nil) ?_
      intro a w h
      refine wp_seq ?_
      refine wp_reg_seq tok (orc := orcL []) (fz := []) (l := [1, 22]) (c := _) (.inr fun i h => h) h (by kernel_rfl) (AllP.nil) ?_
      intro a w h
      refine wp_if h (b := (decide ((r3 : Int) < (0 : Int)))) (by kernel_rfl) (fun hb => ?_) (fun hb => ?_)
      · replace hF := of_t hb hF
        refine wp_reg_seq tok (orc := orcL []) (fz := []) (l := [4]) (c := _) (.inr fun i h => h) h (by kernel_rfl) (AllP.nil) ?_
        intro a w h
        cases hF
        exact wp_ret (ret_okR tok h rfl (by kernel_rfl)).1
      · replace hF := of_f hb hF
        refine wp_skip ?_
        refine wp_reg_seq tok (orc := orcL []) (fz := []) (l := [4]) (c := _) (.inr fun i h => h) h (by kernel_rfl) (AllP.nil) ?_
        intro a w h
        cases hF
        exact wp_ret (ret_okR tok h rfl (by kernel_rfl)).1

def f220 (k : Nat) (x0 : (Int × Int)) : Option (Int × Int) := some (x0.1, x0.2)
set_option maxRecDepth 100000 in
/-- 'laws.toPoint'. -/
theorem c220 (k : Nat) (x0 : (Int × Int)) (r : (Int × Int)) (hF : f220 k x0 = some r) : PCall Try.prog 220 [⟨sh5, x0⟩] [⟨sh5, r⟩] := by
  refine pcall_intro Try.func220 rfl rfl (Nat.le_of_ble_eq_true rfl) ?_
  intro w0 Zi a w h
  rw [f220] at hF
  refine wp_reg_seq tok (orc := orcL []) (fz := []) (l := [1, 2]) (c := _) (.inr fun i h => h) h (by kernel_rfl) (AllP.nil) ?_
  intro a w h
  refine wp_reg_seq tok (orc := orcL []) (fz := []) (l := [1, 2, 3]) (c := _) (.inr fun i h => h) h (by kernel_rfl) (AllP.nil) ?_
  intro a w h
  refine wp_reg_seq tok (orc := orcL []) (fz := []) (l := [1, 2, 3]) (c := _) (.inr fun i h => h) h (by kernel_rfl) (AllP.nil) ?_
  intro a w h
  refine wp_reg_seq tok (orc := orcL []) (fz := []) (l := [2, 3]) (c := _) (.inr fun i h => h) h (by kernel_rfl) (AllP.nil) ?_
  intro a w h
  refine wp_reg_seq tok (orc := orcL []) (fz := []) (l := [2]) (c := _) (.inr fun i h => h) h (by kernel_rfl) (AllP.nil) ?_
  intro a w h
  cases hF
  exact wp_ret (ret_okR tok h rfl (by kernel_rfl)).1

def f165 (k : Nat) (x0 : (Int × (Int × Int))) : Option (Int × (Int × Int)) := (f220 k x0.2).bind fun r1 => (some (x0.1, r1))
set_option maxRecDepth 100000 in
/-- 'laws.toSpot'. -/
theorem c165 (k : Nat) (x0 : (Int × (Int × Int))) (r : (Int × (Int × Int))) (hF : f165 k x0 = some r) : PCall Try.prog 165 [⟨sh6, x0⟩] [⟨sh6, r⟩] := by
  refine pcall_intro Try.func165 rfl rfl (Nat.le_of_ble_eq_true rfl) ?_
  intro w0 Zi a w h
  rw [f165] at hF
  refine wp_reg_seq tok (orc := orcL []) (fz := []) (l := [1, 2]) (c := _) (.inr fun i h => h) h (by kernel_rfl) (AllP.nil) ?_
  intro a w h
  refine wp_reg_seq tok (orc := orcL []) (fz := []) (l := [1, 2, 3]) (c := _) (.inr fun i h => h) h (by kernel_rfl) (AllP.nil) ?_
  intro a w h
  refine wp_reg_seq tok (orc := orcL []) (fz := []) (l := [1, 2, 3]) (c := _) (.inr fun i h => h) h (by kernel_rfl) (AllP.nil) ?_
  intro a w h
  obtain ⟨r1, hr2, hF⟩ := of_bind hF
  refine wp_reg_seq tok (orc := orcL [(9, [⟨sh5, r1⟩])]) (fz := []) (l := [2, 3]) (c := _) (.inr fun i h => h) h (by kernel_rfl) (AllP.cons (c220 k x0.2 r1 hr2) AllP.nil) ?_
  intro a w h
  refine wp_reg_seq tok (orc := orcL []) (fz := []) (l := [2]) (c := _) (.inr fun i h => h) h (by kernel_rfl) (AllP.nil) ?_
  intro a w h
  cases hF
  exact wp_ret (ret_okR tok h rfl (by kernel_rfl)).1

def f76.l34 (k : Nat) (x0 : (List (Int × (Int × Int)))) : Nat → ((List (Int × (Int × Int))) × Int) → Option (List (Int × (Int × Int)))
  | 0, _ => none
  | m34 + 1, (v57, v58) => if (decide ((v58 : Int) < (List.length x0 : Int))) then (if (0 ≤ v58 ∧ v58 < (List.length x0 : Int)) then ((f165 k (List.getD x0 (Int.toNat v58) ((0 : Int), ((0 : Int), (0 : Int))))).bind fun r63 => (if (0 ≤ v58 ∧ v58 < (List.length v57 : Int)) then ((f76.l34 k x0) m34 ((List.set v57 (Int.toNat v58) r63), (IntKind.i64.wrap (v58 + (1 : Int))))) else none)) else none) else (some v57)
def f76 (k : Nat) (x0 : (List (Int × (Int × Int)))) : Option (List (Int × (Int × Int))) := if (0 ≤ (List.length x0 : Int) ∧ Int.toNat (List.length x0 : Int) * 24 ≤ 140737488355328) then (f76.l34 k x0 k ((List.replicate (Int.toNat (List.length x0 : Int)) ((0 : Int), ((0 : Int), (0 : Int)))), (0 : Int))) else none
set_option maxRecDepth 100000 in
/-- 'laws.toSpotS'. -/
theorem c76 (k : Nat) (x0 : (List (Int × (Int × Int)))) (r : (List (Int × (Int × Int)))) (hF : f76 k x0 = some r) : PCall Try.prog 76 [⟨sh0, x0⟩] [⟨sh7, r⟩] := by
  refine pcall_intro Try.func76 rfl rfl (Nat.le_of_ble_eq_true rfl) ?_
  intro w0 Zi a w h
  rw [f76] at hF
  refine wp_reg_seq tok (orc := orcL []) (fz := []) (l := [0]) (c := _) (.inr fun i h => h) h (by kernel_rfl) (AllP.nil) ?_
  intro a w h
  obtain ⟨hc67, hF⟩ := of_if hF
  refine wp_reg_seq tok (orc := orcL []) (fz := []) (l := [0, 3]) (c := _) (.inr fun i h => h) h (by kernel_rfl) (AllP.cons hc67 AllP.nil) ?_
  intro a w h
  refine wp_seq ?_
  refine wp_reg_seq tok (orc := orcL []) (fz := []) (l := [0, 3, 4]) (c := _) (.inr fun i h => h) h (by kernel_rfl) (AllP.nil) ?_
  intro a w h
  refine wp_block ?_
  refine wp_loop_fuel (f76.l34 k x0) (fun ((v57, v58) : ((List (Int × (Int × Int))) × Int)) => [(0, .val sh0 x0), (3, .val sh7 v57), (4, .val (.int .i64) v58)]) (fun v h => by obtain ⟨v57, v58⟩ := v; rw [f76.l34] at h; cases h) ?_ hF (h.arrive (fz := []) (l := [0, 3, 4]) (.inr fun i h => h) (by kernel_rfl))
  intro m34 v a w hF h
  obtain ⟨v57, v58⟩ := v
  rw [f76.l34] at hF
  refine wp_seq ?_
  refine wp_reg_seq tok (orc := orcL []) (fz := []) (l := [0, 3, 4, 11]) (c := _) (.inr fun i h => h) h (by kernel_rfl) (AllP.nil) ?_
  intro a w h
  refine wp_if h (b := (decide ((v58 : Int) < (List.length x0 : Int)))) (by kernel_rfl) (fun hb => ?_) (fun hb => ?_)
  · replace hF := of_t hb hF
    refine wp_skip ?_
    refine wp_seq <| wp_block ?_
    obtain ⟨hc64, hF⟩ := of_if hF
    obtain ⟨r63, hr65, hF⟩ := of_bind hF
    obtain ⟨hc66, hF⟩ := of_if hF
    refine wp_reg tok (orc := orcL [(20, [⟨sh6, r63⟩])]) (fz := []) (l := [0, 3, 4]) (c := _) (.inr fun i h => h) h (by kernel_rfl) (AllP.cons hc64 (AllP.cons (c165 k (List.getD x0 (Int.toNat v58) ((0 : Int), ((0 : Int), (0 : Int)))) r63 hr65) (AllP.cons hc66 AllP.nil))) ?_
    intro a w h
    refine wp_reg tok (orc := orcL []) (fz := []) (l := [0, 3, 4]) (c := _) (.inr fun i h => h) h (by kernel_rfl) (AllP.nil) ?_
    intro a w h
    exact ⟨((List.set v57 (Int.toNat v58) r63), (IntKind.i64.wrap (v58 + (1 : Int)))), hF, h.arrive (fz := []) (l := [0, 3, 4]) (.inr fun i h => h) (by kernel_rfl)⟩
  · replace hF := of_f hb hF
    refine wp_exit ?_
    refine wp_reg_seq tok (orc := orcL []) (fz := []) (l := [2, 3]) (c := _) (.inr fun i h => h) h (by kernel_rfl) (AllP.nil) ?_
    intro a w h
    cases hF
    exact wp_ret (ret_okR tok h rfl (by kernel_rfl)).1

def f166 (k : Nat) (x0 : (Int × (Int × (Int × (Int × (Int × ByteArray)))))) : Option (Int × (Int × (Int × (Int × (Int × ByteArray))))) := some (x0.1, (x0.2.1, (x0.2.2.1, (x0.2.2.2.1, (x0.2.2.2.2.1, x0.2.2.2.2.2)))))
set_option maxRecDepth 100000 in
/-- 'laws.toRoad'. -/
theorem c166 (k : Nat) (x0 : (Int × (Int × (Int × (Int × (Int × ByteArray)))))) (r : (Int × (Int × (Int × (Int × (Int × ByteArray)))))) (hF : f166 k x0 = some r) : PCall Try.prog 166 [⟨sh1, x0⟩] [⟨sh1, r⟩] := by
  refine pcall_intro Try.func166 rfl rfl (Nat.le_of_ble_eq_true rfl) ?_
  intro w0 Zi a w h
  rw [f166] at hF
  refine wp_reg_seq tok (orc := orcL []) (fz := []) (l := [1, 2]) (c := _) (.inr fun i h => h) h (by kernel_rfl) (AllP.nil) ?_
  intro a w h
  refine wp_reg_seq tok (orc := orcL []) (fz := []) (l := [1, 2, 3]) (c := _) (.inr fun i h => h) h (by kernel_rfl) (AllP.nil) ?_
  intro a w h
  refine wp_reg_seq tok (orc := orcL []) (fz := []) (l := [1, 2, 3]) (c := _) (.inr fun i h => h) h (by kernel_rfl) (AllP.nil) ?_
  intro a w h
  refine wp_reg_seq tok (orc := orcL []) (fz := []) (l := [1, 2, 3]) (c := _) (.inr fun i h => h) h (by kernel_rfl) (AllP.nil) ?_
  intro a w h
  refine wp_reg_seq tok (orc := orcL []) (fz := []) (l := [1, 2, 3]) (c := _) (.inr fun i h => h) h (by kernel_rfl) (AllP.nil) ?_
  intro a w h
  refine wp_reg_seq tok (orc := orcL []) (fz := []) (l := [1, 2, 3]) (c := _) (.inr fun i h => h) h (by kernel_rfl) (AllP.nil) ?_
  intro a w h
  refine wp_reg_seq tok (orc := orcL []) (fz := []) (l := [1, 2, 3]) (c := _) (.inr fun i h => h) h (by kernel_rfl) (AllP.nil) ?_
  intro a w h
  refine wp_reg_seq tok (orc := orcL []) (fz := []) (l := [2, 3]) (c := _) (.inr fun i h => h) h (by kernel_rfl) (AllP.nil) ?_
  intro a w h
  refine wp_reg_seq tok (orc := orcL []) (fz := []) (l := [2]) (c := _) (.inr fun i h => h) h (by kernel_rfl) (AllP.nil) ?_
  intro a w h
  cases hF
  exact wp_ret (ret_okR tok h rfl (by kernel_rfl)).1

def f77.l34 (k : Nat) (x0 : (List (Int × (Int × (Int × (Int × (Int × ByteArray))))))) : Nat → ((List (Int × (Int × (Int × (Int × (Int × ByteArray)))))) × Int) → Option (List (Int × (Int × (Int × (Int × (Int × ByteArray))))))
  | 0, _ => none
  | m34 + 1, (v57, v58) => if (decide ((v58 : Int) < (List.length x0 : Int))) then (if (0 ≤ v58 ∧ v58 < (List.length x0 : Int)) then ((f166 k (List.getD x0 (Int.toNat v58) ((0 : Int), ((0 : Int), ((0 : Int), ((0 : Int), ((0 : Int), (⟨#[]⟩ : ByteArray)))))))).bind fun r63 => (if (0 ≤ v58 ∧ v58 < (List.length v57 : Int)) then ((f77.l34 k x0) m34 ((List.set v57 (Int.toNat v58) r63), (IntKind.i64.wrap (v58 + (1 : Int))))) else none)) else none) else (some v57)
def f77 (k : Nat) (x0 : (List (Int × (Int × (Int × (Int × (Int × ByteArray))))))) : Option (List (Int × (Int × (Int × (Int × (Int × ByteArray)))))) := if (0 ≤ (List.length x0 : Int) ∧ Int.toNat (List.length x0 : Int) * 56 ≤ 140737488355328) then (f77.l34 k x0 k ((List.replicate (Int.toNat (List.length x0 : Int)) ((0 : Int), ((0 : Int), ((0 : Int), ((0 : Int), ((0 : Int), (⟨#[]⟩ : ByteArray))))))), (0 : Int))) else none
set_option maxRecDepth 100000 in
/-- 'laws.toRoadS'. -/
theorem c77 (k : Nat) (x0 : (List (Int × (Int × (Int × (Int × (Int × ByteArray))))))) (r : (List (Int × (Int × (Int × (Int × (Int × ByteArray))))))) (hF : f77 k x0 = some r) : PCall Try.prog 77 [⟨sh2, x0⟩] [⟨sh8, r⟩] := by
  refine pcall_intro Try.func77 rfl rfl (Nat.le_of_ble_eq_true rfl) ?_
  intro w0 Zi a w h
  rw [f77] at hF
  refine wp_reg_seq tok (orc := orcL []) (fz := []) (l := [0]) (c := _) (.inr fun i h => h) h (by kernel_rfl) (AllP.nil) ?_
  intro a w h
  obtain ⟨hc67, hF⟩ := of_if hF
  refine wp_reg_seq tok (orc := orcL []) (fz := []) (l := [0, 3]) (c := _) (.inr fun i h => h) h (by kernel_rfl) (AllP.cons hc67 AllP.nil) ?_
  intro a w h
  refine wp_seq ?_
  refine wp_reg_seq tok (orc := orcL []) (fz := []) (l := [0, 3, 4]) (c := _) (.inr fun i h => h) h (by kernel_rfl) (AllP.nil) ?_
  intro a w h
  refine wp_block ?_
  refine wp_loop_fuel (f77.l34 k x0) (fun ((v57, v58) : ((List (Int × (Int × (Int × (Int × (Int × ByteArray)))))) × Int)) => [(0, .val sh2 x0), (3, .val sh8 v57), (4, .val (.int .i64) v58)]) (fun v h => by obtain ⟨v57, v58⟩ := v; rw [f77.l34] at h; cases h) ?_ hF (h.arrive (fz := []) (l := [0, 3, 4]) (.inr fun i h => h) (by kernel_rfl))
  intro m34 v a w hF h
  obtain ⟨v57, v58⟩ := v
  rw [f77.l34] at hF
  refine wp_seq ?_
  refine wp_reg_seq tok (orc := orcL []) (fz := []) (l := [0, 3, 4, 11]) (c := _) (.inr fun i h => h) h (by kernel_rfl) (AllP.nil) ?_
  intro a w h
  refine wp_if h (b := (decide ((v58 : Int) < (List.length x0 : Int)))) (by kernel_rfl) (fun hb => ?_) (fun hb => ?_)
  · replace hF := of_t hb hF
    refine wp_skip ?_
    refine wp_seq <| wp_block ?_
    obtain ⟨hc64, hF⟩ := of_if hF
    obtain ⟨r63, hr65, hF⟩ := of_bind hF
    obtain ⟨hc66, hF⟩ := of_if hF
    refine wp_reg tok (orc := orcL [(20, [⟨sh1, r63⟩])]) (fz := []) (l := [0, 3, 4]) (c := _) (.inr fun i h => h) h (by kernel_rfl) (AllP.cons hc64 (AllP.cons (c166 k (List.getD x0 (Int.toNat v58) ((0 : Int), ((0 : Int), ((0 : Int), ((0 : Int), ((0 : Int), (⟨#[]⟩ : ByteArray))))))) r63 hr65) (AllP.cons hc66 AllP.nil))) ?_
    intro a w h
    refine wp_reg tok (orc := orcL []) (fz := []) (l := [0, 3, 4]) (c := _) (.inr fun i h => h) h (by kernel_rfl) (AllP.nil) ?_
    intro a w h
    exact ⟨((List.set v57 (Int.toNat v58) r63), (IntKind.i64.wrap (v58 + (1 : Int)))), hF, h.arrive (fz := []) (l := [0, 3, 4]) (.inr fun i h => h) (by kernel_rfl)⟩
  · replace hF := of_f hb hF
    refine wp_exit ?_
    refine wp_reg_seq tok (orc := orcL []) (fz := []) (l := [2, 3]) (c := _) (.inr fun i h => h) h (by kernel_rfl) (AllP.nil) ?_
    intro a w h
    cases hF
    exact wp_ret (ret_okR tok h rfl (by kernel_rfl)).1

def f167 (k : Nat) (x0 : (Int × Int)) : Option (Int × Int) := some (x0.1, x0.2)
set_option maxRecDepth 100000 in
/-- 'laws.toBan'. -/
theorem c167 (k : Nat) (x0 : (Int × Int)) (r : (Int × Int)) (hF : f167 k x0 = some r) : PCall Try.prog 167 [⟨sh5, x0⟩] [⟨sh5, r⟩] := by
  refine pcall_intro Try.func167 rfl rfl (Nat.le_of_ble_eq_true rfl) ?_
  intro w0 Zi a w h
  rw [f167] at hF
  refine wp_reg_seq tok (orc := orcL []) (fz := []) (l := [1, 2]) (c := _) (.inr fun i h => h) h (by kernel_rfl) (AllP.nil) ?_
  intro a w h
  refine wp_reg_seq tok (orc := orcL []) (fz := []) (l := [1, 2, 3]) (c := _) (.inr fun i h => h) h (by kernel_rfl) (AllP.nil) ?_
  intro a w h
  refine wp_reg_seq tok (orc := orcL []) (fz := []) (l := [1, 2, 3]) (c := _) (.inr fun i h => h) h (by kernel_rfl) (AllP.nil) ?_
  intro a w h
  refine wp_reg_seq tok (orc := orcL []) (fz := []) (l := [2, 3]) (c := _) (.inr fun i h => h) h (by kernel_rfl) (AllP.nil) ?_
  intro a w h
  refine wp_reg_seq tok (orc := orcL []) (fz := []) (l := [2]) (c := _) (.inr fun i h => h) h (by kernel_rfl) (AllP.nil) ?_
  intro a w h
  cases hF
  exact wp_ret (ret_okR tok h rfl (by kernel_rfl)).1

def f78.l34 (k : Nat) (x0 : (List (Int × Int))) : Nat → ((List (Int × Int)) × Int) → Option (List (Int × Int))
  | 0, _ => none
  | m34 + 1, (v57, v58) => if (decide ((v58 : Int) < (List.length x0 : Int))) then (if (0 ≤ v58 ∧ v58 < (List.length x0 : Int)) then ((f167 k (List.getD x0 (Int.toNat v58) ((0 : Int), (0 : Int)))).bind fun r63 => (if (0 ≤ v58 ∧ v58 < (List.length v57 : Int)) then ((f78.l34 k x0) m34 ((List.set v57 (Int.toNat v58) r63), (IntKind.i64.wrap (v58 + (1 : Int))))) else none)) else none) else (some v57)
def f78 (k : Nat) (x0 : (List (Int × Int))) : Option (List (Int × Int)) := if (0 ≤ (List.length x0 : Int) ∧ Int.toNat (List.length x0 : Int) * 16 ≤ 140737488355328) then (f78.l34 k x0 k ((List.replicate (Int.toNat (List.length x0 : Int)) ((0 : Int), (0 : Int))), (0 : Int))) else none
set_option maxRecDepth 100000 in
/-- 'laws.toBanS'. -/
theorem c78 (k : Nat) (x0 : (List (Int × Int))) (r : (List (Int × Int))) (hF : f78 k x0 = some r) : PCall Try.prog 78 [⟨sh3, x0⟩] [⟨sh9, r⟩] := by
  refine pcall_intro Try.func78 rfl rfl (Nat.le_of_ble_eq_true rfl) ?_
  intro w0 Zi a w h
  rw [f78] at hF
  refine wp_reg_seq tok (orc := orcL []) (fz := []) (l := [0]) (c := _) (.inr fun i h => h) h (by kernel_rfl) (AllP.nil) ?_
  intro a w h
  obtain ⟨hc67, hF⟩ := of_if hF
  refine wp_reg_seq tok (orc := orcL []) (fz := []) (l := [0, 3]) (c := _) (.inr fun i h => h) h (by kernel_rfl) (AllP.cons hc67 AllP.nil) ?_
  intro a w h
  refine wp_seq ?_
  refine wp_reg_seq tok (orc := orcL []) (fz := []) (l := [0, 3, 4]) (c := _) (.inr fun i h => h) h (by kernel_rfl) (AllP.nil) ?_
  intro a w h
  refine wp_block ?_
  refine wp_loop_fuel (f78.l34 k x0) (fun ((v57, v58) : ((List (Int × Int)) × Int)) => [(0, .val sh3 x0), (3, .val sh9 v57), (4, .val (.int .i64) v58)]) (fun v h => by obtain ⟨v57, v58⟩ := v; rw [f78.l34] at h; cases h) ?_ hF (h.arrive (fz := []) (l := [0, 3, 4]) (.inr fun i h => h) (by kernel_rfl))
  intro m34 v a w hF h
  obtain ⟨v57, v58⟩ := v
  rw [f78.l34] at hF
  refine wp_seq ?_
  refine wp_reg_seq tok (orc := orcL []) (fz := []) (l := [0, 3, 4, 11]) (c := _) (.inr fun i h => h) h (by kernel_rfl) (AllP.nil) ?_
  intro a w h
  refine wp_if h (b := (decide ((v58 : Int) < (List.length x0 : Int)))) (by kernel_rfl) (fun hb => ?_) (fun hb => ?_)
  · replace hF := of_t hb hF
    refine wp_skip ?_
    refine wp_seq <| wp_block ?_
    obtain ⟨hc64, hF⟩ := of_if hF
    obtain ⟨r63, hr65, hF⟩ := of_bind hF
    obtain ⟨hc66, hF⟩ := of_if hF
    refine wp_reg tok (orc := orcL [(20, [⟨sh5, r63⟩])]) (fz := []) (l := [0, 3, 4]) (c := _) (.inr fun i h => h) h (by kernel_rfl) (AllP.cons hc64 (AllP.cons (c167 k (List.getD x0 (Int.toNat v58) ((0 : Int), (0 : Int))) r63 hr65) (AllP.cons hc66 AllP.nil))) ?_
    intro a w h
    refine wp_reg tok (orc := orcL []) (fz := []) (l := [0, 3, 4]) (c := _) (.inr fun i h => h) h (by kernel_rfl) (AllP.nil) ?_
    intro a w h
    exact ⟨((List.set v57 (Int.toNat v58) r63), (IntKind.i64.wrap (v58 + (1 : Int)))), hF, h.arrive (fz := []) (l := [0, 3, 4]) (.inr fun i h => h) (by kernel_rfl)⟩
  · replace hF := of_f hb hF
    refine wp_exit ?_
    refine wp_reg_seq tok (orc := orcL []) (fz := []) (l := [2, 3]) (c := _) (.inr fun i h => h) h (by kernel_rfl) (AllP.nil) ?_
    intro a w h
    cases hF
    exact wp_ret (ret_okR tok h rfl (by kernel_rfl)).1

def f16 (k : Nat) (x0 : ((List (Int × (Int × Int))) × ((List (Int × (Int × (Int × (Int × (Int × ByteArray)))))) × (List (Int × Int))))) : Option ((List (Int × (Int × Int))) × ((List (Int × (Int × (Int × (Int × (Int × ByteArray)))))) × (List (Int × Int)))) := (f76 k x0.1).bind fun r1 => ((f77 k x0.2.1).bind fun r2 => ((f78 k x0.2.2).bind fun r3 => (some (r1, (r2, r3)))))
set_option maxRecDepth 100000 in
/-- 'laws.toGraph'. -/
theorem c16 (k : Nat) (x0 : ((List (Int × (Int × Int))) × ((List (Int × (Int × (Int × (Int × (Int × ByteArray)))))) × (List (Int × Int))))) (r : ((List (Int × (Int × Int))) × ((List (Int × (Int × (Int × (Int × (Int × ByteArray)))))) × (List (Int × Int))))) (hF : f16 k x0 = some r) : PCall Try.prog 16 [⟨sh4, x0⟩] [⟨sh10, r⟩] := by
  refine pcall_intro Try.func16 rfl rfl (Nat.le_of_ble_eq_true rfl) ?_
  intro w0 Zi a w h
  rw [f16] at hF
  refine wp_reg_seq tok (orc := orcL []) (fz := []) (l := [1, 2]) (c := _) (.inr fun i h => h) h (by kernel_rfl) (AllP.nil) ?_
  intro a w h
  refine wp_reg_seq tok (orc := orcL []) (fz := []) (l := [1, 2, 3]) (c := _) (.inr fun i h => h) h (by kernel_rfl) (AllP.nil) ?_
  intro a w h
  obtain ⟨r1, hr6, hF⟩ := of_bind hF
  refine wp_reg_seq tok (orc := orcL [(6, [⟨sh7, r1⟩])]) (fz := []) (l := [1, 2, 3]) (c := _) (.inr fun i h => h) h (by kernel_rfl) (AllP.cons (c76 k x0.1 r1 hr6) AllP.nil) ?_
  intro a w h
  obtain ⟨r2, hr5, hF⟩ := of_bind hF
  refine wp_reg_seq tok (orc := orcL [(10, [⟨sh8, r2⟩])]) (fz := []) (l := [1, 2, 3]) (c := _) (.inr fun i h => h) h (by kernel_rfl) (AllP.cons (c77 k x0.2.1 r2 hr5) AllP.nil) ?_
  intro a w h
  obtain ⟨r3, hr4, hF⟩ := of_bind hF
  refine wp_reg_seq tok (orc := orcL [(14, [⟨sh9, r3⟩])]) (fz := []) (l := [2, 3]) (c := _) (.inr fun i h => h) h (by kernel_rfl) (AllP.cons (c78 k x0.2.2 r3 hr4) AllP.nil) ?_
  intro a w h
  refine wp_reg_seq tok (orc := orcL []) (fz := []) (l := [2]) (c := _) (.inr fun i h => h) h (by kernel_rfl) (AllP.nil) ?_
  intro a w h
  cases hF
  exact wp_ret (ret_okR tok h rfl (by kernel_rfl)).1

def f17.l22 (k : Nat) (x0 : (List Int)) : Nat → ((List Int) × Int) → Option (List Int)
  | 0, _ => none
  | m22 + 1, (v37, v38) => if (decide ((v38 : Int) < (List.length x0 : Int))) then (if (0 ≤ v38 ∧ v38 < (List.length x0 : Int)) then (if (0 ≤ v38 ∧ v38 < (List.length v37 : Int)) then ((f17.l22 k x0) m22 ((List.set v37 (Int.toNat v38) (List.getD x0 (Int.toNat v38) (0 : Int))), (IntKind.i64.wrap (v38 + (1 : Int))))) else none) else none) else (some v37)
def f17 (k : Nat) (x0 : (List Int)) : Option (List Int) := if (0 ≤ (List.length x0 : Int) ∧ Int.toNat (List.length x0 : Int) * 8 ≤ 140737488355328) then (f17.l22 k x0 k ((List.replicate (Int.toNat (List.length x0 : Int)) (0 : Int)), (0 : Int))) else none
set_option maxRecDepth 100000 in
/-- 'laws.toInt64S'. -/
theorem c17 (k : Nat) (x0 : (List Int)) (r : (List Int)) (hF : f17 k x0 = some r) : PCall Try.prog 17 [⟨(.sl false 2 (.int .i64)), x0⟩] [⟨(.sl true 2 (.int .i64)), r⟩] := by
  refine pcall_intro Try.func17 rfl rfl (Nat.le_of_ble_eq_true rfl) ?_
  intro w0 Zi a w h
  rw [f17] at hF
  refine wp_reg_seq tok (orc := orcL []) (fz := []) (l := [0]) (c := _) (.inr fun i h => h) h (by kernel_rfl) (AllP.nil) ?_
  intro a w h
  obtain ⟨hc43, hF⟩ := of_if hF
  refine wp_reg_seq tok (orc := orcL []) (fz := []) (l := [0, 3]) (c := _) (.inr fun i h => h) h (by kernel_rfl) (AllP.cons hc43 AllP.nil) ?_
  intro a w h
  refine wp_seq ?_
  refine wp_reg_seq tok (orc := orcL []) (fz := []) (l := [0, 3, 4]) (c := _) (.inr fun i h => h) h (by kernel_rfl) (AllP.nil) ?_
  intro a w h
  refine wp_block ?_
  refine wp_loop_fuel (f17.l22 k x0) (fun ((v37, v38) : ((List Int) × Int)) => [(0, .val (.sl false 2 (.int .i64)) x0), (3, .val (.sl true 2 (.int .i64)) v37), (4, .val (.int .i64) v38)]) (fun v h => by obtain ⟨v37, v38⟩ := v; rw [f17.l22] at h; cases h) ?_ hF (h.arrive (fz := []) (l := [0, 3, 4]) (.inr fun i h => h) (by kernel_rfl))
  intro m22 v a w hF h
  obtain ⟨v37, v38⟩ := v
  rw [f17.l22] at hF
  refine wp_seq ?_
  refine wp_reg_seq tok (orc := orcL []) (fz := []) (l := [0, 3, 4, 11]) (c := _) (.inr fun i h => h) h (by kernel_rfl) (AllP.nil) ?_
  intro a w h
  refine wp_if h (b := (decide ((v38 : Int) < (List.length x0 : Int)))) (by kernel_rfl) (fun hb => ?_) (fun hb => ?_)
  · replace hF := of_t hb hF
    refine wp_skip ?_
    refine wp_seq <| wp_block ?_
    obtain ⟨hc41, hF⟩ := of_if hF
    obtain ⟨hc42, hF⟩ := of_if hF
    refine wp_reg tok (orc := orcL []) (fz := []) (l := [0, 3, 4]) (c := _) (.inr fun i h => h) h (by kernel_rfl) (AllP.cons hc41 (AllP.cons hc42 AllP.nil)) ?_
    intro a w h
    refine wp_reg tok (orc := orcL []) (fz := []) (l := [0, 3, 4]) (c := _) (.inr fun i h => h) h (by kernel_rfl) (AllP.nil) ?_
    intro a w h
    exact ⟨((List.set v37 (Int.toNat v38) (List.getD x0 (Int.toNat v38) (0 : Int))), (IntKind.i64.wrap (v38 + (1 : Int)))), hF, h.arrive (fz := []) (l := [0, 3, 4]) (.inr fun i h => h) (by kernel_rfl)⟩
  · replace hF := of_f hb hF
    refine wp_exit ?_
    refine wp_reg_seq tok (orc := orcL []) (fz := []) (l := [2, 3]) (c := _) (.inr fun i h => h) h (by kernel_rfl) (AllP.nil) ?_
    intro a w h
    cases hF
    exact wp_ret (ret_okR tok h rfl (by kernel_rfl)).1

def f158 (k : Nat) (x0 : Int) : Option Bool := some (bif (decide ((x0 : Int) ≥ (1 : Int))) then (decide ((x0 : Int) ≤ (1000000000 : Int))) else false)
set_option maxRecDepth 100000 in
/-- 'spec.l2IdOk'. -/
theorem c158 (k : Nat) (x0 : Int) (r : Bool) (hF : f158 k x0 = some r) : PCall Try.prog 158 [⟨(.int .i64), x0⟩] [⟨.bool, r⟩] := by
  refine pcall_intro Try.func158 rfl rfl (Nat.le_of_ble_eq_true rfl) ?_
  intro w0 Zi a w h
  rw [f158] at hF
  refine wp_reg_seq tok (orc := orcL []) (fz := []) (l := [0]) (c := _) (.inr fun i h => h) h (by kernel_rfl) (AllP.nil) ?_
  intro a w h
  refine wp_reg_seq tok (orc := orcL []) (fz := []) (l := [2]) (c := _) (.inr fun i h => h) h (by kernel_rfl) (AllP.nil) ?_
  intro a w h
  cases hF
  exact wp_ret (ret_okR tok h rfl (by kernel_rfl)).1

def f159 (k : Nat) (x0 : (Int × Int)) : Option Bool := some (bif (bif (bif (decide ((x0.1 : Int) ≥ (-10000000 : Int))) then (decide ((x0.1 : Int) ≤ (10000000 : Int))) else false) then (decide ((x0.2 : Int) ≥ (-10000000 : Int))) else false) then (decide ((x0.2 : Int) ≤ (10000000 : Int))) else false)
set_option maxRecDepth 100000 in
/-- 'spec.PointOk'. -/
theorem c159 (k : Nat) (x0 : (Int × Int)) (r : Bool) (hF : f159 k x0 = some r) : PCall Try.prog 159 [⟨sh5, x0⟩] [⟨.bool, r⟩] := by
  refine pcall_intro Try.func159 rfl rfl (Nat.le_of_ble_eq_true rfl) ?_
  intro w0 Zi a w h
  rw [f159] at hF
  refine wp_reg_seq tok (orc := orcL []) (fz := []) (l := [1]) (c := _) (.inr fun i h => h) h (by kernel_rfl) (AllP.nil) ?_
  intro a w h
  refine wp_reg_seq tok (orc := orcL []) (fz := []) (l := [2]) (c := _) (.inr fun i h => h) h (by kernel_rfl) (AllP.nil) ?_
  intro a w h
  cases hF
  exact wp_ret (ret_okR tok h rfl (by kernel_rfl)).1

def f160 (k : Nat) (x0 : (Int × Int)) (x1 : (Int × Int)) : Option Bool := some (bif (decide ((x0.1 : Int) < x1.1)) then true else (bif ((x0.1 : Int) == x1.1) then (decide ((x0.2 : Int) < x1.2)) else false))
set_option maxRecDepth 100000 in
/-- 'spec.l9BanLess'. -/
theorem c160 (k : Nat) (x0 : (Int × Int)) (x1 : (Int × Int)) (r : Bool) (hF : f160 k x0 x1 = some r) : PCall Try.prog 160 [⟨sh5, x0⟩, ⟨sh5, x1⟩] [⟨.bool, r⟩] := by
  refine pcall_intro Try.func160 rfl rfl (Nat.le_of_ble_eq_true rfl) ?_
  intro w0 Zi a w h
  rw [f160] at hF
  refine wp_reg_seq tok (orc := orcL []) (fz := []) (l := [2, 3]) (c := _) (.inr fun i h => h) h (by kernel_rfl) (AllP.nil) ?_
  intro a w h
  refine wp_reg_seq tok (orc := orcL []) (fz := []) (l := [4]) (c := _) (.inr fun i h => h) h (by kernel_rfl) (AllP.nil) ?_
  intro a w h
  cases hF
  exact wp_ret (ret_okR tok h rfl (by kernel_rfl)).1

def f70.l206 (k : Nat) (x0 : ((List (Int × (Int × Int))) × ((List (Int × (Int × (Int × (Int × (Int × ByteArray)))))) × (List (Int × Int))))) : Nat → Int → Option Bool
  | 0, _ => none
  | m206 + 1, v242 => if (decide ((v242 : Int) < (List.length x0.2.2 : Int))) then (if (0 ≤ v242 ∧ v242 < (List.length x0.2.2 : Int)) then (if (((bif (bif (bif (decide (((List.getD x0.2.2 (Int.toNat v242) ((0 : Int), (0 : Int))).1 : Int) < (0 : Int))) then true else (decide (((List.getD x0.2.2 (Int.toNat v242) ((0 : Int), (0 : Int))).1 : Int) ≥ (List.length x0.2.1 : Int)))) then true else (decide (((List.getD x0.2.2 (Int.toNat v242) ((0 : Int), (0 : Int))).2 : Int) < (0 : Int)))) then true else (decide (((List.getD x0.2.2 (Int.toNat v242) ((0 : Int), (0 : Int))).2 : Int) ≥ (List.length x0.2.1 : Int)))) = false) → (0 ≤ (List.getD x0.2.2 (Int.toNat v242) ((0 : Int), (0 : Int))).1 ∧ (List.getD x0.2.2 (Int.toNat v242) ((0 : Int), (0 : Int))).1 < (List.length x0.2.1 : Int))) then (if (((bif (bif (bif (decide (((List.getD x0.2.2 (Int.toNat v242) ((0 : Int), (0 : Int))).1 : Int) < (0 : Int))) then true else (decide (((List.getD x0.2.2 (Int.toNat v242) ((0 : Int), (0 : Int))).1 : Int) ≥ (List.length x0.2.1 : Int)))) then true else (decide (((List.getD x0.2.2 (Int.toNat v242) ((0 : Int), (0 : Int))).2 : Int) < (0 : Int)))) then true else (decide (((List.getD x0.2.2 (Int.toNat v242) ((0 : Int), (0 : Int))).2 : Int) ≥ (List.length x0.2.1 : Int)))) = false) → (0 ≤ (List.getD x0.2.2 (Int.toNat v242) ((0 : Int), (0 : Int))).2 ∧ (List.getD x0.2.2 (Int.toNat v242) ((0 : Int), (0 : Int))).2 < (List.length x0.2.1 : Int))) then (if ((((bif (bif (bif (bif (decide (((List.getD x0.2.2 (Int.toNat v242) ((0 : Int), (0 : Int))).1 : Int) < (0 : Int))) then true else (decide (((List.getD x0.2.2 (Int.toNat v242) ((0 : Int), (0 : Int))).1 : Int) ≥ (List.length x0.2.1 : Int)))) then true else (decide (((List.getD x0.2.2 (Int.toNat v242) ((0 : Int), (0 : Int))).2 : Int) < (0 : Int)))) then true else (decide (((List.getD x0.2.2 (Int.toNat v242) ((0 : Int), (0 : Int))).2 : Int) ≥ (List.length x0.2.1 : Int)))) then true else (((List.getD x0.2.1 (Int.toNat (List.getD x0.2.2 (Int.toNat v242) ((0 : Int), (0 : Int))).1) ((0 : Int), ((0 : Int), ((0 : Int), ((0 : Int), ((0 : Int), (⟨#[]⟩ : ByteArray))))))).2.1 : Int) != (List.getD x0.2.1 (Int.toNat (List.getD x0.2.2 (Int.toNat v242) ((0 : Int), (0 : Int))).2) ((0 : Int), ((0 : Int), ((0 : Int), ((0 : Int), ((0 : Int), (⟨#[]⟩ : ByteArray))))))).1)) = false) ∧ ((decide ((v242 : Int) > (0 : Int))) = true)) → (0 ≤ (IntKind.i64.wrap (v242 - (1 : Int))) ∧ (IntKind.i64.wrap (v242 - (1 : Int))) < (List.length x0.2.2 : Int))) then ((if (((bif (bif (bif (bif (decide (((List.getD x0.2.2 (Int.toNat v242) ((0 : Int), (0 : Int))).1 : Int) < (0 : Int))) then true else (decide (((List.getD x0.2.2 (Int.toNat v242) ((0 : Int), (0 : Int))).1 : Int) ≥ (List.length x0.2.1 : Int)))) then true else (decide (((List.getD x0.2.2 (Int.toNat v242) ((0 : Int), (0 : Int))).2 : Int) < (0 : Int)))) then true else (decide (((List.getD x0.2.2 (Int.toNat v242) ((0 : Int), (0 : Int))).2 : Int) ≥ (List.length x0.2.1 : Int)))) then true else (((List.getD x0.2.1 (Int.toNat (List.getD x0.2.2 (Int.toNat v242) ((0 : Int), (0 : Int))).1) ((0 : Int), ((0 : Int), ((0 : Int), ((0 : Int), ((0 : Int), (⟨#[]⟩ : ByteArray))))))).2.1 : Int) != (List.getD x0.2.1 (Int.toNat (List.getD x0.2.2 (Int.toNat v242) ((0 : Int), (0 : Int))).2) ((0 : Int), ((0 : Int), ((0 : Int), ((0 : Int), ((0 : Int), (⟨#[]⟩ : ByteArray))))))).1)) = false) ∧ ((decide ((v242 : Int) > (0 : Int))) = true)) then f160 k (List.getD x0.2.2 (Int.toNat (IntKind.i64.wrap (v242 - (1 : Int)))) ((0 : Int), (0 : Int))) (List.getD x0.2.2 (Int.toNat v242) ((0 : Int), (0 : Int))) else some default).bind fun r251 => ((some ((bif (bif (bif (bif (bif (decide (((List.getD x0.2.2 (Int.toNat v242) ((0 : Int), (0 : Int))).1 : Int) < (0 : Int))) then true else (decide (((List.getD x0.2.2 (Int.toNat v242) ((0 : Int), (0 : Int))).1 : Int) ≥ (List.length x0.2.1 : Int)))) then true else (decide (((List.getD x0.2.2 (Int.toNat v242) ((0 : Int), (0 : Int))).2 : Int) < (0 : Int)))) then true else (decide (((List.getD x0.2.2 (Int.toNat v242) ((0 : Int), (0 : Int))).2 : Int) ≥ (List.length x0.2.1 : Int)))) then true else (((List.getD x0.2.1 (Int.toNat (List.getD x0.2.2 (Int.toNat v242) ((0 : Int), (0 : Int))).1) ((0 : Int), ((0 : Int), ((0 : Int), ((0 : Int), ((0 : Int), (⟨#[]⟩ : ByteArray))))))).2.1 : Int) != (List.getD x0.2.1 (Int.toNat (List.getD x0.2.2 (Int.toNat v242) ((0 : Int), (0 : Int))).2) ((0 : Int), ((0 : Int), ((0 : Int), ((0 : Int), ((0 : Int), (⟨#[]⟩ : ByteArray))))))).1)) then true else (bif (decide ((v242 : Int) > (0 : Int))) then (!r251) else false)) : Bool)).bind fun v252 => (if v252 then (some false) else ((f70.l206 k x0) m206 (IntKind.i64.wrap (v242 + (1 : Int))))))) else none) else none) else none) else none) else (some true)
def f70.l118 (k : Nat) (x0 : ((List (Int × (Int × Int))) × ((List (Int × (Int × (Int × (Int × (Int × ByteArray)))))) × (List (Int × Int))))) : Nat → Int → Option Bool
  | 0, _ => none
  | m118 + 1, v142 => if (decide ((v142 : Int) < (List.length x0.2.1 : Int))) then (if (0 ≤ v142 ∧ v142 < (List.length x0.2.1 : Int)) then ((if ((bif (bif (bif (decide (((List.getD x0.2.1 (Int.toNat v142) ((0 : Int), ((0 : Int), ((0 : Int), ((0 : Int), ((0 : Int), (⟨#[]⟩ : ByteArray))))))).1 : Int) < (0 : Int))) then true else (decide (((List.getD x0.2.1 (Int.toNat v142) ((0 : Int), ((0 : Int), ((0 : Int), ((0 : Int), ((0 : Int), (⟨#[]⟩ : ByteArray))))))).1 : Int) ≥ (List.length x0.1 : Int)))) then true else (decide (((List.getD x0.2.1 (Int.toNat v142) ((0 : Int), ((0 : Int), ((0 : Int), ((0 : Int), ((0 : Int), (⟨#[]⟩ : ByteArray))))))).2.1 : Int) < (0 : Int)))) then true else (decide (((List.getD x0.2.1 (Int.toNat v142) ((0 : Int), ((0 : Int), ((0 : Int), ((0 : Int), ((0 : Int), (⟨#[]⟩ : ByteArray))))))).2.1 : Int) ≥ (List.length x0.1 : Int)))) = false) then f158 k (List.getD x0.2.1 (Int.toNat v142) ((0 : Int), ((0 : Int), ((0 : Int), ((0 : Int), ((0 : Int), (⟨#[]⟩ : ByteArray))))))).2.2.1 else some default).bind fun r148 => ((some ((bif (bif (bif (bif (bif (bif (bif (bif (decide (((List.getD x0.2.1 (Int.toNat v142) ((0 : Int), ((0 : Int), ((0 : Int), ((0 : Int), ((0 : Int), (⟨#[]⟩ : ByteArray))))))).1 : Int) < (0 : Int))) then true else (decide (((List.getD x0.2.1 (Int.toNat v142) ((0 : Int), ((0 : Int), ((0 : Int), ((0 : Int), ((0 : Int), (⟨#[]⟩ : ByteArray))))))).1 : Int) ≥ (List.length x0.1 : Int)))) then true else (decide (((List.getD x0.2.1 (Int.toNat v142) ((0 : Int), ((0 : Int), ((0 : Int), ((0 : Int), ((0 : Int), (⟨#[]⟩ : ByteArray))))))).2.1 : Int) < (0 : Int)))) then true else (decide (((List.getD x0.2.1 (Int.toNat v142) ((0 : Int), ((0 : Int), ((0 : Int), ((0 : Int), ((0 : Int), (⟨#[]⟩ : ByteArray))))))).2.1 : Int) ≥ (List.length x0.1 : Int)))) then true else (!r148)) then true else (decide (((List.getD x0.2.1 (Int.toNat v142) ((0 : Int), ((0 : Int), ((0 : Int), ((0 : Int), ((0 : Int), (⟨#[]⟩ : ByteArray))))))).2.2.2.1 : Int) < (1 : Int)))) then true else (decide (((List.getD x0.2.1 (Int.toNat v142) ((0 : Int), ((0 : Int), ((0 : Int), ((0 : Int), ((0 : Int), (⟨#[]⟩ : ByteArray))))))).2.2.2.1 : Int) > (1000000 : Int)))) then true else (decide (((List.getD x0.2.1 (Int.toNat v142) ((0 : Int), ((0 : Int), ((0 : Int), ((0 : Int), ((0 : Int), (⟨#[]⟩ : ByteArray))))))).2.2.2.2.1 : Int) < (0 : Int)))) then true else (decide (((List.getD x0.2.1 (Int.toNat v142) ((0 : Int), ((0 : Int), ((0 : Int), ((0 : Int), ((0 : Int), (⟨#[]⟩ : ByteArray))))))).2.2.2.2.1 : Int) > (1000000000 : Int)))) : Bool)).bind fun v149 => (if v149 then (some false) else ((f70.l118 k x0) m118 (IntKind.i64.wrap (v142 + (1 : Int))))))) else none) else (f70.l206 k x0 k (0 : Int))
def f70.l42 (k : Nat) (x0 : ((List (Int × (Int × Int))) × ((List (Int × (Int × (Int × (Int × (Int × ByteArray)))))) × (List (Int × Int))))) : Nat → Int → Option Bool
  | 0, _ => none
  | m42 + 1, v70 => if (decide ((v70 : Int) < (List.length x0.1 : Int))) then (if (0 ≤ v70 ∧ v70 < (List.length x0.1 : Int)) then ((f158 k (List.getD x0.1 (Int.toNat v70) ((0 : Int), ((0 : Int), (0 : Int)))).1).bind fun r77 => ((if ((!r77) = false) then f159 k (List.getD x0.1 (Int.toNat v70) ((0 : Int), ((0 : Int), (0 : Int)))).2 else some default).bind fun r78 => (if ((((bif (!r77) then true else (!r78)) = false) ∧ ((decide ((v70 : Int) > (0 : Int))) = true)) → (0 ≤ (IntKind.i64.wrap (v70 - (1 : Int))) ∧ (IntKind.i64.wrap (v70 - (1 : Int))) < (List.length x0.1 : Int))) then (if (bif (bif (!r77) then true else (!r78)) then true else (bif (decide ((v70 : Int) > (0 : Int))) then (decide (((List.getD x0.1 (Int.toNat (IntKind.i64.wrap (v70 - (1 : Int)))) ((0 : Int), ((0 : Int), (0 : Int)))).1 : Int) ≥ (List.getD x0.1 (Int.toNat v70) ((0 : Int), ((0 : Int), (0 : Int)))).1)) else false)) then (some false) else ((f70.l42 k x0) m42 (IntKind.i64.wrap (v70 + (1 : Int))))) else none))) else none) else (f70.l118 k x0 k (0 : Int))
def f70 (k : Nat) (x0 : ((List (Int × (Int × Int))) × ((List (Int × (Int × (Int × (Int × (Int × ByteArray)))))) × (List (Int × Int))))) : Option Bool := if (bif (bif (decide (((List.length x0.1 : Int) : Int) > (5000 : Int))) then true else (decide (((List.length x0.2.1 : Int) : Int) > (8000 : Int)))) then true else (decide (((List.length x0.2.2 : Int) : Int) > (2000 : Int)))) then (some false) else (f70.l42 k x0 k (0 : Int))
set_option maxRecDepth 100000 in
/-- 'spec.GraphOk'. -/
theorem c70 (k : Nat) (x0 : ((List (Int × (Int × Int))) × ((List (Int × (Int × (Int × (Int × (Int × ByteArray)))))) × (List (Int × Int))))) (r : Bool) (hF : f70 k x0 = some r) : PCall Try.prog 70 [⟨sh12, x0⟩] [⟨.bool, r⟩] := by
  refine pcall_intro Try.func70 rfl rfl (Nat.le_of_ble_eq_true rfl) ?_
  intro w0 Zi a w h
  rw [f70] at hF
  refine wp_reg_seq tok (orc := orcL []) (fz := []) (l := [1]) (c := _) (.inr fun i h => h) h (by kernel_rfl) (AllP.nil) ?_
  intro a w h
  refine wp_seq ?_
  refine wp_reg_seq tok (orc := orcL []) (fz := []) (l := [1, 26]) (c := _) (.inr fun i h => h) h (by kernel_rfl) (AllP.nil) ?_
  intro a w h
  refine wp_if h (b := (bif (bif (decide (((List.length x0.1 : Int) : Int) > (5000 : Int))) then true else (decide (((List.length x0.2.1 : Int) : Int) > (8000 : Int)))) then true else (decide (((List.length x0.2.2 : Int) : Int) > (2000 : Int))))) (by kernel_rfl) (fun hb => ?_) (fun hb => ?_)
  · replace hF := of_t hb hF
    refine wp_reg_seq tok (orc := orcL []) (fz := []) (l := [2]) (c := _) (.inr fun i h => h) h (by kernel_rfl) (AllP.nil) ?_
    intro a w h
    cases hF
    exact wp_ret (ret_okR tok h rfl (by kernel_rfl)).1
  · replace hF := of_f hb hF
    refine wp_skip ?_
    refine wp_seq ?_
    refine wp_reg_seq tok (orc := orcL []) (fz := []) (l := [1, 3]) (c := _) (.inr fun i h => h) h (by kernel_rfl) (AllP.nil) ?_
    intro a w h
    refine wp_block ?_
    refine wp_loop_fuel (f70.l42 k x0) (fun (v70 : Int) => [(1, .val sh11 (some x0)), (3, .val (.int .i64) v70)]) (fun v h => by rw [f70.l42] at h; cases h) ?_ hF (h.arrive (fz := []) (l := [1, 3]) (.inr fun i h => h) (by kernel_rfl))
    intro m42 v70 a w hF h
    rw [f70.l42] at hF
    refine wp_seq ?_
    refine wp_reg_seq tok (orc := orcL []) (fz := []) (l := [1, 3, 31]) (c := _) (.inr fun i h => h) h (by kernel_rfl) (AllP.nil) ?_
    intro a w h
    refine wp_if h (b := (decide ((v70 : Int) < (List.length x0.1 : Int)))) (by kernel_rfl) (fun hb => ?_) (fun hb => ?_)
    · replace hF := of_t hb hF
      refine wp_skip ?_
      refine wp_seq <| wp_block ?_
      obtain ⟨hc82, hF⟩ := of_if hF
      refine wp_reg_seq tok (orc := orcL []) (fz := []) (l := [1, 3, 4]) (c := _) (.inr fun i h => h) h (by kernel_rfl) (AllP.cons hc82 AllP.nil) ?_
      intro a w h
      obtain ⟨r77, hr79, hF⟩ := of_bind hF
      obtain ⟨r78, hr80, hF⟩ := of_bind hF
      obtain ⟨hc81, hF⟩ := of_if hF
      refine wp_regy_seq tok (orc := orcL [(41, [⟨.bool, r77⟩]), (46, [⟨.bool, r78⟩])]) (fz := []) (l := [1, 3, 64]) (c := _) ([], [], [], []) 26 (.inr fun i h => h) h (by kernel_rfl) (by kernel_rfl) (AllP.cons (c158 k (List.getD x0.1 (Int.toNat v70) ((0 : Int), ((0 : Int), (0 : Int)))).1 r77 hr79) (AllP.cons (fun (hg : ((!r77) = false)) => c159 k (List.getD x0.1 (Int.toNat v70) ((0 : Int), ((0 : Int), (0 : Int)))).2 r78 (of_g hg hr80)) (AllP.cons hc81 AllP.nil))) ?_
      intro a w h
      refine wp_if h (b := (bif (bif (!r77) then true else (!r78)) then true else (bif (decide ((v70 : Int) > (0 : Int))) then (decide (((List.getD x0.1 (Int.toNat (IntKind.i64.wrap (v70 - (1 : Int)))) ((0 : Int), ((0 : Int), (0 : Int)))).1 : Int) ≥ (List.getD x0.1 (Int.toNat v70) ((0 : Int), ((0 : Int), (0 : Int)))).1)) else false))) (by kernel_rfl) (fun hb => ?_) (fun hb => ?_)
      · replace hF := of_t hb hF
        refine wp_reg_seq tok (orc := orcL []) (fz := []) (l := [2]) (c := _) (.inr fun i h => h) h (by kernel_rfl) (AllP.nil) ?_
        intro a w h
        cases hF
        exact wp_ret (ret_okR tok h rfl (by kernel_rfl)).1
      · replace hF := of_f hb hF
        refine wp_skip ?_
        refine wp_reg tok (orc := orcL []) (fz := []) (l := [1, 3]) (c := _) (.inr fun i h => h) h (by kernel_rfl) (AllP.nil) ?_
        intro a w h
        exact ⟨(IntKind.i64.wrap (v70 + (1 : Int))), hF, h.arrive (fz := []) (l := [1, 3]) (.inr fun i h => h) (by kernel_rfl)⟩
    · replace hF := of_f hb hF
      refine wp_exit ?_
      refine wp_reg_seq tok (orc := orcL []) (fz := []) (l := [1, 5]) (c := _) (.inr fun i h => h) h (by kernel_rfl) (AllP.nil) ?_
      intro a w h
      refine wp_seq ?_
      refine wp_reg_seq tok (orc := orcL []) (fz := []) (l := [1, 5, 6]) (c := _) (.inr fun i h => h) h (by kernel_rfl) (AllP.nil) ?_
      intro a w h
      refine wp_block ?_
      refine wp_loop_fuel (f70.l118 k x0) (fun (v142 : Int) => [(1, .val sh11 (some x0)), (5, .val (.int .i64) (List.length x0.1 : Int)), (6, .val (.int .i64) v142)]) (fun v h => by rw [f70.l118] at h; cases h) ?_ hF (h.arrive (fz := []) (l := [1, 5, 6]) (.inr fun i h => h) (by kernel_rfl))
      intro m118 v142 a w hF h
      rw [f70.l118] at hF
      refine wp_seq ?_
      refine wp_reg_seq tok (orc := orcL []) (fz := []) (l := [1, 5, 6, 72]) (c := _) (.inr fun i h => h) h (by kernel_rfl) (AllP.nil) ?_
      intro a w h
      refine wp_if h (b := (decide ((v142 : Int) < (List.length x0.2.1 : Int)))) (by kernel_rfl) (fun hb => ?_) (fun hb => ?_)
      · replace hF := of_t hb hF
        refine wp_skip ?_
        refine wp_seq <| wp_block ?_
        obtain ⟨hc152, hF⟩ := of_if hF
        refine wp_reg_seq tok (orc := orcL []) (fz := []) (l := [1, 5, 6, 7]) (c := _) (.inr fun i h => h) h (by kernel_rfl) (AllP.cons hc152 AllP.nil) ?_
        intro a w h
        obtain ⟨r148, hr151, hF⟩ := of_bind hF
        refine wp_reg_seq tok (orc := orcL [(103, [⟨.bool, r148⟩])]) (fz := []) (l := [1, 5, 6, 125]) (c := _) (.inr fun i h => h) h (by kernel_rfl) (AllP.cons (fun (hg : ((bif (bif (bif (decide (((List.getD x0.2.1 (Int.toNat v142) ((0 : Int), ((0 : Int), ((0 : Int), ((0 : Int), ((0 : Int), (⟨#[]⟩ : ByteArray))))))).1 : Int) < (0 : Int))) then true else (decide (((List.getD x0.2.1 (Int.toNat v142) ((0 : Int), ((0 : Int), ((0 : Int), ((0 : Int), ((0 : Int), (⟨#[]⟩ : ByteArray))))))).1 : Int) ≥ (List.length x0.1 : Int)))) then true else (decide (((List.getD x0.2.1 (Int.toNat v142) ((0 : Int), ((0 : Int), ((0 : Int), ((0 : Int), ((0 : Int), (⟨#[]⟩ : ByteArray))))))).2.1 : Int) < (0 : Int)))) then true else (decide (((List.getD x0.2.1 (Int.toNat v142) ((0 : Int), ((0 : Int), ((0 : Int), ((0 : Int), ((0 : Int), (⟨#[]⟩ : ByteArray))))))).2.1 : Int) ≥ (List.length x0.1 : Int)))) = false)) => c158 k (List.getD x0.2.1 (Int.toNat v142) ((0 : Int), ((0 : Int), ((0 : Int), ((0 : Int), ((0 : Int), (⟨#[]⟩ : ByteArray))))))).2.2.1 r148 (of_g hg hr151)) AllP.nil) ?_
        intro a w h
        obtain ⟨v149, hv150, hF⟩ := of_bind hF
        replace h := h.cast (S' := [(1, .val sh11 (some x0)), (5, .val (.int .i64) (List.length x0.1 : Int)), (6, .val (.int .i64) v142), (125, .val .bool v149)]) (by cases hv150; kernel_rfl)
        refine wp_if h (b := v149) (by kernel_rfl) (fun hb => ?_) (fun hb => ?_)
        · replace hF := of_t hb hF
          refine wp_reg_seq tok (orc := orcL []) (fz := []) (l := [2]) (c := _) (.inr fun i h => h) h (by kernel_rfl) (AllP.nil) ?_
          intro a w h
          cases hF
          exact wp_ret (ret_okR tok h rfl (by kernel_rfl)).1
        · replace hF := of_f hb hF
          refine wp_skip ?_
          refine wp_reg tok (orc := orcL []) (fz := []) (l := [1, 5, 6]) (c := _) (.inr fun i h => h) h (by kernel_rfl) (AllP.nil) ?_
          intro a w h
          exact ⟨(IntKind.i64.wrap (v142 + (1 : Int))), hF, h.arrive (fz := []) (l := [1, 5, 6]) (.inr fun i h => h) (by kernel_rfl)⟩
      · replace hF := of_f hb hF
        refine wp_exit ?_
        refine wp_reg_seq tok (orc := orcL []) (fz := []) (l := [1, 8]) (c := _) (.inr fun i h => h) h (by kernel_rfl) (AllP.nil) ?_
        intro a w h
        refine wp_seq ?_
        refine wp_reg_seq tok (orc := orcL []) (fz := []) (l := [1, 8, 9]) (c := _) (.inr fun i h => h) h (by kernel_rfl) (AllP.nil) ?_
        intro a w h
        refine wp_block ?_
        refine wp_loop_fuel (f70.l206 k x0) (fun (v242 : Int) => [(1, .val sh11 (some x0)), (8, .val (.int .i64) (List.length x0.2.1 : Int)), (9, .val (.int .i64) v242)]) (fun v h => by rw [f70.l206] at h; cases h) ?_ hF (h.arrive (fz := []) (l := [1, 8, 9]) (.inr fun i h => h) (by kernel_rfl))
        intro m206 v242 a w hF h
        rw [f70.l206] at hF
        refine wp_seq ?_
        refine wp_reg_seq tok (orc := orcL []) (fz := []) (l := [1, 8, 9, 133]) (c := _) (.inr fun i h => h) h (by kernel_rfl) (AllP.nil) ?_
        intro a w h
        refine wp_if h (b := (decide ((v242 : Int) < (List.length x0.2.2 : Int)))) (by kernel_rfl) (fun hb => ?_) (fun hb => ?_)
        · replace hF := of_t hb hF
          refine wp_skip ?_
          refine wp_seq <| wp_block ?_
          obtain ⟨hc258, hF⟩ := of_if hF
          refine wp_reg_seq tok (orc := orcL []) (fz := []) (l := [1, 8, 9, 10]) (c := _) (.inr fun i h => h) h (by kernel_rfl) (AllP.cons hc258 AllP.nil) ?_
          intro a w h
          obtain ⟨hc254, hF⟩ := of_if hF
          obtain ⟨hc255, hF⟩ := of_if hF
          obtain ⟨hc256, hF⟩ := of_if hF
          obtain ⟨r251, hr257, hF⟩ := of_bind hF
          refine wp_regy_seq tok (orc := orcL [(189, [⟨.bool, r251⟩])]) (fz := []) (l := [1, 8, 9, 192]) (c := _) ([], [], [], []) 52 (.inr fun i h => h) h (by kernel_rfl) (by kernel_rfl) (AllP.cons hc254 (AllP.cons hc255 (AllP.cons hc256 (AllP.cons (fun (hg : (((bif (bif (bif (bif (decide (((List.getD x0.2.2 (Int.toNat v242) ((0 : Int), (0 : Int))).1 : Int) < (0 : Int))) then true else (decide (((List.getD x0.2.2 (Int.toNat v242) ((0 : Int), (0 : Int))).1 : Int) ≥ (List.length x0.2.1 : Int)))) then true else (decide (((List.getD x0.2.2 (Int.toNat v242) ((0 : Int), (0 : Int))).2 : Int) < (0 : Int)))) then true else (decide (((List.getD x0.2.2 (Int.toNat v242) ((0 : Int), (0 : Int))).2 : Int) ≥ (List.length x0.2.1 : Int)))) then true else (((List.getD x0.2.1 (Int.toNat (List.getD x0.2.2 (Int.toNat v242) ((0 : Int), (0 : Int))).1) ((0 : Int), ((0 : Int), ((0 : Int), ((0 : Int), ((0 : Int), (⟨#[]⟩ : ByteArray))))))).2.1 : Int) != (List.getD x0.2.1 (Int.toNat (List.getD x0.2.2 (Int.toNat v242) ((0 : Int), (0 : Int))).2) ((0 : Int), ((0 : Int), ((0 : Int), ((0 : Int), ((0 : Int), (⟨#[]⟩ : ByteArray))))))).1)) = false) ∧ ((decide ((v242 : Int) > (0 : Int))) = true))) => c160 k (List.getD x0.2.2 (Int.toNat (IntKind.i64.wrap (v242 - (1 : Int)))) ((0 : Int), (0 : Int))) (List.getD x0.2.2 (Int.toNat v242) ((0 : Int), (0 : Int))) r251 (of_g hg hr257)) AllP.nil)))) ?_
          intro a w h
          obtain ⟨v252, hv253, hF⟩ := of_bind hF
          replace h := h.cast (S' := [(1, .val sh11 (some x0)), (8, .val (.int .i64) (List.length x0.2.1 : Int)), (9, .val (.int .i64) v242), (192, .val .bool v252)]) (by cases hv253; kernel_rfl)
          refine wp_if h (b := v252) (by kernel_rfl) (fun hb => ?_) (fun hb => ?_)
          · replace hF := of_t hb hF
            refine wp_reg_seq tok (orc := orcL []) (fz := []) (l := [2]) (c := _) (.inr fun i h => h) h (by kernel_rfl) (AllP.nil) ?_
            intro a w h
            cases hF
            exact wp_ret (ret_okR tok h rfl (by kernel_rfl)).1
          · replace hF := of_f hb hF
            refine wp_skip ?_
            refine wp_reg tok (orc := orcL []) (fz := []) (l := [1, 8, 9]) (c := _) (.inr fun i h => h) h (by kernel_rfl) (AllP.nil) ?_
            intro a w h
            exact ⟨(IntKind.i64.wrap (v242 + (1 : Int))), hF, h.arrive (fz := []) (l := [1, 8, 9]) (.inr fun i h => h) (by kernel_rfl)⟩
        · replace hF := of_f hb hF
          refine wp_exit ?_
          refine wp_reg_seq tok (orc := orcL []) (fz := []) (l := [2]) (c := _) (.inr fun i h => h) h (by kernel_rfl) (AllP.nil) ?_
          intro a w h
          cases hF
          exact wp_ret (ret_okR tok h rfl (by kernel_rfl)).1

def f93 (k : Nat) (x0 : ((List (Int × (Int × Int))) × ((List (Int × (Int × (Int × (Int × (Int × ByteArray)))))) × (List (Int × Int))))) (x1 : Int) : Option Bool := some (bif (decide ((x1 : Int) ≥ (0 : Int))) then (decide ((x1 : Int) < (List.length x0.1 : Int))) else false)
set_option maxRecDepth 100000 in
/-- 'spec.l10SpotIs'. -/
theorem c93 (k : Nat) (x0 : ((List (Int × (Int × Int))) × ((List (Int × (Int × (Int × (Int × (Int × ByteArray)))))) × (List (Int × Int))))) (x1 : Int) (r : Bool) (hF : f93 k x0 x1 = some r) : PCall Try.prog 93 [⟨sh12, x0⟩, ⟨(.int .i64), x1⟩] [⟨.bool, r⟩] := by
  refine pcall_intro Try.func93 rfl rfl (Nat.le_of_ble_eq_true rfl) ?_
  intro w0 Zi a w h
  rw [f93] at hF
  refine wp_reg_seq tok (orc := orcL []) (fz := []) (l := [1, 2]) (c := _) (.inr fun i h => h) h (by kernel_rfl) (AllP.nil) ?_
  intro a w h
  refine wp_reg_seq tok (orc := orcL []) (fz := []) (l := [4]) (c := _) (.inr fun i h => h) h (by kernel_rfl) (AllP.nil) ?_
  intro a w h
  cases hF
  exact wp_ret (ret_okR tok h rfl (by kernel_rfl)).1

def f114 (k : Nat) (x0 : ((List (Int × (Int × Int))) × ((List (Int × (Int × (Int × (Int × (Int × ByteArray)))))) × (List (Int × Int))))) : Option ((List (Int × (Int × Int))) × ((List (Int × (Int × (Int × (Int × (Int × ByteArray)))))) × (List (Int × Int)))) := if ((List.length ([] : List (Int × (Int × Int))) + List.length x0.1) * 24 ≤ 140737488355328) then (if ((List.length ([] : List (Int × (Int × (Int × (Int × (Int × ByteArray)))))) + List.length x0.2.1) * 56 ≤ 140737488355328) then (if ((List.length ([] : List (Int × Int)) + List.length x0.2.2) * 16 ≤ 140737488355328) then (some ((([] : List (Int × (Int × Int))) ++ x0.1), ((([] : List (Int × (Int × (Int × (Int × (Int × ByteArray)))))) ++ x0.2.1), (([] : List (Int × Int)) ++ x0.2.2)))) else none) else none) else none
set_option maxRecDepth 100000 in
/-- 'spec.l9Copy'. -/
theorem c114 (k : Nat) (x0 : ((List (Int × (Int × Int))) × ((List (Int × (Int × (Int × (Int × (Int × ByteArray)))))) × (List (Int × Int))))) (r : ((List (Int × (Int × Int))) × ((List (Int × (Int × (Int × (Int × (Int × ByteArray)))))) × (List (Int × Int))))) (hF : f114 k x0 = some r) : PCall Try.prog 114 [⟨sh12, x0⟩] [⟨sh10, r⟩] := by
  refine pcall_intro Try.func114 rfl rfl (Nat.le_of_ble_eq_true rfl) ?_
  intro w0 Zi a w h
  rw [f114] at hF
  refine wp_reg_seq tok (orc := orcL []) (fz := []) (l := [1, 2]) (c := _) (.inr fun i h => h) h (by kernel_rfl) (AllP.nil) ?_
  intro a w h
  obtain ⟨hc1, hF⟩ := of_if hF
  obtain ⟨hc2, hF⟩ := of_if hF
  obtain ⟨hc3, hF⟩ := of_if hF
  refine wp_regy_seq tok (orc := orcL []) (fz := []) (l := [2]) (c := _) ([], [(3, [3]), (7, [7])], [], [(4, []), (5, [1]), (6, [1, 8]), (8, []), (9, [1]), (10, [1, 12])]) 11 (.inr fun i h => h) h (by kernel_rfl) (by kernel_rfl) (AllP.cons hc1 (AllP.cons hc2 (AllP.cons hc3 AllP.nil))) ?_
  intro a w h
  cases hF
  exact wp_ret (ret_okR tok h rfl (by kernel_rfl)).1

def f115 (k : Nat) (x0 : Int) (x1 : Int) : Option Int := if (((100 : Int) : Int) ≠ 0) then (if (decide (((IntKind.i64.wrap (Int.tdiv (IntKind.i64.wrap ((IntKind.i64.wrap (x0 * x1)) + (99 : Int))) (100 : Int))) : Int) < (1 : Int))) then (some (1 : Int)) else (if (decide (((IntKind.i64.wrap (Int.tdiv (IntKind.i64.wrap ((IntKind.i64.wrap (x0 * x1)) + (99 : Int))) (100 : Int))) : Int) > (1000000 : Int))) then (some (1000000 : Int)) else (some (IntKind.i64.wrap (Int.tdiv (IntKind.i64.wrap ((IntKind.i64.wrap (x0 * x1)) + (99 : Int))) (100 : Int)))))) else none
set_option maxRecDepth 100000 in
/-- 'spec.l11Slow'. -/
theorem c115 (k : Nat) (x0 : Int) (x1 : Int) (r : Int) (hF : f115 k x0 x1 = some r) : PCall Try.prog 115 [⟨(.int .i64), x0⟩, ⟨(.int .i64), x1⟩] [⟨(.int .i64), r⟩] := by
  refine pcall_intro Try.func115 rfl rfl (Nat.le_of_ble_eq_true rfl) ?_
  intro w0 Zi a w h
  rw [f115] at hF
  refine wp_reg_seq tok (orc := orcL []) (fz := []) (l := [0, 1]) (c := _) (.inr fun i h => h) h (by kernel_rfl) (AllP.nil) ?_
  intro a w h
  obtain ⟨hc1, hF⟩ := of_if hF
  refine wp_reg_seq tok (orc := orcL []) (fz := []) (l := [5]) (c := _) (.inr fun i h => h) h (by kernel_rfl) (AllP.cons hc1 AllP.nil) ?_
  intro a w h
  refine wp_seq ?_
  refine wp_reg_seq tok (orc := orcL []) (fz := []) (l := [5, 12]) (c := _) (.inr fun i h => h) h (by kernel_rfl) (AllP.nil) ?_
  intro a w h
  refine wp_if h (b := (decide (((IntKind.i64.wrap (Int.tdiv (IntKind.i64.wrap ((IntKind.i64.wrap (x0 * x1)) + (99 : Int))) (100 : Int))) : Int) < (1 : Int)))) (by kernel_rfl) (fun hb => ?_) (fun hb => ?_)
  · replace hF := of_t hb hF
    refine wp_reg_seq tok (orc := orcL []) (fz := []) (l := [4]) (c := _) (.inr fun i h => h) h (by kernel_rfl) (AllP.nil) ?_
    intro a w h
    cases hF
    exact wp_ret (ret_okR tok h rfl (by kernel_rfl)).1
  · replace hF := of_f hb hF
    refine wp_skip ?_
    refine wp_seq ?_
    refine wp_reg_seq tok (orc := orcL []) (fz := []) (l := [5, 14]) (c := _) (.inr fun i h => h) h (by kernel_rfl) (AllP.nil) ?_
    intro a w h
    refine wp_if h (b := (decide (((IntKind.i64.wrap (Int.tdiv (IntKind.i64.wrap ((IntKind.i64.wrap (x0 * x1)) + (99 : Int))) (100 : Int))) : Int) > (1000000 : Int)))) (by kernel_rfl) (fun hb => ?_) (fun hb => ?_)
    · replace hF := of_t hb hF
      refine wp_reg_seq tok (orc := orcL []) (fz := []) (l := [4]) (c := _) (.inr fun i h => h) h (by kernel_rfl) (AllP.nil) ?_
      intro a w h
      cases hF
      exact wp_ret (ret_okR tok h rfl (by kernel_rfl)).1
    · replace hF := of_f hb hF
      refine wp_skip ?_
      refine wp_reg_seq tok (orc := orcL []) (fz := []) (l := [4]) (c := _) (.inr fun i h => h) h (by kernel_rfl) (AllP.nil) ?_
      intro a w h
      cases hF
      exact wp_ret (ret_okR tok h rfl (by kernel_rfl)).1

def f73.j109 (k : Nat) (v97 : (List (List Int))) (v98 : Int) (q58 : ((List (List Int)) × Int) → Option (List (List Int))) : Int → Option (List (List Int))
  | v108 => if (0 ≤ v108 ∧ v108 < (List.length v97 : Int)) then (if ((List.length (List.getD v97 (Int.toNat v108) ([] : (List Int))) + List.length [v98]) * 8 ≤ 140737488355328) then (if (0 ≤ v108 ∧ v108 < (List.length v97 : Int)) then (q58 ((List.set v97 (Int.toNat v108) (List.append (List.getD v97 (Int.toNat v108) ([] : (List Int))) [v98])), (IntKind.i64.wrap (v98 + (1 : Int))))) else none) else none) else none
def f73.l58 (k : Nat) (x0 : ((List (Int × (Int × Int))) × ((List (Int × (Int × (Int × (Int × (Int × ByteArray)))))) × (List (Int × Int))))) (x1 : Bool) : Nat → ((List (List Int)) × Int) → Option (List (List Int))
  | 0, _ => none
  | m58 + 1, (v97, v98) => if (decide ((v98 : Int) < (List.length x0.2.1 : Int))) then (if (0 ≤ v98 ∧ v98 < (List.length x0.2.1 : Int)) then (if x1 then (if (0 ≤ v98 ∧ v98 < (List.length x0.2.1 : Int)) then (f73.j109 k v97 v98 ((f73.l58 k x0 x1) m58) (List.getD x0.2.1 (Int.toNat v98) ((0 : Int), ((0 : Int), ((0 : Int), ((0 : Int), ((0 : Int), (⟨#[]⟩ : ByteArray))))))).2.1) else none) else (f73.j109 k v97 v98 ((f73.l58 k x0 x1) m58) (List.getD x0.2.1 (Int.toNat v98) ((0 : Int), ((0 : Int), ((0 : Int), ((0 : Int), ((0 : Int), (⟨#[]⟩ : ByteArray))))))).1)) else none) else (some v97)
def f73 (k : Nat) (x0 : ((List (Int × (Int × Int))) × ((List (Int × (Int × (Int × (Int × (Int × ByteArray)))))) × (List (Int × Int))))) (x1 : Bool) : Option (List (List Int)) := if (0 ≤ (List.length x0.1 : Int) ∧ Int.toNat (List.length x0.1 : Int) * 24 ≤ 140737488355328) then (f73.l58 k x0 x1 k ((List.replicate (Int.toNat (List.length x0.1 : Int)) ([] : (List Int))), (0 : Int))) else none
set_option maxRecDepth 100000 in
/-- 'spec.l10At'. -/
theorem c73 (k : Nat) (x0 : ((List (Int × (Int × Int))) × ((List (Int × (Int × (Int × (Int × (Int × ByteArray)))))) × (List (Int × Int))))) (x1 : Bool) (r : (List (List Int))) (hF : f73 k x0 x1 = some r) : PCall Try.prog 73 [⟨sh12, x0⟩, ⟨.bool, x1⟩] [⟨sh16, r⟩] := by
  refine pcall_intro Try.func73 rfl rfl (Nat.le_of_ble_eq_true rfl) ?_
  intro w0 Zi a w h
  rw [f73] at hF
  refine wp_reg_seq tok (orc := orcL []) (fz := []) (l := [1, 2]) (c := _) (.inr fun i h => h) h (by kernel_rfl) (AllP.nil) ?_
  intro a w h
  obtain ⟨hc115, hF⟩ := of_if hF
  refine wp_reg_seq tok (orc := orcL []) (fz := []) (l := [1, 2, 5]) (c := _) (.inr fun i h => h) h (by kernel_rfl) (AllP.cons hc115 AllP.nil) ?_
  intro a w h
  refine wp_seq ?_
  refine wp_reg_seq tok (orc := orcL []) (fz := []) (l := [1, 2, 5, 6]) (c := _) (.inr fun i h => h) h (by kernel_rfl) (AllP.nil) ?_
  intro a w h
  refine wp_block ?_
  refine wp_loop_fuel (f73.l58 k x0 x1) (fun ((v97, v98) : ((List (List Int)) × Int)) => [(1, .val .bool x1), (2, .val sh11 (some x0)), (5, .val sh16 v97), (6, .val (.int .i64) v98)]) (fun v h => by obtain ⟨v97, v98⟩ := v; rw [f73.l58] at h; cases h) ?_ hF (h.arrive (fz := []) (l := [1, 2, 5, 6]) (.inr fun i h => h) (by kernel_rfl))
  intro m58 v a w hF h
  obtain ⟨v97, v98⟩ := v
  rw [f73.l58] at hF
  refine wp_seq ?_
  refine wp_reg_seq tok (orc := orcL []) (fz := []) (l := [1, 2, 5, 6, 16]) (c := _) (.inr fun i h => h) h (by kernel_rfl) (AllP.nil) ?_
  intro a w h
  refine wp_if h (b := (decide ((v98 : Int) < (List.length x0.2.1 : Int)))) (by kernel_rfl) (fun hb => ?_) (fun hb => ?_)
  · replace hF := of_t hb hF
    refine wp_skip ?_
    refine wp_seq <| wp_block ?_
    obtain ⟨hc114, hF⟩ := of_if hF
    refine wp_reg_seq tok (orc := orcL []) (fz := []) (l := [1, 2, 5, 6, 7]) (c := _) (.inr fun i h => h) h (by kernel_rfl) (AllP.cons hc114 AllP.nil) ?_
    intro a w h
    refine wp_seq ?_
    refine wp_reg_seq tok (orc := orcL []) (fz := []) (l := [1, 2, 5, 6, 7, 25]) (c := _) (.inr fun i h => h) h (by kernel_rfl) (AllP.nil) ?_
    intro a w h
    refine wp_midT (fun a w => ∃ v : Int, f73.j109 k v97 v98 ((f73.l58 k x0 x1) m58) v = some r ∧ Rel w0 (fun _ => False) Zi Try.f73.ntmps ((fun (v108 : Int) => ([(1, .val .bool x1), (2, .val sh11 (some x0)), (5, .val sh16 v97), (6, .val (.int .i64) v98), (7, .val (.int .i64) v108)] : SS)) v) a w) ?_ ?_
    ·
      refine wp_if h (b := x1) (by kernel_rfl) (fun hb => ?_) (fun hb => ?_)
      · replace hF := of_t hb hF
        obtain ⟨hc113, hF⟩ := of_if hF
        refine wp_reg tok (orc := orcL []) (fz := []) (l := [1, 2, 5, 6, 7]) (c := _) (.inr fun i h => h) h (by kernel_rfl) (AllP.cons hc113 AllP.nil) ?_
        intro a w h
        exact ⟨(List.getD x0.2.1 (Int.toNat v98) ((0 : Int), ((0 : Int), ((0 : Int), ((0 : Int), ((0 : Int), (⟨#[]⟩ : ByteArray))))))).2.1, hF, h.arrive (fz := []) (l := [1, 2, 5, 6, 7]) (.inr fun i h => h) (by kernel_rfl)⟩
      · replace hF := of_f hb hF
        refine wp_skip ?_
        exact ⟨(List.getD x0.2.1 (Int.toNat v98) ((0 : Int), ((0 : Int), ((0 : Int), ((0 : Int), ((0 : Int), (⟨#[]⟩ : ByteArray))))))).1, hF, h.arrive (fz := []) (l := [1, 2, 5, 6, 7]) (.inr fun i h => h) (by kernel_rfl)⟩
    · rintro a w ⟨v108, hF, h⟩
      rw [f73.j109] at hF
      obtain ⟨hc110, hF⟩ := of_if hF
      obtain ⟨hc111, hF⟩ := of_if hF
      obtain ⟨hc112, hF⟩ := of_if hF
      refine wp_reg tok (orc := orcL [(40, [⟨.pt false 4294967293 .unit, some ()⟩])]) (fz := []) (l := [1, 2, 5, 6]) (c := _) (.inr fun i h => h) h (by kernel_rfl) (AllP.cons hc110 (AllP.cons (PrefL.mk (l := [[], [], [.idx (Int.toNat v108)], [.idx (Int.toNat v108)]]) (p := [.idx (Int.toNat v108)]) rfl) (AllP.cons hc111 (AllP.cons hc112 (AllP.cons (show ([.idx (Int.toNat v108)] : Path) = [.idx (Int.toNat v108)] from rfl) AllP.nil))))) ?_
      intro a w h
      refine wp_reg tok (orc := orcL []) (fz := []) (l := [1, 2, 5, 6]) (c := _) (.inr fun i h => h) h (by kernel_rfl) (AllP.nil) ?_
      intro a w h
      exact ⟨((List.set v97 (Int.toNat v108) (List.append (List.getD v97 (Int.toNat v108) ([] : (List Int))) [v98])), (IntKind.i64.wrap (v98 + (1 : Int)))), hF, h.arrive (fz := []) (l := [1, 2, 5, 6]) (.inr fun i h => h) (by kernel_rfl)⟩
  · replace hF := of_f hb hF
    refine wp_exit ?_
    refine wp_reg_seq tok (orc := orcL []) (fz := []) (l := [4, 5]) (c := _) (.inr fun i h => h) h (by kernel_rfl) (AllP.nil) ?_
    intro a w h
    cases hF
    exact wp_ret (ret_okR tok h rfl (by kernel_rfl)).1

def f218.l22 (k : Nat) (x0 : ((List (Int × (Int × Int))) × ((List (Int × (Int × (Int × (Int × (Int × ByteArray)))))) × (List (Int × Int))))) (x1 : Int) (x2 : Int) : Nat → (Int × Int) → Option Bool
  | 0, _ => none
  | m22 + 1, (v37, v38) => if (decide ((v37 : Int) < v38)) then (if (((2 : Int) : Int) ≠ 0) then (if (0 ≤ (IntKind.i64.wrap (Int.tdiv (IntKind.i64.wrap (v37 + v38)) (2 : Int))) ∧ (IntKind.i64.wrap (Int.tdiv (IntKind.i64.wrap (v37 + v38)) (2 : Int))) < (List.length x0.2.2 : Int)) then ((f160 k (List.getD x0.2.2 (Int.toNat (IntKind.i64.wrap (Int.tdiv (IntKind.i64.wrap (v37 + v38)) (2 : Int)))) ((0 : Int), (0 : Int))) (x1, x2)).bind fun r39 => (if r39 then ((f218.l22 k x0 x1 x2) m22 ((IntKind.i64.wrap ((IntKind.i64.wrap (Int.tdiv (IntKind.i64.wrap (v37 + v38)) (2 : Int))) + (1 : Int))), v38)) else ((f218.l22 k x0 x1 x2) m22 (v37, (IntKind.i64.wrap (Int.tdiv (IntKind.i64.wrap (v37 + v38)) (2 : Int))))))) else none) else none) else (if (((decide ((v37 : Int) < (List.length x0.2.2 : Int))) = true) → (0 ≤ v37 ∧ v37 < (List.length x0.2.2 : Int))) then (some (bif (decide ((v37 : Int) < (List.length x0.2.2 : Int))) then (Sh.beq sh5 (List.getD x0.2.2 (Int.toNat v37) ((0 : Int), (0 : Int))) (x1, x2)) else false)) else none)
def f218 (k : Nat) (x0 : ((List (Int × (Int × Int))) × ((List (Int × (Int × (Int × (Int × (Int × ByteArray)))))) × (List (Int × Int))))) (x1 : Int) (x2 : Int) : Option Bool := f218.l22 k x0 x1 x2 k ((0 : Int), (List.length x0.2.2 : Int))
set_option maxRecDepth 100000 in
/-- 'spec.l9Banned'. -/
theorem c218 (k : Nat) (x0 : ((List (Int × (Int × Int))) × ((List (Int × (Int × (Int × (Int × (Int × ByteArray)))))) × (List (Int × Int))))) (x1 : Int) (x2 : Int) (r : Bool) (hF : f218 k x0 x1 x2 = some r) : PCall Try.prog 218 [⟨sh12, x0⟩, ⟨(.int .i64), x1⟩, ⟨(.int .i64), x2⟩] [⟨.bool, r⟩] := by
  refine pcall_intro Try.func218 rfl rfl (Nat.le_of_ble_eq_true rfl) ?_
  intro w0 Zi a w h
  rw [f218] at hF
  refine wp_reg_seq tok (orc := orcL []) (fz := []) (l := [1, 2, 3]) (c := _) (.inr fun i h => h) h (by kernel_rfl) (AllP.nil) ?_
  intro a w h
  refine wp_reg_seq tok (orc := orcL []) (fz := []) (l := [3, 7]) (c := _) (.inr fun i h => h) h (by kernel_rfl) (AllP.nil) ?_
  intro a w h
  refine wp_reg_seq tok (orc := orcL []) (fz := []) (l := [3, 7, 8]) (c := _) (.inr fun i h => h) h (by kernel_rfl) (AllP.nil) ?_
  intro a w h
  refine wp_reg_seq tok (orc := orcL []) (fz := []) (l := [3, 7, 8, 9]) (c := _) (.inr fun i h => h) h (by kernel_rfl) (AllP.nil) ?_
  intro a w h
  refine wp_seq <| wp_block ?_
  refine wp_loop_fuel (f218.l22 k x0 x1 x2) (fun ((v37, v38) : (Int × Int)) => [(3, .val sh11 (some x0)), (7, .val sh17 (some (x1, x2))), (8, .val (.int .i64) v37), (9, .val (.int .i64) v38)]) (fun v h => by obtain ⟨v37, v38⟩ := v; rw [f218.l22] at h; cases h) ?_ hF (h.arrive (fz := []) (l := [3, 7, 8, 9]) (.inr fun i h => h) (by kernel_rfl))
  intro m22 v a w hF h
  obtain ⟨v37, v38⟩ := v
  rw [f218.l22] at hF
  refine wp_seq ?_
  refine wp_reg_seq tok (orc := orcL []) (fz := []) (l := [3, 7, 8, 9, 19]) (c := _) (.inr fun i h => h) h (by kernel_rfl) (AllP.nil) ?_
  intro a w h
  refine wp_if h (b := (decide ((v37 : Int) < v38))) (by kernel_rfl) (fun hb => ?_) (fun hb => ?_)
  · replace hF := of_t hb hF
    refine wp_skip ?_
    refine wp_block ?_
    obtain ⟨hc42, hF⟩ := of_if hF
    refine wp_reg_seq tok (orc := orcL []) (fz := []) (l := [3, 7, 8, 9, 10]) (c := _) (.inr fun i h => h) h (by kernel_rfl) (AllP.cons hc42 AllP.nil) ?_
    intro a w h
    obtain ⟨hc40, hF⟩ := of_if hF
    obtain ⟨r39, hr41, hF⟩ := of_bind hF
    refine wp_regy_seq tok (orc := orcL [(30, [⟨.bool, r39⟩])]) (fz := []) (l := [3, 7, 8, 9, 10, 30]) (c := _) ([], [], [], []) 7 (.inr fun i h => h) h (by kernel_rfl) (by kernel_rfl) (AllP.cons hc40 (AllP.cons (c160 k (List.getD x0.2.2 (Int.toNat (IntKind.i64.wrap (Int.tdiv (IntKind.i64.wrap (v37 + v38)) (2 : Int)))) ((0 : Int), (0 : Int))) (x1, x2) r39 hr41) AllP.nil)) ?_
    intro a w h
    refine wp_if h (b := r39) (by kernel_rfl) (fun hb => ?_) (fun hb => ?_)
    · replace hF := of_t hb hF
      refine wp_reg tok (orc := orcL []) (fz := []) (l := [3, 7, 8, 9]) (c := _) (.inr fun i h => h) h (by kernel_rfl) (AllP.nil) ?_
      intro a w h
      exact ⟨((IntKind.i64.wrap ((IntKind.i64.wrap (Int.tdiv (IntKind.i64.wrap (v37 + v38)) (2 : Int))) + (1 : Int))), v38), hF, h.arrive (fz := []) (l := [3, 7, 8, 9]) (.inr fun i h => h) (by kernel_rfl)⟩
    · replace hF := of_f hb hF
      refine wp_reg tok (orc := orcL []) (fz := []) (l := [3, 7, 8, 9]) (c := _) (.inr fun i h => h) h (by kernel_rfl) (AllP.nil) ?_
      intro a w h
      exact ⟨(v37, (IntKind.i64.wrap (Int.tdiv (IntKind.i64.wrap (v37 + v38)) (2 : Int)))), hF, h.arrive (fz := []) (l := [3, 7, 8, 9]) (.inr fun i h => h) (by kernel_rfl)⟩
  · replace hF := of_f hb hF
    refine wp_exit ?_
    obtain ⟨hc43, hF⟩ := of_if hF
    refine wp_regy_seq tok (orc := orcL []) (fz := []) (l := [6]) (c := _) ([], [], [], []) 15 (.inr fun i h => h) h (by kernel_rfl) (by kernel_rfl) (AllP.cons hc43 (AllP.cons (fun (_ : ((decide ((v37 : Int) < (List.length x0.2.2 : Int))) = true)) => (And.intro (show eqTy Try.prog 9 167 (.st (.pair (.int .i64) (.int .i64))) = true from by kernel_rfl) (show Try.prog.eqGuardType Try.prog.depth 167 = false from by kernel_rfl))) AllP.nil)) ?_
    intro a w h
    cases hF
    exact wp_ret (ret_okR tok h rfl (by kernel_rfl)).1

def f250 (k : Nat) (x0 : Int) : Option Int := if (decide ((x0 : Int) < (0 : Int))) then (some (IntKind.i64.wrap (0 - x0))) else (some x0)
set_option maxRecDepth 100000 in
/-- 'spec.l1Abs'. -/
theorem c250 (k : Nat) (x0 : Int) (r : Int) (hF : f250 k x0 = some r) : PCall Try.prog 250 [⟨(.int .i64), x0⟩] [⟨(.int .i64), r⟩] := by
  refine pcall_intro Try.func250 rfl rfl (Nat.le_of_ble_eq_true rfl) ?_
  intro w0 Zi a w h
  rw [f250] at hF
  refine wp_reg_seq tok (orc := orcL []) (fz := []) (l := [0]) (c := _) (.inr fun i h => h) h (by kernel_rfl) (AllP.nil) ?_
  intro a w h
  refine wp_seq ?_
  refine wp_reg_seq tok (orc := orcL []) (fz := []) (l := [0, 4]) (c := _) (.inr fun i h => h) h (by kernel_rfl) (AllP.nil) ?_
  intro a w h
  refine wp_if h (b := (decide ((x0 : Int) < (0 : Int)))) (by kernel_rfl) (fun hb => ?_) (fun hb => ?_)
  · replace hF := of_t hb hF
    refine wp_reg_seq tok (orc := orcL []) (fz := []) (l := [2]) (c := _) (.inr fun i h => h) h (by kernel_rfl) (AllP.nil) ?_
    intro a w h
    cases hF
    exact wp_ret (ret_okR tok h rfl (by kernel_rfl)).1
  · replace hF := of_f hb hF
    refine wp_skip ?_
    refine wp_reg_seq tok (orc := orcL []) (fz := []) (l := [2]) (c := _) (.inr fun i h => h) h (by kernel_rfl) (AllP.nil) ?_
    intro a w h
    cases hF
    exact wp_ret (ret_okR tok h rfl (by kernel_rfl)).1

def f219 (k : Nat) (x0 : (Int × Int)) (x1 : (Int × Int)) : Option Int := (f159 k x0).bind fun r1 => ((if ((!r1) = false) then f159 k x1 else some default).bind fun r2 => (if (bif (bif (!r1) then true else (!r2)) then true else (Sh.beq sh5 x0 x1)) then (some (-1 : Int)) else ((f250 k (IntKind.i64.wrap (x1.1 - x0.1))).bind fun r3 => ((f250 k (IntKind.i64.wrap (x1.2 - x0.2))).bind fun r4 => (if (bif (decide (((IntKind.i64.wrap ((5 : Int) * r4)) : Int) < (IntKind.i64.wrap ((2 : Int) * r3)))) then (decide (((IntKind.i64.wrap (x1.1 - x0.1)) : Int) > (0 : Int))) else false) then (some (0 : Int)) else (if (decide (((IntKind.i64.wrap ((5 : Int) * r4)) : Int) < (IntKind.i64.wrap ((2 : Int) * r3)))) then (some (4 : Int)) else (if (bif (decide (((IntKind.i64.wrap ((5 : Int) * r3)) : Int) < (IntKind.i64.wrap ((2 : Int) * r4)))) then (decide (((IntKind.i64.wrap (x1.2 - x0.2)) : Int) > (0 : Int))) else false) then (some (2 : Int)) else (if (decide (((IntKind.i64.wrap ((5 : Int) * r3)) : Int) < (IntKind.i64.wrap ((2 : Int) * r4)))) then (some (6 : Int)) else (if (bif (decide (((IntKind.i64.wrap (x1.1 - x0.1)) : Int) > (0 : Int))) then (decide (((IntKind.i64.wrap (x1.2 - x0.2)) : Int) > (0 : Int))) else false) then (some (1 : Int)) else (if (bif (decide (((IntKind.i64.wrap (x1.1 - x0.1)) : Int) < (0 : Int))) then (decide (((IntKind.i64.wrap (x1.2 - x0.2)) : Int) > (0 : Int))) else false) then (some (3 : Int)) else (if (decide (((IntKind.i64.wrap (x1.1 - x0.1)) : Int) < (0 : Int))) then (some (5 : Int)) else (some (7 : Int)))))))))))))
set_option maxRecDepth 100000 in
/-- 'spec.Heading'. -/
theorem c219 (k : Nat) (x0 : (Int × Int)) (x1 : (Int × Int)) (r : Int) (hF : f219 k x0 x1 = some r) : PCall Try.prog 219 [⟨sh5, x0⟩, ⟨sh5, x1⟩] [⟨(.int .i64), r⟩] := by
  refine pcall_intro Try.func219 rfl rfl (Nat.le_of_ble_eq_true rfl) ?_
  intro w0 Zi a w h
  rw [f219] at hF
  refine wp_reg_seq tok (orc := orcL []) (fz := []) (l := [2, 3]) (c := _) (.inr fun i h => h) h (by kernel_rfl) (AllP.nil) ?_
  intro a w h
  refine wp_seq ?_
  obtain ⟨r1, hr7, hF⟩ := of_bind hF
  obtain ⟨r2, hr8, hF⟩ := of_bind hF
  refine wp_reg_seq tok (orc := orcL [(10, [⟨.bool, r1⟩]), (14, [⟨.bool, r2⟩])]) (fz := []) (l := [2, 3, 21]) (c := _) (.inr fun i h => h) h (by kernel_rfl) (AllP.cons (c159 k x0 r1 hr7) (AllP.cons (fun (hg : ((!r1) = false)) => c159 k x1 r2 (of_g hg hr8)) (AllP.cons (fun (_ : ((bif (!r1) then true else (!r2)) = false)) => (And.intro (show eqTy Try.prog 9 174 (.st (.pair (.int .i64) (.int .i64))) = true from by kernel_rfl) (show Try.prog.eqGuardType Try.prog.depth 174 = false from by kernel_rfl))) AllP.nil))) ?_
  intro a w h
  refine wp_if h (b := (bif (bif (!r1) then true else (!r2)) then true else (Sh.beq sh5 x0 x1))) (by kernel_rfl) (fun hb => ?_) (fun hb => ?_)
  · replace hF := of_t hb hF
    refine wp_reg_seq tok (orc := orcL []) (fz := []) (l := [4]) (c := _) (.inr fun i h => h) h (by kernel_rfl) (AllP.nil) ?_
    intro a w h
    cases hF
    exact wp_ret (ret_okR tok h rfl (by kernel_rfl)).1
  · replace hF := of_f hb hF
    refine wp_skip ?_
    refine wp_reg_seq tok (orc := orcL []) (fz := []) (l := [2, 3, 5]) (c := _) (.inr fun i h => h) h (by kernel_rfl) (AllP.nil) ?_
    intro a w h
    refine wp_reg_seq tok (orc := orcL []) (fz := []) (l := [5, 6]) (c := _) (.inr fun i h => h) h (by kernel_rfl) (AllP.nil) ?_
    intro a w h
    obtain ⟨r3, hr6, hF⟩ := of_bind hF
    refine wp_reg_seq tok (orc := orcL [(33, [⟨(.int .i64), r3⟩])]) (fz := []) (l := [5, 6, 7]) (c := _) (.inr fun i h => h) h (by kernel_rfl) (AllP.cons (c250 k (IntKind.i64.wrap (x1.1 - x0.1)) r3 hr6) AllP.nil) ?_
    intro a w h
    obtain ⟨r4, hr5, hF⟩ := of_bind hF
    refine wp_reg_seq tok (orc := orcL [(35, [⟨(.int .i64), r4⟩])]) (fz := []) (l := [5, 6, 7, 8]) (c := _) (.inr fun i h => h) h (by kernel_rfl) (AllP.cons (c250 k (IntKind.i64.wrap (x1.2 - x0.2)) r4 hr5) AllP.nil) ?_
    intro a w h
    refine wp_seq <| wp_block ?_
    refine wp_reg_seq tok (orc := orcL []) (fz := []) (l := [5, 6, 7, 8, 36]) (c := _) (.inr fun i h => h) h (by kernel_rfl) (AllP.nil) ?_
    intro a w h
    refine wp_if h (b := (bif (decide (((IntKind.i64.wrap ((5 : Int) * r4)) : Int) < (IntKind.i64.wrap ((2 : Int) * r3)))) then (decide (((IntKind.i64.wrap (x1.1 - x0.1)) : Int) > (0 : Int))) else false)) (by kernel_rfl) (fun hb => ?_) (fun hb => ?_)
    · replace hF := of_t hb hF
      refine wp_reg_seq tok (orc := orcL []) (fz := []) (l := [4]) (c := _) (.inr fun i h => h) h (by kernel_rfl) (AllP.nil) ?_
      intro a w h
      cases hF
      exact wp_ret (ret_okR tok h rfl (by kernel_rfl)).1
    · replace hF := of_f hb hF
      refine wp_reg_seq tok (orc := orcL []) (fz := []) (l := [5, 6, 7, 8, 46]) (c := _) (.inr fun i h => h) h (by kernel_rfl) (AllP.nil) ?_
      intro a w h
      refine wp_if h (b := (decide (((IntKind.i64.wrap ((5 : Int) * r4)) : Int) < (IntKind.i64.wrap ((2 : Int) * r3))))) (by kernel_rfl) (fun hb => ?_) (fun hb => ?_)
      · replace hF := of_t hb hF
        refine wp_reg_seq tok (orc := orcL []) (fz := []) (l := [4]) (c := _) (.inr fun i h => h) h (by kernel_rfl) (AllP.nil) ?_
        intro a w h
        cases hF
        exact wp_ret (ret_okR tok h rfl (by kernel_rfl)).1
      · replace hF := of_f hb hF
        refine wp_reg_seq tok (orc := orcL []) (fz := []) (l := [5, 6, 7, 8, 52]) (c := _) (.inr fun i h => h) h (by kernel_rfl) (AllP.nil) ?_
        intro a w h
        refine wp_if h (b := (bif (decide (((IntKind.i64.wrap ((5 : Int) * r3)) : Int) < (IntKind.i64.wrap ((2 : Int) * r4)))) then (decide (((IntKind.i64.wrap (x1.2 - x0.2)) : Int) > (0 : Int))) else false)) (by kernel_rfl) (fun hb => ?_) (fun hb => ?_)
        · replace hF := of_t hb hF
          refine wp_reg_seq tok (orc := orcL []) (fz := []) (l := [4]) (c := _) (.inr fun i h => h) h (by kernel_rfl) (AllP.nil) ?_
          intro a w h
          cases hF
          exact wp_ret (ret_okR tok h rfl (by kernel_rfl)).1
        · replace hF := of_f hb hF
          refine wp_reg_seq tok (orc := orcL []) (fz := []) (l := [5, 6, 62]) (c := _) (.inr fun i h => h) h (by kernel_rfl) (AllP.nil) ?_
          intro a w h
          refine wp_if h (b := (decide (((IntKind.i64.wrap ((5 : Int) * r3)) : Int) < (IntKind.i64.wrap ((2 : Int) * r4))))) (by kernel_rfl) (fun hb => ?_) (fun hb => ?_)
          · replace hF := of_t hb hF
            refine wp_reg_seq tok (orc := orcL []) (fz := []) (l := [4]) (c := _) (.inr fun i h => h) h (by kernel_rfl) (AllP.nil) ?_
            intro a w h
            cases hF
            exact wp_ret (ret_okR tok h rfl (by kernel_rfl)).1
          · replace hF := of_f hb hF
            refine wp_reg_seq tok (orc := orcL []) (fz := []) (l := [5, 6, 68]) (c := _) (.inr fun i h => h) h (by kernel_rfl) (AllP.nil) ?_
            intro a w h
            refine wp_if h (b := (bif (decide (((IntKind.i64.wrap (x1.1 - x0.1)) : Int) > (0 : Int))) then (decide (((IntKind.i64.wrap (x1.2 - x0.2)) : Int) > (0 : Int))) else false)) (by kernel_rfl) (fun hb => ?_) (fun hb => ?_)
            · replace hF := of_t hb hF
              refine wp_reg_seq tok (orc := orcL []) (fz := []) (l := [4]) (c := _) (.inr fun i h => h) h (by kernel_rfl) (AllP.nil) ?_
              intro a w h
              cases hF
              exact wp_ret (ret_okR tok h rfl (by kernel_rfl)).1
            · replace hF := of_f hb hF
              refine wp_reg_seq tok (orc := orcL []) (fz := []) (l := [5, 75]) (c := _) (.inr fun i h => h) h (by kernel_rfl) (AllP.nil) ?_
              intro a w h
              refine wp_if h (b := (bif (decide (((IntKind.i64.wrap (x1.1 - x0.1)) : Int) < (0 : Int))) then (decide (((IntKind.i64.wrap (x1.2 - x0.2)) : Int) > (0 : Int))) else false)) (by kernel_rfl) (fun hb => ?_) (fun hb => ?_)
              · replace hF := of_t hb hF
                refine wp_reg_seq tok (orc := orcL []) (fz := []) (l := [4]) (c := _) (.inr fun i h => h) h (by kernel_rfl) (AllP.nil) ?_
                intro a w h
                cases hF
                exact wp_ret (ret_okR tok h rfl (by kernel_rfl)).1
              · replace hF := of_f hb hF
                refine wp_reg_seq tok (orc := orcL []) (fz := []) (l := [82]) (c := _) (.inr fun i h => h) h (by kernel_rfl) (AllP.nil) ?_
                intro a w h
                refine wp_if h (b := (decide (((IntKind.i64.wrap (x1.1 - x0.1)) : Int) < (0 : Int)))) (by kernel_rfl) (fun hb => ?_) (fun hb => ?_)
                · replace hF := of_t hb hF
                  refine wp_reg_seq tok (orc := orcL []) (fz := []) (l := [4]) (c := _) (.inr fun i h => h) h (by kernel_rfl) (AllP.nil) ?_
                  intro a w h
                  cases hF
                  exact wp_ret (ret_okR tok h rfl (by kernel_rfl)).1
                · replace hF := of_f hb hF
                  refine wp_skip ?_
                  refine wp_reg_seq tok (orc := orcL []) (fz := []) (l := [4]) (c := _) (.inr fun i h => h) h (by kernel_rfl) (AllP.nil) ?_
                  intro a w h
                  cases hF
                  exact wp_ret (ret_okR tok h rfl (by kernel_rfl)).1

def f162.j11 (k : Nat) : Bool → Option Int
  | v10 => if v10 then (some (3 : Int)) else (some (0 : Int))
def f162.j9 (k : Nat) (r3 : Int) (r2 : Int) : Bool → Option Int
  | v8 => if v8 then (some (5 : Int)) else (if (((Int.tmod (IntKind.i64.wrap ((IntKind.i64.wrap (r3 - r2)) + (8 : Int))) (8 : Int)) : Int) == (5 : Int)) then (f162.j11 k (((Int.tmod (IntKind.i64.wrap ((IntKind.i64.wrap (r3 - r2)) + (8 : Int))) (8 : Int)) : Int) == (5 : Int))) else (f162.j11 k (((Int.tmod (IntKind.i64.wrap ((IntKind.i64.wrap (r3 - r2)) + (8 : Int))) (8 : Int)) : Int) == (6 : Int))))
def f162 (k : Nat) (x0 : ((List (Int × (Int × Int))) × ((List (Int × (Int × (Int × (Int × (Int × ByteArray)))))) × (List (Int × Int))))) (x1 : Int) (x2 : Int) : Option Int := (f218 k x0 x1 x2).bind fun r1 => (if r1 then (some (-1 : Int)) else (if (0 ≤ x1 ∧ x1 < (List.length x0.2.1 : Int)) then (if (0 ≤ x2 ∧ x2 < (List.length x0.2.1 : Int)) then (if (((List.getD x0.2.1 (Int.toNat x2) ((0 : Int), ((0 : Int), ((0 : Int), ((0 : Int), ((0 : Int), (⟨#[]⟩ : ByteArray))))))).2.1 : Int) == (List.getD x0.2.1 (Int.toNat x1) ((0 : Int), ((0 : Int), ((0 : Int), ((0 : Int), ((0 : Int), (⟨#[]⟩ : ByteArray))))))).1) then (some (20 : Int)) else (if (0 ≤ (List.getD x0.2.1 (Int.toNat x1) ((0 : Int), ((0 : Int), ((0 : Int), ((0 : Int), ((0 : Int), (⟨#[]⟩ : ByteArray))))))).1 ∧ (List.getD x0.2.1 (Int.toNat x1) ((0 : Int), ((0 : Int), ((0 : Int), ((0 : Int), ((0 : Int), (⟨#[]⟩ : ByteArray))))))).1 < (List.length x0.1 : Int)) then (if (0 ≤ (List.getD x0.2.1 (Int.toNat x1) ((0 : Int), ((0 : Int), ((0 : Int), ((0 : Int), ((0 : Int), (⟨#[]⟩ : ByteArray))))))).2.1 ∧ (List.getD x0.2.1 (Int.toNat x1) ((0 : Int), ((0 : Int), ((0 : Int), ((0 : Int), ((0 : Int), (⟨#[]⟩ : ByteArray))))))).2.1 < (List.length x0.1 : Int)) then ((f219 k (List.getD x0.1 (Int.toNat (List.getD x0.2.1 (Int.toNat x1) ((0 : Int), ((0 : Int), ((0 : Int), ((0 : Int), ((0 : Int), (⟨#[]⟩ : ByteArray))))))).1) ((0 : Int), ((0 : Int), (0 : Int)))).2 (List.getD x0.1 (Int.toNat (List.getD x0.2.1 (Int.toNat x1) ((0 : Int), ((0 : Int), ((0 : Int), ((0 : Int), ((0 : Int), (⟨#[]⟩ : ByteArray))))))).2.1) ((0 : Int), ((0 : Int), (0 : Int)))).2).bind fun r2 => (if (0 ≤ (List.getD x0.2.1 (Int.toNat x2) ((0 : Int), ((0 : Int), ((0 : Int), ((0 : Int), ((0 : Int), (⟨#[]⟩ : ByteArray))))))).1 ∧ (List.getD x0.2.1 (Int.toNat x2) ((0 : Int), ((0 : Int), ((0 : Int), ((0 : Int), ((0 : Int), (⟨#[]⟩ : ByteArray))))))).1 < (List.length x0.1 : Int)) then (if (0 ≤ (List.getD x0.2.1 (Int.toNat x2) ((0 : Int), ((0 : Int), ((0 : Int), ((0 : Int), ((0 : Int), (⟨#[]⟩ : ByteArray))))))).2.1 ∧ (List.getD x0.2.1 (Int.toNat x2) ((0 : Int), ((0 : Int), ((0 : Int), ((0 : Int), ((0 : Int), (⟨#[]⟩ : ByteArray))))))).2.1 < (List.length x0.1 : Int)) then ((f219 k (List.getD x0.1 (Int.toNat (List.getD x0.2.1 (Int.toNat x2) ((0 : Int), ((0 : Int), ((0 : Int), ((0 : Int), ((0 : Int), (⟨#[]⟩ : ByteArray))))))).1) ((0 : Int), ((0 : Int), (0 : Int)))).2 (List.getD x0.1 (Int.toNat (List.getD x0.2.1 (Int.toNat x2) ((0 : Int), ((0 : Int), ((0 : Int), ((0 : Int), ((0 : Int), (⟨#[]⟩ : ByteArray))))))).2.1) ((0 : Int), ((0 : Int), (0 : Int)))).2).bind fun r3 => (if (bif (decide ((r2 : Int) < (0 : Int))) then true else (decide ((r3 : Int) < (0 : Int)))) then (some (0 : Int)) else (if (((8 : Int) : Int) ≠ 0) then (if (((Int.tmod (IntKind.i64.wrap ((IntKind.i64.wrap (r3 - r2)) + (8 : Int))) (8 : Int)) : Int) == (2 : Int)) then (f162.j9 k r3 r2 (((Int.tmod (IntKind.i64.wrap ((IntKind.i64.wrap (r3 - r2)) + (8 : Int))) (8 : Int)) : Int) == (2 : Int))) else (if (((Int.tmod (IntKind.i64.wrap ((IntKind.i64.wrap (r3 - r2)) + (8 : Int))) (8 : Int)) : Int) == (3 : Int)) then (f162.j9 k r3 r2 (((Int.tmod (IntKind.i64.wrap ((IntKind.i64.wrap (r3 - r2)) + (8 : Int))) (8 : Int)) : Int) == (3 : Int))) else (f162.j9 k r3 r2 (((Int.tmod (IntKind.i64.wrap ((IntKind.i64.wrap (r3 - r2)) + (8 : Int))) (8 : Int)) : Int) == (4 : Int))))) else none))) else none) else none)) else none) else none)) else none) else none))
set_option maxRecDepth 100000 in
/-- 'spec.l10Turn'. -/
theorem c162 (k : Nat) (x0 : ((List (Int × (Int × Int))) × ((List (Int × (Int × (Int × (Int × (Int × ByteArray)))))) × (List (Int × Int))))) (x1 : Int) (x2 : Int) (r : Int) (hF : f162 k x0 x1 x2 = some r) : PCall Try.prog 162 [⟨sh12, x0⟩, ⟨(.int .i64), x1⟩, ⟨(.int .i64), x2⟩] [⟨(.int .i64), r⟩] := by
  refine pcall_intro Try.func162 rfl rfl (Nat.le_of_ble_eq_true rfl) ?_
  intro w0 Zi a w h
  rw [f162] at hF
  refine wp_reg_seq tok (orc := orcL []) (fz := []) (l := [1, 2, 3]) (c := _) (.inr fun i h => h) h (by kernel_rfl) (AllP.nil) ?_
  intro a w h
  refine wp_seq ?_
  obtain ⟨r1, hr21, hF⟩ := of_bind hF
  refine wp_reg_seq tok (orc := orcL [(14, [⟨.bool, r1⟩])]) (fz := []) (l := [1, 2, 3, 14]) (c := _) (.inr fun i h => h) h (by kernel_rfl) (AllP.cons (c218 k x0 x1 x2 r1 hr21) AllP.nil) ?_
  intro a w h
  refine wp_if h (b := r1) (by kernel_rfl) (fun hb => ?_) (fun hb => ?_)
  · replace hF := of_t hb hF
    refine wp_reg_seq tok (orc := orcL []) (fz := []) (l := [6]) (c := _) (.inr fun i h => h) h (by kernel_rfl) (AllP.nil) ?_
    intro a w h
    cases hF
    exact wp_ret (ret_okR tok h rfl (by kernel_rfl)).1
  · replace hF := of_f hb hF
    refine wp_skip ?_
    obtain ⟨hc20, hF⟩ := of_if hF
    refine wp_reg_seq tok (orc := orcL []) (fz := []) (l := [2, 3, 7]) (c := _) (.inr fun i h => h) h (by kernel_rfl) (AllP.cons hc20 AllP.nil) ?_
    intro a w h
    obtain ⟨hc19, hF⟩ := of_if hF
    refine wp_reg_seq tok (orc := orcL []) (fz := []) (l := [3, 7, 8]) (c := _) (.inr fun i h => h) h (by kernel_rfl) (AllP.cons hc19 AllP.nil) ?_
    intro a w h
    refine wp_seq ?_
    refine wp_reg_seq tok (orc := orcL []) (fz := []) (l := [3, 7, 8, 29]) (c := _) (.inr fun i h => h) h (by kernel_rfl) (AllP.nil) ?_
    intro a w h
    refine wp_if h (b := (((List.getD x0.2.1 (Int.toNat x2) ((0 : Int), ((0 : Int), ((0 : Int), ((0 : Int), ((0 : Int), (⟨#[]⟩ : ByteArray))))))).2.1 : Int) == (List.getD x0.2.1 (Int.toNat x1) ((0 : Int), ((0 : Int), ((0 : Int), ((0 : Int), ((0 : Int), (⟨#[]⟩ : ByteArray))))))).1)) (by kernel_rfl) (fun hb => ?_) (fun hb => ?_)
    · replace hF := of_t hb hF
      refine wp_reg_seq tok (orc := orcL []) (fz := []) (l := [6]) (c := _) (.inr fun i h => h) h (by kernel_rfl) (AllP.nil) ?_
      intro a w h
      cases hF
      exact wp_ret (ret_okR tok h rfl (by kernel_rfl)).1
    · replace hF := of_f hb hF
      refine wp_skip ?_
      obtain ⟨hc16, hF⟩ := of_if hF
      obtain ⟨hc17, hF⟩ := of_if hF
      obtain ⟨r2, hr18, hF⟩ := of_bind hF
      refine wp_regy_seq tok (orc := orcL [(44, [⟨(.int .i64), r2⟩])]) (fz := []) (l := [3, 8, 9]) (c := _) ([], [], [], []) 16 (.inr fun i h => h) h (by kernel_rfl) (by kernel_rfl) (AllP.cons hc16 (AllP.cons hc17 (AllP.cons (c219 k (List.getD x0.1 (Int.toNat (List.getD x0.2.1 (Int.toNat x1) ((0 : Int), ((0 : Int), ((0 : Int), ((0 : Int), ((0 : Int), (⟨#[]⟩ : ByteArray))))))).1) ((0 : Int), ((0 : Int), (0 : Int)))).2 (List.getD x0.1 (Int.toNat (List.getD x0.2.1 (Int.toNat x1) ((0 : Int), ((0 : Int), ((0 : Int), ((0 : Int), ((0 : Int), (⟨#[]⟩ : ByteArray))))))).2.1) ((0 : Int), ((0 : Int), (0 : Int)))).2 r2 hr18) AllP.nil))) ?_
      intro a w h
      obtain ⟨hc13, hF⟩ := of_if hF
      obtain ⟨hc14, hF⟩ := of_if hF
      obtain ⟨r3, hr15, hF⟩ := of_bind hF
      refine wp_regy_seq tok (orc := orcL [(59, [⟨(.int .i64), r3⟩])]) (fz := []) (l := [9, 10]) (c := _) ([], [], [], []) 16 (.inr fun i h => h) h (by kernel_rfl) (by kernel_rfl) (AllP.cons hc13 (AllP.cons hc14 (AllP.cons (c219 k (List.getD x0.1 (Int.toNat (List.getD x0.2.1 (Int.toNat x2) ((0 : Int), ((0 : Int), ((0 : Int), ((0 : Int), ((0 : Int), (⟨#[]⟩ : ByteArray))))))).1) ((0 : Int), ((0 : Int), (0 : Int)))).2 (List.getD x0.1 (Int.toNat (List.getD x0.2.1 (Int.toNat x2) ((0 : Int), ((0 : Int), ((0 : Int), ((0 : Int), ((0 : Int), (⟨#[]⟩ : ByteArray))))))).2.1) ((0 : Int), ((0 : Int), (0 : Int)))).2 r3 hr15) AllP.nil))) ?_
      intro a w h
      refine wp_seq ?_
      refine wp_reg_seq tok (orc := orcL []) (fz := []) (l := [9, 10, 65]) (c := _) (.inr fun i h => h) h (by kernel_rfl) (AllP.nil) ?_
      intro a w h
      refine wp_if h (b := (bif (decide ((r2 : Int) < (0 : Int))) then true else (decide ((r3 : Int) < (0 : Int))))) (by kernel_rfl) (fun hb => ?_) (fun hb => ?_)
      · replace hF := of_t hb hF
        refine wp_reg_seq tok (orc := orcL []) (fz := []) (l := [6]) (c := _) (.inr fun i h => h) h (by kernel_rfl) (AllP.nil) ?_
        intro a w h
        cases hF
        exact wp_ret (ret_okR tok h rfl (by kernel_rfl)).1
      · replace hF := of_f hb hF
        refine wp_skip ?_
        refine wp_seq ?_
        obtain ⟨hc12, hF⟩ := of_if hF
        refine wp_reg_seq tok (orc := orcL []) (fz := []) (l := [70]) (c := _) (.inr fun i h => h) h (by kernel_rfl) (AllP.cons hc12 AllP.nil) ?_
        intro a w h
        refine wp_block ?_
        refine wp_seq ?_
        refine wp_reg_seq tok (orc := orcL []) (fz := []) (l := [70, 71]) (c := _) (.inr fun i h => h) h (by kernel_rfl) (AllP.nil) ?_
        intro a w h
        refine wp_midT (fun a w => ∃ v : Bool, f162.j9 k r3 r2 v = some r ∧ Rel w0 (fun _ => False) Zi Try.f162.ntmps ((fun (v8 : Bool) => ([(70, .val (.int .i64) (Int.tmod (IntKind.i64.wrap ((IntKind.i64.wrap (r3 - r2)) + (8 : Int))) (8 : Int))), (71, .val .bool v8)] : SS)) v) a w) ?_ ?_
        ·
          refine wp_if h (b := (((Int.tmod (IntKind.i64.wrap ((IntKind.i64.wrap (r3 - r2)) + (8 : Int))) (8 : Int)) : Int) == (2 : Int))) (by kernel_rfl) (fun hb => ?_) (fun hb => ?_)
          · replace hF := of_t hb hF
            refine wp_skip ?_
            exact ⟨(((Int.tmod (IntKind.i64.wrap ((IntKind.i64.wrap (r3 - r2)) + (8 : Int))) (8 : Int)) : Int) == (2 : Int)), hF, h.arrive (fz := []) (l := [70, 71]) (.inr fun i h => h) (by kernel_rfl)⟩
          · replace hF := of_f hb hF
            refine wp_reg_seq tok (orc := orcL []) (fz := []) (l := [70, 71]) (c := _) (.inr fun i h => h) h (by kernel_rfl) (AllP.nil) ?_
            intro a w h
            refine wp_if h (b := (((Int.tmod (IntKind.i64.wrap ((IntKind.i64.wrap (r3 - r2)) + (8 : Int))) (8 : Int)) : Int) == (3 : Int))) (by kernel_rfl) (fun hb => ?_) (fun hb => ?_)
            · replace hF := of_t hb hF
              refine wp_skip ?_
              exact ⟨(((Int.tmod (IntKind.i64.wrap ((IntKind.i64.wrap (r3 - r2)) + (8 : Int))) (8 : Int)) : Int) == (3 : Int)), hF, h.arrive (fz := []) (l := [70, 71]) (.inr fun i h => h) (by kernel_rfl)⟩
            · replace hF := of_f hb hF
              refine wp_reg tok (orc := orcL []) (fz := []) (l := [70, 71]) (c := _) (.inr fun i h => h) h (by kernel_rfl) (AllP.nil) ?_
              intro a w h
              exact ⟨(((Int.tmod (IntKind.i64.wrap ((IntKind.i64.wrap (r3 - r2)) + (8 : Int))) (8 : Int)) : Int) == (4 : Int)), hF, h.arrive (fz := []) (l := [70, 71]) (.inr fun i h => h) (by kernel_rfl)⟩
        · rintro a w ⟨v8, hF, h⟩
          rw [f162.j9] at hF
          refine wp_if h (b := v8) (by kernel_rfl) (fun hb => ?_) (fun hb => ?_)
          · replace hF := of_t hb hF
            refine wp_reg_seq tok (orc := orcL []) (fz := []) (l := [6]) (c := _) (.inr fun i h => h) h (by kernel_rfl) (AllP.nil) ?_
            intro a w h
            cases hF
            exact wp_ret (ret_okR tok h rfl (by kernel_rfl)).1
          · replace hF := of_f hb hF
            refine wp_seq ?_
            refine wp_reg_seq tok (orc := orcL []) (fz := []) (l := [70, 75]) (c := _) (.inr fun i h => h) h (by kernel_rfl) (AllP.nil) ?_
            intro a w h
            refine wp_midT (fun a w => ∃ v : Bool, f162.j11 k v = some r ∧ Rel w0 (fun _ => False) Zi Try.f162.ntmps ((fun (v10 : Bool) => ([(75, .val .bool v10)] : SS)) v) a w) ?_ ?_
            ·
              refine wp_if h (b := (((Int.tmod (IntKind.i64.wrap ((IntKind.i64.wrap (r3 - r2)) + (8 : Int))) (8 : Int)) : Int) == (5 : Int))) (by kernel_rfl) (fun hb => ?_) (fun hb => ?_)
              · replace hF := of_t hb hF
                refine wp_skip ?_
                exact ⟨(((Int.tmod (IntKind.i64.wrap ((IntKind.i64.wrap (r3 - r2)) + (8 : Int))) (8 : Int)) : Int) == (5 : Int)), hF, h.arrive (fz := []) (l := [75]) (.inr fun i h => h) (by kernel_rfl)⟩
              · replace hF := of_f hb hF
                refine wp_reg tok (orc := orcL []) (fz := []) (l := [75]) (c := _) (.inr fun i h => h) h (by kernel_rfl) (AllP.nil) ?_
                intro a w h
                exact ⟨(((Int.tmod (IntKind.i64.wrap ((IntKind.i64.wrap (r3 - r2)) + (8 : Int))) (8 : Int)) : Int) == (6 : Int)), hF, h.arrive (fz := []) (l := [75]) (.inr fun i h => h) (by kernel_rfl)⟩
            · rintro a w ⟨v10, hF, h⟩
              rw [f162.j11] at hF
              refine wp_if h (b := v10) (by kernel_rfl) (fun hb => ?_) (fun hb => ?_)
              · replace hF := of_t hb hF
                refine wp_reg_seq tok (orc := orcL []) (fz := []) (l := [6]) (c := _) (.inr fun i h => h) h (by kernel_rfl) (AllP.nil) ?_
                intro a w h
                cases hF
                exact wp_ret (ret_okR tok h rfl (by kernel_rfl)).1
              · replace hF := of_f hb hF
                refine wp_skip ?_
                refine wp_reg_seq tok (orc := orcL []) (fz := []) (l := [6]) (c := _) (.inr fun i h => h) h (by kernel_rfl) (AllP.nil) ?_
                intro a w h
                cases hF
                exact wp_ret (ret_okR tok h rfl (by kernel_rfl)).1

def f111.j124 (k : Nat) (v114 : Int) (q66 : ((List Int) × (List Int) × (List Int) × Int) → Option ((List Int) × (List Int))) : ((List Int) × (List Int) × (List Int)) → Option ((List Int) × (List Int))
  | (v121, v122, v123) => q66 (v121, v122, v123, (IntKind.i64.wrap (v114 + (1 : Int))))
def f111.j2115 (k : Nat) (v2103 : Int) (q2051 : (Int × Int) → Option ((List Int) × (List Int))) : Int → Option ((List Int) × (List Int))
  | v2114 => q2051 (v2114, (IntKind.i64.wrap (v2103 + (1 : Int))))
def f111.j2302 (k : Nat) (v2270 : Int) (q2126 : ((List Int) × (List Int) × (List Int) × Int) → Option ((List Int) × (List Int))) : ((List Int) × (List Int) × (List Int)) → Option ((List Int) × (List Int))
  | (v2299, v2300, v2301) => q2126 (v2299, v2300, v2301, (IntKind.i64.wrap (v2270 + (1 : Int))))
def f111.j2313 (k : Nat) (r131 : (List (List Int))) (x0 : ((List (Int × (Int × Int))) × ((List (Int × (Int × (Int × (Int × (Int × ByteArray)))))) × (List (Int × Int))))) (v1975 : (List Int)) (v2102 : Int) (v2270 : Int) (v2267 : (List Int)) (v2268 : (List Int)) (v2304 : Int) (q2302 : ((List Int) × (List Int) × (List Int)) → Option ((List Int) × (List Int))) : (List Int) → Option ((List Int) × (List Int))
  | v2312 => if (0 ≤ (List.getD (List.getD r131 (Int.toNat (List.getD x0.2.1 (Int.toNat (List.getD v1975 (Int.toNat v2102) (0 : Int))) ((0 : Int), ((0 : Int), ((0 : Int), ((0 : Int), ((0 : Int), (⟨#[]⟩ : ByteArray))))))).1) ([] : (List Int))) (Int.toNat v2270) (0 : Int)) ∧ (List.getD (List.getD r131 (Int.toNat (List.getD x0.2.1 (Int.toNat (List.getD v1975 (Int.toNat v2102) (0 : Int))) ((0 : Int), ((0 : Int), ((0 : Int), ((0 : Int), ((0 : Int), (⟨#[]⟩ : ByteArray))))))).1) ([] : (List Int))) (Int.toNat v2270) (0 : Int)) < (List.length v2267 : Int)) then (if (0 ≤ (List.getD v1975 (Int.toNat v2102) (0 : Int)) ∧ (List.getD v1975 (Int.toNat v2102) (0 : Int)) < (List.length v2268 : Int)) then (if (0 ≤ (List.getD (List.getD r131 (Int.toNat (List.getD x0.2.1 (Int.toNat (List.getD v1975 (Int.toNat v2102) (0 : Int))) ((0 : Int), ((0 : Int), ((0 : Int), ((0 : Int), ((0 : Int), (⟨#[]⟩ : ByteArray))))))).1) ([] : (List Int))) (Int.toNat v2270) (0 : Int)) ∧ (List.getD (List.getD r131 (Int.toNat (List.getD x0.2.1 (Int.toNat (List.getD v1975 (Int.toNat v2102) (0 : Int))) ((0 : Int), ((0 : Int), ((0 : Int), ((0 : Int), ((0 : Int), (⟨#[]⟩ : ByteArray))))))).1) ([] : (List Int))) (Int.toNat v2270) (0 : Int)) < (List.length v2268 : Int)) then (q2302 ((List.set v2267 (Int.toNat (List.getD (List.getD r131 (Int.toNat (List.getD x0.2.1 (Int.toNat (List.getD v1975 (Int.toNat v2102) (0 : Int))) ((0 : Int), ((0 : Int), ((0 : Int), ((0 : Int), ((0 : Int), (⟨#[]⟩ : ByteArray))))))).1) ([] : (List Int))) (Int.toNat v2270) (0 : Int))) v2304), (List.set v2268 (Int.toNat (List.getD (List.getD r131 (Int.toNat (List.getD x0.2.1 (Int.toNat (List.getD v1975 (Int.toNat v2102) (0 : Int))) ((0 : Int), ((0 : Int), ((0 : Int), ((0 : Int), ((0 : Int), (⟨#[]⟩ : ByteArray))))))).1) ([] : (List Int))) (Int.toNat v2270) (0 : Int))) (IntKind.i64.wrap ((List.getD v2268 (Int.toNat (List.getD v1975 (Int.toNat v2102) (0 : Int))) (0 : Int)) + (1 : Int)))), v2312)) else none) else none) else none
def f111.l2126 (k : Nat) (r131 : (List (List Int))) (x0 : ((List (Int × (Int × Int))) × ((List (Int × (Int × (Int × (Int × (Int × ByteArray)))))) × (List (Int × Int))))) (v1975 : (List Int)) (v2102 : Int) (v1974 : (List Bool)) (q1235 : ((List Int) × (List Int) × (List Bool) × (List Int)) → Option ((List Int) × (List Int))) : Nat → ((List Int) × (List Int) × (List Int) × Int) → Option ((List Int) × (List Int))
  | 0, _ => none
  | m2126 + 1, (v2267, v2268, v2269, v2270) => if (decide ((v2270 : Int) < (List.length (List.getD r131 (Int.toNat (List.getD x0.2.1 (Int.toNat (List.getD v1975 (Int.toNat v2102) (0 : Int))) ((0 : Int), ((0 : Int), ((0 : Int), ((0 : Int), ((0 : Int), (⟨#[]⟩ : ByteArray))))))).1) ([] : (List Int))) : Int))) then (if (0 ≤ v2270 ∧ v2270 < (List.length (List.getD r131 (Int.toNat (List.getD x0.2.1 (Int.toNat (List.getD v1975 (Int.toNat v2102) (0 : Int))) ((0 : Int), ((0 : Int), ((0 : Int), ((0 : Int), ((0 : Int), (⟨#[]⟩ : ByteArray))))))).1) ([] : (List Int))) : Int)) then ((f162 k x0 (List.getD (List.getD r131 (Int.toNat (List.getD x0.2.1 (Int.toNat (List.getD v1975 (Int.toNat v2102) (0 : Int))) ((0 : Int), ((0 : Int), ((0 : Int), ((0 : Int), ((0 : Int), (⟨#[]⟩ : ByteArray))))))).1) ([] : (List Int))) (Int.toNat v2270) (0 : Int)) (List.getD v1975 (Int.toNat v2102) (0 : Int))).bind fun r2303 => (if (0 ≤ (List.getD (List.getD r131 (Int.toNat (List.getD x0.2.1 (Int.toNat (List.getD v1975 (Int.toNat v2102) (0 : Int))) ((0 : Int), ((0 : Int), ((0 : Int), ((0 : Int), ((0 : Int), (⟨#[]⟩ : ByteArray))))))).1) ([] : (List Int))) (Int.toNat v2270) (0 : Int)) ∧ (List.getD (List.getD r131 (Int.toNat (List.getD x0.2.1 (Int.toNat (List.getD v1975 (Int.toNat v2102) (0 : Int))) ((0 : Int), ((0 : Int), ((0 : Int), ((0 : Int), ((0 : Int), (⟨#[]⟩ : ByteArray))))))).1) ([] : (List Int))) (Int.toNat v2270) (0 : Int)) < (List.length (List.set v1974 (Int.toNat (List.getD v1975 (Int.toNat v2102) (0 : Int))) true) : Int)) then (if (bif (List.getD (List.set v1974 (Int.toNat (List.getD v1975 (Int.toNat v2102) (0 : Int))) true) (Int.toNat (List.getD (List.getD r131 (Int.toNat (List.getD x0.2.1 (Int.toNat (List.getD v1975 (Int.toNat v2102) (0 : Int))) ((0 : Int), ((0 : Int), ((0 : Int), ((0 : Int), ((0 : Int), (⟨#[]⟩ : ByteArray))))))).1) ([] : (List Int))) (Int.toNat v2270) (0 : Int))) false) then true else (decide ((r2303 : Int) < (0 : Int)))) then (f111.j2302 k v2270 ((f111.l2126 k r131 x0 v1975 v2102 v1974 q1235) m2126) (v2267, v2268, v2269)) else (if (0 ≤ (List.getD (List.getD r131 (Int.toNat (List.getD x0.2.1 (Int.toNat (List.getD v1975 (Int.toNat v2102) (0 : Int))) ((0 : Int), ((0 : Int), ((0 : Int), ((0 : Int), ((0 : Int), (⟨#[]⟩ : ByteArray))))))).1) ([] : (List Int))) (Int.toNat v2270) (0 : Int)) ∧ (List.getD (List.getD r131 (Int.toNat (List.getD x0.2.1 (Int.toNat (List.getD v1975 (Int.toNat v2102) (0 : Int))) ((0 : Int), ((0 : Int), ((0 : Int), ((0 : Int), ((0 : Int), (⟨#[]⟩ : ByteArray))))))).1) ([] : (List Int))) (Int.toNat v2270) (0 : Int)) < (List.length x0.2.1 : Int)) then (if (0 ≤ (List.getD v1975 (Int.toNat v2102) (0 : Int)) ∧ (List.getD v1975 (Int.toNat v2102) (0 : Int)) < (List.length v2267 : Int)) then ((some ((IntKind.i64.wrap ((IntKind.i64.wrap ((List.getD x0.2.1 (Int.toNat (List.getD (List.getD r131 (Int.toNat (List.getD x0.2.1 (Int.toNat (List.getD v1975 (Int.toNat v2102) (0 : Int))) ((0 : Int), ((0 : Int), ((0 : Int), ((0 : Int), ((0 : Int), (⟨#[]⟩ : ByteArray))))))).1) ([] : (List Int))) (Int.toNat v2270) (0 : Int))) ((0 : Int), ((0 : Int), ((0 : Int), ((0 : Int), ((0 : Int), (⟨#[]⟩ : ByteArray))))))).2.2.2.1 + r2303)) + (List.getD v2267 (Int.toNat (List.getD v1975 (Int.toNat v2102) (0 : Int))) (0 : Int)))) : Int)).bind fun v2304 => (if (0 ≤ (List.getD (List.getD r131 (Int.toNat (List.getD x0.2.1 (Int.toNat (List.getD v1975 (Int.toNat v2102) (0 : Int))) ((0 : Int), ((0 : Int), ((0 : Int), ((0 : Int), ((0 : Int), (⟨#[]⟩ : ByteArray))))))).1) ([] : (List Int))) (Int.toNat v2270) (0 : Int)) ∧ (List.getD (List.getD r131 (Int.toNat (List.getD x0.2.1 (Int.toNat (List.getD v1975 (Int.toNat v2102) (0 : Int))) ((0 : Int), ((0 : Int), ((0 : Int), ((0 : Int), ((0 : Int), (⟨#[]⟩ : ByteArray))))))).1) ([] : (List Int))) (Int.toNat v2270) (0 : Int)) < (List.length v2267 : Int)) then (if (decide (((List.getD v2267 (Int.toNat (List.getD (List.getD r131 (Int.toNat (List.getD x0.2.1 (Int.toNat (List.getD v1975 (Int.toNat v2102) (0 : Int))) ((0 : Int), ((0 : Int), ((0 : Int), ((0 : Int), ((0 : Int), (⟨#[]⟩ : ByteArray))))))).1) ([] : (List Int))) (Int.toNat v2270) (0 : Int))) (0 : Int)) : Int) < (0 : Int))) then (if ((List.length v2269 + List.length [(List.getD (List.getD r131 (Int.toNat (List.getD x0.2.1 (Int.toNat (List.getD v1975 (Int.toNat v2102) (0 : Int))) ((0 : Int), ((0 : Int), ((0 : Int), ((0 : Int), ((0 : Int), (⟨#[]⟩ : ByteArray))))))).1) ([] : (List Int))) (Int.toNat v2270) (0 : Int))]) * 8 ≤ 140737488355328) then (f111.j2313 k r131 x0 v1975 v2102 v2270 v2267 v2268 v2304 (f111.j2302 k v2270 ((f111.l2126 k r131 x0 v1975 v2102 v1974 q1235) m2126)) (v2269 ++ [(List.getD (List.getD r131 (Int.toNat (List.getD x0.2.1 (Int.toNat (List.getD v1975 (Int.toNat v2102) (0 : Int))) ((0 : Int), ((0 : Int), ((0 : Int), ((0 : Int), ((0 : Int), (⟨#[]⟩ : ByteArray))))))).1) ([] : (List Int))) (Int.toNat v2270) (0 : Int))])) else none) else (if (0 ≤ (List.getD (List.getD r131 (Int.toNat (List.getD x0.2.1 (Int.toNat (List.getD v1975 (Int.toNat v2102) (0 : Int))) ((0 : Int), ((0 : Int), ((0 : Int), ((0 : Int), ((0 : Int), (⟨#[]⟩ : ByteArray))))))).1) ([] : (List Int))) (Int.toNat v2270) (0 : Int)) ∧ (List.getD (List.getD r131 (Int.toNat (List.getD x0.2.1 (Int.toNat (List.getD v1975 (Int.toNat v2102) (0 : Int))) ((0 : Int), ((0 : Int), ((0 : Int), ((0 : Int), ((0 : Int), (⟨#[]⟩ : ByteArray))))))).1) ([] : (List Int))) (Int.toNat v2270) (0 : Int)) < (List.length v2267 : Int)) then (if (((decide ((v2304 : Int) > (List.getD v2267 (Int.toNat (List.getD (List.getD r131 (Int.toNat (List.getD x0.2.1 (Int.toNat (List.getD v1975 (Int.toNat v2102) (0 : Int))) ((0 : Int), ((0 : Int), ((0 : Int), ((0 : Int), ((0 : Int), (⟨#[]⟩ : ByteArray))))))).1) ([] : (List Int))) (Int.toNat v2270) (0 : Int))) (0 : Int)))) = false) → (0 ≤ (List.getD (List.getD r131 (Int.toNat (List.getD x0.2.1 (Int.toNat (List.getD v1975 (Int.toNat v2102) (0 : Int))) ((0 : Int), ((0 : Int), ((0 : Int), ((0 : Int), ((0 : Int), (⟨#[]⟩ : ByteArray))))))).1) ([] : (List Int))) (Int.toNat v2270) (0 : Int)) ∧ (List.getD (List.getD r131 (Int.toNat (List.getD x0.2.1 (Int.toNat (List.getD v1975 (Int.toNat v2102) (0 : Int))) ((0 : Int), ((0 : Int), ((0 : Int), ((0 : Int), ((0 : Int), (⟨#[]⟩ : ByteArray))))))).1) ([] : (List Int))) (Int.toNat v2270) (0 : Int)) < (List.length v2267 : Int))) then (if ((((decide ((v2304 : Int) > (List.getD v2267 (Int.toNat (List.getD (List.getD r131 (Int.toNat (List.getD x0.2.1 (Int.toNat (List.getD v1975 (Int.toNat v2102) (0 : Int))) ((0 : Int), ((0 : Int), ((0 : Int), ((0 : Int), ((0 : Int), (⟨#[]⟩ : ByteArray))))))).1) ([] : (List Int))) (Int.toNat v2270) (0 : Int))) (0 : Int)))) = false) ∧ (((v2304 : Int) == (List.getD v2267 (Int.toNat (List.getD (List.getD r131 (Int.toNat (List.getD x0.2.1 (Int.toNat (List.getD v1975 (Int.toNat v2102) (0 : Int))) ((0 : Int), ((0 : Int), ((0 : Int), ((0 : Int), ((0 : Int), (⟨#[]⟩ : ByteArray))))))).1) ([] : (List Int))) (Int.toNat v2270) (0 : Int))) (0 : Int))) = true)) → (0 ≤ (List.getD v1975 (Int.toNat v2102) (0 : Int)) ∧ (List.getD v1975 (Int.toNat v2102) (0 : Int)) < (List.length v2268 : Int))) then (if ((((decide ((v2304 : Int) > (List.getD v2267 (Int.toNat (List.getD (List.getD r131 (Int.toNat (List.getD x0.2.1 (Int.toNat (List.getD v1975 (Int.toNat v2102) (0 : Int))) ((0 : Int), ((0 : Int), ((0 : Int), ((0 : Int), ((0 : Int), (⟨#[]⟩ : ByteArray))))))).1) ([] : (List Int))) (Int.toNat v2270) (0 : Int))) (0 : Int)))) = false) ∧ (((v2304 : Int) == (List.getD v2267 (Int.toNat (List.getD (List.getD r131 (Int.toNat (List.getD x0.2.1 (Int.toNat (List.getD v1975 (Int.toNat v2102) (0 : Int))) ((0 : Int), ((0 : Int), ((0 : Int), ((0 : Int), ((0 : Int), (⟨#[]⟩ : ByteArray))))))).1) ([] : (List Int))) (Int.toNat v2270) (0 : Int))) (0 : Int))) = true)) → (0 ≤ (List.getD (List.getD r131 (Int.toNat (List.getD x0.2.1 (Int.toNat (List.getD v1975 (Int.toNat v2102) (0 : Int))) ((0 : Int), ((0 : Int), ((0 : Int), ((0 : Int), ((0 : Int), (⟨#[]⟩ : ByteArray))))))).1) ([] : (List Int))) (Int.toNat v2270) (0 : Int)) ∧ (List.getD (List.getD r131 (Int.toNat (List.getD x0.2.1 (Int.toNat (List.getD v1975 (Int.toNat v2102) (0 : Int))) ((0 : Int), ((0 : Int), ((0 : Int), ((0 : Int), ((0 : Int), (⟨#[]⟩ : ByteArray))))))).1) ([] : (List Int))) (Int.toNat v2270) (0 : Int)) < (List.length v2268 : Int))) then ((some ((bif (decide ((v2304 : Int) > (List.getD v2267 (Int.toNat (List.getD (List.getD r131 (Int.toNat (List.getD x0.2.1 (Int.toNat (List.getD v1975 (Int.toNat v2102) (0 : Int))) ((0 : Int), ((0 : Int), ((0 : Int), ((0 : Int), ((0 : Int), (⟨#[]⟩ : ByteArray))))))).1) ([] : (List Int))) (Int.toNat v2270) (0 : Int))) (0 : Int)))) then true else (bif ((v2304 : Int) == (List.getD v2267 (Int.toNat (List.getD (List.getD r131 (Int.toNat (List.getD x0.2.1 (Int.toNat (List.getD v1975 (Int.toNat v2102) (0 : Int))) ((0 : Int), ((0 : Int), ((0 : Int), ((0 : Int), ((0 : Int), (⟨#[]⟩ : ByteArray))))))).1) ([] : (List Int))) (Int.toNat v2270) (0 : Int))) (0 : Int))) then (decide (((IntKind.i64.wrap ((List.getD v2268 (Int.toNat (List.getD v1975 (Int.toNat v2102) (0 : Int))) (0 : Int)) + (1 : Int))) : Int) ≥ (List.getD v2268 (Int.toNat (List.getD (List.getD r131 (Int.toNat (List.getD x0.2.1 (Int.toNat (List.getD v1975 (Int.toNat v2102) (0 : Int))) ((0 : Int), ((0 : Int), ((0 : Int), ((0 : Int), ((0 : Int), (⟨#[]⟩ : ByteArray))))))).1) ([] : (List Int))) (Int.toNat v2270) (0 : Int))) (0 : Int)))) else false)) : Bool)).bind fun v2318 => (if v2318 then (f111.j2302 k v2270 ((f111.l2126 k r131 x0 v1975 v2102 v1974 q1235) m2126) (v2267, v2268, v2269)) else (f111.j2313 k r131 x0 v1975 v2102 v2270 v2267 v2268 v2304 (f111.j2302 k v2270 ((f111.l2126 k r131 x0 v1975 v2102 v1974 q1235) m2126)) v2269))) else none) else none) else none) else none)) else none)) else none) else none)) else none)) else none) else (q1235 (v2267, v2268, (List.set v1974 (Int.toNat (List.getD v1975 (Int.toNat v2102) (0 : Int))) true), v2269))
def f111.l2051 (k : Nat) (v1975 : (List Int)) (v1972 : (List Int)) (v1973 : (List Int)) (v1974 : (List Bool)) (x0 : ((List (Int × (Int × Int))) × ((List (Int × (Int × (Int × (Int × (Int × ByteArray)))))) × (List (Int × Int))))) (r131 : (List (List Int))) (q1235 : ((List Int) × (List Int) × (List Bool) × (List Int)) → Option ((List Int) × (List Int))) : Nat → (Int × Int) → Option ((List Int) × (List Int))
  | 0, _ => none
  | m2051 + 1, (v2102, v2103) => if (decide ((v2103 : Int) < (List.length v1975 : Int))) then (if (0 ≤ v2103 ∧ v2103 < (List.length v1975 : Int)) then (if (0 ≤ v2102 ∧ v2102 < (List.length v1975 : Int)) then (if (0 ≤ (List.getD v1975 (Int.toNat v2103) (0 : Int)) ∧ (List.getD v1975 (Int.toNat v2103) (0 : Int)) < (List.length v1972 : Int)) then (if (0 ≤ (List.getD v1975 (Int.toNat v2102) (0 : Int)) ∧ (List.getD v1975 (Int.toNat v2102) (0 : Int)) < (List.length v1972 : Int)) then (if (((decide (((List.getD v1972 (Int.toNat (List.getD v1975 (Int.toNat v2103) (0 : Int))) (0 : Int)) : Int) < (List.getD v1972 (Int.toNat (List.getD v1975 (Int.toNat v2102) (0 : Int))) (0 : Int)))) = false) → (0 ≤ (List.getD v1975 (Int.toNat v2103) (0 : Int)) ∧ (List.getD v1975 (Int.toNat v2103) (0 : Int)) < (List.length v1972 : Int))) then (if (((decide (((List.getD v1972 (Int.toNat (List.getD v1975 (Int.toNat v2103) (0 : Int))) (0 : Int)) : Int) < (List.getD v1972 (Int.toNat (List.getD v1975 (Int.toNat v2102) (0 : Int))) (0 : Int)))) = false) → (0 ≤ (List.getD v1975 (Int.toNat v2102) (0 : Int)) ∧ (List.getD v1975 (Int.toNat v2102) (0 : Int)) < (List.length v1972 : Int))) then (if ((((decide (((List.getD v1972 (Int.toNat (List.getD v1975 (Int.toNat v2103) (0 : Int))) (0 : Int)) : Int) < (List.getD v1972 (Int.toNat (List.getD v1975 (Int.toNat v2102) (0 : Int))) (0 : Int)))) = false) ∧ ((((List.getD v1972 (Int.toNat (List.getD v1975 (Int.toNat v2103) (0 : Int))) (0 : Int)) : Int) == (List.getD v1972 (Int.toNat (List.getD v1975 (Int.toNat v2102) (0 : Int))) (0 : Int))) = true)) → (0 ≤ (List.getD v1975 (Int.toNat v2103) (0 : Int)) ∧ (List.getD v1975 (Int.toNat v2103) (0 : Int)) < (List.length v1973 : Int))) then (if ((((decide (((List.getD v1972 (Int.toNat (List.getD v1975 (Int.toNat v2103) (0 : Int))) (0 : Int)) : Int) < (List.getD v1972 (Int.toNat (List.getD v1975 (Int.toNat v2102) (0 : Int))) (0 : Int)))) = false) ∧ ((((List.getD v1972 (Int.toNat (List.getD v1975 (Int.toNat v2103) (0 : Int))) (0 : Int)) : Int) == (List.getD v1972 (Int.toNat (List.getD v1975 (Int.toNat v2102) (0 : Int))) (0 : Int))) = true)) → (0 ≤ (List.getD v1975 (Int.toNat v2102) (0 : Int)) ∧ (List.getD v1975 (Int.toNat v2102) (0 : Int)) < (List.length v1973 : Int))) then ((some ((bif (decide (((List.getD v1972 (Int.toNat (List.getD v1975 (Int.toNat v2103) (0 : Int))) (0 : Int)) : Int) < (List.getD v1972 (Int.toNat (List.getD v1975 (Int.toNat v2102) (0 : Int))) (0 : Int)))) then true else (bif (((List.getD v1972 (Int.toNat (List.getD v1975 (Int.toNat v2103) (0 : Int))) (0 : Int)) : Int) == (List.getD v1972 (Int.toNat (List.getD v1975 (Int.toNat v2102) (0 : Int))) (0 : Int))) then (decide (((List.getD v1973 (Int.toNat (List.getD v1975 (Int.toNat v2103) (0 : Int))) (0 : Int)) : Int) < (List.getD v1973 (Int.toNat (List.getD v1975 (Int.toNat v2102) (0 : Int))) (0 : Int)))) else false)) : Bool)).bind fun v2116 => (if v2116 then (f111.j2115 k v2103 ((f111.l2051 k v1975 v1972 v1973 v1974 x0 r131 q1235) m2051) v2103) else (f111.j2115 k v2103 ((f111.l2051 k v1975 v1972 v1973 v1974 x0 r131 q1235) m2051) v2102))) else none) else none) else none) else none) else none) else none) else none) else none) else (if (0 ≤ v2102 ∧ v2102 < (List.length v1975 : Int)) then (if (0 ≤ (IntKind.i64.wrap ((List.length v1975 : Int) - (1 : Int))) ∧ (IntKind.i64.wrap ((List.length v1975 : Int) - (1 : Int))) < (List.length v1975 : Int)) then (if (0 ≤ v2102 ∧ v2102 < (List.length v1975 : Int)) then (if ((0 : Int) ≤ (IntKind.i64.wrap ((List.length (List.set v1975 (Int.toNat v2102) (List.getD v1975 (Int.toNat (IntKind.i64.wrap ((List.length v1975 : Int) - (1 : Int)))) (0 : Int))) : Int) - (1 : Int))) ∧ ((IntKind.i64.wrap ((List.length (List.set v1975 (Int.toNat v2102) (List.getD v1975 (Int.toNat (IntKind.i64.wrap ((List.length v1975 : Int) - (1 : Int)))) (0 : Int))) : Int) - (1 : Int))) : Int) ≤ (List.length (List.set v1975 (Int.toNat v2102) (List.getD v1975 (Int.toNat (IntKind.i64.wrap ((List.length v1975 : Int) - (1 : Int)))) (0 : Int))) : Int)) then (if (0 ≤ (List.getD v1975 (Int.toNat v2102) (0 : Int)) ∧ (List.getD v1975 (Int.toNat v2102) (0 : Int)) < (List.length v1974 : Int)) then (if (0 ≤ (List.getD v1975 (Int.toNat v2102) (0 : Int)) ∧ (List.getD v1975 (Int.toNat v2102) (0 : Int)) < (List.length x0.2.1 : Int)) then (if (0 ≤ (List.getD x0.2.1 (Int.toNat (List.getD v1975 (Int.toNat v2102) (0 : Int))) ((0 : Int), ((0 : Int), ((0 : Int), ((0 : Int), ((0 : Int), (⟨#[]⟩ : ByteArray))))))).1 ∧ (List.getD x0.2.1 (Int.toNat (List.getD v1975 (Int.toNat v2102) (0 : Int))) ((0 : Int), ((0 : Int), ((0 : Int), ((0 : Int), ((0 : Int), (⟨#[]⟩ : ByteArray))))))).1 < (List.length r131 : Int)) then (f111.l2126 k r131 x0 v1975 v2102 v1974 (q1235) k (v1972, v1973, (List.take (Int.toNat (IntKind.i64.wrap ((List.length (List.set v1975 (Int.toNat v2102) (List.getD v1975 (Int.toNat (IntKind.i64.wrap ((List.length v1975 : Int) - (1 : Int)))) (0 : Int))) : Int) - (1 : Int)))) (List.set v1975 (Int.toNat v2102) (List.getD v1975 (Int.toNat (IntKind.i64.wrap ((List.length v1975 : Int) - (1 : Int)))) (0 : Int)))), (0 : Int))) else none) else none) else none) else none) else none) else none) else none)
def f111.l1235 (k : Nat) (x0 : ((List (Int × (Int × Int))) × ((List (Int × (Int × (Int × (Int × (Int × ByteArray)))))) × (List (Int × Int))))) (r131 : (List (List Int))) : Nat → ((List Int) × (List Int) × (List Bool) × (List Int)) → Option ((List Int) × (List Int))
  | 0, _ => none
  | m1235 + 1, (v1972, v1973, v1974, v1975) => if (decide (((List.length v1975 : Int) : Int) > (0 : Int))) then (f111.l2051 k v1975 v1972 v1973 v1974 x0 r131 ((f111.l1235 k x0 r131) m1235) k ((0 : Int), (1 : Int))) else (some (v1972, v1973))
def f111.l66 (k : Nat) (x0 : ((List (Int × (Int × Int))) × ((List (Int × (Int × (Int × (Int × (Int × ByteArray)))))) × (List (Int × Int))))) (x1 : Int) : Nat → ((List Int) × (List Int) × (List Int) × Int) → Option ((List Int) × (List Int))
  | 0, _ => none
  | m66 + 1, (v111, v112, v113, v114) => if (decide ((v114 : Int) < (List.length x0.2.1 : Int))) then (if (0 ≤ v114 ∧ v114 < (List.length v111 : Int)) then (if (0 ≤ v114 ∧ v114 < (List.length x0.2.1 : Int)) then (if (((List.getD x0.2.1 (Int.toNat v114) ((0 : Int), ((0 : Int), ((0 : Int), ((0 : Int), ((0 : Int), (⟨#[]⟩ : ByteArray))))))).2.1 : Int) == x1) then (if (0 ≤ v114 ∧ v114 < (List.length x0.2.1 : Int)) then (if (0 ≤ v114 ∧ v114 < (List.length (List.set v111 (Int.toNat v114) (-1 : Int)) : Int)) then (if (0 ≤ v114 ∧ v114 < (List.length v112 : Int)) then (if ((List.length v113 + List.length [v114]) * 8 ≤ 140737488355328) then (f111.j124 k v114 ((f111.l66 k x0 x1) m66) ((List.set (List.set v111 (Int.toNat v114) (-1 : Int)) (Int.toNat v114) (List.getD x0.2.1 (Int.toNat v114) ((0 : Int), ((0 : Int), ((0 : Int), ((0 : Int), ((0 : Int), (⟨#[]⟩ : ByteArray))))))).2.2.2.1), (List.set v112 (Int.toNat v114) (1 : Int)), (v113 ++ [v114]))) else none) else none) else none) else none) else (f111.j124 k v114 ((f111.l66 k x0 x1) m66) ((List.set v111 (Int.toNat v114) (-1 : Int)), v112, v113))) else none) else none) else ((f73 k x0 true).bind fun r131 => (f111.l1235 k x0 r131 k (v111, v112, (List.replicate (Int.toNat (List.length x0.2.1 : Int)) false), v113)))
def f111 (k : Nat) (x0 : ((List (Int × (Int × Int))) × ((List (Int × (Int × (Int × (Int × (Int × ByteArray)))))) × (List (Int × Int))))) (x1 : Int) : Option ((List Int) × (List Int)) := if (0 ≤ (List.length x0.2.1 : Int) ∧ Int.toNat (List.length x0.2.1 : Int) * 8 ≤ 140737488355328) then (if (0 ≤ (List.length x0.2.1 : Int) ∧ Int.toNat (List.length x0.2.1 : Int) * 8 ≤ 140737488355328) then (if (0 ≤ (List.length x0.2.1 : Int) ∧ Int.toNat (List.length x0.2.1 : Int) * 1 ≤ 140737488355328) then (f111.l66 k x0 x1 k ((List.replicate (Int.toNat (List.length x0.2.1 : Int)) (0 : Int)), (List.replicate (Int.toNat (List.length x0.2.1 : Int)) (0 : Int)), ([] : List Int), (0 : Int))) else none) else none) else none
set_option maxRecDepth 100000 in
/-- 'spec.l10Back'. -/
theorem c111 (k : Nat) (x0 : ((List (Int × (Int × Int))) × ((List (Int × (Int × (Int × (Int × (Int × ByteArray)))))) × (List (Int × Int))))) (x1 : Int) (r : ((List Int) × (List Int))) (hF : f111 k x0 x1 = some r) : PCall Try.prog 111 [⟨sh12, x0⟩, ⟨(.int .i64), x1⟩] [⟨sh18, r⟩] := by
  refine pcall_intro Try.func111 rfl rfl (Nat.le_of_ble_eq_true rfl) ?_
  intro w0 Zi a w h
  rw [f111] at hF
  refine wp_reg_seq tok (orc := orcL []) (fz := []) (l := [1, 2, 4]) (c := _) (.inr fun i h => h) h (by kernel_rfl) (AllP.nil) ?_
  intro a w h
  refine wp_reg_seq tok (orc := orcL []) (fz := []) (l := [1, 2, 4, 5]) (c := _) (.inr fun i h => h) h (by kernel_rfl) (AllP.nil) ?_
  intro a w h
  obtain ⟨hc2340, hF⟩ := of_if hF
  obtain ⟨hc2341, hF⟩ := of_if hF
  refine wp_regy_seq tok (orc := orcL []) (fz := []) (l := [1, 2, 4, 5, 6]) (c := _) ([], [(4, [25, 27])], [], [(5, [])]) 6 (.inr fun i h => h) h (by kernel_rfl) (by kernel_rfl) (AllP.cons hc2340 (AllP.cons hc2341 AllP.nil)) ?_
  intro a w h
  obtain ⟨hc2339, hF⟩ := of_if hF
  refine wp_reg_seq tok (orc := orcL []) (fz := []) (l := [1, 2, 4, 5, 6, 7]) (c := _) (.inr fun i h => h) h (by kernel_rfl) (AllP.cons hc2339 AllP.nil) ?_
  intro a w h
  refine wp_reg_seq tok (orc := orcL []) (fz := []) (l := [1, 2, 4, 5, 6, 7, 8]) (c := _) (.inr fun i h => h) h (by kernel_rfl) (AllP.nil) ?_
  intro a w h
  refine wp_seq ?_
  refine wp_reg_seq tok (orc := orcL []) (fz := []) (l := [1, 2, 4, 5, 6, 7, 8, 9]) (c := _) (.inr fun i h => h) h (by kernel_rfl) (AllP.nil) ?_
  intro a w h
  refine wp_block ?_
  refine wp_loop_fuel (f111.l66 k x0 x1) (fun ((v111, v112, v113, v114) : ((List Int) × (List Int) × (List Int) × Int)) => [(1, .val (.int .i64) x1), (2, .val sh11 (some x0)), (4, .val sh15 (some (([] : (List Int)), ([] : (List Int))))), (5, .val (.int .i64) (List.length x0.2.1 : Int)), (6, .val sh15 (some (v111, v112))), (7, .val (.sl true 4 .bool) (List.replicate (Int.toNat (List.length x0.2.1 : Int)) false)), (8, .val (.sl true 2 (.int .i64)) v113), (9, .val (.int .i64) v114)]) (fun v h => by obtain ⟨v111, v112, v113, v114⟩ := v; rw [f111.l66] at h; cases h) ?_ hF (h.arrive (fz := []) (l := [1, 2, 4, 5, 6, 7, 8, 9]) (.inr fun i h => h) (by kernel_rfl))
  intro m66 v a w hF h
  obtain ⟨v111, v112, v113, v114⟩ := v
  rw [f111.l66] at hF
  refine wp_seq ?_
  refine wp_reg_seq tok (orc := orcL []) (fz := []) (l := [1, 2, 4, 5, 6, 7, 8, 9, 34]) (c := _) (.inr fun i h => h) h (by kernel_rfl) (AllP.nil) ?_
  intro a w h
  refine wp_if h (b := (decide ((v114 : Int) < (List.length x0.2.1 : Int)))) (by kernel_rfl) (fun hb => ?_) (fun hb => ?_)
  · replace hF := of_t hb hF
    refine wp_skip ?_
    refine wp_mid (fun a w => ∃ v : ((List Int) × (List Int) × (List Int)), f111.j124 k v114 ((f111.l66 k x0 x1) m66) v = some r ∧ Rel w0 (fun _ => False) Zi Try.f111.ntmps ((fun ((v121, v122, v123) : ((List Int) × (List Int) × (List Int))) => ([(1, .val (.int .i64) x1), (2, .val sh11 (some x0)), (4, .val sh15 (some (([] : (List Int)), ([] : (List Int))))), (5, .val (.int .i64) (List.length x0.2.1 : Int)), (6, .val sh15 (some (v121, v122))), (7, .val (.sl true 4 .bool) (List.replicate (Int.toNat (List.length x0.2.1 : Int)) false)), (8, .val (.sl true 2 (.int .i64)) v123), (9, .val (.int .i64) v114)] : SS)) v) a w) ?_ ?_
    ·
      refine wp_block ?_
      obtain ⟨hc130, hF⟩ := of_if hF
      refine wp_reg_seq tok (orc := orcL []) (fz := []) (l := [1, 2, 4, 5, 6, 7, 8, 9]) (c := _) (.inr fun i h => h) h (by kernel_rfl) (AllP.cons hc130 AllP.nil) ?_
      intro a w h
      obtain ⟨hc129, hF⟩ := of_if hF
      refine wp_reg_seq tok (orc := orcL []) (fz := []) (l := [1, 2, 4, 5, 6, 7, 8, 9, 48]) (c := _) (.inr fun i h => h) h (by kernel_rfl) (AllP.cons hc129 AllP.nil) ?_
      intro a w h
      refine wp_if h (b := (((List.getD x0.2.1 (Int.toNat v114) ((0 : Int), ((0 : Int), ((0 : Int), ((0 : Int), ((0 : Int), (⟨#[]⟩ : ByteArray))))))).2.1 : Int) == x1)) (by kernel_rfl) (fun hb => ?_) (fun hb => ?_)
      · replace hF := of_t hb hF
        obtain ⟨hc127, hF⟩ := of_if hF
        obtain ⟨hc128, hF⟩ := of_if hF
        refine wp_regy_seq tok (orc := orcL []) (fz := []) (l := [1, 2, 4, 5, 6, 7, 8, 9]) (c := _) ([], [], [], []) 10 (.inr fun i h => h) h (by kernel_rfl) (by kernel_rfl) (AllP.cons hc127 (AllP.cons hc128 AllP.nil)) ?_
        intro a w h
        obtain ⟨hc126, hF⟩ := of_if hF
        refine wp_reg_seq tok (orc := orcL []) (fz := []) (l := [1, 2, 4, 5, 6, 7, 8, 9]) (c := _) (.inr fun i h => h) h (by kernel_rfl) (AllP.cons hc126 AllP.nil) ?_
        intro a w h
        obtain ⟨hc125, hF⟩ := of_if hF
        refine wp_reg tok (orc := orcL []) (fz := []) (l := [1, 2, 4, 5, 6, 7, 8, 9]) (c := _) (.inr fun i h => h) h (by kernel_rfl) (AllP.cons hc125 AllP.nil) ?_
        intro a w h
        exact ⟨((List.set (List.set v111 (Int.toNat v114) (-1 : Int)) (Int.toNat v114) (List.getD x0.2.1 (Int.toNat v114) ((0 : Int), ((0 : Int), ((0 : Int), ((0 : Int), ((0 : Int), (⟨#[]⟩ : ByteArray))))))).2.2.2.1), (List.set v112 (Int.toNat v114) (1 : Int)), (v113 ++ [v114])), hF, h.arrive (fz := []) (l := [1, 2, 4, 5, 6, 7, 8, 9]) (.inr fun i h => h) (by kernel_rfl)⟩
      · replace hF := of_f hb hF
        refine wp_skip ?_
        exact ⟨((List.set v111 (Int.toNat v114) (-1 : Int)), v112, v113), hF, h.arrive (fz := []) (l := [1, 2, 4, 5, 6, 7, 8, 9]) (.inr fun i h => h) (by kernel_rfl)⟩
    · rintro a w ⟨v, hF, h⟩
      obtain ⟨v121, v122, v123⟩ := v
      rw [f111.j124] at hF
      refine wp_reg tok (orc := orcL []) (fz := []) (l := [1, 2, 4, 5, 6, 7, 8, 9]) (c := _) (.inr fun i h => h) h (by kernel_rfl) (AllP.nil) ?_
      intro a w h
      exact ⟨(v121, v122, v123, (IntKind.i64.wrap (v114 + (1 : Int)))), hF, h.arrive (fz := []) (l := [1, 2, 4, 5, 6, 7, 8, 9]) (.inr fun i h => h) (by kernel_rfl)⟩
  · replace hF := of_f hb hF
    refine wp_exit ?_
    obtain ⟨r131, hr2338, hF⟩ := of_bind hF
    refine wp_reg_seq tok (orc := orcL [(68, [⟨sh16, r131⟩])]) (fz := []) (l := [2, 4, 6, 7, 8, 10]) (c := _) (.inr fun i h => h) h (by kernel_rfl) (AllP.cons (c73 k x0 true r131 hr2338) AllP.nil) ?_
    intro a w h
    refine wp_seq <| wp_block ?_
    refine wp_loop_fuel (f111.l1235 k x0 r131) (fun ((v1972, v1973, v1974, v1975) : ((List Int) × (List Int) × (List Bool) × (List Int))) => [(2, .val sh11 (some x0)), (4, .val sh15 (some (([] : (List Int)), ([] : (List Int))))), (6, .val sh15 (some (v1972, v1973))), (7, .val (.sl true 4 .bool) v1974), (8, .val (.sl true 2 (.int .i64)) v1975), (10, .val sh16 r131)]) (fun v h => by obtain ⟨v1972, v1973, v1974, v1975⟩ := v; rw [f111.l1235] at h; cases h) ?_ hF (h.arrive (fz := []) (l := [2, 4, 6, 7, 8, 10]) (.inr fun i h => h) (by kernel_rfl))
    intro m1235 v a w hF h
    obtain ⟨v1972, v1973, v1974, v1975⟩ := v
    rw [f111.l1235] at hF
    refine wp_seq ?_
    refine wp_reg_seq tok (orc := orcL []) (fz := []) (l := [2, 4, 6, 7, 8, 10, 71]) (c := _) (.inr fun i h => h) h (by kernel_rfl) (AllP.nil) ?_
    intro a w h
    refine wp_if h (b := (decide (((List.length v1975 : Int) : Int) > (0 : Int)))) (by kernel_rfl) (fun hb => ?_) (fun hb => ?_)
    · replace hF := of_t hb hF
      refine wp_skip ?_
      refine wp_block ?_
      refine wp_reg_seq tok (orc := orcL []) (fz := []) (l := [2, 4, 6, 7, 8, 10, 11]) (c := _) (.inr fun i h => h) h (by kernel_rfl) (AllP.nil) ?_
      intro a w h
      refine wp_seq ?_
      refine wp_reg_seq tok (orc := orcL []) (fz := []) (l := [2, 4, 6, 7, 8, 10, 11, 12]) (c := _) (.inr fun i h => h) h (by kernel_rfl) (AllP.nil) ?_
      intro a w h
      refine wp_block ?_
      refine wp_loop_fuel (f111.l2051 k v1975 v1972 v1973 v1974 x0 r131 ((f111.l1235 k x0 r131) m1235)) (fun ((v2102, v2103) : (Int × Int)) => [(2, .val sh11 (some x0)), (4, .val sh15 (some (([] : (List Int)), ([] : (List Int))))), (6, .val sh15 (some (v1972, v1973))), (7, .val (.sl true 4 .bool) v1974), (8, .val (.sl true 2 (.int .i64)) v1975), (10, .val sh16 r131), (11, .val (.int .i64) v2102), (12, .val (.int .i64) v2103)]) (fun v h => by obtain ⟨v2102, v2103⟩ := v; rw [f111.l2051] at h; cases h) ?_ hF (h.arrive (fz := []) (l := [2, 4, 6, 7, 8, 10, 11, 12]) (.inr fun i h => h) (by kernel_rfl))
      intro m2051 v a w hF h
      obtain ⟨v2102, v2103⟩ := v
      rw [f111.l2051] at hF
      refine wp_seq ?_
      refine wp_reg_seq tok (orc := orcL []) (fz := []) (l := [2, 4, 6, 7, 8, 10, 11, 12, 75]) (c := _) (.inr fun i h => h) h (by kernel_rfl) (AllP.nil) ?_
      intro a w h
      refine wp_if h (b := (decide ((v2103 : Int) < (List.length v1975 : Int)))) (by kernel_rfl) (fun hb => ?_) (fun hb => ?_)
      · replace hF := of_t hb hF
        refine wp_skip ?_
        refine wp_mid (fun a w => ∃ v : Int, f111.j2115 k v2103 ((f111.l2051 k v1975 v1972 v1973 v1974 x0 r131 ((f111.l1235 k x0 r131) m1235)) m2051) v = some r ∧ Rel w0 (fun _ => False) Zi Try.f111.ntmps ((fun (v2114 : Int) => ([(2, .val sh11 (some x0)), (4, .val sh15 (some (([] : (List Int)), ([] : (List Int))))), (6, .val sh15 (some (v1972, v1973))), (7, .val (.sl true 4 .bool) v1974), (8, .val (.sl true 2 (.int .i64)) v1975), (10, .val sh16 r131), (11, .val (.int .i64) v2114), (12, .val (.int .i64) v2103)] : SS)) v) a w) ?_ ?_
        ·
          refine wp_block ?_
          obtain ⟨hc2125, hF⟩ := of_if hF
          refine wp_reg_seq tok (orc := orcL []) (fz := []) (l := [2, 4, 6, 7, 8, 10, 11, 12, 13]) (c := _) (.inr fun i h => h) h (by kernel_rfl) (AllP.cons hc2125 AllP.nil) ?_
          intro a w h
          obtain ⟨hc2124, hF⟩ := of_if hF
          refine wp_reg_seq tok (orc := orcL []) (fz := []) (l := [2, 4, 6, 7, 8, 10, 11, 12, 13, 14]) (c := _) (.inr fun i h => h) h (by kernel_rfl) (AllP.cons hc2124 AllP.nil) ?_
          intro a w h
          obtain ⟨hc2118, hF⟩ := of_if hF
          obtain ⟨hc2119, hF⟩ := of_if hF
          obtain ⟨hc2120, hF⟩ := of_if hF
          obtain ⟨hc2121, hF⟩ := of_if hF
          obtain ⟨hc2122, hF⟩ := of_if hF
          obtain ⟨hc2123, hF⟩ := of_if hF
          refine wp_regy_seq tok (orc := orcL []) (fz := []) (l := [2, 4, 6, 7, 8, 10, 11, 12, 122]) (c := _) ([], [], [], []) 37 (.inr fun i h => h) h (by kernel_rfl) (by kernel_rfl) (AllP.cons hc2118 (AllP.cons hc2119 (AllP.cons hc2120 (AllP.cons hc2121 (AllP.cons hc2122 (AllP.cons hc2123 AllP.nil)))))) ?_
          intro a w h
          obtain ⟨v2116, hv2117, hF⟩ := of_bind hF
          replace h := h.cast (S' := [(2, .val sh11 (some x0)), (4, .val sh15 (some (([] : (List Int)), ([] : (List Int))))), (6, .val sh15 (some (v1972, v1973))), (7, .val (.sl true 4 .bool) v1974), (8, .val (.sl true 2 (.int .i64)) v1975), (10, .val sh16 r131), (11, .val (.int .i64) v2102), (12, .val (.int .i64) v2103), (122, .val .bool v2116)]) (by cases hv2117; kernel_rfl)
          refine wp_if h (b := v2116) (by kernel_rfl) (fun hb => ?_) (fun hb => ?_)
          · replace hF := of_t hb hF
            refine wp_reg tok (orc := orcL []) (fz := []) (l := [2, 4, 6, 7, 8, 10, 11, 12]) (c := _) (.inr fun i h => h) h (by kernel_rfl) (AllP.nil) ?_
            intro a w h
            exact ⟨v2103, hF, h.arrive (fz := []) (l := [2, 4, 6, 7, 8, 10, 11, 12]) (.inr fun i h => h) (by kernel_rfl)⟩
          · replace hF := of_f hb hF
            refine wp_skip ?_
            exact ⟨v2102, hF, h.arrive (fz := []) (l := [2, 4, 6, 7, 8, 10, 11, 12]) (.inr fun i h => h) (by kernel_rfl)⟩
        · rintro a w ⟨v2114, hF, h⟩
          rw [f111.j2115] at hF
          refine wp_reg tok (orc := orcL []) (fz := []) (l := [2, 4, 6, 7, 8, 10, 11, 12]) (c := _) (.inr fun i h => h) h (by kernel_rfl) (AllP.nil) ?_
          intro a w h
          exact ⟨(v2114, (IntKind.i64.wrap (v2103 + (1 : Int)))), hF, h.arrive (fz := []) (l := [2, 4, 6, 7, 8, 10, 11, 12]) (.inr fun i h => h) (by kernel_rfl)⟩
      · replace hF := of_f hb hF
        refine wp_exit ?_
        obtain ⟨hc2337, hF⟩ := of_if hF
        refine wp_reg_seq tok (orc := orcL []) (fz := []) (l := [2, 4, 6, 7, 8, 10, 11, 15]) (c := _) (.inr fun i h => h) h (by kernel_rfl) (AllP.cons hc2337 AllP.nil) ?_
        intro a w h
        obtain ⟨hc2335, hF⟩ := of_if hF
        obtain ⟨hc2336, hF⟩ := of_if hF
        refine wp_reg_seq tok (orc := orcL []) (fz := []) (l := [2, 4, 6, 7, 8, 10, 15]) (c := _) (.inr fun i h => h) h (by kernel_rfl) (AllP.cons hc2335 (AllP.cons hc2336 AllP.nil)) ?_
        intro a w h
        obtain ⟨hc2334, hF⟩ := of_if hF
        refine wp_reg_seq tok (orc := orcL []) (fz := []) (l := [2, 4, 6, 7, 8, 10, 15]) (c := _) (.inr fun i h => h) h (by kernel_rfl) (AllP.cons hc2334 AllP.nil) ?_
        intro a w h
        obtain ⟨hc2333, hF⟩ := of_if hF
        refine wp_reg_seq tok (orc := orcL []) (fz := []) (l := [2, 4, 6, 7, 8, 10, 15]) (c := _) (.inr fun i h => h) h (by kernel_rfl) (AllP.cons hc2333 AllP.nil) ?_
        intro a w h
        obtain ⟨hc2331, hF⟩ := of_if hF
        obtain ⟨hc2332, hF⟩ := of_if hF
        refine wp_reg_seq tok (orc := orcL []) (fz := []) (l := [2, 4, 6, 7, 8, 10, 15, 16]) (c := _) (.inr fun i h => h) h (by kernel_rfl) (AllP.cons hc2331 (AllP.cons hc2332 AllP.nil)) ?_
        intro a w h
        refine wp_reg_seq tok (orc := orcL []) (fz := []) (l := [2, 4, 6, 7, 8, 10, 15, 16, 17]) (c := _) (.inr fun i h => h) h (by kernel_rfl) (AllP.nil) ?_
        intro a w h
        refine wp_block ?_
        refine wp_loop_fuel (f111.l2126 k r131 x0 v1975 v2102 v1974 ((f111.l1235 k x0 r131) m1235)) (fun ((v2267, v2268, v2269, v2270) : ((List Int) × (List Int) × (List Int) × Int)) => [(2, .val sh11 (some x0)), (4, .val sh15 (some (([] : (List Int)), ([] : (List Int))))), (6, .val sh15 (some (v2267, v2268))), (7, .val (.sl true 4 .bool) (List.set v1974 (Int.toNat (List.getD v1975 (Int.toNat v2102) (0 : Int))) true)), (8, .val (.sl true 2 (.int .i64)) v2269), (10, .val sh16 r131), (15, .val (.int .i64) (List.getD v1975 (Int.toNat v2102) (0 : Int))), (16, .copy 10 [.idx (Int.toNat (List.getD x0.2.1 (Int.toNat (List.getD v1975 (Int.toNat v2102) (0 : Int))) ((0 : Int), ((0 : Int), ((0 : Int), ((0 : Int), ((0 : Int), (⟨#[]⟩ : ByteArray))))))).1)]), (17, .val (.int .i64) v2270)]) (fun v h => by obtain ⟨v2267, v2268, v2269, v2270⟩ := v; rw [f111.l2126] at h; cases h) ?_ hF (h.arrive (fz := []) (l := [2, 4, 6, 7, 8, 10, 15, 16, 17]) (.inr fun i h => h) (by kernel_rfl))
        intro m2126 v a w hF h
        obtain ⟨v2267, v2268, v2269, v2270⟩ := v
        rw [f111.l2126] at hF
        refine wp_seq ?_
        refine wp_reg_seq tok (orc := orcL []) (fz := []) (l := [2, 4, 6, 7, 8, 10, 15, 16, 17, 157]) (c := _) (.inr fun i h => h) h (by kernel_rfl) (AllP.nil) ?_
        intro a w h
        refine wp_if h (b := (decide ((v2270 : Int) < (List.length (List.getD r131 (Int.toNat (List.getD x0.2.1 (Int.toNat (List.getD v1975 (Int.toNat v2102) (0 : Int))) ((0 : Int), ((0 : Int), ((0 : Int), ((0 : Int), ((0 : Int), (⟨#[]⟩ : ByteArray))))))).1) ([] : (List Int))) : Int)))) (by kernel_rfl) (fun hb => ?_) (fun hb => ?_)
        · replace hF := of_t hb hF
          refine wp_skip ?_
          refine wp_mid (fun a w => ∃ v : ((List Int) × (List Int) × (List Int)), f111.j2302 k v2270 ((f111.l2126 k r131 x0 v1975 v2102 v1974 ((f111.l1235 k x0 r131) m1235)) m2126) v = some r ∧ Rel w0 (fun _ => False) Zi Try.f111.ntmps ((fun ((v2299, v2300, v2301) : ((List Int) × (List Int) × (List Int))) => ([(2, .val sh11 (some x0)), (4, .val sh15 (some (([] : (List Int)), ([] : (List Int))))), (6, .val sh15 (some (v2299, v2300))), (7, .val (.sl true 4 .bool) (List.set v1974 (Int.toNat (List.getD v1975 (Int.toNat v2102) (0 : Int))) true)), (8, .val (.sl true 2 (.int .i64)) v2301), (10, .val sh16 r131), (15, .val (.int .i64) (List.getD v1975 (Int.toNat v2102) (0 : Int))), (16, .copy 10 [.idx (Int.toNat (List.getD x0.2.1 (Int.toNat (List.getD v1975 (Int.toNat v2102) (0 : Int))) ((0 : Int), ((0 : Int), ((0 : Int), ((0 : Int), ((0 : Int), (⟨#[]⟩ : ByteArray))))))).1)]), (17, .val (.int .i64) v2270)] : SS)) v) a w) ?_ ?_
          ·
            refine wp_block ?_
            obtain ⟨hc2330, hF⟩ := of_if hF
            refine wp_reg_seq tok (orc := orcL []) (fz := []) (l := [2, 4, 6, 7, 8, 10, 15, 16, 17, 18]) (c := _) (.inr fun i h => h) h (by kernel_rfl) (AllP.cons hc2330 AllP.nil) ?_
            intro a w h
            obtain ⟨r2303, hr2329, hF⟩ := of_bind hF
            refine wp_reg_seq tok (orc := orcL [(167, [⟨(.int .i64), r2303⟩])]) (fz := []) (l := [2, 4, 6, 7, 8, 10, 15, 16, 17, 18, 19]) (c := _) (.inr fun i h => h) h (by kernel_rfl) (AllP.cons (c162 k x0 (List.getD (List.getD r131 (Int.toNat (List.getD x0.2.1 (Int.toNat (List.getD v1975 (Int.toNat v2102) (0 : Int))) ((0 : Int), ((0 : Int), ((0 : Int), ((0 : Int), ((0 : Int), (⟨#[]⟩ : ByteArray))))))).1) ([] : (List Int))) (Int.toNat v2270) (0 : Int)) (List.getD v1975 (Int.toNat v2102) (0 : Int)) r2303 hr2329) AllP.nil) ?_
            intro a w h
            refine wp_seq ?_
            obtain ⟨hc2328, hF⟩ := of_if hF
            refine wp_reg_seq tok (orc := orcL []) (fz := []) (l := [2, 4, 6, 7, 8, 10, 15, 16, 17, 18, 19, 175]) (c := _) (.inr fun i h => h) h (by kernel_rfl) (AllP.cons hc2328 AllP.nil) ?_
            intro a w h
            refine wp_if h (b := (bif (List.getD (List.set v1974 (Int.toNat (List.getD v1975 (Int.toNat v2102) (0 : Int))) true) (Int.toNat (List.getD (List.getD r131 (Int.toNat (List.getD x0.2.1 (Int.toNat (List.getD v1975 (Int.toNat v2102) (0 : Int))) ((0 : Int), ((0 : Int), ((0 : Int), ((0 : Int), ((0 : Int), (⟨#[]⟩ : ByteArray))))))).1) ([] : (List Int))) (Int.toNat v2270) (0 : Int))) false) then true else (decide ((r2303 : Int) < (0 : Int))))) (by kernel_rfl) (fun hb => ?_) (fun hb => ?_)
            · replace hF := of_t hb hF
              refine wp_exit ?_
              exact ⟨(v2267, v2268, v2269), hF, h.arrive (fz := []) (l := [2, 4, 6, 7, 8, 10, 15, 16, 17]) (.inr fun i h => h) (by kernel_rfl)⟩
            · replace hF := of_f hb hF
              refine wp_skip ?_
              obtain ⟨hc2326, hF⟩ := of_if hF
              obtain ⟨hc2327, hF⟩ := of_if hF
              refine wp_regy_seq tok (orc := orcL []) (fz := []) (l := [2, 4, 6, 7, 8, 10, 15, 16, 17, 18, 20]) (c := _) ([], [], [], []) 15 (.inr fun i h => h) h (by kernel_rfl) (by kernel_rfl) (AllP.cons hc2326 (AllP.cons hc2327 AllP.nil)) ?_
              intro a w h
              obtain ⟨v2304, hv2325, hF⟩ := of_bind hF
              replace h := h.cast (S' := [(2, .val sh11 (some x0)), (4, .val sh15 (some (([] : (List Int)), ([] : (List Int))))), (6, .val sh15 (some (v2267, v2268))), (7, .val (.sl true 4 .bool) (List.set v1974 (Int.toNat (List.getD v1975 (Int.toNat v2102) (0 : Int))) true)), (8, .val (.sl true 2 (.int .i64)) v2269), (10, .val sh16 r131), (15, .val (.int .i64) (List.getD v1975 (Int.toNat v2102) (0 : Int))), (16, .copy 10 [.idx (Int.toNat (List.getD x0.2.1 (Int.toNat (List.getD v1975 (Int.toNat v2102) (0 : Int))) ((0 : Int), ((0 : Int), ((0 : Int), ((0 : Int), ((0 : Int), (⟨#[]⟩ : ByteArray))))))).1)]), (17, .val (.int .i64) v2270), (18, .val (.int .i64) (List.getD (List.getD r131 (Int.toNat (List.getD x0.2.1 (Int.toNat (List.getD v1975 (Int.toNat v2102) (0 : Int))) ((0 : Int), ((0 : Int), ((0 : Int), ((0 : Int), ((0 : Int), (⟨#[]⟩ : ByteArray))))))).1) ([] : (List Int))) (Int.toNat v2270) (0 : Int))), (20, .val (.int .i64) v2304)]) (by cases hv2325; kernel_rfl)
              refine wp_seq ?_
              obtain ⟨hc2324, hF⟩ := of_if hF
              refine wp_reg_seq tok (orc := orcL []) (fz := []) (l := [2, 4, 6, 7, 8, 10, 15, 16, 17, 18, 20, 195]) (c := _) (.inr fun i h => h) h (by kernel_rfl) (AllP.cons hc2324 AllP.nil) ?_
              intro a w h
              refine wp_midT (fun a w => ∃ v : (List Int), f111.j2313 k r131 x0 v1975 v2102 v2270 v2267 v2268 v2304 (f111.j2302 k v2270 ((f111.l2126 k r131 x0 v1975 v2102 v1974 ((f111.l1235 k x0 r131) m1235)) m2126)) v = some r ∧ Rel w0 (fun _ => False) Zi Try.f111.ntmps ((fun (v2312 : (List Int)) => ([(2, .val sh11 (some x0)), (4, .val sh15 (some (([] : (List Int)), ([] : (List Int))))), (6, .val sh15 (some (v2267, v2268))), (7, .val (.sl true 4 .bool) (List.set v1974 (Int.toNat (List.getD v1975 (Int.toNat v2102) (0 : Int))) true)), (8, .val (.sl true 2 (.int .i64)) v2312), (10, .val sh16 r131), (15, .val (.int .i64) (List.getD v1975 (Int.toNat v2102) (0 : Int))), (16, .copy 10 [.idx (Int.toNat (List.getD x0.2.1 (Int.toNat (List.getD v1975 (Int.toNat v2102) (0 : Int))) ((0 : Int), ((0 : Int), ((0 : Int), ((0 : Int), ((0 : Int), (⟨#[]⟩ : ByteArray))))))).1)]), (17, .val (.int .i64) v2270), (18, .val (.int .i64) (List.getD (List.getD r131 (Int.toNat (List.getD x0.2.1 (Int.toNat (List.getD v1975 (Int.toNat v2102) (0 : Int))) ((0 : Int), ((0 : Int), ((0 : Int), ((0 : Int), ((0 : Int), (⟨#[]⟩ : ByteArray))))))).1) ([] : (List Int))) (Int.toNat v2270) (0 : Int))), (20, .val (.int .i64) v2304)] : SS)) v) a w) ?_ ?_
              ·
                refine wp_if h (b := (decide (((List.getD v2267 (Int.toNat (List.getD (List.getD r131 (Int.toNat (List.getD x0.2.1 (Int.toNat (List.getD v1975 (Int.toNat v2102) (0 : Int))) ((0 : Int), ((0 : Int), ((0 : Int), ((0 : Int), ((0 : Int), (⟨#[]⟩ : ByteArray))))))).1) ([] : (List Int))) (Int.toNat v2270) (0 : Int))) (0 : Int)) : Int) < (0 : Int)))) (by kernel_rfl) (fun hb => ?_) (fun hb => ?_)
                · replace hF := of_t hb hF
                  obtain ⟨hc2317, hF⟩ := of_if hF
                  refine wp_reg tok (orc := orcL []) (fz := []) (l := [2, 4, 6, 7, 8, 10, 15, 16, 17, 18, 20]) (c := _) (.inr fun i h => h) h (by kernel_rfl) (AllP.cons hc2317 AllP.nil) ?_
                  intro a w h
                  exact ⟨(v2269 ++ [(List.getD (List.getD r131 (Int.toNat (List.getD x0.2.1 (Int.toNat (List.getD v1975 (Int.toNat v2102) (0 : Int))) ((0 : Int), ((0 : Int), ((0 : Int), ((0 : Int), ((0 : Int), (⟨#[]⟩ : ByteArray))))))).1) ([] : (List Int))) (Int.toNat v2270) (0 : Int))]), hF, h.arrive (fz := []) (l := [2, 4, 6, 7, 8, 10, 15, 16, 17, 18, 20]) (.inr fun i h => h) (by kernel_rfl)⟩
                · replace hF := of_f hb hF
                  obtain ⟨hc2320, hF⟩ := of_if hF
                  obtain ⟨hc2321, hF⟩ := of_if hF
                  obtain ⟨hc2322, hF⟩ := of_if hF
                  obtain ⟨hc2323, hF⟩ := of_if hF
                  refine wp_regy_seq tok (orc := orcL []) (fz := []) (l := [2, 4, 6, 7, 8, 10, 15, 16, 17, 18, 20, 229]) (c := _) ([], [], [], []) 30 (.inr fun i h => h) h (by kernel_rfl) (by kernel_rfl) (AllP.cons hc2320 (AllP.cons hc2321 (AllP.cons hc2322 (AllP.cons hc2323 AllP.nil)))) ?_
                  intro a w h
                  obtain ⟨v2318, hv2319, hF⟩ := of_bind hF
                  replace h := h.cast (S' := [(2, .val sh11 (some x0)), (4, .val sh15 (some (([] : (List Int)), ([] : (List Int))))), (6, .val sh15 (some (v2267, v2268))), (7, .val (.sl true 4 .bool) (List.set v1974 (Int.toNat (List.getD v1975 (Int.toNat v2102) (0 : Int))) true)), (8, .val (.sl true 2 (.int .i64)) v2269), (10, .val sh16 r131), (15, .val (.int .i64) (List.getD v1975 (Int.toNat v2102) (0 : Int))), (16, .copy 10 [.idx (Int.toNat (List.getD x0.2.1 (Int.toNat (List.getD v1975 (Int.toNat v2102) (0 : Int))) ((0 : Int), ((0 : Int), ((0 : Int), ((0 : Int), ((0 : Int), (⟨#[]⟩ : ByteArray))))))).1)]), (17, .val (.int .i64) v2270), (18, .val (.int .i64) (List.getD (List.getD r131 (Int.toNat (List.getD x0.2.1 (Int.toNat (List.getD v1975 (Int.toNat v2102) (0 : Int))) ((0 : Int), ((0 : Int), ((0 : Int), ((0 : Int), ((0 : Int), (⟨#[]⟩ : ByteArray))))))).1) ([] : (List Int))) (Int.toNat v2270) (0 : Int))), (20, .val (.int .i64) v2304), (229, .val .bool v2318)]) (by cases hv2319; kernel_rfl)
                  refine wp_if h (b := v2318) (by kernel_rfl) (fun hb => ?_) (fun hb => ?_)
                  · replace hF := of_t hb hF
                    refine wp_exit ?_
                    exact ⟨(v2267, v2268, v2269), hF, h.arrive (fz := []) (l := [2, 4, 6, 7, 8, 10, 15, 16, 17]) (.inr fun i h => h) (by kernel_rfl)⟩
                  · replace hF := of_f hb hF
                    refine wp_skip ?_
                    exact ⟨v2269, hF, h.arrive (fz := []) (l := [2, 4, 6, 7, 8, 10, 15, 16, 17, 18, 20]) (.inr fun i h => h) (by kernel_rfl)⟩
              · rintro a w ⟨v2312, hF, h⟩
                rw [f111.j2313] at hF
                obtain ⟨hc2316, hF⟩ := of_if hF
                refine wp_reg_seq tok (orc := orcL []) (fz := []) (l := [2, 4, 6, 7, 8, 10, 15, 16, 17, 18]) (c := _) (.inr fun i h => h) h (by kernel_rfl) (AllP.cons hc2316 AllP.nil) ?_
                intro a w h
                obtain ⟨hc2314, hF⟩ := of_if hF
                obtain ⟨hc2315, hF⟩ := of_if hF
                refine wp_regy tok (orc := orcL []) (fz := []) (l := [2, 4, 6, 7, 8, 10, 15, 16, 17]) (c := _) ([], [], [], []) 10 (.inr fun i h => h) h (by kernel_rfl) (by kernel_rfl) (AllP.cons hc2314 (AllP.cons hc2315 AllP.nil)) ?_
                intro a w h
                exact ⟨((List.set v2267 (Int.toNat (List.getD (List.getD r131 (Int.toNat (List.getD x0.2.1 (Int.toNat (List.getD v1975 (Int.toNat v2102) (0 : Int))) ((0 : Int), ((0 : Int), ((0 : Int), ((0 : Int), ((0 : Int), (⟨#[]⟩ : ByteArray))))))).1) ([] : (List Int))) (Int.toNat v2270) (0 : Int))) v2304), (List.set v2268 (Int.toNat (List.getD (List.getD r131 (Int.toNat (List.getD x0.2.1 (Int.toNat (List.getD v1975 (Int.toNat v2102) (0 : Int))) ((0 : Int), ((0 : Int), ((0 : Int), ((0 : Int), ((0 : Int), (⟨#[]⟩ : ByteArray))))))).1) ([] : (List Int))) (Int.toNat v2270) (0 : Int))) (IntKind.i64.wrap ((List.getD v2268 (Int.toNat (List.getD v1975 (Int.toNat v2102) (0 : Int))) (0 : Int)) + (1 : Int)))), v2312), hF, h.arrive (fz := []) (l := [2, 4, 6, 7, 8, 10, 15, 16, 17]) (.inr fun i h => h) (by kernel_rfl)⟩
          · rintro a w ⟨v, hF, h⟩
            obtain ⟨v2299, v2300, v2301⟩ := v
            rw [f111.j2302] at hF
            refine wp_reg tok (orc := orcL []) (fz := []) (l := [2, 4, 6, 7, 8, 10, 15, 16, 17]) (c := _) (.inr fun i h => h) h (by kernel_rfl) (AllP.nil) ?_
            intro a w h
            exact ⟨(v2299, v2300, v2301, (IntKind.i64.wrap (v2270 + (1 : Int)))), hF, h.arrive (fz := []) (l := [2, 4, 6, 7, 8, 10, 15, 16, 17]) (.inr fun i h => h) (by kernel_rfl)⟩
        · replace hF := of_f hb hF
          refine wp_exit ?_
          exact ⟨(v2267, v2268, (List.set v1974 (Int.toNat (List.getD v1975 (Int.toNat v2102) (0 : Int))) true), v2269), hF, h.arrive (fz := []) (l := [2, 4, 6, 7, 8, 10]) (.inr fun i h => h) (by kernel_rfl)⟩
    · replace hF := of_f hb hF
      refine wp_exit ?_
      refine wp_reg_seq tok (orc := orcL []) (fz := []) (l := [4]) (c := _) (.inr fun i h => h) h (by kernel_rfl) (AllP.nil) ?_
      intro a w h
      cases hF
      exact wp_ret (ret_okR tok h rfl (by kernel_rfl)).1

def f184.j143 (k : Nat) (v131 : Int) (q77 : (Int × Int × Int) → Option Int) : (Int × Int) → Option Int
  | (v141, v142) => q77 (v141, v142, (IntKind.i64.wrap (v131 + (1 : Int))))
def f184.l77 (k : Nat) (x1 : (List Int)) (x0 : ((List Int) × (List Int))) (x2 : (List Int)) : Nat → (Int × Int × Int) → Option Int
  | 0, _ => none
  | m77 + 1, (v129, v130, v131) => if (decide ((v131 : Int) < (List.length x1 : Int))) then (if (0 ≤ v131 ∧ v131 < (List.length x1 : Int)) then (if (0 ≤ (List.getD x1 (Int.toNat v131) (0 : Int)) ∧ (List.getD x1 (Int.toNat v131) (0 : Int)) < (List.length x0.1 : Int)) then (if (((decide (((List.getD x0.1 (Int.toNat (List.getD x1 (Int.toNat v131) (0 : Int))) (0 : Int)) : Int) < (0 : Int))) = false) → (0 ≤ v131 ∧ v131 < (List.length x2 : Int))) then (if (bif (decide (((List.getD x0.1 (Int.toNat (List.getD x1 (Int.toNat v131) (0 : Int))) (0 : Int)) : Int) < (0 : Int))) then true else (decide (((List.getD x2 (Int.toNat v131) (0 : Int)) : Int) < (0 : Int)))) then (f184.j143 k v131 ((f184.l77 k x1 x0 x2) m77) (v129, v130)) else (if (0 ≤ (List.getD x1 (Int.toNat v131) (0 : Int)) ∧ (List.getD x1 (Int.toNat v131) (0 : Int)) < (List.length x0.1 : Int)) then (if (0 ≤ v131 ∧ v131 < (List.length x2 : Int)) then (if ((((bif (decide ((v129 : Int) < (0 : Int))) then true else (decide (((IntKind.i64.wrap ((List.getD x0.1 (Int.toNat (List.getD x1 (Int.toNat v131) (0 : Int))) (0 : Int)) + (List.getD x2 (Int.toNat v131) (0 : Int)))) : Int) < v130))) = false) ∧ ((((IntKind.i64.wrap ((List.getD x0.1 (Int.toNat (List.getD x1 (Int.toNat v131) (0 : Int))) (0 : Int)) + (List.getD x2 (Int.toNat v131) (0 : Int)))) : Int) == v130) = true)) → (0 ≤ (List.getD x1 (Int.toNat v131) (0 : Int)) ∧ (List.getD x1 (Int.toNat v131) (0 : Int)) < (List.length x0.2 : Int))) then (if ((((bif (decide ((v129 : Int) < (0 : Int))) then true else (decide (((IntKind.i64.wrap ((List.getD x0.1 (Int.toNat (List.getD x1 (Int.toNat v131) (0 : Int))) (0 : Int)) + (List.getD x2 (Int.toNat v131) (0 : Int)))) : Int) < v130))) = false) ∧ ((((IntKind.i64.wrap ((List.getD x0.1 (Int.toNat (List.getD x1 (Int.toNat v131) (0 : Int))) (0 : Int)) + (List.getD x2 (Int.toNat v131) (0 : Int)))) : Int) == v130) = true)) → (0 ≤ v129 ∧ v129 < (List.length x0.2 : Int))) then ((some ((bif (bif (decide ((v129 : Int) < (0 : Int))) then true else (decide (((IntKind.i64.wrap ((List.getD x0.1 (Int.toNat (List.getD x1 (Int.toNat v131) (0 : Int))) (0 : Int)) + (List.getD x2 (Int.toNat v131) (0 : Int)))) : Int) < v130))) then true else (bif (((IntKind.i64.wrap ((List.getD x0.1 (Int.toNat (List.getD x1 (Int.toNat v131) (0 : Int))) (0 : Int)) + (List.getD x2 (Int.toNat v131) (0 : Int)))) : Int) == v130) then (decide (((List.getD x0.2 (Int.toNat (List.getD x1 (Int.toNat v131) (0 : Int))) (0 : Int)) : Int) < (List.getD x0.2 (Int.toNat v129) (0 : Int)))) else false)) : Bool)).bind fun v144 => (if v144 then (f184.j143 k v131 ((f184.l77 k x1 x0 x2) m77) ((List.getD x1 (Int.toNat v131) (0 : Int)), (IntKind.i64.wrap ((List.getD x0.1 (Int.toNat (List.getD x1 (Int.toNat v131) (0 : Int))) (0 : Int)) + (List.getD x2 (Int.toNat v131) (0 : Int)))))) else (f184.j143 k v131 ((f184.l77 k x1 x0 x2) m77) (v129, v130)))) else none) else none) else none) else none)) else none) else none) else none) else (some v129)
def f184 (k : Nat) (x0 : ((List Int) × (List Int))) (x1 : (List Int)) (x2 : (List Int)) : Option Int := f184.l77 k x1 x0 x2 k ((-1 : Int), (0 : Int), (0 : Int))
set_option maxRecDepth 100000 in
/-- 'spec.l10Choose'. -/
theorem c184 (k : Nat) (x0 : ((List Int) × (List Int))) (x1 : (List Int)) (x2 : (List Int)) (r : Int) (hF : f184 k x0 x1 x2 = some r) : PCall Try.prog 184 [⟨sh20, x0⟩, ⟨(.sl false 2 (.int .i64)), x1⟩, ⟨(.sl false 2 (.int .i64)), x2⟩] [⟨(.int .i64), r⟩] := by
  refine pcall_intro Try.func184 rfl rfl (Nat.le_of_ble_eq_true rfl) ?_
  intro w0 Zi a w h
  rw [f184] at hF
  refine wp_reg_seq tok (orc := orcL []) (fz := []) (l := [1, 2, 3]) (c := _) (.inr fun i h => h) h (by kernel_rfl) (AllP.nil) ?_
  intro a w h
  refine wp_reg_seq tok (orc := orcL []) (fz := []) (l := [1, 2, 3, 7]) (c := _) (.inr fun i h => h) h (by kernel_rfl) (AllP.nil) ?_
  intro a w h
  refine wp_reg_seq tok (orc := orcL []) (fz := []) (l := [1, 2, 3, 7, 8]) (c := _) (.inr fun i h => h) h (by kernel_rfl) (AllP.nil) ?_
  intro a w h
  refine wp_seq ?_
  refine wp_reg_seq tok (orc := orcL []) (fz := []) (l := [1, 2, 3, 7, 8, 9]) (c := _) (.inr fun i h => h) h (by kernel_rfl) (AllP.nil) ?_
  intro a w h
  refine wp_block ?_
  refine wp_loop_fuel (f184.l77 k x1 x0 x2) (fun ((v129, v130, v131) : (Int × Int × Int)) => [(1, .val (.sl false 2 (.int .i64)) x1), (2, .val (.sl false 2 (.int .i64)) x2), (3, .val sh19 (some x0)), (7, .val (.int .i64) v129), (8, .val (.int .i64) v130), (9, .val (.int .i64) v131)]) (fun v h => by obtain ⟨v129, v130, v131⟩ := v; rw [f184.l77] at h; cases h) ?_ hF (h.arrive (fz := []) (l := [1, 2, 3, 7, 8, 9]) (.inr fun i h => h) (by kernel_rfl))
  intro m77 v a w hF h
  obtain ⟨v129, v130, v131⟩ := v
  rw [f184.l77] at hF
  refine wp_seq ?_
  refine wp_reg_seq tok (orc := orcL []) (fz := []) (l := [1, 2, 3, 7, 8, 9, 15]) (c := _) (.inr fun i h => h) h (by kernel_rfl) (AllP.nil) ?_
  intro a w h
  refine wp_if h (b := (decide ((v131 : Int) < (List.length x1 : Int)))) (by kernel_rfl) (fun hb => ?_) (fun hb => ?_)
  · replace hF := of_t hb hF
    refine wp_skip ?_
    refine wp_mid (fun a w => ∃ v : (Int × Int), f184.j143 k v131 ((f184.l77 k x1 x0 x2) m77) v = some r ∧ Rel w0 (fun _ => False) Zi Try.f184.ntmps ((fun ((v141, v142) : (Int × Int)) => ([(1, .val (.sl false 2 (.int .i64)) x1), (2, .val (.sl false 2 (.int .i64)) x2), (3, .val sh19 (some x0)), (7, .val (.int .i64) v141), (8, .val (.int .i64) v142), (9, .val (.int .i64) v131)] : SS)) v) a w) ?_ ?_
    ·
      refine wp_block ?_
      obtain ⟨hc152, hF⟩ := of_if hF
      refine wp_reg_seq tok (orc := orcL []) (fz := []) (l := [1, 2, 3, 7, 8, 9, 10]) (c := _) (.inr fun i h => h) h (by kernel_rfl) (AllP.cons hc152 AllP.nil) ?_
      intro a w h
      refine wp_seq ?_
      obtain ⟨hc150, hF⟩ := of_if hF
      obtain ⟨hc151, hF⟩ := of_if hF
      refine wp_reg_seq tok (orc := orcL []) (fz := []) (l := [1, 2, 3, 7, 8, 9, 10, 34]) (c := _) (.inr fun i h => h) h (by kernel_rfl) (AllP.cons hc150 (AllP.cons hc151 AllP.nil)) ?_
      intro a w h
      refine wp_if h (b := (bif (decide (((List.getD x0.1 (Int.toNat (List.getD x1 (Int.toNat v131) (0 : Int))) (0 : Int)) : Int) < (0 : Int))) then true else (decide (((List.getD x2 (Int.toNat v131) (0 : Int)) : Int) < (0 : Int))))) (by kernel_rfl) (fun hb => ?_) (fun hb => ?_)
      · replace hF := of_t hb hF
        refine wp_exit ?_
        exact ⟨(v129, v130), hF, h.arrive (fz := []) (l := [1, 2, 3, 7, 8, 9]) (.inr fun i h => h) (by kernel_rfl)⟩
      · replace hF := of_f hb hF
        refine wp_skip ?_
        obtain ⟨hc148, hF⟩ := of_if hF
        obtain ⟨hc149, hF⟩ := of_if hF
        refine wp_regy_seq tok (orc := orcL []) (fz := []) (l := [1, 2, 3, 7, 8, 9, 10, 11]) (c := _) ([], [], [], []) 11 (.inr fun i h => h) h (by kernel_rfl) (by kernel_rfl) (AllP.cons hc148 (AllP.cons hc149 AllP.nil)) ?_
        intro a w h
        obtain ⟨hc146, hF⟩ := of_if hF
        obtain ⟨hc147, hF⟩ := of_if hF
        refine wp_regy_seq tok (orc := orcL []) (fz := []) (l := [1, 2, 3, 7, 8, 9, 10, 11, 69]) (c := _) ([], [], [], []) 25 (.inr fun i h => h) h (by kernel_rfl) (by kernel_rfl) (AllP.cons hc146 (AllP.cons hc147 AllP.nil)) ?_
        intro a w h
        obtain ⟨v144, hv145, hF⟩ := of_bind hF
        replace h := h.cast (S' := [(1, .val (.sl false 2 (.int .i64)) x1), (2, .val (.sl false 2 (.int .i64)) x2), (3, .val sh19 (some x0)), (7, .val (.int .i64) v129), (8, .val (.int .i64) v130), (9, .val (.int .i64) v131), (10, .val (.int .i64) (List.getD x1 (Int.toNat v131) (0 : Int))), (11, .val (.int .i64) (IntKind.i64.wrap ((List.getD x0.1 (Int.toNat (List.getD x1 (Int.toNat v131) (0 : Int))) (0 : Int)) + (List.getD x2 (Int.toNat v131) (0 : Int))))), (69, .val .bool v144)]) (by cases hv145; kernel_rfl)
        refine wp_if h (b := v144) (by kernel_rfl) (fun hb => ?_) (fun hb => ?_)
        · replace hF := of_t hb hF
          refine wp_reg_seq tok (orc := orcL []) (fz := []) (l := [1, 2, 3, 7, 9, 11]) (c := _) (.inr fun i h => h) h (by kernel_rfl) (AllP.nil) ?_
          intro a w h
          refine wp_reg tok (orc := orcL []) (fz := []) (l := [1, 2, 3, 7, 8, 9]) (c := _) (.inr fun i h => h) h (by kernel_rfl) (AllP.nil) ?_
          intro a w h
          exact ⟨((List.getD x1 (Int.toNat v131) (0 : Int)), (IntKind.i64.wrap ((List.getD x0.1 (Int.toNat (List.getD x1 (Int.toNat v131) (0 : Int))) (0 : Int)) + (List.getD x2 (Int.toNat v131) (0 : Int))))), hF, h.arrive (fz := []) (l := [1, 2, 3, 7, 8, 9]) (.inr fun i h => h) (by kernel_rfl)⟩
        · replace hF := of_f hb hF
          refine wp_skip ?_
          exact ⟨(v129, v130), hF, h.arrive (fz := []) (l := [1, 2, 3, 7, 8, 9]) (.inr fun i h => h) (by kernel_rfl)⟩
    · rintro a w ⟨v, hF, h⟩
      obtain ⟨v141, v142⟩ := v
      rw [f184.j143] at hF
      refine wp_reg tok (orc := orcL []) (fz := []) (l := [1, 2, 3, 7, 8, 9]) (c := _) (.inr fun i h => h) h (by kernel_rfl) (AllP.nil) ?_
      intro a w h
      exact ⟨(v141, v142, (IntKind.i64.wrap (v131 + (1 : Int)))), hF, h.arrive (fz := []) (l := [1, 2, 3, 7, 8, 9]) (.inr fun i h => h) (by kernel_rfl)⟩
  · replace hF := of_f hb hF
    refine wp_exit ?_
    refine wp_reg_seq tok (orc := orcL []) (fz := []) (l := [6]) (c := _) (.inr fun i h => h) h (by kernel_rfl) (AllP.nil) ?_
    intro a w h
    cases hF
    exact wp_ret (ret_okR tok h rfl (by kernel_rfl)).1

def f110.j1317 (k : Nat) (x1 : ((List Int) × (List Int))) (r1 : Int) : ((List Int) × Int) → Option (Bool × ((List Int) × (Int × Int)))
  | (v1315, v1316) => some (true, (v1315, ((List.getD x1.1 (Int.toNat r1) (0 : Int)), v1316)))
def f110.j2612 (k : Nat) (v2591 : (List Int)) (v2592 : Int) (q2520 : ((List Int) × Int) → Option (Bool × ((List Int) × (Int × Int)))) : Int → Option (Bool × ((List Int) × (Int × Int)))
  | v2611 => if ((List.length v2591 + List.length [v2611]) * 8 ≤ 140737488355328) then (q2520 ((v2591 ++ [v2611]), (IntKind.i64.wrap (v2592 + (1 : Int))))) else none
def f110.l2520 (k : Nat) (x2 : (List (List Int))) (x0 : ((List (Int × (Int × Int))) × ((List (Int × (Int × (Int × (Int × (Int × ByteArray)))))) × (List (Int × Int))))) (v2195 : Int) (x1 : ((List Int) × (List Int))) (v2198 : Int) (v2196 : (List Int)) (v2197 : Int) (q1318 : (Int × (List Int) × Int × Int) → Option (Bool × ((List Int) × (Int × Int)))) : Nat → ((List Int) × Int) → Option (Bool × ((List Int) × (Int × Int)))
  | 0, _ => none
  | m2520 + 1, (v2591, v2592) => if (decide ((v2592 : Int) < (List.length (List.getD x2 (Int.toNat (List.getD x0.2.1 (Int.toNat v2195) ((0 : Int), ((0 : Int), ((0 : Int), ((0 : Int), ((0 : Int), (⟨#[]⟩ : ByteArray))))))).2.1) ([] : (List Int))) : Int))) then (if (0 ≤ v2592 ∧ v2592 < (List.length (List.getD x2 (Int.toNat (List.getD x0.2.1 (Int.toNat v2195) ((0 : Int), ((0 : Int), ((0 : Int), ((0 : Int), ((0 : Int), (⟨#[]⟩ : ByteArray))))))).2.1) ([] : (List Int))) : Int)) then ((f162 k x0 v2195 (List.getD (List.getD x2 (Int.toNat (List.getD x0.2.1 (Int.toNat v2195) ((0 : Int), ((0 : Int), ((0 : Int), ((0 : Int), ((0 : Int), (⟨#[]⟩ : ByteArray))))))).2.1) ([] : (List Int))) (Int.toNat v2592) (0 : Int))).bind fun r2609 => (if (0 ≤ v2592 ∧ v2592 < (List.length (List.getD x2 (Int.toNat (List.getD x0.2.1 (Int.toNat v2195) ((0 : Int), ((0 : Int), ((0 : Int), ((0 : Int), ((0 : Int), (⟨#[]⟩ : ByteArray))))))).2.1) ([] : (List Int))) : Int)) then (if (0 ≤ (List.getD (List.getD x2 (Int.toNat (List.getD x0.2.1 (Int.toNat v2195) ((0 : Int), ((0 : Int), ((0 : Int), ((0 : Int), ((0 : Int), (⟨#[]⟩ : ByteArray))))))).2.1) ([] : (List Int))) (Int.toNat v2592) (0 : Int)) ∧ (List.getD (List.getD x2 (Int.toNat (List.getD x0.2.1 (Int.toNat v2195) ((0 : Int), ((0 : Int), ((0 : Int), ((0 : Int), ((0 : Int), (⟨#[]⟩ : ByteArray))))))).2.1) ([] : (List Int))) (Int.toNat v2592) (0 : Int)) < (List.length x1.2 : Int)) then (if (((bif (((List.getD x1.2 (Int.toNat (List.getD (List.getD x2 (Int.toNat (List.getD x0.2.1 (Int.toNat v2195) ((0 : Int), ((0 : Int), ((0 : Int), ((0 : Int), ((0 : Int), (⟨#[]⟩ : ByteArray))))))).2.1) ([] : (List Int))) (Int.toNat v2592) (0 : Int))) (0 : Int)) : Int) != (IntKind.i64.wrap (v2198 - (1 : Int)))) then true else (decide ((r2609 : Int) < (0 : Int)))) = false) → (0 ≤ v2592 ∧ v2592 < (List.length (List.getD x2 (Int.toNat (List.getD x0.2.1 (Int.toNat v2195) ((0 : Int), ((0 : Int), ((0 : Int), ((0 : Int), ((0 : Int), (⟨#[]⟩ : ByteArray))))))).2.1) ([] : (List Int))) : Int))) then (if (((bif (((List.getD x1.2 (Int.toNat (List.getD (List.getD x2 (Int.toNat (List.getD x0.2.1 (Int.toNat v2195) ((0 : Int), ((0 : Int), ((0 : Int), ((0 : Int), ((0 : Int), (⟨#[]⟩ : ByteArray))))))).2.1) ([] : (List Int))) (Int.toNat v2592) (0 : Int))) (0 : Int)) : Int) != (IntKind.i64.wrap (v2198 - (1 : Int)))) then true else (decide ((r2609 : Int) < (0 : Int)))) = false) → (0 ≤ (List.getD (List.getD x2 (Int.toNat (List.getD x0.2.1 (Int.toNat v2195) ((0 : Int), ((0 : Int), ((0 : Int), ((0 : Int), ((0 : Int), (⟨#[]⟩ : ByteArray))))))).2.1) ([] : (List Int))) (Int.toNat v2592) (0 : Int)) ∧ (List.getD (List.getD x2 (Int.toNat (List.getD x0.2.1 (Int.toNat v2195) ((0 : Int), ((0 : Int), ((0 : Int), ((0 : Int), ((0 : Int), (⟨#[]⟩ : ByteArray))))))).2.1) ([] : (List Int))) (Int.toNat v2592) (0 : Int)) < (List.length x1.1 : Int))) then (if (((bif (bif (((List.getD x1.2 (Int.toNat (List.getD (List.getD x2 (Int.toNat (List.getD x0.2.1 (Int.toNat v2195) ((0 : Int), ((0 : Int), ((0 : Int), ((0 : Int), ((0 : Int), (⟨#[]⟩ : ByteArray))))))).2.1) ([] : (List Int))) (Int.toNat v2592) (0 : Int))) (0 : Int)) : Int) != (IntKind.i64.wrap (v2198 - (1 : Int)))) then true else (decide ((r2609 : Int) < (0 : Int)))) then true else (decide (((List.getD x1.1 (Int.toNat (List.getD (List.getD x2 (Int.toNat (List.getD x0.2.1 (Int.toNat v2195) ((0 : Int), ((0 : Int), ((0 : Int), ((0 : Int), ((0 : Int), (⟨#[]⟩ : ByteArray))))))).2.1) ([] : (List Int))) (Int.toNat v2592) (0 : Int))) (0 : Int)) : Int) < (0 : Int)))) = false) → (0 ≤ v2195 ∧ v2195 < (List.length x0.2.1 : Int))) then (if (((bif (bif (((List.getD x1.2 (Int.toNat (List.getD (List.getD x2 (Int.toNat (List.getD x0.2.1 (Int.toNat v2195) ((0 : Int), ((0 : Int), ((0 : Int), ((0 : Int), ((0 : Int), (⟨#[]⟩ : ByteArray))))))).2.1) ([] : (List Int))) (Int.toNat v2592) (0 : Int))) (0 : Int)) : Int) != (IntKind.i64.wrap (v2198 - (1 : Int)))) then true else (decide ((r2609 : Int) < (0 : Int)))) then true else (decide (((List.getD x1.1 (Int.toNat (List.getD (List.getD x2 (Int.toNat (List.getD x0.2.1 (Int.toNat v2195) ((0 : Int), ((0 : Int), ((0 : Int), ((0 : Int), ((0 : Int), (⟨#[]⟩ : ByteArray))))))).2.1) ([] : (List Int))) (Int.toNat v2592) (0 : Int))) (0 : Int)) : Int) < (0 : Int)))) = false) → (0 ≤ v2592 ∧ v2592 < (List.length (List.getD x2 (Int.toNat (List.getD x0.2.1 (Int.toNat v2195) ((0 : Int), ((0 : Int), ((0 : Int), ((0 : Int), ((0 : Int), (⟨#[]⟩ : ByteArray))))))).2.1) ([] : (List Int))) : Int))) then (if (((bif (bif (((List.getD x1.2 (Int.toNat (List.getD (List.getD x2 (Int.toNat (List.getD x0.2.1 (Int.toNat v2195) ((0 : Int), ((0 : Int), ((0 : Int), ((0 : Int), ((0 : Int), (⟨#[]⟩ : ByteArray))))))).2.1) ([] : (List Int))) (Int.toNat v2592) (0 : Int))) (0 : Int)) : Int) != (IntKind.i64.wrap (v2198 - (1 : Int)))) then true else (decide ((r2609 : Int) < (0 : Int)))) then true else (decide (((List.getD x1.1 (Int.toNat (List.getD (List.getD x2 (Int.toNat (List.getD x0.2.1 (Int.toNat v2195) ((0 : Int), ((0 : Int), ((0 : Int), ((0 : Int), ((0 : Int), (⟨#[]⟩ : ByteArray))))))).2.1) ([] : (List Int))) (Int.toNat v2592) (0 : Int))) (0 : Int)) : Int) < (0 : Int)))) = false) → (0 ≤ (List.getD (List.getD x2 (Int.toNat (List.getD x0.2.1 (Int.toNat v2195) ((0 : Int), ((0 : Int), ((0 : Int), ((0 : Int), ((0 : Int), (⟨#[]⟩ : ByteArray))))))).2.1) ([] : (List Int))) (Int.toNat v2592) (0 : Int)) ∧ (List.getD (List.getD x2 (Int.toNat (List.getD x0.2.1 (Int.toNat v2195) ((0 : Int), ((0 : Int), ((0 : Int), ((0 : Int), ((0 : Int), (⟨#[]⟩ : ByteArray))))))).2.1) ([] : (List Int))) (Int.toNat v2592) (0 : Int)) < (List.length x1.1 : Int))) then (if (((bif (bif (((List.getD x1.2 (Int.toNat (List.getD (List.getD x2 (Int.toNat (List.getD x0.2.1 (Int.toNat v2195) ((0 : Int), ((0 : Int), ((0 : Int), ((0 : Int), ((0 : Int), (⟨#[]⟩ : ByteArray))))))).2.1) ([] : (List Int))) (Int.toNat v2592) (0 : Int))) (0 : Int)) : Int) != (IntKind.i64.wrap (v2198 - (1 : Int)))) then true else (decide ((r2609 : Int) < (0 : Int)))) then true else (decide (((List.getD x1.1 (Int.toNat (List.getD (List.getD x2 (Int.toNat (List.getD x0.2.1 (Int.toNat v2195) ((0 : Int), ((0 : Int), ((0 : Int), ((0 : Int), ((0 : Int), (⟨#[]⟩ : ByteArray))))))).2.1) ([] : (List Int))) (Int.toNat v2592) (0 : Int))) (0 : Int)) : Int) < (0 : Int)))) = false) → (0 ≤ v2195 ∧ v2195 < (List.length x1.1 : Int))) then ((some ((bif (bif (bif (((List.getD x1.2 (Int.toNat (List.getD (List.getD x2 (Int.toNat (List.getD x0.2.1 (Int.toNat v2195) ((0 : Int), ((0 : Int), ((0 : Int), ((0 : Int), ((0 : Int), (⟨#[]⟩ : ByteArray))))))).2.1) ([] : (List Int))) (Int.toNat v2592) (0 : Int))) (0 : Int)) : Int) != (IntKind.i64.wrap (v2198 - (1 : Int)))) then true else (decide ((r2609 : Int) < (0 : Int)))) then true else (decide (((List.getD x1.1 (Int.toNat (List.getD (List.getD x2 (Int.toNat (List.getD x0.2.1 (Int.toNat v2195) ((0 : Int), ((0 : Int), ((0 : Int), ((0 : Int), ((0 : Int), (⟨#[]⟩ : ByteArray))))))).2.1) ([] : (List Int))) (Int.toNat v2592) (0 : Int))) (0 : Int)) : Int) < (0 : Int)))) then true else (((IntKind.i64.wrap ((IntKind.i64.wrap ((List.getD x0.2.1 (Int.toNat v2195) ((0 : Int), ((0 : Int), ((0 : Int), ((0 : Int), ((0 : Int), (⟨#[]⟩ : ByteArray))))))).2.2.2.1 + r2609)) + (List.getD x1.1 (Int.toNat (List.getD (List.getD x2 (Int.toNat (List.getD x0.2.1 (Int.toNat v2195) ((0 : Int), ((0 : Int), ((0 : Int), ((0 : Int), ((0 : Int), (⟨#[]⟩ : ByteArray))))))).2.1) ([] : (List Int))) (Int.toNat v2592) (0 : Int))) (0 : Int)))) : Int) != (List.getD x1.1 (Int.toNat v2195) (0 : Int)))) : Bool)).bind fun v2610 => (if v2610 then (f110.j2612 k v2591 v2592 ((f110.l2520 k x2 x0 v2195 x1 v2198 v2196 v2197 q1318) m2520) (-1 : Int)) else (f110.j2612 k v2591 v2592 ((f110.l2520 k x2 x0 v2195 x1 v2198 v2196 v2197 q1318) m2520) r2609))) else none) else none) else none) else none) else none) else none) else none) else none)) else none) else ((f184 k x1 (List.getD x2 (Int.toNat (List.getD x0.2.1 (Int.toNat v2195) ((0 : Int), ((0 : Int), ((0 : Int), ((0 : Int), ((0 : Int), (⟨#[]⟩ : ByteArray))))))).2.1) ([] : (List Int))) v2591).bind fun r2625 => (q1318 (r2625, (List.append v2196 [v2195]), (IntKind.i64.wrap (v2197 + (List.getD x0.2.1 (Int.toNat v2195) ((0 : Int), ((0 : Int), ((0 : Int), ((0 : Int), ((0 : Int), (⟨#[]⟩ : ByteArray))))))).2.2.2.2.1)), (IntKind.i64.wrap (v2198 - (1 : Int))))))
def f110.l1318 (k : Nat) (x0 : ((List (Int × (Int × Int))) × ((List (Int × (Int × (Int × (Int × (Int × ByteArray)))))) × (List (Int × Int))))) (x2 : (List (List Int))) (x1 : ((List Int) × (List Int))) (q1317 : ((List Int) × Int) → Option (Bool × ((List Int) × (Int × Int)))) : Nat → (Int × (List Int) × Int × Int) → Option (Bool × ((List Int) × (Int × Int)))
  | 0, _ => none
  | m1318 + 1, (v2195, v2196, v2197, v2198) => if (decide ((v2198 : Int) > (0 : Int))) then (if ((List.length v2196 + List.length [v2195]) * 8 ≤ 140737488355328) then (if (0 ≤ v2195 ∧ v2195 < (List.length x0.2.1 : Int)) then (if ((v2198 : Int) == (1 : Int)) then (q1317 ((List.append v2196 [v2195]), (IntKind.i64.wrap (v2197 + (List.getD x0.2.1 (Int.toNat v2195) ((0 : Int), ((0 : Int), ((0 : Int), ((0 : Int), ((0 : Int), (⟨#[]⟩ : ByteArray))))))).2.2.2.2.1)))) else (if (0 ≤ v2195 ∧ v2195 < (List.length x0.2.1 : Int)) then (if (0 ≤ (List.getD x0.2.1 (Int.toNat v2195) ((0 : Int), ((0 : Int), ((0 : Int), ((0 : Int), ((0 : Int), (⟨#[]⟩ : ByteArray))))))).2.1 ∧ (List.getD x0.2.1 (Int.toNat v2195) ((0 : Int), ((0 : Int), ((0 : Int), ((0 : Int), ((0 : Int), (⟨#[]⟩ : ByteArray))))))).2.1 < (List.length x2 : Int)) then (f110.l2520 k x2 x0 v2195 x1 v2198 v2196 v2197 ((f110.l1318 k x0 x2 x1 q1317) m1318) k (([] : List Int), (0 : Int))) else none) else none)) else none) else none) else (q1317 (v2196, v2197))
def f110 (k : Nat) (x0 : ((List (Int × (Int × Int))) × ((List (Int × (Int × (Int × (Int × (Int × ByteArray)))))) × (List (Int × Int))))) (x1 : ((List Int) × (List Int))) (x2 : (List (List Int))) (x3 : Int) (x4 : Int) : Option (Bool × ((List Int) × (Int × Int))) := if ((x3 : Int) == x4) then (some (true, (([] : (List Int)), ((0 : Int), (0 : Int))))) else (if (0 ≤ x3 ∧ x3 < (List.length x2 : Int)) then (if (0 ≤ x3 ∧ x3 < (List.length x2 : Int)) then (if (0 ≤ (List.length (List.getD x2 (Int.toNat x3) ([] : (List Int))) : Int) ∧ Int.toNat (List.length (List.getD x2 (Int.toNat x3) ([] : (List Int))) : Int) * 8 ≤ 140737488355328) then ((f184 k x1 (List.getD x2 (Int.toNat x3) ([] : (List Int))) (List.replicate (Int.toNat (List.length (List.getD x2 (Int.toNat x3) ([] : (List Int))) : Int)) (0 : Int))).bind fun r1 => (if (decide ((r1 : Int) < (0 : Int))) then (some (false, (([] : (List Int)), ((0 : Int), (0 : Int))))) else (if (0 ≤ r1 ∧ r1 < (List.length x1.1 : Int)) then (if (0 ≤ r1 ∧ r1 < (List.length x1.2 : Int)) then (f110.l1318 k x0 x2 x1 (f110.j1317 k x1 r1) k (r1, ([] : (List Int)), (0 : Int), (List.getD x1.2 (Int.toNat r1) (0 : Int)))) else none) else none))) else none) else none) else none)
set_option maxRecDepth 100000 in
/-- 'spec.l10Best'. -/
theorem c110 (k : Nat) (x0 : ((List (Int × (Int × Int))) × ((List (Int × (Int × (Int × (Int × (Int × ByteArray)))))) × (List (Int × Int))))) (x1 : ((List Int) × (List Int))) (x2 : (List (List Int))) (x3 : Int) (x4 : Int) (r : (Bool × ((List Int) × (Int × Int)))) (hF : f110 k x0 x1 x2 x3 x4 = some r) : PCall Try.prog 110 [⟨sh12, x0⟩, ⟨sh20, x1⟩, ⟨sh21, x2⟩, ⟨(.int .i64), x3⟩, ⟨(.int .i64), x4⟩] [⟨sh22, r⟩] := by
  refine pcall_intro Try.func110 rfl rfl (Nat.le_of_ble_eq_true rfl) ?_
  intro w0 Zi a w h
  rw [f110] at hF
  refine wp_reg_seq tok (orc := orcL []) (fz := []) (l := [2, 3, 4, 5, 6, 10]) (c := _) (.inr fun i h => h) h (by kernel_rfl) (AllP.nil) ?_
  intro a w h
  refine wp_seq ?_
  refine wp_reg_seq tok (orc := orcL []) (fz := []) (l := [2, 3, 5, 6, 10, 20]) (c := _) (.inr fun i h => h) h (by kernel_rfl) (AllP.nil) ?_
  intro a w h
  refine wp_if h (b := ((x3 : Int) == x4)) (by kernel_rfl) (fun hb => ?_) (fun hb => ?_)
  · replace hF := of_t hb hF
    refine wp_reg_seq tok (orc := orcL []) (fz := []) (l := [10]) (c := _) (.inr fun i h => h) h (by kernel_rfl) (AllP.nil) ?_
    intro a w h
    cases hF
    exact wp_ret (ret_okR tok h rfl (by kernel_rfl)).1
  · replace hF := of_f hb hF
    refine wp_skip ?_
    obtain ⟨hc2633, hF⟩ := of_if hF
    obtain ⟨hc2634, hF⟩ := of_if hF
    obtain ⟨hc2635, hF⟩ := of_if hF
    obtain ⟨r1, hr2636, hF⟩ := of_bind hF
    refine wp_regy_seq tok (orc := orcL [(33, [⟨(.int .i64), r1⟩])]) (fz := []) (l := [2, 5, 6, 10, 11]) (c := _) ([], [], [], []) 13 (.inr fun i h => h) h (by kernel_rfl) (by kernel_rfl) (AllP.cons hc2633 (AllP.cons hc2634 (AllP.cons hc2635 (AllP.cons (c184 k x1 (List.getD x2 (Int.toNat x3) ([] : (List Int))) (List.replicate (Int.toNat (List.length (List.getD x2 (Int.toNat x3) ([] : (List Int))) : Int)) (0 : Int)) r1 hr2636) AllP.nil)))) ?_
    intro a w h
    refine wp_seq ?_
    refine wp_reg_seq tok (orc := orcL []) (fz := []) (l := [2, 5, 6, 10, 11, 35]) (c := _) (.inr fun i h => h) h (by kernel_rfl) (AllP.nil) ?_
    intro a w h
    refine wp_if h (b := (decide ((r1 : Int) < (0 : Int)))) (by kernel_rfl) (fun hb => ?_) (fun hb => ?_)
    · replace hF := of_t hb hF
      refine wp_reg_seq tok (orc := orcL []) (fz := []) (l := [10]) (c := _) (.inr fun i h => h) h (by kernel_rfl) (AllP.nil) ?_
      intro a w h
      cases hF
      exact wp_ret (ret_okR tok h rfl (by kernel_rfl)).1
    · replace hF := of_f hb hF
      refine wp_skip ?_
      obtain ⟨hc2632, hF⟩ := of_if hF
      refine wp_reg_seq tok (orc := orcL []) (fz := []) (l := [2, 5, 6, 10, 11, 12]) (c := _) (.inr fun i h => h) h (by kernel_rfl) (AllP.cons hc2632 AllP.nil) ?_
      intro a w h
      refine wp_seq ?_
      obtain ⟨hc2631, hF⟩ := of_if hF
      refine wp_reg_seq tok (orc := orcL []) (fz := []) (l := [2, 5, 6, 10, 11, 12, 13]) (c := _) (.inr fun i h => h) h (by kernel_rfl) (AllP.cons hc2631 AllP.nil) ?_
      intro a w h
      refine wp_midT (fun a w => ∃ v : ((List Int) × Int), f110.j1317 k x1 r1 v = some r ∧ Rel w0 (fun _ => False) Zi Try.f110.ntmps ((fun ((v1315, v1316) : ((List Int) × Int)) => ([(10, .val sh13 (some (false, (([] : (List Int)), ((0 : Int), (0 : Int)))))), (12, .val sh13 (some (true, (v1315, ((List.getD x1.1 (Int.toNat r1) (0 : Int)), v1316)))))] : SS)) v) a w) ?_ ?_
      ·
        refine wp_block ?_
        refine wp_loop_fuel (f110.l1318 k x0 x2 x1 (f110.j1317 k x1 r1)) (fun ((v2195, v2196, v2197, v2198) : (Int × (List Int) × Int × Int)) => [(2, .val sh21 x2), (5, .val sh11 (some x0)), (6, .val sh19 (some x1)), (10, .val sh13 (some (false, (([] : (List Int)), ((0 : Int), (0 : Int)))))), (11, .val (.int .i64) v2195), (12, .val sh13 (some (true, (v2196, ((List.getD x1.1 (Int.toNat r1) (0 : Int)), v2197))))), (13, .val (.int .i64) v2198)]) (fun v h => by obtain ⟨v2195, v2196, v2197, v2198⟩ := v; rw [f110.l1318] at h; cases h) ?_ hF (h.arrive (fz := []) (l := [2, 5, 6, 10, 11, 12, 13]) (.inr fun i h => h) (by kernel_rfl))
        intro m1318 v a w hF h
        obtain ⟨v2195, v2196, v2197, v2198⟩ := v
        rw [f110.l1318] at hF
        refine wp_seq ?_
        refine wp_reg_seq tok (orc := orcL []) (fz := []) (l := [2, 5, 6, 10, 11, 12, 13, 49]) (c := _) (.inr fun i h => h) h (by kernel_rfl) (AllP.nil) ?_
        intro a w h
        refine wp_if h (b := (decide ((v2198 : Int) > (0 : Int)))) (by kernel_rfl) (fun hb => ?_) (fun hb => ?_)
        · replace hF := of_t hb hF
          refine wp_skip ?_
          refine wp_seq <| wp_block ?_
          obtain ⟨hc2630, hF⟩ := of_if hF
          refine wp_reg_seq tok (orc := orcL [(56, [⟨.pt false 4294967293 .unit, some ()⟩])]) (fz := []) (l := [2, 5, 6, 10, 11, 12, 13]) (c := _) (.inr fun i h => h) h (by kernel_rfl) (AllP.cons (PrefL.mk (l := [[.der, .snd, .fst], [.der, .snd, .fst]]) (p := [.der, .snd, .fst]) rfl) (AllP.cons hc2630 (AllP.cons (show ([.der, .snd, .fst] : Path) = [.der, .snd, .fst] from rfl) AllP.nil))) ?_
          intro a w h
          obtain ⟨hc2629, hF⟩ := of_if hF
          refine wp_regy_seq tok (orc := orcL []) (fz := []) (l := [2, 5, 6, 10, 11, 12, 13]) (c := _) ([], [], [], []) 10 (.inr fun i h => h) h (by kernel_rfl) (by kernel_rfl) (AllP.cons hc2629 AllP.nil) ?_
          intro a w h
          refine wp_seq ?_
          refine wp_reg_seq tok (orc := orcL []) (fz := []) (l := [2, 5, 6, 10, 11, 12, 13, 69]) (c := _) (.inr fun i h => h) h (by kernel_rfl) (AllP.nil) ?_
          intro a w h
          refine wp_if h (b := ((v2198 : Int) == (1 : Int))) (by kernel_rfl) (fun hb => ?_) (fun hb => ?_)
          · replace hF := of_t hb hF
            refine wp_exit ?_
            exact ⟨((List.append v2196 [v2195]), (IntKind.i64.wrap (v2197 + (List.getD x0.2.1 (Int.toNat v2195) ((0 : Int), ((0 : Int), ((0 : Int), ((0 : Int), ((0 : Int), (⟨#[]⟩ : ByteArray))))))).2.2.2.2.1))), hF, h.arrive (fz := []) (l := [10, 12]) (.inr fun i h => h) (by kernel_rfl)⟩
          · replace hF := of_f hb hF
            refine wp_skip ?_
            obtain ⟨hc2627, hF⟩ := of_if hF
            obtain ⟨hc2628, hF⟩ := of_if hF
            refine wp_reg_seq tok (orc := orcL []) (fz := []) (l := [2, 5, 6, 10, 11, 12, 13, 14]) (c := _) (.inr fun i h => h) h (by kernel_rfl) (AllP.cons hc2627 (AllP.cons hc2628 AllP.nil)) ?_
            intro a w h
            refine wp_reg_seq tok (orc := orcL []) (fz := []) (l := [2, 5, 6, 10, 11, 12, 13, 14, 15]) (c := _) (.inr fun i h => h) h (by kernel_rfl) (AllP.nil) ?_
            intro a w h
            refine wp_seq ?_
            refine wp_reg_seq tok (orc := orcL []) (fz := []) (l := [2, 5, 6, 10, 11, 12, 13, 14, 15, 16]) (c := _) (.inr fun i h => h) h (by kernel_rfl) (AllP.nil) ?_
            intro a w h
            refine wp_block ?_
            refine wp_loop_fuel (f110.l2520 k x2 x0 v2195 x1 v2198 v2196 v2197 ((f110.l1318 k x0 x2 x1 (f110.j1317 k x1 r1)) m1318)) (fun ((v2591, v2592) : ((List Int) × Int)) => [(2, .val sh21 x2), (5, .val sh11 (some x0)), (6, .val sh19 (some x1)), (10, .val sh13 (some (false, (([] : (List Int)), ((0 : Int), (0 : Int)))))), (11, .val (.int .i64) v2195), (12, .val sh13 (some (true, ((List.append v2196 [v2195]), ((List.getD x1.1 (Int.toNat r1) (0 : Int)), (IntKind.i64.wrap (v2197 + (List.getD x0.2.1 (Int.toNat v2195) ((0 : Int), ((0 : Int), ((0 : Int), ((0 : Int), ((0 : Int), (⟨#[]⟩ : ByteArray))))))).2.2.2.2.1))))))), (13, .val (.int .i64) v2198), (14, .val (.sl false 2 (.int .i64)) (List.getD x2 (Int.toNat (List.getD x0.2.1 (Int.toNat v2195) ((0 : Int), ((0 : Int), ((0 : Int), ((0 : Int), ((0 : Int), (⟨#[]⟩ : ByteArray))))))).2.1) ([] : (List Int)))), (15, .val (.sl true 2 (.int .i64)) v2591), (16, .val (.int .i64) v2592)]) (fun v h => by obtain ⟨v2591, v2592⟩ := v; rw [f110.l2520] at h; cases h) ?_ hF (h.arrive (fz := []) (l := [2, 5, 6, 10, 11, 12, 13, 14, 15, 16]) (.inr fun i h => h) (by kernel_rfl))
            intro m2520 v a w hF h
            obtain ⟨v2591, v2592⟩ := v
            rw [f110.l2520] at hF
            refine wp_seq ?_
            refine wp_reg_seq tok (orc := orcL []) (fz := []) (l := [2, 5, 6, 10, 11, 12, 13, 14, 15, 16, 83]) (c := _) (.inr fun i h => h) h (by kernel_rfl) (AllP.nil) ?_
            intro a w h
            refine wp_if h (b := (decide ((v2592 : Int) < (List.length (List.getD x2 (Int.toNat (List.getD x0.2.1 (Int.toNat v2195) ((0 : Int), ((0 : Int), ((0 : Int), ((0 : Int), ((0 : Int), (⟨#[]⟩ : ByteArray))))))).2.1) ([] : (List Int))) : Int)))) (by kernel_rfl) (fun hb => ?_) (fun hb => ?_)
            · replace hF := of_t hb hF
              refine wp_skip ?_
              refine wp_seq <| wp_block ?_
              obtain ⟨hc2623, hF⟩ := of_if hF
              obtain ⟨r2609, hr2624, hF⟩ := of_bind hF
              refine wp_regy_seq tok (orc := orcL [(92, [⟨(.int .i64), r2609⟩])]) (fz := []) (l := [2, 5, 6, 10, 11, 12, 13, 14, 15, 16, 17]) (c := _) ([], [], [], []) 8 (.inr fun i h => h) h (by kernel_rfl) (by kernel_rfl) (AllP.cons hc2623 (AllP.cons (c162 k x0 v2195 (List.getD (List.getD x2 (Int.toNat (List.getD x0.2.1 (Int.toNat v2195) ((0 : Int), ((0 : Int), ((0 : Int), ((0 : Int), ((0 : Int), (⟨#[]⟩ : ByteArray))))))).2.1) ([] : (List Int))) (Int.toNat v2592) (0 : Int)) r2609 hr2624) AllP.nil)) ?_
              intro a w h
              refine wp_seq ?_
              obtain ⟨hc2615, hF⟩ := of_if hF
              obtain ⟨hc2616, hF⟩ := of_if hF
              obtain ⟨hc2617, hF⟩ := of_if hF
              obtain ⟨hc2618, hF⟩ := of_if hF
              obtain ⟨hc2619, hF⟩ := of_if hF
              obtain ⟨hc2620, hF⟩ := of_if hF
              obtain ⟨hc2621, hF⟩ := of_if hF
              obtain ⟨hc2622, hF⟩ := of_if hF
              refine wp_regy_seq tok (orc := orcL []) (fz := []) (l := [2, 5, 6, 10, 11, 12, 13, 14, 15, 16, 17, 143]) (c := _) ([], [], [], []) 51 (.inr fun i h => h) h (by kernel_rfl) (by kernel_rfl) (AllP.cons hc2615 (AllP.cons hc2616 (AllP.cons hc2617 (AllP.cons hc2618 (AllP.cons hc2619 (AllP.cons hc2620 (AllP.cons hc2621 (AllP.cons hc2622 AllP.nil)))))))) ?_
              intro a w h
              obtain ⟨v2610, hv2614, hF⟩ := of_bind hF
              replace h := h.cast (S' := [(2, .val sh21 x2), (5, .val sh11 (some x0)), (6, .val sh19 (some x1)), (10, .val sh13 (some (false, (([] : (List Int)), ((0 : Int), (0 : Int)))))), (11, .val (.int .i64) v2195), (12, .val sh13 (some (true, ((List.append v2196 [v2195]), ((List.getD x1.1 (Int.toNat r1) (0 : Int)), (IntKind.i64.wrap (v2197 + (List.getD x0.2.1 (Int.toNat v2195) ((0 : Int), ((0 : Int), ((0 : Int), ((0 : Int), ((0 : Int), (⟨#[]⟩ : ByteArray))))))).2.2.2.2.1))))))), (13, .val (.int .i64) v2198), (14, .val (.sl false 2 (.int .i64)) (List.getD x2 (Int.toNat (List.getD x0.2.1 (Int.toNat v2195) ((0 : Int), ((0 : Int), ((0 : Int), ((0 : Int), ((0 : Int), (⟨#[]⟩ : ByteArray))))))).2.1) ([] : (List Int)))), (15, .val (.sl true 2 (.int .i64)) v2591), (16, .val (.int .i64) v2592), (17, .val (.int .i64) r2609), (143, .val .bool v2610)]) (by cases hv2614; kernel_rfl)
              refine wp_midT (fun a w => ∃ v : Int, f110.j2612 k v2591 v2592 ((f110.l2520 k x2 x0 v2195 x1 v2198 v2196 v2197 ((f110.l1318 k x0 x2 x1 (f110.j1317 k x1 r1)) m1318)) m2520) v = some r ∧ Rel w0 (fun _ => False) Zi Try.f110.ntmps ((fun (v2611 : Int) => ([(2, .val sh21 x2), (5, .val sh11 (some x0)), (6, .val sh19 (some x1)), (10, .val sh13 (some (false, (([] : (List Int)), ((0 : Int), (0 : Int)))))), (11, .val (.int .i64) v2195), (12, .val sh13 (some (true, ((List.append v2196 [v2195]), ((List.getD x1.1 (Int.toNat r1) (0 : Int)), (IntKind.i64.wrap (v2197 + (List.getD x0.2.1 (Int.toNat v2195) ((0 : Int), ((0 : Int), ((0 : Int), ((0 : Int), ((0 : Int), (⟨#[]⟩ : ByteArray))))))).2.2.2.2.1))))))), (13, .val (.int .i64) v2198), (14, .val (.sl false 2 (.int .i64)) (List.getD x2 (Int.toNat (List.getD x0.2.1 (Int.toNat v2195) ((0 : Int), ((0 : Int), ((0 : Int), ((0 : Int), ((0 : Int), (⟨#[]⟩ : ByteArray))))))).2.1) ([] : (List Int)))), (15, .val (.sl true 2 (.int .i64)) v2591), (16, .val (.int .i64) v2592), (17, .val (.int .i64) v2611)] : SS)) v) a w) ?_ ?_
              ·
                refine wp_if h (b := v2610) (by kernel_rfl) (fun hb => ?_) (fun hb => ?_)
                · replace hF := of_t hb hF
                  refine wp_reg tok (orc := orcL []) (fz := []) (l := [2, 5, 6, 10, 11, 12, 13, 14, 15, 16, 17]) (c := _) (.inr fun i h => h) h (by kernel_rfl) (AllP.nil) ?_
                  intro a w h
                  exact ⟨(-1 : Int), hF, h.arrive (fz := []) (l := [2, 5, 6, 10, 11, 12, 13, 14, 15, 16, 17]) (.inr fun i h => h) (by kernel_rfl)⟩
                · replace hF := of_f hb hF
                  refine wp_skip ?_
                  exact ⟨r2609, hF, h.arrive (fz := []) (l := [2, 5, 6, 10, 11, 12, 13, 14, 15, 16, 17]) (.inr fun i h => h) (by kernel_rfl)⟩
              · rintro a w ⟨v2611, hF, h⟩
                rw [f110.j2612] at hF
                obtain ⟨hc2613, hF⟩ := of_if hF
                refine wp_reg tok (orc := orcL []) (fz := []) (l := [2, 5, 6, 10, 11, 12, 13, 14, 15, 16]) (c := _) (.inr fun i h => h) h (by kernel_rfl) (AllP.cons hc2613 AllP.nil) ?_
                intro a w h
                refine wp_reg tok (orc := orcL []) (fz := []) (l := [2, 5, 6, 10, 11, 12, 13, 14, 15, 16]) (c := _) (.inr fun i h => h) h (by kernel_rfl) (AllP.nil) ?_
                intro a w h
                exact ⟨((v2591 ++ [v2611]), (IntKind.i64.wrap (v2592 + (1 : Int)))), hF, h.arrive (fz := []) (l := [2, 5, 6, 10, 11, 12, 13, 14, 15, 16]) (.inr fun i h => h) (by kernel_rfl)⟩
            · replace hF := of_f hb hF
              refine wp_exit ?_
              obtain ⟨r2625, hr2626, hF⟩ := of_bind hF
              refine wp_reg tok (orc := orcL [(151, [⟨(.int .i64), r2625⟩])]) (fz := []) (l := [2, 5, 6, 10, 11, 12, 13]) (c := _) (.inr fun i h => h) h (by kernel_rfl) (AllP.cons (c184 k x1 (List.getD x2 (Int.toNat (List.getD x0.2.1 (Int.toNat v2195) ((0 : Int), ((0 : Int), ((0 : Int), ((0 : Int), ((0 : Int), (⟨#[]⟩ : ByteArray))))))).2.1) ([] : (List Int))) v2591 r2625 hr2626) AllP.nil) ?_
              intro a w h
              refine wp_reg tok (orc := orcL []) (fz := []) (l := [2, 5, 6, 10, 11, 12, 13]) (c := _) (.inr fun i h => h) h (by kernel_rfl) (AllP.nil) ?_
              intro a w h
              exact ⟨(r2625, (List.append v2196 [v2195]), (IntKind.i64.wrap (v2197 + (List.getD x0.2.1 (Int.toNat v2195) ((0 : Int), ((0 : Int), ((0 : Int), ((0 : Int), ((0 : Int), (⟨#[]⟩ : ByteArray))))))).2.2.2.2.1)), (IntKind.i64.wrap (v2198 - (1 : Int)))), hF, h.arrive (fz := []) (l := [2, 5, 6, 10, 11, 12, 13]) (.inr fun i h => h) (by kernel_rfl)⟩
        · replace hF := of_f hb hF
          refine wp_exit ?_
          exact ⟨(v2196, v2197), hF, h.arrive (fz := []) (l := [10, 12]) (.inr fun i h => h) (by kernel_rfl)⟩
      · rintro a w ⟨v, hF, h⟩
        obtain ⟨v1315, v1316⟩ := v
        rw [f110.j1317] at hF
        refine wp_reg_seq tok (orc := orcL []) (fz := []) (l := [10]) (c := _) (.inr fun i h => h) h (by kernel_rfl) (AllP.nil) ?_
        intro a w h
        cases hF
        exact wp_ret (ret_okR tok h rfl (by kernel_rfl)).1

def f116 (k : Nat) (x0 : ((List (Int × (Int × Int))) × ((List (Int × (Int × (Int × (Int × (Int × ByteArray)))))) × (List (Int × Int))))) (x1 : Int) (x2 : Int) : Option (Bool × ((List Int) × (Int × Int))) := (f70 k x0).bind fun r1 => ((if ((!r1) = false) then f93 k x0 x1 else some default).bind fun r2 => ((if ((bif (!r1) then true else (!r2)) = false) then f93 k x0 x2 else some default).bind fun r3 => (if (bif (bif (!r1) then true else (!r2)) then true else (!r3)) then (some (false, (([] : (List Int)), ((0 : Int), (0 : Int))))) else ((f111 k x0 x2).bind fun r4 => ((f73 k x0 false).bind fun r5 => ((f110 k x0 r4 r5 x1 x2).bind fun r6 => (some r6)))))))
set_option maxRecDepth 100000 in
/-- 'spec.BestPath'. -/
theorem c116 (k : Nat) (x0 : ((List (Int × (Int × Int))) × ((List (Int × (Int × (Int × (Int × (Int × ByteArray)))))) × (List (Int × Int))))) (x1 : Int) (x2 : Int) (r : (Bool × ((List Int) × (Int × Int)))) (hF : f116 k x0 x1 x2 = some r) : PCall Try.prog 116 [⟨sh12, x0⟩, ⟨(.int .i64), x1⟩, ⟨(.int .i64), x2⟩] [⟨sh22, r⟩] := by
  refine pcall_intro Try.func116 rfl rfl (Nat.le_of_ble_eq_true rfl) ?_
  intro w0 Zi a w h
  rw [f116] at hF
  refine wp_reg_seq tok (orc := orcL []) (fz := []) (l := [1, 2, 3, 6]) (c := _) (.inr fun i h => h) h (by kernel_rfl) (AllP.nil) ?_
  intro a w h
  refine wp_seq ?_
  obtain ⟨r1, hr10, hF⟩ := of_bind hF
  obtain ⟨r2, hr11, hF⟩ := of_bind hF
  obtain ⟨r3, hr12, hF⟩ := of_bind hF
  refine wp_reg_seq tok (orc := orcL [(8, [⟨.bool, r1⟩]), (13, [⟨.bool, r2⟩]), (19, [⟨.bool, r3⟩])]) (fz := []) (l := [1, 2, 3, 6, 21]) (c := _) (.inr fun i h => h) h (by kernel_rfl) (AllP.cons (c70 k x0 r1 hr10) (AllP.cons (fun (hg : ((!r1) = false)) => c93 k x0 x1 r2 (of_g hg hr11)) (AllP.cons (fun (hg : ((bif (!r1) then true else (!r2)) = false)) => c93 k x0 x2 r3 (of_g hg hr12)) AllP.nil))) ?_
  intro a w h
  refine wp_if h (b := (bif (bif (!r1) then true else (!r2)) then true else (!r3))) (by kernel_rfl) (fun hb => ?_) (fun hb => ?_)
  · replace hF := of_t hb hF
    refine wp_reg_seq tok (orc := orcL []) (fz := []) (l := [6]) (c := _) (.inr fun i h => h) h (by kernel_rfl) (AllP.nil) ?_
    intro a w h
    cases hF
    exact wp_ret (ret_okR tok h rfl (by kernel_rfl)).1
  · replace hF := of_f hb hF
    refine wp_skip ?_
    obtain ⟨r4, hr7, hF⟩ := of_bind hF
    obtain ⟨r5, hr8, hF⟩ := of_bind hF
    obtain ⟨r6, hr9, hF⟩ := of_bind hF
    refine wp_regy_seq tok (orc := orcL [(26, [⟨sh18, r4⟩]), (28, [⟨sh16, r5⟩]), (31, [⟨sh22, r6⟩])]) (fz := []) (l := [6]) (c := _) ([], [], [], []) 9 (.inr fun i h => h) h (by kernel_rfl) (by kernel_rfl) (AllP.cons (c111 k x0 x2 r4 hr7) (AllP.cons (c73 k x0 false r5 hr8) (AllP.cons (c110 k x0 r4 r5 x1 x2 r6 hr9) AllP.nil))) ?_
    intro a w h
    cases hF
    exact wp_ret (ret_okR tok h rfl (by kernel_rfl)).1

def f46.l96 (k : Nat) (x4 : Int) (x1 : (List Int)) (x2 : Int) (x3 : Int) : Nat → (((List (Int × (Int × Int))) × ((List (Int × (Int × (Int × (Int × (Int × ByteArray)))))) × (List (Int × Int)))) × Int) → Option (Bool × ((List Int) × (Int × Int)))
  | 0, _ => none
  | m96 + 1, (v135, v136) => if (decide ((v136 : Int) < (List.length v135.2.1 : Int))) then (if (0 ≤ v136 ∧ v136 < (List.length v135.2.1 : Int)) then (if (((3600 : Int) : Int) ≠ 0) then (if (0 ≤ (IntKind.i64.wrap (Int.tdiv x4 (3600 : Int))) ∧ (IntKind.i64.wrap (Int.tdiv x4 (3600 : Int))) < (List.length x1 : Int)) then ((f115 k (List.getD v135.2.1 (Int.toNat v136) ((0 : Int), ((0 : Int), ((0 : Int), ((0 : Int), ((0 : Int), (⟨#[]⟩ : ByteArray))))))).2.2.2.1 (List.getD x1 (Int.toNat (IntKind.i64.wrap (Int.tdiv x4 (3600 : Int)))) (0 : Int))).bind fun r145 => (if (0 ≤ v136 ∧ v136 < (List.length v135.2.1 : Int)) then ((some ((List.set v135.2.1 (Int.toNat v136) ((List.getD v135.2.1 (Int.toNat v136) ((0 : Int), ((0 : Int), ((0 : Int), ((0 : Int), ((0 : Int), (⟨#[]⟩ : ByteArray))))))).1, ((List.getD v135.2.1 (Int.toNat v136) ((0 : Int), ((0 : Int), ((0 : Int), ((0 : Int), ((0 : Int), (⟨#[]⟩ : ByteArray))))))).2.1, ((List.getD v135.2.1 (Int.toNat v136) ((0 : Int), ((0 : Int), ((0 : Int), ((0 : Int), ((0 : Int), (⟨#[]⟩ : ByteArray))))))).2.2.1, (r145, (List.getD v135.2.1 (Int.toNat v136) ((0 : Int), ((0 : Int), ((0 : Int), ((0 : Int), ((0 : Int), (⟨#[]⟩ : ByteArray))))))).2.2.2.2))))) : (List (Int × (Int × (Int × (Int × (Int × ByteArray)))))))).bind fun v146 => ((f46.l96 k x4 x1 x2 x3) m96 ((v135.1, (v146, v135.2.2)), (IntKind.i64.wrap (v136 + (1 : Int)))))) else none)) else none) else none) else none) else ((f116 k v135 x2 x3).bind fun r153 => (some r153))
def f46.l21 (k : Nat) (x1 : (List Int)) (x0 : ((List (Int × (Int × Int))) × ((List (Int × (Int × (Int × (Int × (Int × ByteArray)))))) × (List (Int × Int))))) (x4 : Int) (x2 : Int) (x3 : Int) : Nat → Int → Option (Bool × ((List Int) × (Int × Int)))
  | 0, _ => none
  | m21 + 1, v33 => if (decide ((v33 : Int) < (24 : Int))) then (if (0 ≤ v33 ∧ v33 < (List.length x1 : Int)) then (if (((decide (((List.getD x1 (Int.toNat v33) (0 : Int)) : Int) < (1 : Int))) = false) → (0 ≤ v33 ∧ v33 < (List.length x1 : Int))) then (if (bif (decide (((List.getD x1 (Int.toNat v33) (0 : Int)) : Int) < (1 : Int))) then true else (decide (((List.getD x1 (Int.toNat v33) (0 : Int)) : Int) > (10000 : Int)))) then (some (false, (([] : (List Int)), ((0 : Int), (0 : Int))))) else ((f46.l21 k x1 x0 x4 x2 x3) m21 (IntKind.i64.wrap (v33 + (1 : Int))))) else none) else none) else ((f114 k x0).bind fun r38 => (f46.l96 k x4 x1 x2 x3 k (r38, (0 : Int))))
def f46 (k : Nat) (x0 : ((List (Int × (Int × Int))) × ((List (Int × (Int × (Int × (Int × (Int × ByteArray)))))) × (List (Int × Int))))) (x1 : (List Int)) (x2 : Int) (x3 : Int) (x4 : Int) : Option (Bool × ((List Int) × (Int × Int))) := (if ((bif (bif (((List.length x1 : Int) : Int) != (24 : Int)) then true else (decide ((x4 : Int) < (0 : Int)))) then true else (decide ((x4 : Int) ≥ (86400 : Int)))) = false) then f70 k x0 else some default).bind fun r1 => ((if ((bif (bif (bif (((List.length x1 : Int) : Int) != (24 : Int)) then true else (decide ((x4 : Int) < (0 : Int)))) then true else (decide ((x4 : Int) ≥ (86400 : Int)))) then true else (!r1)) = false) then f93 k x0 x2 else some default).bind fun r2 => ((if ((bif (bif (bif (bif (((List.length x1 : Int) : Int) != (24 : Int)) then true else (decide ((x4 : Int) < (0 : Int)))) then true else (decide ((x4 : Int) ≥ (86400 : Int)))) then true else (!r1)) then true else (!r2)) = false) then f93 k x0 x3 else some default).bind fun r3 => (if (bif (bif (bif (bif (bif (((List.length x1 : Int) : Int) != (24 : Int)) then true else (decide ((x4 : Int) < (0 : Int)))) then true else (decide ((x4 : Int) ≥ (86400 : Int)))) then true else (!r1)) then true else (!r2)) then true else (!r3)) then (some (false, (([] : (List Int)), ((0 : Int), (0 : Int))))) else (f46.l21 k x1 x0 x4 x2 x3 k (0 : Int)))))
set_option maxRecDepth 100000 in
/-- 'spec.Daily'. -/
theorem c46 (k : Nat) (x0 : ((List (Int × (Int × Int))) × ((List (Int × (Int × (Int × (Int × (Int × ByteArray)))))) × (List (Int × Int))))) (x1 : (List Int)) (x2 : Int) (x3 : Int) (x4 : Int) (r : (Bool × ((List Int) × (Int × Int)))) (hF : f46 k x0 x1 x2 x3 x4 = some r) : PCall Try.prog 46 [⟨sh12, x0⟩, ⟨(.sl false 2 (.int .i64)), x1⟩, ⟨(.int .i64), x2⟩, ⟨(.int .i64), x3⟩, ⟨(.int .i64), x4⟩] [⟨sh22, r⟩] := by
  refine pcall_intro Try.func46 rfl rfl (Nat.le_of_ble_eq_true rfl) ?_
  intro w0 Zi a w h
  rw [f46] at hF
  refine wp_reg_seq tok (orc := orcL []) (fz := []) (l := [1, 2, 3, 4, 5, 10]) (c := _) (.inr fun i h => h) h (by kernel_rfl) (AllP.nil) ?_
  intro a w h
  refine wp_seq ?_
  obtain ⟨r1, hr156, hF⟩ := of_bind hF
  obtain ⟨r2, hr157, hF⟩ := of_bind hF
  obtain ⟨r3, hr158, hF⟩ := of_bind hF
  refine wp_reg_seq tok (orc := orcL [(27, [⟨.bool, r1⟩]), (33, [⟨.bool, r2⟩]), (39, [⟨.bool, r3⟩])]) (fz := []) (l := [1, 2, 3, 4, 5, 10, 41]) (c := _) (.inr fun i h => h) h (by kernel_rfl) (AllP.cons (fun (hg : ((bif (bif (((List.length x1 : Int) : Int) != (24 : Int)) then true else (decide ((x4 : Int) < (0 : Int)))) then true else (decide ((x4 : Int) ≥ (86400 : Int)))) = false)) => c70 k x0 r1 (of_g hg hr156)) (AllP.cons (fun (hg : ((bif (bif (bif (((List.length x1 : Int) : Int) != (24 : Int)) then true else (decide ((x4 : Int) < (0 : Int)))) then true else (decide ((x4 : Int) ≥ (86400 : Int)))) then true else (!r1)) = false)) => c93 k x0 x2 r2 (of_g hg hr157)) (AllP.cons (fun (hg : ((bif (bif (bif (bif (((List.length x1 : Int) : Int) != (24 : Int)) then true else (decide ((x4 : Int) < (0 : Int)))) then true else (decide ((x4 : Int) ≥ (86400 : Int)))) then true else (!r1)) then true else (!r2)) = false)) => c93 k x0 x3 r3 (of_g hg hr158)) AllP.nil))) ?_
  intro a w h
  refine wp_if h (b := (bif (bif (bif (bif (bif (((List.length x1 : Int) : Int) != (24 : Int)) then true else (decide ((x4 : Int) < (0 : Int)))) then true else (decide ((x4 : Int) ≥ (86400 : Int)))) then true else (!r1)) then true else (!r2)) then true else (!r3))) (by kernel_rfl) (fun hb => ?_) (fun hb => ?_)
  · replace hF := of_t hb hF
    refine wp_reg_seq tok (orc := orcL []) (fz := []) (l := [10]) (c := _) (.inr fun i h => h) h (by kernel_rfl) (AllP.nil) ?_
    intro a w h
    cases hF
    exact wp_ret (ret_okR tok h rfl (by kernel_rfl)).1
  · replace hF := of_f hb hF
    refine wp_skip ?_
    refine wp_seq ?_
    refine wp_reg_seq tok (orc := orcL []) (fz := []) (l := [1, 2, 3, 4, 5, 10, 11]) (c := _) (.inr fun i h => h) h (by kernel_rfl) (AllP.nil) ?_
    intro a w h
    refine wp_block ?_
    refine wp_loop_fuel (f46.l21 k x1 x0 x4 x2 x3) (fun (v33 : Int) => [(1, .val (.sl false 2 (.int .i64)) x1), (2, .val (.int .i64) x2), (3, .val (.int .i64) x3), (4, .val (.int .i64) x4), (5, .val sh11 (some x0)), (10, .val sh13 (some (false, (([] : (List Int)), ((0 : Int), (0 : Int)))))), (11, .val (.int .i64) v33)]) (fun v h => by rw [f46.l21] at h; cases h) ?_ hF (h.arrive (fz := []) (l := [1, 2, 3, 4, 5, 10, 11]) (.inr fun i h => h) (by kernel_rfl))
    intro m21 v33 a w hF h
    rw [f46.l21] at hF
    refine wp_seq ?_
    refine wp_reg_seq tok (orc := orcL []) (fz := []) (l := [1, 2, 3, 4, 5, 10, 11, 44]) (c := _) (.inr fun i h => h) h (by kernel_rfl) (AllP.nil) ?_
    intro a w h
    refine wp_if h (b := (decide ((v33 : Int) < (24 : Int)))) (by kernel_rfl) (fun hb => ?_) (fun hb => ?_)
    · replace hF := of_t hb hF
      refine wp_skip ?_
      refine wp_seq <| wp_block ?_
      obtain ⟨hc36, hF⟩ := of_if hF
      obtain ⟨hc37, hF⟩ := of_if hF
      refine wp_reg_seq tok (orc := orcL []) (fz := []) (l := [1, 2, 3, 4, 5, 10, 11, 58]) (c := _) (.inr fun i h => h) h (by kernel_rfl) (AllP.cons hc36 (AllP.cons hc37 AllP.nil)) ?_
      intro a w h
      refine wp_if h (b := (bif (decide (((List.getD x1 (Int.toNat v33) (0 : Int)) : Int) < (1 : Int))) then true else (decide (((List.getD x1 (Int.toNat v33) (0 : Int)) : Int) > (10000 : Int))))) (by kernel_rfl) (fun hb => ?_) (fun hb => ?_)
      · replace hF := of_t hb hF
        refine wp_reg_seq tok (orc := orcL []) (fz := []) (l := [10]) (c := _) (.inr fun i h => h) h (by kernel_rfl) (AllP.nil) ?_
        intro a w h
        cases hF
        exact wp_ret (ret_okR tok h rfl (by kernel_rfl)).1
      · replace hF := of_f hb hF
        refine wp_skip ?_
        refine wp_reg tok (orc := orcL []) (fz := []) (l := [1, 2, 3, 4, 5, 10, 11]) (c := _) (.inr fun i h => h) h (by kernel_rfl) (AllP.nil) ?_
        intro a w h
        exact ⟨(IntKind.i64.wrap (v33 + (1 : Int))), hF, h.arrive (fz := []) (l := [1, 2, 3, 4, 5, 10, 11]) (.inr fun i h => h) (by kernel_rfl)⟩
    · replace hF := of_f hb hF
      refine wp_exit ?_
      obtain ⟨r38, hr155, hF⟩ := of_bind hF
      refine wp_reg_seq tok (orc := orcL [(61, [⟨sh10, r38⟩])]) (fz := []) (l := [1, 2, 3, 4, 10, 12]) (c := _) (.inr fun i h => h) h (by kernel_rfl) (AllP.cons (c114 k x0 r38 hr155) AllP.nil) ?_
      intro a w h
      refine wp_seq ?_
      refine wp_reg_seq tok (orc := orcL []) (fz := []) (l := [1, 2, 3, 4, 10, 12, 13]) (c := _) (.inr fun i h => h) h (by kernel_rfl) (AllP.nil) ?_
      intro a w h
      refine wp_block ?_
      refine wp_loop_fuel (f46.l96 k x4 x1 x2 x3) (fun ((v135, v136) : (((List (Int × (Int × Int))) × ((List (Int × (Int × (Int × (Int × (Int × ByteArray)))))) × (List (Int × Int)))) × Int)) => [(1, .val (.sl false 2 (.int .i64)) x1), (2, .val (.int .i64) x2), (3, .val (.int .i64) x3), (4, .val (.int .i64) x4), (10, .val sh13 (some (false, (([] : (List Int)), ((0 : Int), (0 : Int)))))), (12, .val sh14 (some v135)), (13, .val (.int .i64) v136)]) (fun v h => by obtain ⟨v135, v136⟩ := v; rw [f46.l96] at h; cases h) ?_ hF (h.arrive (fz := []) (l := [1, 2, 3, 4, 10, 12, 13]) (.inr fun i h => h) (by kernel_rfl))
      intro m96 v a w hF h
      obtain ⟨v135, v136⟩ := v
      rw [f46.l96] at hF
      refine wp_seq ?_
      refine wp_reg_seq tok (orc := orcL []) (fz := []) (l := [1, 2, 3, 4, 10, 12, 13, 66]) (c := _) (.inr fun i h => h) h (by kernel_rfl) (AllP.nil) ?_
      intro a w h
      refine wp_if h (b := (decide ((v136 : Int) < (List.length v135.2.1 : Int)))) (by kernel_rfl) (fun hb => ?_) (fun hb => ?_)
      · replace hF := of_t hb hF
        refine wp_skip ?_
        refine wp_seq <| wp_block ?_
        obtain ⟨hc148, hF⟩ := of_if hF
        obtain ⟨hc149, hF⟩ := of_if hF
        obtain ⟨hc150, hF⟩ := of_if hF
        obtain ⟨r145, hr151, hF⟩ := of_bind hF
        obtain ⟨hc152, hF⟩ := of_if hF
        refine wp_regy tok (orc := orcL [(83, [⟨(.int .i64), r145⟩])]) (fz := []) (l := [1, 2, 3, 4, 10, 12, 13]) (c := _) ([], [], [], []) 17 (.inr fun i h => h) h (by kernel_rfl) (by kernel_rfl) (AllP.cons hc148 (AllP.cons hc149 (AllP.cons hc150 (AllP.cons (c115 k (List.getD v135.2.1 (Int.toNat v136) ((0 : Int), ((0 : Int), ((0 : Int), ((0 : Int), ((0 : Int), (⟨#[]⟩ : ByteArray))))))).2.2.2.1 (List.getD x1 (Int.toNat (IntKind.i64.wrap (Int.tdiv x4 (3600 : Int)))) (0 : Int)) r145 hr151) (AllP.cons hc152 AllP.nil))))) ?_
        intro a w h
        obtain ⟨v146, hv147, hF⟩ := of_bind hF
        replace h := h.cast (S' := [(1, .val (.sl false 2 (.int .i64)) x1), (2, .val (.int .i64) x2), (3, .val (.int .i64) x3), (4, .val (.int .i64) x4), (10, .val sh13 (some (false, (([] : (List Int)), ((0 : Int), (0 : Int)))))), (12, .val sh14 (some (v135.1, (v146, v135.2.2)))), (13, .val (.int .i64) v136)]) (by cases hv147; kernel_rfl)
        refine wp_reg tok (orc := orcL []) (fz := []) (l := [1, 2, 3, 4, 10, 12, 13]) (c := _) (.inr fun i h => h) h (by kernel_rfl) (AllP.nil) ?_
        intro a w h
        exact ⟨((v135.1, (v146, v135.2.2)), (IntKind.i64.wrap (v136 + (1 : Int)))), hF, h.arrive (fz := []) (l := [1, 2, 3, 4, 10, 12, 13]) (.inr fun i h => h) (by kernel_rfl)⟩
      · replace hF := of_f hb hF
        refine wp_exit ?_
        obtain ⟨r153, hr154, hF⟩ := of_bind hF
        refine wp_reg_seq tok (orc := orcL [(89, [⟨sh22, r153⟩])]) (fz := []) (l := [10]) (c := _) (.inr fun i h => h) h (by kernel_rfl) (AllP.cons (c116 k v135 x2 x3 r153 hr154) AllP.nil) ?_
        intro a w h
        cases hF
        exact wp_ret (ret_okR tok h rfl (by kernel_rfl)).1

def f168 (k : Nat) (x0 : Int) : Option Bool := some (bif (decide ((x0 : Int) ≥ (1 : Int))) then (decide ((x0 : Int) ≤ (1000000000 : Int))) else false)
set_option maxRecDepth 100000 in
/-- 'impl.idOk'. -/
theorem c168 (k : Nat) (x0 : Int) (r : Bool) (hF : f168 k x0 = some r) : PCall Try.prog 168 [⟨(.int .i64), x0⟩] [⟨.bool, r⟩] := by
  refine pcall_intro Try.func168 rfl rfl (Nat.le_of_ble_eq_true rfl) ?_
  intro w0 Zi a w h
  rw [f168] at hF
  refine wp_reg_seq tok (orc := orcL []) (fz := []) (l := [0]) (c := _) (.inr fun i h => h) h (by kernel_rfl) (AllP.nil) ?_
  intro a w h
  refine wp_reg_seq tok (orc := orcL []) (fz := []) (l := [2]) (c := _) (.inr fun i h => h) h (by kernel_rfl) (AllP.nil) ?_
  intro a w h
  cases hF
  exact wp_ret (ret_okR tok h rfl (by kernel_rfl)).1

def f169 (k : Nat) (x0 : (Int × Int)) : Option Bool := some (bif (bif (bif (decide ((x0.1 : Int) ≥ (-10000000 : Int))) then (decide ((x0.1 : Int) ≤ (10000000 : Int))) else false) then (decide ((x0.2 : Int) ≥ (-10000000 : Int))) else false) then (decide ((x0.2 : Int) ≤ (10000000 : Int))) else false)
set_option maxRecDepth 100000 in
/-- 'impl.PointOk'. -/
theorem c169 (k : Nat) (x0 : (Int × Int)) (r : Bool) (hF : f169 k x0 = some r) : PCall Try.prog 169 [⟨sh5, x0⟩] [⟨.bool, r⟩] := by
  refine pcall_intro Try.func169 rfl rfl (Nat.le_of_ble_eq_true rfl) ?_
  intro w0 Zi a w h
  rw [f169] at hF
  refine wp_reg_seq tok (orc := orcL []) (fz := []) (l := [1]) (c := _) (.inr fun i h => h) h (by kernel_rfl) (AllP.nil) ?_
  intro a w h
  refine wp_reg_seq tok (orc := orcL []) (fz := []) (l := [2]) (c := _) (.inr fun i h => h) h (by kernel_rfl) (AllP.nil) ?_
  intro a w h
  cases hF
  exact wp_ret (ret_okR tok h rfl (by kernel_rfl)).1

def f79.j256 (k : Nat) (v247 : Int) (q209 : Int → Option Bool) : Unit → Option Bool
  | _ => q209 (IntKind.i64.wrap (v247 + (1 : Int)))
def f79.l209 (k : Nat) (x0 : ((List (Int × (Int × Int))) × ((List (Int × (Int × (Int × (Int × (Int × ByteArray)))))) × (List (Int × Int))))) : Nat → Int → Option Bool
  | 0, _ => none
  | m209 + 1, v247 => if (decide ((v247 : Int) < (List.length x0.2.2 : Int))) then (if (0 ≤ v247 ∧ v247 < (List.length x0.2.2 : Int)) then (if (((bif (bif (bif (decide (((List.getD x0.2.2 (Int.toNat v247) ((0 : Int), (0 : Int))).1 : Int) < (0 : Int))) then true else (decide (((List.getD x0.2.2 (Int.toNat v247) ((0 : Int), (0 : Int))).1 : Int) ≥ (List.length x0.2.1 : Int)))) then true else (decide (((List.getD x0.2.2 (Int.toNat v247) ((0 : Int), (0 : Int))).2 : Int) < (0 : Int)))) then true else (decide (((List.getD x0.2.2 (Int.toNat v247) ((0 : Int), (0 : Int))).2 : Int) ≥ (List.length x0.2.1 : Int)))) = false) → (0 ≤ (List.getD x0.2.2 (Int.toNat v247) ((0 : Int), (0 : Int))).1 ∧ (List.getD x0.2.2 (Int.toNat v247) ((0 : Int), (0 : Int))).1 < (List.length x0.2.1 : Int))) then (if (((bif (bif (bif (decide (((List.getD x0.2.2 (Int.toNat v247) ((0 : Int), (0 : Int))).1 : Int) < (0 : Int))) then true else (decide (((List.getD x0.2.2 (Int.toNat v247) ((0 : Int), (0 : Int))).1 : Int) ≥ (List.length x0.2.1 : Int)))) then true else (decide (((List.getD x0.2.2 (Int.toNat v247) ((0 : Int), (0 : Int))).2 : Int) < (0 : Int)))) then true else (decide (((List.getD x0.2.2 (Int.toNat v247) ((0 : Int), (0 : Int))).2 : Int) ≥ (List.length x0.2.1 : Int)))) = false) → (0 ≤ (List.getD x0.2.2 (Int.toNat v247) ((0 : Int), (0 : Int))).2 ∧ (List.getD x0.2.2 (Int.toNat v247) ((0 : Int), (0 : Int))).2 < (List.length x0.2.1 : Int))) then ((some ((bif (bif (bif (bif (decide (((List.getD x0.2.2 (Int.toNat v247) ((0 : Int), (0 : Int))).1 : Int) < (0 : Int))) then true else (decide (((List.getD x0.2.2 (Int.toNat v247) ((0 : Int), (0 : Int))).1 : Int) ≥ (List.length x0.2.1 : Int)))) then true else (decide (((List.getD x0.2.2 (Int.toNat v247) ((0 : Int), (0 : Int))).2 : Int) < (0 : Int)))) then true else (decide (((List.getD x0.2.2 (Int.toNat v247) ((0 : Int), (0 : Int))).2 : Int) ≥ (List.length x0.2.1 : Int)))) then true else (((List.getD x0.2.1 (Int.toNat (List.getD x0.2.2 (Int.toNat v247) ((0 : Int), (0 : Int))).1) ((0 : Int), ((0 : Int), ((0 : Int), ((0 : Int), ((0 : Int), (⟨#[]⟩ : ByteArray))))))).2.1 : Int) != (List.getD x0.2.1 (Int.toNat (List.getD x0.2.2 (Int.toNat v247) ((0 : Int), (0 : Int))).2) ((0 : Int), ((0 : Int), ((0 : Int), ((0 : Int), ((0 : Int), (⟨#[]⟩ : ByteArray))))))).1)) : Bool)).bind fun v257 => (if v257 then (some false) else (if (decide ((v247 : Int) > (0 : Int))) then (if (0 ≤ (IntKind.i64.wrap (v247 - (1 : Int))) ∧ (IntKind.i64.wrap (v247 - (1 : Int))) < (List.length x0.2.2 : Int)) then ((some ((bif (decide (((List.getD x0.2.2 (Int.toNat (IntKind.i64.wrap (v247 - (1 : Int)))) ((0 : Int), (0 : Int))).1 : Int) > (List.getD x0.2.2 (Int.toNat v247) ((0 : Int), (0 : Int))).1)) then true else (bif (((List.getD x0.2.2 (Int.toNat (IntKind.i64.wrap (v247 - (1 : Int)))) ((0 : Int), (0 : Int))).1 : Int) == (List.getD x0.2.2 (Int.toNat v247) ((0 : Int), (0 : Int))).1) then (decide (((List.getD x0.2.2 (Int.toNat (IntKind.i64.wrap (v247 - (1 : Int)))) ((0 : Int), (0 : Int))).2 : Int) ≥ (List.getD x0.2.2 (Int.toNat v247) ((0 : Int), (0 : Int))).2)) else false)) : Bool)).bind fun v258 => (if v258 then (some false) else (f79.j256 k v247 ((f79.l209 k x0) m209) ()))) else none) else (f79.j256 k v247 ((f79.l209 k x0) m209) ())))) else none) else none) else none) else (some true)
def f79.l118 (k : Nat) (x0 : ((List (Int × (Int × Int))) × ((List (Int × (Int × (Int × (Int × (Int × ByteArray)))))) × (List (Int × Int))))) : Nat → Int → Option Bool
  | 0, _ => none
  | m118 + 1, v142 => if (decide ((v142 : Int) < (List.length x0.2.1 : Int))) then (if (0 ≤ v142 ∧ v142 < (List.length x0.2.1 : Int)) then ((if ((bif (bif (bif (decide (((List.getD x0.2.1 (Int.toNat v142) ((0 : Int), ((0 : Int), ((0 : Int), ((0 : Int), ((0 : Int), (⟨#[]⟩ : ByteArray))))))).1 : Int) < (0 : Int))) then true else (decide (((List.getD x0.2.1 (Int.toNat v142) ((0 : Int), ((0 : Int), ((0 : Int), ((0 : Int), ((0 : Int), (⟨#[]⟩ : ByteArray))))))).1 : Int) ≥ (List.length x0.1 : Int)))) then true else (decide (((List.getD x0.2.1 (Int.toNat v142) ((0 : Int), ((0 : Int), ((0 : Int), ((0 : Int), ((0 : Int), (⟨#[]⟩ : ByteArray))))))).2.1 : Int) < (0 : Int)))) then true else (decide (((List.getD x0.2.1 (Int.toNat v142) ((0 : Int), ((0 : Int), ((0 : Int), ((0 : Int), ((0 : Int), (⟨#[]⟩ : ByteArray))))))).2.1 : Int) ≥ (List.length x0.1 : Int)))) = false) then f168 k (List.getD x0.2.1 (Int.toNat v142) ((0 : Int), ((0 : Int), ((0 : Int), ((0 : Int), ((0 : Int), (⟨#[]⟩ : ByteArray))))))).2.2.1 else some default).bind fun r148 => ((some ((bif (bif (bif (bif (bif (bif (bif (bif (decide (((List.getD x0.2.1 (Int.toNat v142) ((0 : Int), ((0 : Int), ((0 : Int), ((0 : Int), ((0 : Int), (⟨#[]⟩ : ByteArray))))))).1 : Int) < (0 : Int))) then true else (decide (((List.getD x0.2.1 (Int.toNat v142) ((0 : Int), ((0 : Int), ((0 : Int), ((0 : Int), ((0 : Int), (⟨#[]⟩ : ByteArray))))))).1 : Int) ≥ (List.length x0.1 : Int)))) then true else (decide (((List.getD x0.2.1 (Int.toNat v142) ((0 : Int), ((0 : Int), ((0 : Int), ((0 : Int), ((0 : Int), (⟨#[]⟩ : ByteArray))))))).2.1 : Int) < (0 : Int)))) then true else (decide (((List.getD x0.2.1 (Int.toNat v142) ((0 : Int), ((0 : Int), ((0 : Int), ((0 : Int), ((0 : Int), (⟨#[]⟩ : ByteArray))))))).2.1 : Int) ≥ (List.length x0.1 : Int)))) then true else (!r148)) then true else (decide (((List.getD x0.2.1 (Int.toNat v142) ((0 : Int), ((0 : Int), ((0 : Int), ((0 : Int), ((0 : Int), (⟨#[]⟩ : ByteArray))))))).2.2.2.1 : Int) < (1 : Int)))) then true else (decide (((List.getD x0.2.1 (Int.toNat v142) ((0 : Int), ((0 : Int), ((0 : Int), ((0 : Int), ((0 : Int), (⟨#[]⟩ : ByteArray))))))).2.2.2.1 : Int) > (1000000 : Int)))) then true else (decide (((List.getD x0.2.1 (Int.toNat v142) ((0 : Int), ((0 : Int), ((0 : Int), ((0 : Int), ((0 : Int), (⟨#[]⟩ : ByteArray))))))).2.2.2.2.1 : Int) < (0 : Int)))) then true else (decide (((List.getD x0.2.1 (Int.toNat v142) ((0 : Int), ((0 : Int), ((0 : Int), ((0 : Int), ((0 : Int), (⟨#[]⟩ : ByteArray))))))).2.2.2.2.1 : Int) > (1000000000 : Int)))) : Bool)).bind fun v149 => (if v149 then (some false) else ((f79.l118 k x0) m118 (IntKind.i64.wrap (v142 + (1 : Int))))))) else none) else (f79.l209 k x0 k (0 : Int))
def f79.l42 (k : Nat) (x0 : ((List (Int × (Int × Int))) × ((List (Int × (Int × (Int × (Int × (Int × ByteArray)))))) × (List (Int × Int))))) : Nat → Int → Option Bool
  | 0, _ => none
  | m42 + 1, v70 => if (decide ((v70 : Int) < (List.length x0.1 : Int))) then (if (0 ≤ v70 ∧ v70 < (List.length x0.1 : Int)) then ((f168 k (List.getD x0.1 (Int.toNat v70) ((0 : Int), ((0 : Int), (0 : Int)))).1).bind fun r77 => ((if ((!r77) = false) then f169 k (List.getD x0.1 (Int.toNat v70) ((0 : Int), ((0 : Int), (0 : Int)))).2 else some default).bind fun r78 => (if ((((bif (!r77) then true else (!r78)) = false) ∧ ((decide ((v70 : Int) > (0 : Int))) = true)) → (0 ≤ (IntKind.i64.wrap (v70 - (1 : Int))) ∧ (IntKind.i64.wrap (v70 - (1 : Int))) < (List.length x0.1 : Int))) then (if (bif (bif (!r77) then true else (!r78)) then true else (bif (decide ((v70 : Int) > (0 : Int))) then (decide (((List.getD x0.1 (Int.toNat (IntKind.i64.wrap (v70 - (1 : Int)))) ((0 : Int), ((0 : Int), (0 : Int)))).1 : Int) ≥ (List.getD x0.1 (Int.toNat v70) ((0 : Int), ((0 : Int), (0 : Int)))).1)) else false)) then (some false) else ((f79.l42 k x0) m42 (IntKind.i64.wrap (v70 + (1 : Int))))) else none))) else none) else (f79.l118 k x0 k (0 : Int))
def f79 (k : Nat) (x0 : ((List (Int × (Int × Int))) × ((List (Int × (Int × (Int × (Int × (Int × ByteArray)))))) × (List (Int × Int))))) : Option Bool := if (bif (bif (decide (((List.length x0.1 : Int) : Int) > (5000 : Int))) then true else (decide (((List.length x0.2.1 : Int) : Int) > (8000 : Int)))) then true else (decide (((List.length x0.2.2 : Int) : Int) > (2000 : Int)))) then (some false) else (f79.l42 k x0 k (0 : Int))
set_option maxRecDepth 100000 in
/-- 'impl.GraphOk'. -/
theorem c79 (k : Nat) (x0 : ((List (Int × (Int × Int))) × ((List (Int × (Int × (Int × (Int × (Int × ByteArray)))))) × (List (Int × Int))))) (r : Bool) (hF : f79 k x0 = some r) : PCall Try.prog 79 [⟨sh12, x0⟩] [⟨.bool, r⟩] := by
  refine pcall_intro Try.func79 rfl rfl (Nat.le_of_ble_eq_true rfl) ?_
  intro w0 Zi a w h
  rw [f79] at hF
  refine wp_reg_seq tok (orc := orcL []) (fz := []) (l := [1]) (c := _) (.inr fun i h => h) h (by kernel_rfl) (AllP.nil) ?_
  intro a w h
  refine wp_seq ?_
  refine wp_reg_seq tok (orc := orcL []) (fz := []) (l := [1, 27]) (c := _) (.inr fun i h => h) h (by kernel_rfl) (AllP.nil) ?_
  intro a w h
  refine wp_if h (b := (bif (bif (decide (((List.length x0.1 : Int) : Int) > (5000 : Int))) then true else (decide (((List.length x0.2.1 : Int) : Int) > (8000 : Int)))) then true else (decide (((List.length x0.2.2 : Int) : Int) > (2000 : Int))))) (by kernel_rfl) (fun hb => ?_) (fun hb => ?_)
  · replace hF := of_t hb hF
    refine wp_reg_seq tok (orc := orcL []) (fz := []) (l := [2]) (c := _) (.inr fun i h => h) h (by kernel_rfl) (AllP.nil) ?_
    intro a w h
    cases hF
    exact wp_ret (ret_okR tok h rfl (by kernel_rfl)).1
  · replace hF := of_f hb hF
    refine wp_skip ?_
    refine wp_seq ?_
    refine wp_reg_seq tok (orc := orcL []) (fz := []) (l := [1, 29, 30, 31]) (c := _) (.inr fun i h => h) h (by kernel_rfl) (AllP.nil) ?_
    intro a w h
    refine wp_block ?_
    refine wp_loop_fuel (f79.l42 k x0) (fun (v70 : Int) => [(1, .val sh11 (some x0)), (29, .val sh23 x0.1), (30, .val (.int .i64) (List.length x0.1 : Int)), (31, .val (.int .i64) v70)]) (fun v h => by rw [f79.l42] at h; cases h) ?_ hF (h.arrive (fz := []) (l := [1, 29, 30, 31]) (.inr fun i h => h) (by kernel_rfl))
    intro m42 v70 a w hF h
    rw [f79.l42] at hF
    refine wp_reg_seq tok (orc := orcL []) (fz := []) (l := [1, 29, 30, 31, 32]) (c := _) (.inr fun i h => h) h (by kernel_rfl) (AllP.nil) ?_
    intro a w h
    refine wp_seq <| wp_if h (b := (decide ((v70 : Int) < (List.length x0.1 : Int)))) (by kernel_rfl) (fun hb => ?_) (fun hb => ?_)
    · replace hF := of_t hb hF
      refine wp_skip ?_
      refine wp_seq <| wp_block ?_
      obtain ⟨hc82, hF⟩ := of_if hF
      refine wp_reg_seq tok (orc := orcL []) (fz := []) (l := [1, 3, 4, 29, 30, 31]) (c := _) (.inr fun i h => h) h (by kernel_rfl) (AllP.cons hc82 AllP.nil) ?_
      intro a w h
      obtain ⟨r77, hr79, hF⟩ := of_bind hF
      obtain ⟨r78, hr80, hF⟩ := of_bind hF
      obtain ⟨hc81, hF⟩ := of_if hF
      refine wp_regy_seq tok (orc := orcL [(38, [⟨.bool, r77⟩]), (43, [⟨.bool, r78⟩])]) (fz := []) (l := [1, 29, 30, 31, 61]) (c := _) ([], [], [], []) 26 (.inr fun i h => h) h (by kernel_rfl) (by kernel_rfl) (AllP.cons (c168 k (List.getD x0.1 (Int.toNat v70) ((0 : Int), ((0 : Int), (0 : Int)))).1 r77 hr79) (AllP.cons (fun (hg : ((!r77) = false)) => c169 k (List.getD x0.1 (Int.toNat v70) ((0 : Int), ((0 : Int), (0 : Int)))).2 r78 (of_g hg hr80)) (AllP.cons hc81 AllP.nil))) ?_
      intro a w h
      refine wp_if h (b := (bif (bif (!r77) then true else (!r78)) then true else (bif (decide ((v70 : Int) > (0 : Int))) then (decide (((List.getD x0.1 (Int.toNat (IntKind.i64.wrap (v70 - (1 : Int)))) ((0 : Int), ((0 : Int), (0 : Int)))).1 : Int) ≥ (List.getD x0.1 (Int.toNat v70) ((0 : Int), ((0 : Int), (0 : Int)))).1)) else false))) (by kernel_rfl) (fun hb => ?_) (fun hb => ?_)
      · replace hF := of_t hb hF
        refine wp_reg_seq tok (orc := orcL []) (fz := []) (l := [2]) (c := _) (.inr fun i h => h) h (by kernel_rfl) (AllP.nil) ?_
        intro a w h
        cases hF
        exact wp_ret (ret_okR tok h rfl (by kernel_rfl)).1
      · replace hF := of_f hb hF
        refine wp_skip ?_
        refine wp_reg tok (orc := orcL []) (fz := []) (l := [1, 29, 30, 31]) (c := _) (.inr fun i h => h) h (by kernel_rfl) (AllP.nil) ?_
        intro a w h
        exact ⟨(IntKind.i64.wrap (v70 + (1 : Int))), hF, h.arrive (fz := []) (l := [1, 29, 30, 31]) (.inr fun i h => h) (by kernel_rfl)⟩
    · replace hF := of_f hb hF
      refine wp_exit ?_
      refine wp_reg_seq tok (orc := orcL []) (fz := []) (l := [1, 5]) (c := _) (.inr fun i h => h) h (by kernel_rfl) (AllP.nil) ?_
      intro a w h
      refine wp_seq ?_
      refine wp_reg_seq tok (orc := orcL []) (fz := []) (l := [1, 5, 67, 68, 69]) (c := _) (.inr fun i h => h) h (by kernel_rfl) (AllP.nil) ?_
      intro a w h
      refine wp_block ?_
      refine wp_loop_fuel (f79.l118 k x0) (fun (v142 : Int) => [(1, .val sh11 (some x0)), (5, .val (.int .i64) (List.length x0.1 : Int)), (67, .val sh24 x0.2.1), (68, .val (.int .i64) (List.length x0.2.1 : Int)), (69, .val (.int .i64) v142)]) (fun v h => by rw [f79.l118] at h; cases h) ?_ hF (h.arrive (fz := []) (l := [1, 5, 67, 68, 69]) (.inr fun i h => h) (by kernel_rfl))
      intro m118 v142 a w hF h
      rw [f79.l118] at hF
      refine wp_reg_seq tok (orc := orcL []) (fz := []) (l := [1, 5, 67, 68, 69, 70]) (c := _) (.inr fun i h => h) h (by kernel_rfl) (AllP.nil) ?_
      intro a w h
      refine wp_seq <| wp_if h (b := (decide ((v142 : Int) < (List.length x0.2.1 : Int)))) (by kernel_rfl) (fun hb => ?_) (fun hb => ?_)
      · replace hF := of_t hb hF
        refine wp_skip ?_
        refine wp_seq <| wp_block ?_
        obtain ⟨hc152, hF⟩ := of_if hF
        refine wp_reg_seq tok (orc := orcL []) (fz := []) (l := [1, 5, 7, 67, 68, 69]) (c := _) (.inr fun i h => h) h (by kernel_rfl) (AllP.cons hc152 AllP.nil) ?_
        intro a w h
        obtain ⟨r148, hr151, hF⟩ := of_bind hF
        refine wp_reg_seq tok (orc := orcL [(96, [⟨.bool, r148⟩])]) (fz := []) (l := [1, 5, 67, 68, 69, 118]) (c := _) (.inr fun i h => h) h (by kernel_rfl) (AllP.cons (fun (hg : ((bif (bif (bif (decide (((List.getD x0.2.1 (Int.toNat v142) ((0 : Int), ((0 : Int), ((0 : Int), ((0 : Int), ((0 : Int), (⟨#[]⟩ : ByteArray))))))).1 : Int) < (0 : Int))) then true else (decide (((List.getD x0.2.1 (Int.toNat v142) ((0 : Int), ((0 : Int), ((0 : Int), ((0 : Int), ((0 : Int), (⟨#[]⟩ : ByteArray))))))).1 : Int) ≥ (List.length x0.1 : Int)))) then true else (decide (((List.getD x0.2.1 (Int.toNat v142) ((0 : Int), ((0 : Int), ((0 : Int), ((0 : Int), ((0 : Int), (⟨#[]⟩ : ByteArray))))))).2.1 : Int) < (0 : Int)))) then true else (decide (((List.getD x0.2.1 (Int.toNat v142) ((0 : Int), ((0 : Int), ((0 : Int), ((0 : Int), ((0 : Int), (⟨#[]⟩ : ByteArray))))))).2.1 : Int) ≥ (List.length x0.1 : Int)))) = false)) => c168 k (List.getD x0.2.1 (Int.toNat v142) ((0 : Int), ((0 : Int), ((0 : Int), ((0 : Int), ((0 : Int), (⟨#[]⟩ : ByteArray))))))).2.2.1 r148 (of_g hg hr151)) AllP.nil) ?_
        intro a w h
        obtain ⟨v149, hv150, hF⟩ := of_bind hF
        replace h := h.cast (S' := [(1, .val sh11 (some x0)), (5, .val (.int .i64) (List.length x0.1 : Int)), (67, .val sh24 x0.2.1), (68, .val (.int .i64) (List.length x0.2.1 : Int)), (69, .val (.int .i64) v142), (118, .val .bool v149)]) (by cases hv150; kernel_rfl)
        refine wp_if h (b := v149) (by kernel_rfl) (fun hb => ?_) (fun hb => ?_)
        · replace hF := of_t hb hF
          refine wp_reg_seq tok (orc := orcL []) (fz := []) (l := [2]) (c := _) (.inr fun i h => h) h (by kernel_rfl) (AllP.nil) ?_
          intro a w h
          cases hF
          exact wp_ret (ret_okR tok h rfl (by kernel_rfl)).1
        · replace hF := of_f hb hF
          refine wp_skip ?_
          refine wp_reg tok (orc := orcL []) (fz := []) (l := [1, 5, 67, 68, 69]) (c := _) (.inr fun i h => h) h (by kernel_rfl) (AllP.nil) ?_
          intro a w h
          exact ⟨(IntKind.i64.wrap (v142 + (1 : Int))), hF, h.arrive (fz := []) (l := [1, 5, 67, 68, 69]) (.inr fun i h => h) (by kernel_rfl)⟩
      · replace hF := of_f hb hF
        refine wp_exit ?_
        refine wp_reg_seq tok (orc := orcL []) (fz := []) (l := [1, 8]) (c := _) (.inr fun i h => h) h (by kernel_rfl) (AllP.nil) ?_
        intro a w h
        refine wp_seq ?_
        refine wp_reg_seq tok (orc := orcL []) (fz := []) (l := [1, 8, 124, 125, 126]) (c := _) (.inr fun i h => h) h (by kernel_rfl) (AllP.nil) ?_
        intro a w h
        refine wp_block ?_
        refine wp_loop_fuel (f79.l209 k x0) (fun (v247 : Int) => [(1, .val sh11 (some x0)), (8, .val (.int .i64) (List.length x0.2.1 : Int)), (124, .val sh25 x0.2.2), (125, .val (.int .i64) (List.length x0.2.2 : Int)), (126, .val (.int .i64) v247)]) (fun v h => by rw [f79.l209] at h; cases h) ?_ hF (h.arrive (fz := []) (l := [1, 8, 124, 125, 126]) (.inr fun i h => h) (by kernel_rfl))
        intro m209 v247 a w hF h
        rw [f79.l209] at hF
        refine wp_reg_seq tok (orc := orcL []) (fz := []) (l := [1, 8, 124, 125, 126, 127]) (c := _) (.inr fun i h => h) h (by kernel_rfl) (AllP.nil) ?_
        intro a w h
        refine wp_seq <| wp_if h (b := (decide ((v247 : Int) < (List.length x0.2.2 : Int)))) (by kernel_rfl) (fun hb => ?_) (fun hb => ?_)
        · replace hF := of_t hb hF
          refine wp_skip ?_
          refine wp_mid (fun a w => ∃ v : Unit, f79.j256 k v247 ((f79.l209 k x0) m209) v = some r ∧ Rel w0 (fun _ => False) Zi Try.f79.ntmps ((fun (_ : Unit) => ([(1, .val sh11 (some x0)), (8, .val (.int .i64) (List.length x0.2.1 : Int)), (124, .val sh25 x0.2.2), (125, .val (.int .i64) (List.length x0.2.2 : Int)), (126, .val (.int .i64) v247)] : SS)) v) a w) ?_ ?_
          ·
            refine wp_block ?_
            obtain ⟨hc264, hF⟩ := of_if hF
            refine wp_reg_seq tok (orc := orcL []) (fz := []) (l := [1, 8, 9, 10, 124, 125, 126]) (c := _) (.inr fun i h => h) h (by kernel_rfl) (AllP.cons hc264 AllP.nil) ?_
            intro a w h
            refine wp_seq ?_
            obtain ⟨hc262, hF⟩ := of_if hF
            obtain ⟨hc263, hF⟩ := of_if hF
            refine wp_regy_seq tok (orc := orcL []) (fz := []) (l := [1, 8, 9, 10, 124, 125, 126, 167]) (c := _) ([], [], [], []) 37 (.inr fun i h => h) h (by kernel_rfl) (by kernel_rfl) (AllP.cons hc262 (AllP.cons hc263 AllP.nil)) ?_
            intro a w h
            obtain ⟨v257, hv261, hF⟩ := of_bind hF
            replace h := h.cast (S' := [(1, .val sh11 (some x0)), (8, .val (.int .i64) (List.length x0.2.1 : Int)), (9, .val (.int .i64) v247), (10, .val sh17 (some (List.getD x0.2.2 (Int.toNat v247) ((0 : Int), (0 : Int))))), (124, .val sh25 x0.2.2), (125, .val (.int .i64) (List.length x0.2.2 : Int)), (126, .val (.int .i64) v247), (167, .val .bool v257)]) (by cases hv261; kernel_rfl)
            refine wp_if h (b := v257) (by kernel_rfl) (fun hb => ?_) (fun hb => ?_)
            · replace hF := of_t hb hF
              refine wp_reg_seq tok (orc := orcL []) (fz := []) (l := [2]) (c := _) (.inr fun i h => h) h (by kernel_rfl) (AllP.nil) ?_
              intro a w h
              cases hF
              exact wp_ret (ret_okR tok h rfl (by kernel_rfl)).1
            · replace hF := of_f hb hF
              refine wp_skip ?_
              refine wp_reg_seq tok (orc := orcL []) (fz := []) (l := [1, 8, 9, 10, 124, 125, 126, 169]) (c := _) (.inr fun i h => h) h (by kernel_rfl) (AllP.nil) ?_
              intro a w h
              refine wp_if h (b := (decide ((v247 : Int) > (0 : Int)))) (by kernel_rfl) (fun hb => ?_) (fun hb => ?_)
              · replace hF := of_t hb hF
                obtain ⟨hc260, hF⟩ := of_if hF
                refine wp_reg_seq tok (orc := orcL []) (fz := []) (l := [1, 8, 10, 11, 124, 125, 126]) (c := _) (.inr fun i h => h) h (by kernel_rfl) (AllP.cons hc260 AllP.nil) ?_
                intro a w h
                refine wp_reg_seq tok (orc := orcL []) (fz := []) (l := [1, 8, 124, 125, 126, 194]) (c := _) (.inr fun i h => h) h (by kernel_rfl) (AllP.nil) ?_
                intro a w h
                obtain ⟨v258, hv259, hF⟩ := of_bind hF
                replace h := h.cast (S' := [(1, .val sh11 (some x0)), (8, .val (.int .i64) (List.length x0.2.1 : Int)), (124, .val sh25 x0.2.2), (125, .val (.int .i64) (List.length x0.2.2 : Int)), (126, .val (.int .i64) v247), (194, .val .bool v258)]) (by cases hv259; kernel_rfl)
                refine wp_if h (b := v258) (by kernel_rfl) (fun hb => ?_) (fun hb => ?_)
                · replace hF := of_t hb hF
                  refine wp_reg_seq tok (orc := orcL []) (fz := []) (l := [2]) (c := _) (.inr fun i h => h) h (by kernel_rfl) (AllP.nil) ?_
                  intro a w h
                  cases hF
                  exact wp_ret (ret_okR tok h rfl (by kernel_rfl)).1
                · replace hF := of_f hb hF
                  refine wp_skip ?_
                  exact ⟨(), hF, h.arrive (fz := []) (l := [1, 8, 124, 125, 126]) (.inr fun i h => h) (by kernel_rfl)⟩
              · replace hF := of_f hb hF
                refine wp_skip ?_
                exact ⟨(), hF, h.arrive (fz := []) (l := [1, 8, 124, 125, 126]) (.inr fun i h => h) (by kernel_rfl)⟩
          · rintro a w ⟨v, hF, h⟩
            obtain ⟨⟩ := v
            rw [f79.j256] at hF
            refine wp_reg tok (orc := orcL []) (fz := []) (l := [1, 8, 124, 125, 126]) (c := _) (.inr fun i h => h) h (by kernel_rfl) (AllP.nil) ?_
            intro a w h
            exact ⟨(IntKind.i64.wrap (v247 + (1 : Int))), hF, h.arrive (fz := []) (l := [1, 8, 124, 125, 126]) (.inr fun i h => h) (by kernel_rfl)⟩
        · replace hF := of_f hb hF
          refine wp_exit ?_
          refine wp_reg_seq tok (orc := orcL []) (fz := []) (l := [2]) (c := _) (.inr fun i h => h) h (by kernel_rfl) (AllP.nil) ?_
          intro a w h
          cases hF
          exact wp_ret (ret_okR tok h rfl (by kernel_rfl)).1

def f117 (k : Nat) (x0 : ((List (Int × (Int × Int))) × ((List (Int × (Int × (Int × (Int × (Int × ByteArray)))))) × (List (Int × Int))))) : Option ((List (Int × (Int × Int))) × ((List (Int × (Int × (Int × (Int × (Int × ByteArray)))))) × (List (Int × Int)))) := if ((List.length ([] : List (Int × (Int × Int))) + List.length x0.1) * 24 ≤ 140737488355328) then (if ((List.length ([] : List (Int × (Int × (Int × (Int × (Int × ByteArray)))))) + List.length x0.2.1) * 56 ≤ 140737488355328) then (if ((List.length ([] : List (Int × Int)) + List.length x0.2.2) * 16 ≤ 140737488355328) then (some ((([] : List (Int × (Int × Int))) ++ x0.1), ((([] : List (Int × (Int × (Int × (Int × (Int × ByteArray)))))) ++ x0.2.1), (([] : List (Int × Int)) ++ x0.2.2)))) else none) else none) else none
set_option maxRecDepth 100000 in
/-- 'impl.myCopy'. -/
theorem c117 (k : Nat) (x0 : ((List (Int × (Int × Int))) × ((List (Int × (Int × (Int × (Int × (Int × ByteArray)))))) × (List (Int × Int))))) (r : ((List (Int × (Int × Int))) × ((List (Int × (Int × (Int × (Int × (Int × ByteArray)))))) × (List (Int × Int))))) (hF : f117 k x0 = some r) : PCall Try.prog 117 [⟨sh12, x0⟩] [⟨sh10, r⟩] := by
  refine pcall_intro Try.func117 rfl rfl (Nat.le_of_ble_eq_true rfl) ?_
  intro w0 Zi a w h
  rw [f117] at hF
  refine wp_reg_seq tok (orc := orcL []) (fz := []) (l := [1, 2]) (c := _) (.inr fun i h => h) h (by kernel_rfl) (AllP.nil) ?_
  intro a w h
  obtain ⟨hc1, hF⟩ := of_if hF
  obtain ⟨hc2, hF⟩ := of_if hF
  obtain ⟨hc3, hF⟩ := of_if hF
  refine wp_regy_seq tok (orc := orcL []) (fz := []) (l := [2]) (c := _) ([], [(3, [3]), (7, [7])], [], [(4, []), (5, [1]), (6, [1, 8]), (8, []), (9, [1]), (10, [1, 12])]) 11 (.inr fun i h => h) h (by kernel_rfl) (by kernel_rfl) (AllP.cons hc1 (AllP.cons hc2 (AllP.cons hc3 AllP.nil))) ?_
  intro a w h
  cases hF
  exact wp_ret (ret_okR tok h rfl (by kernel_rfl)).1

def f118.j4 (k : Nat) : Int → Option Int
  | v3 => some v3
def f118.j2 (k : Nat) : Int → Option Int
  | v1 => if (decide ((v1 : Int) > (1000000 : Int))) then (f118.j4 k (1000000 : Int)) else (f118.j4 k v1)
def f118 (k : Nat) (x0 : Int) (x1 : Int) : Option Int := if (((100 : Int) : Int) ≠ 0) then (if (decide (((IntKind.i64.wrap (Int.tdiv (IntKind.i64.wrap ((IntKind.i64.wrap (x0 * x1)) + (99 : Int))) (100 : Int))) : Int) < (1 : Int))) then (f118.j2 k (1 : Int)) else (f118.j2 k (IntKind.i64.wrap (Int.tdiv (IntKind.i64.wrap ((IntKind.i64.wrap (x0 * x1)) + (99 : Int))) (100 : Int))))) else none
set_option maxRecDepth 100000 in
/-- 'impl.mySlow'. -/
theorem c118 (k : Nat) (x0 : Int) (x1 : Int) (r : Int) (hF : f118 k x0 x1 = some r) : PCall Try.prog 118 [⟨(.int .i64), x0⟩, ⟨(.int .i64), x1⟩] [⟨(.int .i64), r⟩] := by
  refine pcall_intro Try.func118 rfl rfl (Nat.le_of_ble_eq_true rfl) ?_
  intro w0 Zi a w h
  rw [f118] at hF
  refine wp_reg_seq tok (orc := orcL []) (fz := []) (l := [0, 1]) (c := _) (.inr fun i h => h) h (by kernel_rfl) (AllP.nil) ?_
  intro a w h
  obtain ⟨hc5, hF⟩ := of_if hF
  refine wp_reg_seq tok (orc := orcL []) (fz := []) (l := [5]) (c := _) (.inr fun i h => h) h (by kernel_rfl) (AllP.cons hc5 AllP.nil) ?_
  intro a w h
  refine wp_seq ?_
  refine wp_reg_seq tok (orc := orcL []) (fz := []) (l := [5, 12]) (c := _) (.inr fun i h => h) h (by kernel_rfl) (AllP.nil) ?_
  intro a w h
  refine wp_midT (fun a w => ∃ v : Int, f118.j2 k v = some r ∧ Rel w0 (fun _ => False) Zi Try.f118.ntmps ((fun (v1 : Int) => ([(5, .val (.int .i64) v1)] : SS)) v) a w) ?_ ?_
  ·
    refine wp_if h (b := (decide (((IntKind.i64.wrap (Int.tdiv (IntKind.i64.wrap ((IntKind.i64.wrap (x0 * x1)) + (99 : Int))) (100 : Int))) : Int) < (1 : Int)))) (by kernel_rfl) (fun hb => ?_) (fun hb => ?_)
    · replace hF := of_t hb hF
      refine wp_reg tok (orc := orcL []) (fz := []) (l := [5]) (c := _) (.inr fun i h => h) h (by kernel_rfl) (AllP.nil) ?_
      intro a w h
      exact ⟨(1 : Int), hF, h.arrive (fz := []) (l := [5]) (.inr fun i h => h) (by kernel_rfl)⟩
    · replace hF := of_f hb hF
      refine wp_skip ?_
      exact ⟨(IntKind.i64.wrap (Int.tdiv (IntKind.i64.wrap ((IntKind.i64.wrap (x0 * x1)) + (99 : Int))) (100 : Int))), hF, h.arrive (fz := []) (l := [5]) (.inr fun i h => h) (by kernel_rfl)⟩
  · rintro a w ⟨v1, hF, h⟩
    rw [f118.j2] at hF
    refine wp_seq ?_
    refine wp_reg_seq tok (orc := orcL []) (fz := []) (l := [5, 14]) (c := _) (.inr fun i h => h) h (by kernel_rfl) (AllP.nil) ?_
    intro a w h
    refine wp_midT (fun a w => ∃ v : Int, f118.j4 k v = some r ∧ Rel w0 (fun _ => False) Zi Try.f118.ntmps ((fun (v3 : Int) => ([(5, .val (.int .i64) v3)] : SS)) v) a w) ?_ ?_
    ·
      refine wp_if h (b := (decide ((v1 : Int) > (1000000 : Int)))) (by kernel_rfl) (fun hb => ?_) (fun hb => ?_)
      · replace hF := of_t hb hF
        refine wp_reg tok (orc := orcL []) (fz := []) (l := [5]) (c := _) (.inr fun i h => h) h (by kernel_rfl) (AllP.nil) ?_
        intro a w h
        exact ⟨(1000000 : Int), hF, h.arrive (fz := []) (l := [5]) (.inr fun i h => h) (by kernel_rfl)⟩
      · replace hF := of_f hb hF
        refine wp_skip ?_
        exact ⟨v1, hF, h.arrive (fz := []) (l := [5]) (.inr fun i h => h) (by kernel_rfl)⟩
    · rintro a w ⟨v3, hF, h⟩
      rw [f118.j4] at hF
      refine wp_reg_seq tok (orc := orcL []) (fz := []) (l := [4]) (c := _) (.inr fun i h => h) h (by kernel_rfl) (AllP.nil) ?_
      intro a w h
      cases hF
      exact wp_ret (ret_okR tok h rfl (by kernel_rfl)).1

end Go.Proofs.Ytchbpdnaodicaaa.V
