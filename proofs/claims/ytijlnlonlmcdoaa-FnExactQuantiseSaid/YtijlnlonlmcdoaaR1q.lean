/-
  THE CONTRACTS OF SOME FUNCTIONS OF THIS SEAT, PRINTED BY A PROGRAM OF THIS PROJECT (wip/gen/vgen.py).
-/
import Derived.Test.YtijlnlonlmcdoaaProg
import Derived.Test.YtijlnlonlmcdoaaVmW
import Derived.Test.YtijlnlonlmcdoaaVmY
import Derived.KernelRfl
set_option linter.unusedVariables false
open Go Go.Vm Go.Proofs
namespace Go.Proofs.Ytijlnlonlmcdoaa.V
abbrev sh0 : Sh := (.sl false 23 (.st (.pair (.int .i64) (.int .i64))))
abbrev sh1 : Sh := (.st (.pair (.int .i64) (.int .i64)))
abbrev sh2 : Sh := (.sl true 27 (.st (.pair (.int .i64) (.int .i64))))
abbrev sh3 : Sh := (.st (.pair (.int .i64) (.pair (.int .i64) (.int .i64))))
abbrev sh4 : Sh := (.sl false 27 (.st (.pair (.int .i64) (.int .i64))))
abbrev sh5 : Sh := (.st (.pair (.st (.pair (.int .i64) (.int .i64))) (.st (.pair (.int .i64) (.int .i64)))))
abbrev sh6 : Sh := (.pt true 66 (.st (.pair (.st (.pair (.int .i64) (.int .i64))) (.st (.pair (.int .i64) (.int .i64))))))
abbrev sh7 : Sh := (.pt true 27 (.st (.pair (.int .i64) (.int .i64))))
def tbl : Tbl := [⟨2, .int .i64, 1, 8, (.int .i64)⟩,
  ⟨3, .int .i64, 1, 8, (.int .i64)⟩,
  ⟨23, .struct [(2, 0), (2, 1)], 2, 16, (.st (.pair (.int .i64) (.int .i64)))⟩,
  ⟨27, .struct [(2, 0), (2, 1)], 2, 16, (.st (.pair (.int .i64) (.int .i64)))⟩,
  ⟨46, .slice 23, 1, 24, (.sl true 23 (.st (.pair (.int .i64) (.int .i64))))⟩,
  ⟨48, .struct [(2, 0), (2, 1), (2, 2)], 3, 24, (.st (.pair (.int .i64) (.pair (.int .i64) (.int .i64))))⟩,
  ⟨50, .slice 27, 1, 24, (.sl true 27 (.st (.pair (.int .i64) (.int .i64))))⟩,
  ⟨53, .struct [(2, 0), (2, 1), (2, 2)], 3, 24, (.st (.pair (.int .i64) (.pair (.int .i64) (.int .i64))))⟩,
  ⟨66, .struct [(27, 0), (27, 2)], 4, 32, (.st (.pair (.st (.pair (.int .i64) (.int .i64))) (.st (.pair (.int .i64) (.int .i64)))))⟩,
  ⟨186, .int .u64, 1, 8, (.int .u64)⟩]
theorem tok : TOk Try.prog tbl := by unfold TOk; kernel_rfl

def f30 (k : Nat) (x0 : (List (Int × Int))) (x1 : Int) : Option Int := if (decide (((IntKind.i64.wrap (x1 - (List.length x0 : Int))) : Int) < (0 : Int))) then (some (-1 : Int)) else (some (IntKind.i64.wrap (x1 - (List.length x0 : Int))))
set_option maxRecDepth 100000 in
/-- 'laws.szPointS'. -/
theorem c30 (k : Nat) (x0 : (List (Int × Int))) (x1 : Int) (r : Int) (hF : f30 k x0 x1 = some r) : PCall Try.prog 30 [⟨sh0, x0⟩, ⟨(.int .i64), x1⟩] [⟨(.int .i64), r⟩] := by
  refine pcall_intro Try.func30 rfl rfl (Nat.le_of_ble_eq_true rfl) ?_
  intro w0 Zi a w h
  rw [f30] at hF
  refine wp_reg_seq tok (orc := orcL []) (fz := []) (l := [0, 1]) (c := _) (.inr fun i h => h) h (by kernel_rfl) (AllP.nil) ?_
  intro a w h
  refine wp_reg_seq tok (orc := orcL []) (fz := []) (l := [1]) (c := _) (.inr fun i h => h) h (by kernel_rfl) (AllP.nil) ?_
  intro a w h
  refine wp_seq ?_
  refine wp_reg_seq tok (orc := orcL []) (fz := []) (l := [1, 10]) (c := _) (.inr fun i h => h) h (by kernel_rfl) (AllP.nil) ?_
  intro a w h
  refine wp_if h (b := (decide (((IntKind.i64.wrap (x1 - (List.length x0 : Int))) : Int) < (0 : Int)))) (by kernel_rfl) (fun hb => ?_) (fun hb => ?_)
  · replace hF := of_t hb hF
    refine wp_reg_seq tok (orc := orcL []) (fz := []) (l := [4]) (c := _) (.inr fun i h => h) h (by kernel_rfl) (AllP.nil) ?_
    intro a w h
    cases hF
    exact wp_ret (ret_okR tok h rfl (by kernel_rfl)).1
  · replace hF := of_f hb hF
    refine wp_skip ?_
    refine wp_reg_seq tok (orc := orcL []) (fz := []) (l := [4]) (c := _) (.inr fun i h => h) h (by kernel_rfl) (AllP.nil) ?_
    intro a w h
    cases hF
    exact wp_ret (ret_okR tok h rfl (by kernel_rfl)).1

def f77 (k : Nat) (x0 : (Int × Int)) : Option (Int × Int) := some (x0.1, x0.2)
set_option maxRecDepth 100000 in
/-- 'laws.toPoint'. -/
theorem c77 (k : Nat) (x0 : (Int × Int)) (r : (Int × Int)) (hF : f77 k x0 = some r) : PCall Try.prog 77 [⟨sh1, x0⟩] [⟨sh1, r⟩] := by
  refine pcall_intro Try.func77 rfl rfl (Nat.le_of_ble_eq_true rfl) ?_
  intro w0 Zi a w h
  rw [f77] at hF
  refine wp_reg_seq tok (orc := orcL []) (fz := []) (l := [1, 2]) (c := _) (.inr fun i h => h) h (by kernel_rfl) (AllP.nil) ?_
  intro a w h
  refine wp_reg_seq tok (orc := orcL []) (fz := []) (l := [1, 2, 3]) (c := _) (.inr fun i h => h) h (by kernel_rfl) (AllP.nil) ?_
  intro a w h
  refine wp_reg_seq tok (orc := orcL []) (fz := []) (l := [1, 2, 3]) (c := _) (.inr fun i h => h) h (by kernel_rfl) (AllP.nil) ?_
  intro a w h
  refine wp_reg_seq tok (orc := orcL []) (fz := []) (l := [2, 3]) (c := _) (.inr fun i h => h) h (by kernel_rfl) (AllP.nil) ?_
  intro a w h
  refine wp_reg_seq tok (orc := orcL []) (fz := []) (l := [2]) (c := _) (.inr fun i h => h) h (by kernel_rfl) (AllP.nil) ?_
  intro a w h
  cases hF
  exact wp_ret (ret_okR tok h rfl (by kernel_rfl)).1

def f32.l34 (k : Nat) (x0 : (List (Int × Int))) : Nat → ((List (Int × Int)) × Int) → Option (List (Int × Int))
  | 0, _ => none
  | m34 + 1, (v57, v58) => if (decide ((v58 : Int) < (List.length x0 : Int))) then (if (0 ≤ v58 ∧ v58 < (List.length x0 : Int)) then ((f77 k (List.getD x0 (Int.toNat v58) ((0 : Int), (0 : Int)))).bind fun r63 => (if (0 ≤ v58 ∧ v58 < (List.length v57 : Int)) then ((f32.l34 k x0) m34 ((List.set v57 (Int.toNat v58) r63), (IntKind.i64.wrap (v58 + (1 : Int))))) else none)) else none) else (some v57)
def f32 (k : Nat) (x0 : (List (Int × Int))) : Option (List (Int × Int)) := if (0 ≤ (List.length x0 : Int) ∧ Int.toNat (List.length x0 : Int) * 16 ≤ 140737488355328) then (f32.l34 k x0 k ((List.replicate (Int.toNat (List.length x0 : Int)) ((0 : Int), (0 : Int))), (0 : Int))) else none
set_option maxRecDepth 100000 in
/-- 'laws.toPointS'. -/
theorem c32 (k : Nat) (x0 : (List (Int × Int))) (r : (List (Int × Int))) (hF : f32 k x0 = some r) : PCall Try.prog 32 [⟨sh0, x0⟩] [⟨sh2, r⟩] := by
  refine pcall_intro Try.func32 rfl rfl (Nat.le_of_ble_eq_true rfl) ?_
  intro w0 Zi a w h
  rw [f32] at hF
  refine wp_reg_seq tok (orc := orcL []) (fz := []) (l := [0]) (c := _) (.inr fun i h => h) h (by kernel_rfl) (AllP.nil) ?_
  intro a w h
  obtain ⟨hc67, hF⟩ := of_if hF
  refine wp_reg_seq tok (orc := orcL []) (fz := []) (l := [0, 3]) (c := _) (.inr fun i h => h) h (by kernel_rfl) (AllP.cons hc67 AllP.nil) ?_
  intro a w h
  refine wp_seq ?_
  refine wp_reg_seq tok (orc := orcL []) (fz := []) (l := [0, 3, 4]) (c := _) (.inr fun i h => h) h (by kernel_rfl) (AllP.nil) ?_
  intro a w h
  refine wp_block ?_
  refine wp_loop_fuel (f32.l34 k x0) (fun ((v57, v58) : ((List (Int × Int)) × Int)) => [(0, .val sh0 x0), (3, .val sh2 v57), (4, .val (.int .i64) v58)]) (fun v h => by obtain ⟨v57, v58⟩ := v; rw [f32.l34] at h; cases h) ?_ hF (h.arrive (fz := []) (l := [0, 3, 4]) (.inr fun i h => h) (by kernel_rfl))
  intro m34 v a w hF h
  obtain ⟨v57, v58⟩ := v
  rw [f32.l34] at hF
  refine wp_seq ?_
  refine wp_reg_seq tok (orc := orcL []) (fz := []) (l := [0, 3, 4, 11]) (c := _) (.inr fun i h => h) h (by kernel_rfl) (AllP.nil) ?_
  intro a w h
  refine wp_if h (b := (decide ((v58 : Int) < (List.length x0 : Int)))) (by kernel_rfl) (fun hb => ?_) (fun hb => ?_)
  · replace hF := of_t hb hF
    refine wp_skip ?_
    refine wp_seq <| wp_block ?_
    obtain ⟨hc64, hF⟩ := of_if hF
    obtain ⟨r63, hr65, hF⟩ := of_bind hF
    obtain ⟨hc66, hF⟩ := of_if hF
    refine wp_reg tok (orc := orcL [(20, [⟨sh1, r63⟩])]) (fz := []) (l := [0, 3, 4]) (c := _) (.inr fun i h => h) h (by kernel_rfl) (AllP.cons hc64 (AllP.cons (c77 k (List.getD x0 (Int.toNat v58) ((0 : Int), (0 : Int))) r63 hr65) (AllP.cons hc66 AllP.nil))) ?_
    intro a w h
    refine wp_reg tok (orc := orcL []) (fz := []) (l := [0, 3, 4]) (c := _) (.inr fun i h => h) h (by kernel_rfl) (AllP.nil) ?_
    intro a w h
    exact ⟨((List.set v57 (Int.toNat v58) r63), (IntKind.i64.wrap (v58 + (1 : Int)))), hF, h.arrive (fz := []) (l := [0, 3, 4]) (.inr fun i h => h) (by kernel_rfl)⟩
  · replace hF := of_f hb hF
    refine wp_exit ?_
    refine wp_reg_seq tok (orc := orcL []) (fz := []) (l := [2, 3]) (c := _) (.inr fun i h => h) h (by kernel_rfl) (AllP.nil) ?_
    intro a w h
    cases hF
    exact wp_ret (ret_okR tok h rfl (by kernel_rfl)).1

def f33 (k : Nat) (x0 : (Int × (Int × Int))) : Option (Int × (Int × Int)) := some (x0.1, (x0.2.1, x0.2.2))
set_option maxRecDepth 100000 in
/-- 'laws.toTile'. -/
theorem c33 (k : Nat) (x0 : (Int × (Int × Int))) (r : (Int × (Int × Int))) (hF : f33 k x0 = some r) : PCall Try.prog 33 [⟨sh3, x0⟩] [⟨sh3, r⟩] := by
  refine pcall_intro Try.func33 rfl rfl (Nat.le_of_ble_eq_true rfl) ?_
  intro w0 Zi a w h
  rw [f33] at hF
  refine wp_reg_seq tok (orc := orcL []) (fz := []) (l := [1, 2]) (c := _) (.inr fun i h => h) h (by kernel_rfl) (AllP.nil) ?_
  intro a w h
  refine wp_reg_seq tok (orc := orcL []) (fz := []) (l := [1, 2, 3]) (c := _) (.inr fun i h => h) h (by kernel_rfl) (AllP.nil) ?_
  intro a w h
  refine wp_reg_seq tok (orc := orcL []) (fz := []) (l := [1, 2, 3]) (c := _) (.inr fun i h => h) h (by kernel_rfl) (AllP.nil) ?_
  intro a w h
  refine wp_reg_seq tok (orc := orcL []) (fz := []) (l := [1, 2, 3]) (c := _) (.inr fun i h => h) h (by kernel_rfl) (AllP.nil) ?_
  intro a w h
  refine wp_reg_seq tok (orc := orcL []) (fz := []) (l := [2, 3]) (c := _) (.inr fun i h => h) h (by kernel_rfl) (AllP.nil) ?_
  intro a w h
  refine wp_reg_seq tok (orc := orcL []) (fz := []) (l := [2]) (c := _) (.inr fun i h => h) h (by kernel_rfl) (AllP.nil) ?_
  intro a w h
  cases hF
  exact wp_ret (ret_okR tok h rfl (by kernel_rfl)).1

def f115 (k : Nat) (x0 : (Int × Int)) : Option Bool := some (bif (bif (bif (decide ((x0.1 : Int) ≥ (-10000000 : Int))) then (decide ((x0.1 : Int) ≤ (10000000 : Int))) else false) then (decide ((x0.2 : Int) ≥ (-10000000 : Int))) else false) then (decide ((x0.2 : Int) ≤ (10000000 : Int))) else false)
set_option maxRecDepth 100000 in
/-- 'spec.PointOk'. -/
theorem c115 (k : Nat) (x0 : (Int × Int)) (r : Bool) (hF : f115 k x0 = some r) : PCall Try.prog 115 [⟨sh1, x0⟩] [⟨.bool, r⟩] := by
  refine pcall_intro Try.func115 rfl rfl (Nat.le_of_ble_eq_true rfl) ?_
  intro w0 Zi a w h
  rw [f115] at hF
  refine wp_reg_seq tok (orc := orcL []) (fz := []) (l := [1]) (c := _) (.inr fun i h => h) h (by kernel_rfl) (AllP.nil) ?_
  intro a w h
  refine wp_reg_seq tok (orc := orcL []) (fz := []) (l := [2]) (c := _) (.inr fun i h => h) h (by kernel_rfl) (AllP.nil) ?_
  intro a w h
  cases hF
  exact wp_ret (ret_okR tok h rfl (by kernel_rfl)).1

def f89.l24 (k : Nat) (x0 : (List (Int × Int))) : Nat → Int → Option Bool
  | 0, _ => none
  | m24 + 1, v40 => if (bif (decide ((v40 : Int) < (List.length x0 : Int))) then (decide (((List.length x0 : Int) : Int) ≤ (2000 : Int))) else false) then (if (0 ≤ v40 ∧ v40 < (List.length x0 : Int)) then ((f115 k (List.getD x0 (Int.toNat v40) ((0 : Int), (0 : Int)))).bind fun r44 => (if (!r44) then (some false) else ((f89.l24 k x0) m24 (IntKind.i64.wrap (v40 + (1 : Int)))))) else none) else (some (decide (((List.length x0 : Int) : Int) ≤ (2000 : Int))))
def f89 (k : Nat) (x0 : (List (Int × Int))) : Option Bool := f89.l24 k x0 k (0 : Int)
set_option maxRecDepth 100000 in
/-- 'spec.l1RowOk'. -/
theorem c89 (k : Nat) (x0 : (List (Int × Int))) (r : Bool) (hF : f89 k x0 = some r) : PCall Try.prog 89 [⟨sh4, x0⟩] [⟨.bool, r⟩] := by
  refine pcall_intro Try.func89 rfl rfl (Nat.le_of_ble_eq_true rfl) ?_
  intro w0 Zi a w h
  rw [f89] at hF
  refine wp_reg_seq tok (orc := orcL []) (fz := []) (l := [0]) (c := _) (.inr fun i h => h) h (by kernel_rfl) (AllP.nil) ?_
  intro a w h
  refine wp_seq ?_
  refine wp_reg_seq tok (orc := orcL []) (fz := []) (l := [0, 3]) (c := _) (.inr fun i h => h) h (by kernel_rfl) (AllP.nil) ?_
  intro a w h
  refine wp_block ?_
  refine wp_loop_fuel (f89.l24 k x0) (fun (v40 : Int) => [(0, .val sh4 x0), (3, .val (.int .i64) v40)]) (fun v h => by rw [f89.l24] at h; cases h) ?_ hF (h.arrive (fz := []) (l := [0, 3]) (.inr fun i h => h) (by kernel_rfl))
  intro m24 v40 a w hF h
  rw [f89.l24] at hF
  refine wp_seq ?_
  refine wp_reg_seq tok (orc := orcL []) (fz := []) (l := [0, 3, 12]) (c := _) (.inr fun i h => h) h (by kernel_rfl) (AllP.nil) ?_
  intro a w h
  refine wp_if h (b := (bif (decide ((v40 : Int) < (List.length x0 : Int))) then (decide (((List.length x0 : Int) : Int) ≤ (2000 : Int))) else false)) (by kernel_rfl) (fun hb => ?_) (fun hb => ?_)
  · replace hF := of_t hb hF
    refine wp_skip ?_
    refine wp_seq <| wp_block ?_
    obtain ⟨hc45, hF⟩ := of_if hF
    obtain ⟨r44, hr46, hF⟩ := of_bind hF
    refine wp_reg_seq tok (orc := orcL [(19, [⟨.bool, r44⟩])]) (fz := []) (l := [0, 3, 20]) (c := _) (.inr fun i h => h) h (by kernel_rfl) (AllP.cons hc45 (AllP.cons (c115 k (List.getD x0 (Int.toNat v40) ((0 : Int), (0 : Int))) r44 hr46) AllP.nil)) ?_
    intro a w h
    refine wp_if h (b := (!r44)) (by kernel_rfl) (fun hb => ?_) (fun hb => ?_)
    · replace hF := of_t hb hF
      refine wp_reg_seq tok (orc := orcL []) (fz := []) (l := [2]) (c := _) (.inr fun i h => h) h (by kernel_rfl) (AllP.nil) ?_
      intro a w h
      cases hF
      exact wp_ret (ret_okR tok h rfl (by kernel_rfl)).1
    · replace hF := of_f hb hF
      refine wp_skip ?_
      refine wp_reg tok (orc := orcL []) (fz := []) (l := [0, 3]) (c := _) (.inr fun i h => h) h (by kernel_rfl) (AllP.nil) ?_
      intro a w h
      exact ⟨(IntKind.i64.wrap (v40 + (1 : Int))), hF, h.arrive (fz := []) (l := [0, 3]) (.inr fun i h => h) (by kernel_rfl)⟩
  · replace hF := of_f hb hF
    refine wp_exit ?_
    refine wp_reg_seq tok (orc := orcL []) (fz := []) (l := [2]) (c := _) (.inr fun i h => h) h (by kernel_rfl) (AllP.nil) ?_
    intro a w h
    cases hF
    exact wp_ret (ret_okR tok h rfl (by kernel_rfl)).1

def f90 (k : Nat) (x0 : (Int × (Int × Int))) : Option Bool := if (bif (decide ((x0.1 : Int) < (0 : Int))) then true else (decide ((x0.1 : Int) > (10 : Int)))) then (some false) else (if ((0 : Int) ≤ (IntKind.u64.wrap x0.1)) then (some (bif (bif (bif (decide ((x0.2.1 : Int) ≥ (0 : Int))) then (decide ((x0.2.1 : Int) < (IntKind.i64.wrap ((1 : Int) * 2 ^ (min (Int.toNat (IntKind.u64.wrap x0.1)) IntKind.i64.bits))))) else false) then (decide ((x0.2.2 : Int) ≥ (0 : Int))) else false) then (decide ((x0.2.2 : Int) < (IntKind.i64.wrap ((1 : Int) * 2 ^ (min (Int.toNat (IntKind.u64.wrap x0.1)) IntKind.i64.bits))))) else false)) else none)
set_option maxRecDepth 100000 in
/-- 'spec.TileOk'. -/
theorem c90 (k : Nat) (x0 : (Int × (Int × Int))) (r : Bool) (hF : f90 k x0 = some r) : PCall Try.prog 90 [⟨sh3, x0⟩] [⟨.bool, r⟩] := by
  refine pcall_intro Try.func90 rfl rfl (Nat.le_of_ble_eq_true rfl) ?_
  intro w0 Zi a w h
  rw [f90] at hF
  refine wp_reg_seq tok (orc := orcL []) (fz := []) (l := [1]) (c := _) (.inr fun i h => h) h (by kernel_rfl) (AllP.nil) ?_
  intro a w h
  refine wp_seq ?_
  refine wp_reg_seq tok (orc := orcL []) (fz := []) (l := [1, 11]) (c := _) (.inr fun i h => h) h (by kernel_rfl) (AllP.nil) ?_
  intro a w h
  refine wp_if h (b := (bif (decide ((x0.1 : Int) < (0 : Int))) then true else (decide ((x0.1 : Int) > (10 : Int))))) (by kernel_rfl) (fun hb => ?_) (fun hb => ?_)
  · replace hF := of_t hb hF
    refine wp_reg_seq tok (orc := orcL []) (fz := []) (l := [2]) (c := _) (.inr fun i h => h) h (by kernel_rfl) (AllP.nil) ?_
    intro a w h
    cases hF
    exact wp_ret (ret_okR tok h rfl (by kernel_rfl)).1
  · replace hF := of_f hb hF
    refine wp_skip ?_
    obtain ⟨hc1, hF⟩ := of_if hF
    refine wp_reg_seq tok (orc := orcL []) (fz := []) (l := [1, 3]) (c := _) (.inr fun i h => h) h (by kernel_rfl) (AllP.cons hc1 AllP.nil) ?_
    intro a w h
    refine wp_reg_seq tok (orc := orcL []) (fz := []) (l := [2]) (c := _) (.inr fun i h => h) h (by kernel_rfl) (AllP.nil) ?_
    intro a w h
    cases hF
    exact wp_ret (ret_okR tok h rfl (by kernel_rfl)).1

def f134 (k : Nat) (x0 : Int) : Option Int := if ((0 : Int) ≤ (IntKind.u64.wrap x0)) then (some (Int.fdiv (33554432 : Int) (2 ^ (min (Int.toNat (IntKind.u64.wrap x0)) IntKind.i64.bits)))) else none
set_option maxRecDepth 100000 in
/-- 'spec.l6Side'. -/
theorem c134 (k : Nat) (x0 : Int) (r : Int) (hF : f134 k x0 = some r) : PCall Try.prog 134 [⟨(.int .i64), x0⟩] [⟨(.int .i64), r⟩] := by
  refine pcall_intro Try.func134 rfl rfl (Nat.le_of_ble_eq_true rfl) ?_
  intro w0 Zi a w h
  rw [f134] at hF
  refine wp_reg_seq tok (orc := orcL []) (fz := []) (l := [0]) (c := _) (.inr fun i h => h) h (by kernel_rfl) (AllP.nil) ?_
  intro a w h
  obtain ⟨hc1, hF⟩ := of_if hF
  refine wp_reg_seq tok (orc := orcL []) (fz := []) (l := [2]) (c := _) (.inr fun i h => h) h (by kernel_rfl) (AllP.cons hc1 AllP.nil) ?_
  intro a w h
  cases hF
  exact wp_ret (ret_okR tok h rfl (by kernel_rfl)).1

def f101 (k : Nat) (x0 : (Int × (Int × Int))) : Option ((Int × Int) × (Int × Int)) := (f134 k x0.1).bind fun r1 => (some (((IntKind.i64.wrap ((IntKind.i64.wrap (x0.2.1 * r1)) - (16777216 : Int))), (IntKind.i64.wrap ((IntKind.i64.wrap (x0.2.2 * r1)) - (16777216 : Int)))), ((IntKind.i64.wrap ((IntKind.i64.wrap ((IntKind.i64.wrap (x0.2.1 * r1)) - (16777216 : Int))) + r1)), (IntKind.i64.wrap ((IntKind.i64.wrap ((IntKind.i64.wrap (x0.2.2 * r1)) - (16777216 : Int))) + r1)))))
set_option maxRecDepth 100000 in
/-- 'spec.l6Box'. -/
theorem c101 (k : Nat) (x0 : (Int × (Int × Int))) (r : ((Int × Int) × (Int × Int))) (hF : f101 k x0 = some r) : PCall Try.prog 101 [⟨sh3, x0⟩] [⟨sh5, r⟩] := by
  refine pcall_intro Try.func101 rfl rfl (Nat.le_of_ble_eq_true rfl) ?_
  intro w0 Zi a w h
  rw [f101] at hF
  refine wp_reg_seq tok (orc := orcL []) (fz := []) (l := [1, 2]) (c := _) (.inr fun i h => h) h (by kernel_rfl) (AllP.nil) ?_
  intro a w h
  obtain ⟨r1, hr2, hF⟩ := of_bind hF
  refine wp_reg_seq tok (orc := orcL [(7, [⟨(.int .i64), r1⟩])]) (fz := []) (l := [1, 2, 3]) (c := _) (.inr fun i h => h) h (by kernel_rfl) (AllP.cons (c134 k x0.1 r1 hr2) AllP.nil) ?_
  intro a w h
  refine wp_reg_seq tok (orc := orcL []) (fz := []) (l := [2, 3, 4]) (c := _) (.inr fun i h => h) h (by kernel_rfl) (AllP.nil) ?_
  intro a w h
  refine wp_reg_seq tok (orc := orcL []) (fz := []) (l := [2]) (c := _) (.inr fun i h => h) h (by kernel_rfl) (AllP.nil) ?_
  intro a w h
  cases hF
  exact wp_ret (ret_okR tok h rfl (by kernel_rfl)).1

def f135 (k : Nat) (x0 : ((Int × Int) × (Int × Int))) (x1 : (Int × Int)) : Option Bool := some (bif (bif (bif (decide ((x1.1 : Int) ≥ x0.1.1)) then (decide ((x1.1 : Int) ≤ x0.2.1)) else false) then (decide ((x1.2 : Int) ≥ x0.1.2)) else false) then (decide ((x1.2 : Int) ≤ x0.2.2)) else false)
set_option maxRecDepth 100000 in
/-- 'spec.l2In'. -/
theorem c135 (k : Nat) (x0 : ((Int × Int) × (Int × Int))) (x1 : (Int × Int)) (r : Bool) (hF : f135 k x0 x1 = some r) : PCall Try.prog 135 [⟨sh5, x0⟩, ⟨sh1, x1⟩] [⟨.bool, r⟩] := by
  refine pcall_intro Try.func135 rfl rfl (Nat.le_of_ble_eq_true rfl) ?_
  intro w0 Zi a w h
  rw [f135] at hF
  refine wp_reg_seq tok (orc := orcL []) (fz := []) (l := [2, 3]) (c := _) (.inr fun i h => h) h (by kernel_rfl) (AllP.nil) ?_
  intro a w h
  refine wp_reg_seq tok (orc := orcL []) (fz := []) (l := [4]) (c := _) (.inr fun i h => h) h (by kernel_rfl) (AllP.nil) ?_
  intro a w h
  cases hF
  exact wp_ret (ret_okR tok h rfl (by kernel_rfl)).1

def f91.j153 (k : Nat) (v140 : Int) (q84 : ((List (Int × Int)) × Int) → Option (List (Int × Int))) : (List (Int × Int)) → Option (List (Int × Int))
  | v152 => q84 (v152, (IntKind.i64.wrap (v140 + (1 : Int))))
def f91.l84 (k : Nat) (x0 : (List (Int × Int))) (r1 : ((Int × Int) × (Int × Int))) (r2 : Int) : Nat → ((List (Int × Int)) × Int) → Option (List (Int × Int))
  | 0, _ => none
  | m84 + 1, (v139, v140) => if (decide ((v140 : Int) < (List.length x0 : Int))) then (if (0 ≤ v140 ∧ v140 < (List.length x0 : Int)) then ((f135 k r1 (List.getD x0 (Int.toNat v140) ((0 : Int), (0 : Int)))).bind fun r154 => (if (!r154) then (some ([] : List (Int × Int))) else (if (0 ≤ v140 ∧ v140 < (List.length x0 : Int)) then (if ((r2 : Int) ≠ 0) then (if (0 ≤ v140 ∧ v140 < (List.length x0 : Int)) then (if ((r2 : Int) ≠ 0) then (if (((((List.length v139 : Int) : Int) == (0 : Int)) = false) → (0 ≤ (IntKind.i64.wrap ((List.length v139 : Int) - (1 : Int))) ∧ (IntKind.i64.wrap ((List.length v139 : Int) - (1 : Int))) < (List.length v139 : Int))) then ((some ((bif (((List.length v139 : Int) : Int) == (0 : Int)) then true else (!(Sh.beq sh1 (List.getD v139 (Int.toNat (IntKind.i64.wrap ((List.length v139 : Int) - (1 : Int)))) ((0 : Int), (0 : Int))) ((IntKind.i64.wrap (Int.tdiv (IntKind.i64.wrap ((IntKind.i64.wrap ((List.getD x0 (Int.toNat v140) ((0 : Int), (0 : Int))).1 - r1.1.1)) * (4096 : Int))) r2)), (IntKind.i64.wrap (Int.tdiv (IntKind.i64.wrap ((IntKind.i64.wrap ((List.getD x0 (Int.toNat v140) ((0 : Int), (0 : Int))).2 - r1.1.2)) * (4096 : Int))) r2)))))) : Bool)).bind fun v155 => (if v155 then (if ((List.length v139 + List.length [((IntKind.i64.wrap (Int.tdiv (IntKind.i64.wrap ((IntKind.i64.wrap ((List.getD x0 (Int.toNat v140) ((0 : Int), (0 : Int))).1 - r1.1.1)) * (4096 : Int))) r2)), (IntKind.i64.wrap (Int.tdiv (IntKind.i64.wrap ((IntKind.i64.wrap ((List.getD x0 (Int.toNat v140) ((0 : Int), (0 : Int))).2 - r1.1.2)) * (4096 : Int))) r2)))]) * 16 ≤ 140737488355328) then (f91.j153 k v140 ((f91.l84 k x0 r1 r2) m84) (v139 ++ [((IntKind.i64.wrap (Int.tdiv (IntKind.i64.wrap ((IntKind.i64.wrap ((List.getD x0 (Int.toNat v140) ((0 : Int), (0 : Int))).1 - r1.1.1)) * (4096 : Int))) r2)), (IntKind.i64.wrap (Int.tdiv (IntKind.i64.wrap ((IntKind.i64.wrap ((List.getD x0 (Int.toNat v140) ((0 : Int), (0 : Int))).2 - r1.1.2)) * (4096 : Int))) r2)))])) else none) else (f91.j153 k v140 ((f91.l84 k x0 r1 r2) m84) v139))) else none) else none) else none) else none) else none))) else none) else (some v139)
def f91 (k : Nat) (x0 : (List (Int × Int))) (x1 : (Int × (Int × Int))) : Option (List (Int × Int)) := (f101 k x1).bind fun r1 => ((f134 k x1.1).bind fun r2 => (f91.l84 k x0 r1 r2 k (([] : List (Int × Int)), (0 : Int))))
set_option maxRecDepth 100000 in
/-- 'spec.l6Quantise'. -/
theorem c91 (k : Nat) (x0 : (List (Int × Int))) (x1 : (Int × (Int × Int))) (r : (List (Int × Int))) (hF : f91 k x0 x1 = some r) : PCall Try.prog 91 [⟨sh4, x0⟩, ⟨sh3, x1⟩] [⟨sh2, r⟩] := by
  refine pcall_intro Try.func91 rfl rfl (Nat.le_of_ble_eq_true rfl) ?_
  intro w0 Zi a w h
  rw [f91] at hF
  refine wp_reg_seq tok (orc := orcL []) (fz := []) (l := [0, 3]) (c := _) (.inr fun i h => h) h (by kernel_rfl) (AllP.nil) ?_
  intro a w h
  obtain ⟨r1, hr166, hF⟩ := of_bind hF
  refine wp_reg_seq tok (orc := orcL [(11, [⟨sh5, r1⟩])]) (fz := []) (l := [0, 3, 5]) (c := _) (.inr fun i h => h) h (by kernel_rfl) (AllP.cons (c101 k x1 r1 hr166) AllP.nil) ?_
  intro a w h
  obtain ⟨r2, hr165, hF⟩ := of_bind hF
  refine wp_reg_seq tok (orc := orcL [(14, [⟨(.int .i64), r2⟩])]) (fz := []) (l := [0, 5, 6]) (c := _) (.inr fun i h => h) h (by kernel_rfl) (AllP.cons (c134 k x1.1 r2 hr165) AllP.nil) ?_
  intro a w h
  refine wp_reg_seq tok (orc := orcL []) (fz := []) (l := [0, 5, 6, 7]) (c := _) (.inr fun i h => h) h (by kernel_rfl) (AllP.nil) ?_
  intro a w h
  refine wp_seq ?_
  refine wp_reg_seq tok (orc := orcL []) (fz := []) (l := [0, 5, 6, 7, 8]) (c := _) (.inr fun i h => h) h (by kernel_rfl) (AllP.nil) ?_
  intro a w h
  refine wp_block ?_
  refine wp_loop_fuel (f91.l84 k x0 r1 r2) (fun ((v139, v140) : ((List (Int × Int)) × Int)) => [(0, .val sh4 x0), (5, .val sh6 (some r1)), (6, .val (.int .i64) r2), (7, .val sh2 v139), (8, .val (.int .i64) v140)]) (fun v h => by obtain ⟨v139, v140⟩ := v; rw [f91.l84] at h; cases h) ?_ hF (h.arrive (fz := []) (l := [0, 5, 6, 7, 8]) (.inr fun i h => h) (by kernel_rfl))
  intro m84 v a w hF h
  obtain ⟨v139, v140⟩ := v
  rw [f91.l84] at hF
  refine wp_seq ?_
  refine wp_reg_seq tok (orc := orcL []) (fz := []) (l := [0, 5, 6, 7, 8, 19]) (c := _) (.inr fun i h => h) h (by kernel_rfl) (AllP.nil) ?_
  intro a w h
  refine wp_if h (b := (decide ((v140 : Int) < (List.length x0 : Int)))) (by kernel_rfl) (fun hb => ?_) (fun hb => ?_)
  · replace hF := of_t hb hF
    refine wp_skip ?_
    refine wp_mid (fun a w => ∃ v : (List (Int × Int)), f91.j153 k v140 ((f91.l84 k x0 r1 r2) m84) v = some r ∧ Rel w0 (fun _ => False) Zi Try.f91.ntmps ((fun (v152 : (List (Int × Int))) => ([(0, .val sh4 x0), (5, .val sh6 (some r1)), (6, .val (.int .i64) r2), (7, .val sh2 v152), (8, .val (.int .i64) v140)] : SS)) v) a w) ?_ ?_
    ·
      refine wp_block ?_
      refine wp_seq ?_
      obtain ⟨hc163, hF⟩ := of_if hF
      obtain ⟨r154, hr164, hF⟩ := of_bind hF
      refine wp_regy_seq tok (orc := orcL [(27, [⟨.bool, r154⟩])]) (fz := []) (l := [0, 5, 6, 7, 8, 28]) (c := _) 7 (.inr fun i h => h) h (by kernel_rfl) (by kernel_rfl) (AllP.cons hc163 (AllP.cons (c135 k r1 (List.getD x0 (Int.toNat v140) ((0 : Int), (0 : Int))) r154 hr164) AllP.nil)) ?_
      intro a w h
      refine wp_if h (b := (!r154)) (by kernel_rfl) (fun hb => ?_) (fun hb => ?_)
      · replace hF := of_t hb hF
        refine wp_reg_seq tok (orc := orcL []) (fz := []) (l := [4]) (c := _) (.inr fun i h => h) h (by kernel_rfl) (AllP.nil) ?_
        intro a w h
        cases hF
        exact wp_ret (ret_okR tok h rfl (by kernel_rfl)).1
      · replace hF := of_f hb hF
        refine wp_skip ?_
        obtain ⟨hc159, hF⟩ := of_if hF
        obtain ⟨hc160, hF⟩ := of_if hF
        obtain ⟨hc161, hF⟩ := of_if hF
        obtain ⟨hc162, hF⟩ := of_if hF
        refine wp_regy_seq tok (orc := orcL []) (fz := []) (l := [0, 5, 6, 7, 8, 9]) (c := _) 26 (.inr fun i h => h) h (by kernel_rfl) (by kernel_rfl) (AllP.cons hc159 (AllP.cons hc160 (AllP.cons hc161 (AllP.cons hc162 AllP.nil)))) ?_
        intro a w h
        obtain ⟨hc158, hF⟩ := of_if hF
        refine wp_regy_seq tok (orc := orcL []) (fz := []) (l := [0, 5, 6, 7, 8, 9, 67]) (c := _) 13 (.inr fun i h => h) h (by kernel_rfl) (by kernel_rfl) (AllP.cons hc158 (AllP.cons (fun (_ : ((((List.length v139 : Int) : Int) == (0 : Int)) = false)) => (And.intro (show eqTy Try.prog 9 27 (.st (.pair (.int .i64) (.int .i64))) = true from by kernel_rfl) (show Try.prog.eqGuardType Try.prog.depth 27 = false from by kernel_rfl))) AllP.nil)) ?_
        intro a w h
        obtain ⟨v155, hv157, hF⟩ := of_bind hF
        replace h := h.cast (S' := [(0, .val sh4 x0), (5, .val sh6 (some r1)), (6, .val (.int .i64) r2), (7, .val sh2 v139), (8, .val (.int .i64) v140), (9, .val sh7 (some ((IntKind.i64.wrap (Int.tdiv (IntKind.i64.wrap ((IntKind.i64.wrap ((List.getD x0 (Int.toNat v140) ((0 : Int), (0 : Int))).1 - r1.1.1)) * (4096 : Int))) r2)), (IntKind.i64.wrap (Int.tdiv (IntKind.i64.wrap ((IntKind.i64.wrap ((List.getD x0 (Int.toNat v140) ((0 : Int), (0 : Int))).2 - r1.1.2)) * (4096 : Int))) r2))))), (67, .val .bool v155)]) (by cases hv157; kernel_rfl)
        refine wp_if h (b := v155) (by kernel_rfl) (fun hb => ?_) (fun hb => ?_)
        · replace hF := of_t hb hF
          obtain ⟨hc156, hF⟩ := of_if hF
          refine wp_reg tok (orc := orcL []) (fz := []) (l := [0, 5, 6, 7, 8]) (c := _) (.inr fun i h => h) h (by kernel_rfl) (AllP.cons hc156 AllP.nil) ?_
          intro a w h
          exact ⟨(v139 ++ [((IntKind.i64.wrap (Int.tdiv (IntKind.i64.wrap ((IntKind.i64.wrap ((List.getD x0 (Int.toNat v140) ((0 : Int), (0 : Int))).1 - r1.1.1)) * (4096 : Int))) r2)), (IntKind.i64.wrap (Int.tdiv (IntKind.i64.wrap ((IntKind.i64.wrap ((List.getD x0 (Int.toNat v140) ((0 : Int), (0 : Int))).2 - r1.1.2)) * (4096 : Int))) r2)))]), hF, h.arrive (fz := []) (l := [0, 5, 6, 7, 8]) (.inr fun i h => h) (by kernel_rfl)⟩
        · replace hF := of_f hb hF
          refine wp_skip ?_
          exact ⟨v139, hF, h.arrive (fz := []) (l := [0, 5, 6, 7, 8]) (.inr fun i h => h) (by kernel_rfl)⟩
    · rintro a w ⟨v152, hF, h⟩
      rw [f91.j153] at hF
      refine wp_reg tok (orc := orcL []) (fz := []) (l := [0, 5, 6, 7, 8]) (c := _) (.inr fun i h => h) h (by kernel_rfl) (AllP.nil) ?_
      intro a w h
      exact ⟨(v152, (IntKind.i64.wrap (v140 + (1 : Int)))), hF, h.arrive (fz := []) (l := [0, 5, 6, 7, 8]) (.inr fun i h => h) (by kernel_rfl)⟩
  · replace hF := of_f hb hF
    refine wp_exit ?_
    refine wp_reg_seq tok (orc := orcL []) (fz := []) (l := [4, 7]) (c := _) (.inr fun i h => h) h (by kernel_rfl) (AllP.nil) ?_
    intro a w h
    cases hF
    exact wp_ret (ret_okR tok h rfl (by kernel_rfl)).1

def f31 (k : Nat) (x0 : (List (Int × Int))) (x1 : (Int × (Int × Int))) : Option (List (Int × Int)) := (f89 k x0).bind fun r1 => ((if ((!r1) = false) then f90 k x1 else some default).bind fun r2 => (if (bif (!r1) then true else (!r2)) then (some ([] : List (Int × Int))) else ((f91 k x0 x1).bind fun r3 => (some r3))))
set_option maxRecDepth 100000 in
/-- 'spec.Quantise'. -/
theorem c31 (k : Nat) (x0 : (List (Int × Int))) (x1 : (Int × (Int × Int))) (r : (List (Int × Int))) (hF : f31 k x0 x1 = some r) : PCall Try.prog 31 [⟨sh4, x0⟩, ⟨sh3, x1⟩] [⟨sh2, r⟩] := by
  refine pcall_intro Try.func31 rfl rfl (Nat.le_of_ble_eq_true rfl) ?_
  intro w0 Zi a w h
  rw [f31] at hF
  refine wp_reg_seq tok (orc := orcL []) (fz := []) (l := [0, 3]) (c := _) (.inr fun i h => h) h (by kernel_rfl) (AllP.nil) ?_
  intro a w h
  refine wp_seq ?_
  obtain ⟨r1, hr5, hF⟩ := of_bind hF
  obtain ⟨r2, hr6, hF⟩ := of_bind hF
  refine wp_reg_seq tok (orc := orcL [(6, [⟨.bool, r1⟩]), (10, [⟨.bool, r2⟩])]) (fz := []) (l := [0, 3, 12]) (c := _) (.inr fun i h => h) h (by kernel_rfl) (AllP.cons (c89 k x0 r1 hr5) (AllP.cons (fun (hg : ((!r1) = false)) => c90 k x1 r2 (of_g hg hr6)) AllP.nil)) ?_
  intro a w h
  refine wp_if h (b := (bif (!r1) then true else (!r2))) (by kernel_rfl) (fun hb => ?_) (fun hb => ?_)
  · replace hF := of_t hb hF
    refine wp_reg_seq tok (orc := orcL []) (fz := []) (l := [4]) (c := _) (.inr fun i h => h) h (by kernel_rfl) (AllP.nil) ?_
    intro a w h
    cases hF
    exact wp_ret (ret_okR tok h rfl (by kernel_rfl)).1
  · replace hF := of_f hb hF
    refine wp_skip ?_
    obtain ⟨r3, hr4, hF⟩ := of_bind hF
    refine wp_reg_seq tok (orc := orcL [(16, [⟨sh2, r3⟩])]) (fz := []) (l := [4]) (c := _) (.inr fun i h => h) h (by kernel_rfl) (AllP.cons (c91 k x0 x1 r3 hr4) AllP.nil) ?_
    intro a w h
    cases hF
    exact wp_ret (ret_okR tok h rfl (by kernel_rfl)).1

def f121 (k : Nat) (x0 : (Int × Int)) : Option Bool := some (bif (bif (bif (decide ((x0.1 : Int) ≥ (-10000000 : Int))) then (decide ((x0.1 : Int) ≤ (10000000 : Int))) else false) then (decide ((x0.2 : Int) ≥ (-10000000 : Int))) else false) then (decide ((x0.2 : Int) ≤ (10000000 : Int))) else false)
set_option maxRecDepth 100000 in
/-- 'impl.PointOk'. -/
theorem c121 (k : Nat) (x0 : (Int × Int)) (r : Bool) (hF : f121 k x0 = some r) : PCall Try.prog 121 [⟨sh1, x0⟩] [⟨.bool, r⟩] := by
  refine pcall_intro Try.func121 rfl rfl (Nat.le_of_ble_eq_true rfl) ?_
  intro w0 Zi a w h
  rw [f121] at hF
  refine wp_reg_seq tok (orc := orcL []) (fz := []) (l := [1]) (c := _) (.inr fun i h => h) h (by kernel_rfl) (AllP.nil) ?_
  intro a w h
  refine wp_reg_seq tok (orc := orcL []) (fz := []) (l := [2]) (c := _) (.inr fun i h => h) h (by kernel_rfl) (AllP.nil) ?_
  intro a w h
  cases hF
  exact wp_ret (ret_okR tok h rfl (by kernel_rfl)).1

def f92.l24 (k : Nat) (x0 : (List (Int × Int))) : Nat → Int → Option Bool
  | 0, _ => none
  | m24 + 1, v40 => if (decide ((v40 : Int) < (List.length x0 : Int))) then (if (0 ≤ v40 ∧ v40 < (List.length x0 : Int)) then ((f121 k (List.getD x0 (Int.toNat v40) ((0 : Int), (0 : Int)))).bind fun r44 => (if (!r44) then (some false) else ((f92.l24 k x0) m24 (IntKind.i64.wrap (v40 + (1 : Int)))))) else none) else (some true)
def f92 (k : Nat) (x0 : (List (Int × Int))) : Option Bool := if (decide (((List.length x0 : Int) : Int) > (2000 : Int))) then (some false) else (f92.l24 k x0 k (0 : Int))
set_option maxRecDepth 100000 in
/-- 'impl.rowOk'. -/
theorem c92 (k : Nat) (x0 : (List (Int × Int))) (r : Bool) (hF : f92 k x0 = some r) : PCall Try.prog 92 [⟨sh4, x0⟩] [⟨.bool, r⟩] := by
  refine pcall_intro Try.func92 rfl rfl (Nat.le_of_ble_eq_true rfl) ?_
  intro w0 Zi a w h
  rw [f92] at hF
  refine wp_reg_seq tok (orc := orcL []) (fz := []) (l := [0]) (c := _) (.inr fun i h => h) h (by kernel_rfl) (AllP.nil) ?_
  intro a w h
  refine wp_seq ?_
  refine wp_reg_seq tok (orc := orcL []) (fz := []) (l := [0, 7]) (c := _) (.inr fun i h => h) h (by kernel_rfl) (AllP.nil) ?_
  intro a w h
  refine wp_if h (b := (decide (((List.length x0 : Int) : Int) > (2000 : Int)))) (by kernel_rfl) (fun hb => ?_) (fun hb => ?_)
  · replace hF := of_t hb hF
    refine wp_reg_seq tok (orc := orcL []) (fz := []) (l := [2]) (c := _) (.inr fun i h => h) h (by kernel_rfl) (AllP.nil) ?_
    intro a w h
    cases hF
    exact wp_ret (ret_okR tok h rfl (by kernel_rfl)).1
  · replace hF := of_f hb hF
    refine wp_skip ?_
    refine wp_seq ?_
    refine wp_reg_seq tok (orc := orcL []) (fz := []) (l := [8, 9, 10]) (c := _) (.inr fun i h => h) h (by kernel_rfl) (AllP.nil) ?_
    intro a w h
    refine wp_block ?_
    refine wp_loop_fuel (f92.l24 k x0) (fun (v40 : Int) => [(8, .val sh4 x0), (9, .val (.int .i64) (List.length x0 : Int)), (10, .val (.int .i64) v40)]) (fun v h => by rw [f92.l24] at h; cases h) ?_ hF (h.arrive (fz := []) (l := [8, 9, 10]) (.inr fun i h => h) (by kernel_rfl))
    intro m24 v40 a w hF h
    rw [f92.l24] at hF
    refine wp_reg_seq tok (orc := orcL []) (fz := []) (l := [8, 9, 10, 11]) (c := _) (.inr fun i h => h) h (by kernel_rfl) (AllP.nil) ?_
    intro a w h
    refine wp_seq <| wp_if h (b := (decide ((v40 : Int) < (List.length x0 : Int)))) (by kernel_rfl) (fun hb => ?_) (fun hb => ?_)
    · replace hF := of_t hb hF
      refine wp_skip ?_
      refine wp_seq <| wp_block ?_
      obtain ⟨hc46, hF⟩ := of_if hF
      refine wp_reg_seq tok (orc := orcL []) (fz := []) (l := [4, 8, 9, 10]) (c := _) (.inr fun i h => h) h (by kernel_rfl) (AllP.cons hc46 AllP.nil) ?_
      intro a w h
      obtain ⟨r44, hr45, hF⟩ := of_bind hF
      refine wp_reg_seq tok (orc := orcL [(15, [⟨.bool, r44⟩])]) (fz := []) (l := [8, 9, 10, 16]) (c := _) (.inr fun i h => h) h (by kernel_rfl) (AllP.cons (c121 k (List.getD x0 (Int.toNat v40) ((0 : Int), (0 : Int))) r44 hr45) AllP.nil) ?_
      intro a w h
      refine wp_if h (b := (!r44)) (by kernel_rfl) (fun hb => ?_) (fun hb => ?_)
      · replace hF := of_t hb hF
        refine wp_reg_seq tok (orc := orcL []) (fz := []) (l := [2]) (c := _) (.inr fun i h => h) h (by kernel_rfl) (AllP.nil) ?_
        intro a w h
        cases hF
        exact wp_ret (ret_okR tok h rfl (by kernel_rfl)).1
      · replace hF := of_f hb hF
        refine wp_skip ?_
        refine wp_reg tok (orc := orcL []) (fz := []) (l := [8, 9, 10]) (c := _) (.inr fun i h => h) h (by kernel_rfl) (AllP.nil) ?_
        intro a w h
        exact ⟨(IntKind.i64.wrap (v40 + (1 : Int))), hF, h.arrive (fz := []) (l := [8, 9, 10]) (.inr fun i h => h) (by kernel_rfl)⟩
    · replace hF := of_f hb hF
      refine wp_exit ?_
      refine wp_reg_seq tok (orc := orcL []) (fz := []) (l := [2]) (c := _) (.inr fun i h => h) h (by kernel_rfl) (AllP.nil) ?_
      intro a w h
      cases hF
      exact wp_ret (ret_okR tok h rfl (by kernel_rfl)).1

def f47 (k : Nat) (x0 : (Int × (Int × Int))) : Option Bool := if (bif (decide ((x0.1 : Int) < (0 : Int))) then true else (decide ((x0.1 : Int) > (10 : Int)))) then (some false) else (if ((0 : Int) ≤ x0.1) then (some (bif (bif (bif (decide ((x0.2.1 : Int) ≥ (0 : Int))) then (decide ((x0.2.1 : Int) < (IntKind.i64.wrap ((1 : Int) * 2 ^ (min (Int.toNat x0.1) IntKind.i64.bits))))) else false) then (decide ((x0.2.2 : Int) ≥ (0 : Int))) else false) then (decide ((x0.2.2 : Int) < (IntKind.i64.wrap ((1 : Int) * 2 ^ (min (Int.toNat x0.1) IntKind.i64.bits))))) else false)) else none)
set_option maxRecDepth 100000 in
/-- 'impl.TileOk'. -/
theorem c47 (k : Nat) (x0 : (Int × (Int × Int))) (r : Bool) (hF : f47 k x0 = some r) : PCall Try.prog 47 [⟨sh3, x0⟩] [⟨.bool, r⟩] := by
  refine pcall_intro Try.func47 rfl rfl (Nat.le_of_ble_eq_true rfl) ?_
  intro w0 Zi a w h
  rw [f47] at hF
  refine wp_reg_seq tok (orc := orcL []) (fz := []) (l := [1]) (c := _) (.inr fun i h => h) h (by kernel_rfl) (AllP.nil) ?_
  intro a w h
  refine wp_seq ?_
  refine wp_reg_seq tok (orc := orcL []) (fz := []) (l := [1, 11]) (c := _) (.inr fun i h => h) h (by kernel_rfl) (AllP.nil) ?_
  intro a w h
  refine wp_if h (b := (bif (decide ((x0.1 : Int) < (0 : Int))) then true else (decide ((x0.1 : Int) > (10 : Int))))) (by kernel_rfl) (fun hb => ?_) (fun hb => ?_)
  · replace hF := of_t hb hF
    refine wp_reg_seq tok (orc := orcL []) (fz := []) (l := [2]) (c := _) (.inr fun i h => h) h (by kernel_rfl) (AllP.nil) ?_
    intro a w h
    cases hF
    exact wp_ret (ret_okR tok h rfl (by kernel_rfl)).1
  · replace hF := of_f hb hF
    refine wp_skip ?_
    obtain ⟨hc1, hF⟩ := of_if hF
    refine wp_reg_seq tok (orc := orcL []) (fz := []) (l := [1, 3]) (c := _) (.inr fun i h => h) h (by kernel_rfl) (AllP.cons hc1 AllP.nil) ?_
    intro a w h
    refine wp_reg_seq tok (orc := orcL []) (fz := []) (l := [2]) (c := _) (.inr fun i h => h) h (by kernel_rfl) (AllP.nil) ?_
    intro a w h
    cases hF
    exact wp_ret (ret_okR tok h rfl (by kernel_rfl)).1

def f46 (k : Nat) (x0 : (Int × (Int × Int))) : Option ((Int × Int) × (Int × Int)) := (f47 k x0).bind fun r1 => (if (!r1) then (some (((0 : Int), (0 : Int)), ((0 : Int), (0 : Int)))) else (if ((0 : Int) ≤ x0.1) then (some (((IntKind.i64.wrap ((IntKind.i64.wrap (x0.2.1 * (Int.fdiv (33554432 : Int) (2 ^ (min (Int.toNat x0.1) IntKind.i64.bits))))) - (16777216 : Int))), (IntKind.i64.wrap ((IntKind.i64.wrap (x0.2.2 * (Int.fdiv (33554432 : Int) (2 ^ (min (Int.toNat x0.1) IntKind.i64.bits))))) - (16777216 : Int)))), ((IntKind.i64.wrap ((IntKind.i64.wrap ((IntKind.i64.wrap (x0.2.1 * (Int.fdiv (33554432 : Int) (2 ^ (min (Int.toNat x0.1) IntKind.i64.bits))))) - (16777216 : Int))) + (Int.fdiv (33554432 : Int) (2 ^ (min (Int.toNat x0.1) IntKind.i64.bits))))), (IntKind.i64.wrap ((IntKind.i64.wrap ((IntKind.i64.wrap (x0.2.2 * (Int.fdiv (33554432 : Int) (2 ^ (min (Int.toNat x0.1) IntKind.i64.bits))))) - (16777216 : Int))) + (Int.fdiv (33554432 : Int) (2 ^ (min (Int.toNat x0.1) IntKind.i64.bits)))))))) else none))
set_option maxRecDepth 100000 in
/-- 'impl.TileBox'. -/
theorem c46 (k : Nat) (x0 : (Int × (Int × Int))) (r : ((Int × Int) × (Int × Int))) (hF : f46 k x0 = some r) : PCall Try.prog 46 [⟨sh3, x0⟩] [⟨sh5, r⟩] := by
  refine pcall_intro Try.func46 rfl rfl (Nat.le_of_ble_eq_true rfl) ?_
  intro w0 Zi a w h
  rw [f46] at hF
  refine wp_reg_seq tok (orc := orcL []) (fz := []) (l := [1, 2]) (c := _) (.inr fun i h => h) h (by kernel_rfl) (AllP.nil) ?_
  intro a w h
  refine wp_seq ?_
  obtain ⟨r1, hr3, hF⟩ := of_bind hF
  refine wp_reg_seq tok (orc := orcL [(6, [⟨.bool, r1⟩])]) (fz := []) (l := [1, 2, 7]) (c := _) (.inr fun i h => h) h (by kernel_rfl) (AllP.cons (c47 k x0 r1 hr3) AllP.nil) ?_
  intro a w h
  refine wp_if h (b := (!r1)) (by kernel_rfl) (fun hb => ?_) (fun hb => ?_)
  · replace hF := of_t hb hF
    refine wp_reg_seq tok (orc := orcL []) (fz := []) (l := [2]) (c := _) (.inr fun i h => h) h (by kernel_rfl) (AllP.nil) ?_
    intro a w h
    cases hF
    exact wp_ret (ret_okR tok h rfl (by kernel_rfl)).1
  · replace hF := of_f hb hF
    refine wp_skip ?_
    obtain ⟨hc2, hF⟩ := of_if hF
    refine wp_reg_seq tok (orc := orcL []) (fz := []) (l := [1, 2, 3]) (c := _) (.inr fun i h => h) h (by kernel_rfl) (AllP.cons hc2 AllP.nil) ?_
    intro a w h
    refine wp_reg_seq tok (orc := orcL []) (fz := []) (l := [2, 3, 4]) (c := _) (.inr fun i h => h) h (by kernel_rfl) (AllP.nil) ?_
    intro a w h
    refine wp_reg_seq tok (orc := orcL []) (fz := []) (l := [2]) (c := _) (.inr fun i h => h) h (by kernel_rfl) (AllP.nil) ?_
    intro a w h
    cases hF
    exact wp_ret (ret_okR tok h rfl (by kernel_rfl)).1

def f93 (k : Nat) (x0 : (Int × Int)) (x1 : ((Int × Int) × (Int × Int))) : Option Bool := some (bif (bif (bif (decide ((x0.1 : Int) ≥ x1.1.1)) then (decide ((x0.1 : Int) ≤ x1.2.1)) else false) then (decide ((x0.2 : Int) ≥ x1.1.2)) else false) then (decide ((x0.2 : Int) ≤ x1.2.2)) else false)
set_option maxRecDepth 100000 in
/-- 'impl.inBox'. -/
theorem c93 (k : Nat) (x0 : (Int × Int)) (x1 : ((Int × Int) × (Int × Int))) (r : Bool) (hF : f93 k x0 x1 = some r) : PCall Try.prog 93 [⟨sh1, x0⟩, ⟨sh5, x1⟩] [⟨.bool, r⟩] := by
  refine pcall_intro Try.func93 rfl rfl (Nat.le_of_ble_eq_true rfl) ?_
  intro w0 Zi a w h
  rw [f93] at hF
  refine wp_reg_seq tok (orc := orcL []) (fz := []) (l := [2, 3]) (c := _) (.inr fun i h => h) h (by kernel_rfl) (AllP.nil) ?_
  intro a w h
  refine wp_reg_seq tok (orc := orcL []) (fz := []) (l := [4]) (c := _) (.inr fun i h => h) h (by kernel_rfl) (AllP.nil) ?_
  intro a w h
  cases hF
  exact wp_ret (ret_okR tok h rfl (by kernel_rfl)).1

def f34.j132 (k : Nat) (v121 : Int) (q73 : ((List (Int × Int)) × Int) → Option (List (Int × Int))) : (List (Int × Int)) → Option (List (Int × Int))
  | v131 => q73 (v131, (IntKind.i64.wrap (v121 + (1 : Int))))
def f34.l73 (k : Nat) (x0 : (List (Int × Int))) (r3 : ((Int × Int) × (Int × Int))) (x1 : (Int × (Int × Int))) : Nat → ((List (Int × Int)) × Int) → Option (List (Int × Int))
  | 0, _ => none
  | m73 + 1, (v120, v121) => if (decide ((v121 : Int) < (List.length x0 : Int))) then (if (0 ≤ v121 ∧ v121 < (List.length x0 : Int)) then ((f93 k (List.getD x0 (Int.toNat v121) ((0 : Int), (0 : Int))) r3).bind fun r133 => (if (!r133) then (some ([] : (List (Int × Int)))) else (if (((Int.fdiv (33554432 : Int) (2 ^ (min (Int.toNat x1.1) IntKind.i64.bits))) : Int) ≠ 0) then (if (((Int.fdiv (33554432 : Int) (2 ^ (min (Int.toNat x1.1) IntKind.i64.bits))) : Int) ≠ 0) then (if (((((List.length v120 : Int) : Int) == (0 : Int)) = false) → (0 ≤ (IntKind.i64.wrap ((List.length v120 : Int) - (1 : Int))) ∧ (IntKind.i64.wrap ((List.length v120 : Int) - (1 : Int))) < (List.length v120 : Int))) then ((some ((bif (((List.length v120 : Int) : Int) == (0 : Int)) then true else (!(Sh.beq sh1 (List.getD v120 (Int.toNat (IntKind.i64.wrap ((List.length v120 : Int) - (1 : Int)))) ((0 : Int), (0 : Int))) ((IntKind.i64.wrap (Int.tdiv (IntKind.i64.wrap ((IntKind.i64.wrap ((List.getD x0 (Int.toNat v121) ((0 : Int), (0 : Int))).1 - r3.1.1)) * (4096 : Int))) (Int.fdiv (33554432 : Int) (2 ^ (min (Int.toNat x1.1) IntKind.i64.bits))))), (IntKind.i64.wrap (Int.tdiv (IntKind.i64.wrap ((IntKind.i64.wrap ((List.getD x0 (Int.toNat v121) ((0 : Int), (0 : Int))).2 - r3.1.2)) * (4096 : Int))) (Int.fdiv (33554432 : Int) (2 ^ (min (Int.toNat x1.1) IntKind.i64.bits))))))))) : Bool)).bind fun v134 => (if v134 then (if ((List.length v120 + List.length [((IntKind.i64.wrap (Int.tdiv (IntKind.i64.wrap ((IntKind.i64.wrap ((List.getD x0 (Int.toNat v121) ((0 : Int), (0 : Int))).1 - r3.1.1)) * (4096 : Int))) (Int.fdiv (33554432 : Int) (2 ^ (min (Int.toNat x1.1) IntKind.i64.bits))))), (IntKind.i64.wrap (Int.tdiv (IntKind.i64.wrap ((IntKind.i64.wrap ((List.getD x0 (Int.toNat v121) ((0 : Int), (0 : Int))).2 - r3.1.2)) * (4096 : Int))) (Int.fdiv (33554432 : Int) (2 ^ (min (Int.toNat x1.1) IntKind.i64.bits))))))]) * 16 ≤ 140737488355328) then (f34.j132 k v121 ((f34.l73 k x0 r3 x1) m73) (v120 ++ [((IntKind.i64.wrap (Int.tdiv (IntKind.i64.wrap ((IntKind.i64.wrap ((List.getD x0 (Int.toNat v121) ((0 : Int), (0 : Int))).1 - r3.1.1)) * (4096 : Int))) (Int.fdiv (33554432 : Int) (2 ^ (min (Int.toNat x1.1) IntKind.i64.bits))))), (IntKind.i64.wrap (Int.tdiv (IntKind.i64.wrap ((IntKind.i64.wrap ((List.getD x0 (Int.toNat v121) ((0 : Int), (0 : Int))).2 - r3.1.2)) * (4096 : Int))) (Int.fdiv (33554432 : Int) (2 ^ (min (Int.toNat x1.1) IntKind.i64.bits))))))])) else none) else (f34.j132 k v121 ((f34.l73 k x0 r3 x1) m73) v120))) else none) else none) else none))) else none) else (some v120)
def f34 (k : Nat) (x0 : (List (Int × Int))) (x1 : (Int × (Int × Int))) : Option (List (Int × Int)) := (f92 k x0).bind fun r1 => ((if ((!r1) = false) then f47 k x1 else some default).bind fun r2 => (if (bif (!r1) then true else (!r2)) then (some ([] : (List (Int × Int)))) else ((f46 k x1).bind fun r3 => (if ((0 : Int) ≤ x1.1) then (f34.l73 k x0 r3 x1 k (([] : (List (Int × Int))), (0 : Int))) else none))))
set_option maxRecDepth 100000 in
/-- 'impl.Quantise'. -/
theorem c34 (k : Nat) (x0 : (List (Int × Int))) (x1 : (Int × (Int × Int))) (r : (List (Int × Int))) (hF : f34 k x0 x1 = some r) : PCall Try.prog 34 [⟨sh4, x0⟩, ⟨sh3, x1⟩] [⟨sh2, r⟩] := by
  refine pcall_intro Try.func34 rfl rfl (Nat.le_of_ble_eq_true rfl) ?_
  intro w0 Zi a w h
  rw [f34] at hF
  refine wp_reg_seq tok (orc := orcL []) (fz := []) (l := [0, 3]) (c := _) (.inr fun i h => h) h (by kernel_rfl) (AllP.nil) ?_
  intro a w h
  refine wp_seq ?_
  obtain ⟨r1, hr144, hF⟩ := of_bind hF
  obtain ⟨r2, hr145, hF⟩ := of_bind hF
  refine wp_reg_seq tok (orc := orcL [(12, [⟨.bool, r1⟩]), (16, [⟨.bool, r2⟩])]) (fz := []) (l := [0, 3, 18]) (c := _) (.inr fun i h => h) h (by kernel_rfl) (AllP.cons (c92 k x0 r1 hr144) (AllP.cons (fun (hg : ((!r1) = false)) => c47 k x1 r2 (of_g hg hr145)) AllP.nil)) ?_
  intro a w h
  refine wp_if h (b := (bif (!r1) then true else (!r2))) (by kernel_rfl) (fun hb => ?_) (fun hb => ?_)
  · replace hF := of_t hb hF
    refine wp_reg_seq tok (orc := orcL []) (fz := []) (l := [4]) (c := _) (.inr fun i h => h) h (by kernel_rfl) (AllP.nil) ?_
    intro a w h
    cases hF
    exact wp_ret (ret_okR tok h rfl (by kernel_rfl)).1
  · replace hF := of_f hb hF
    refine wp_skip ?_
    obtain ⟨r3, hr143, hF⟩ := of_bind hF
    refine wp_reg_seq tok (orc := orcL [(20, [⟨sh5, r3⟩])]) (fz := []) (l := [0, 3, 5]) (c := _) (.inr fun i h => h) h (by kernel_rfl) (AllP.cons (c46 k x1 r3 hr143) AllP.nil) ?_
    intro a w h
    obtain ⟨hc142, hF⟩ := of_if hF
    refine wp_reg_seq tok (orc := orcL []) (fz := []) (l := [0, 5, 6]) (c := _) (.inr fun i h => h) h (by kernel_rfl) (AllP.cons hc142 AllP.nil) ?_
    intro a w h
    refine wp_reg_seq tok (orc := orcL []) (fz := []) (l := [0, 5, 6, 7]) (c := _) (.inr fun i h => h) h (by kernel_rfl) (AllP.nil) ?_
    intro a w h
    refine wp_seq ?_
    refine wp_reg_seq tok (orc := orcL []) (fz := []) (l := [5, 6, 7, 24, 25, 26]) (c := _) (.inr fun i h => h) h (by kernel_rfl) (AllP.nil) ?_
    intro a w h
    refine wp_block ?_
    refine wp_loop_fuel (f34.l73 k x0 r3 x1) (fun ((v120, v121) : ((List (Int × Int)) × Int)) => [(5, .val sh6 (some r3)), (6, .val (.int .i64) (Int.fdiv (33554432 : Int) (2 ^ (min (Int.toNat x1.1) IntKind.i64.bits)))), (7, .val sh2 v120), (24, .val sh4 x0), (25, .val (.int .i64) (List.length x0 : Int)), (26, .val (.int .i64) v121)]) (fun v h => by obtain ⟨v120, v121⟩ := v; rw [f34.l73] at h; cases h) ?_ hF (h.arrive (fz := []) (l := [5, 6, 7, 24, 25, 26]) (.inr fun i h => h) (by kernel_rfl))
    intro m73 v a w hF h
    obtain ⟨v120, v121⟩ := v
    rw [f34.l73] at hF
    refine wp_reg_seq tok (orc := orcL []) (fz := []) (l := [5, 6, 7, 24, 25, 26, 27]) (c := _) (.inr fun i h => h) h (by kernel_rfl) (AllP.nil) ?_
    intro a w h
    refine wp_seq <| wp_if h (b := (decide ((v121 : Int) < (List.length x0 : Int)))) (by kernel_rfl) (fun hb => ?_) (fun hb => ?_)
    · replace hF := of_t hb hF
      refine wp_skip ?_
      refine wp_mid (fun a w => ∃ v : (List (Int × Int)), f34.j132 k v121 ((f34.l73 k x0 r3 x1) m73) v = some r ∧ Rel w0 (fun _ => False) Zi Try.f34.ntmps ((fun (v131 : (List (Int × Int))) => ([(5, .val sh6 (some r3)), (6, .val (.int .i64) (Int.fdiv (33554432 : Int) (2 ^ (min (Int.toNat x1.1) IntKind.i64.bits)))), (7, .val sh2 v131), (24, .val sh4 x0), (25, .val (.int .i64) (List.length x0 : Int)), (26, .val (.int .i64) v121)] : SS)) v) a w) ?_ ?_
      ·
        refine wp_block ?_
        obtain ⟨hc141, hF⟩ := of_if hF
        refine wp_reg_seq tok (orc := orcL []) (fz := []) (l := [5, 6, 7, 9, 24, 25, 26]) (c := _) (.inr fun i h => h) h (by kernel_rfl) (AllP.cons hc141 AllP.nil) ?_
        intro a w h
        refine wp_seq ?_
        obtain ⟨r133, hr140, hF⟩ := of_bind hF
        refine wp_reg_seq tok (orc := orcL [(32, [⟨.bool, r133⟩])]) (fz := []) (l := [5, 6, 7, 9, 24, 25, 26, 33]) (c := _) (.inr fun i h => h) h (by kernel_rfl) (AllP.cons (c93 k (List.getD x0 (Int.toNat v121) ((0 : Int), (0 : Int))) r3 r133 hr140) AllP.nil) ?_
        intro a w h
        refine wp_if h (b := (!r133)) (by kernel_rfl) (fun hb => ?_) (fun hb => ?_)
        · replace hF := of_t hb hF
          refine wp_reg_seq tok (orc := orcL []) (fz := []) (l := [4]) (c := _) (.inr fun i h => h) h (by kernel_rfl) (AllP.nil) ?_
          intro a w h
          cases hF
          exact wp_ret (ret_okR tok h rfl (by kernel_rfl)).1
        · replace hF := of_f hb hF
          refine wp_skip ?_
          obtain ⟨hc138, hF⟩ := of_if hF
          obtain ⟨hc139, hF⟩ := of_if hF
          refine wp_regy_seq tok (orc := orcL []) (fz := []) (l := [5, 6, 7, 10, 24, 25, 26]) (c := _) 20 (.inr fun i h => h) h (by kernel_rfl) (by kernel_rfl) (AllP.cons hc138 (AllP.cons hc139 AllP.nil)) ?_
          intro a w h
          obtain ⟨hc137, hF⟩ := of_if hF
          refine wp_regy_seq tok (orc := orcL []) (fz := []) (l := [5, 6, 7, 10, 24, 25, 26, 65]) (c := _) 13 (.inr fun i h => h) h (by kernel_rfl) (by kernel_rfl) (AllP.cons hc137 (AllP.cons (fun (_ : ((((List.length v120 : Int) : Int) == (0 : Int)) = false)) => (And.intro (show eqTy Try.prog 9 27 (.st (.pair (.int .i64) (.int .i64))) = true from by kernel_rfl) (show Try.prog.eqGuardType Try.prog.depth 27 = false from by kernel_rfl))) AllP.nil)) ?_
          intro a w h
          obtain ⟨v134, hv136, hF⟩ := of_bind hF
          replace h := h.cast (S' := [(5, .val sh6 (some r3)), (6, .val (.int .i64) (Int.fdiv (33554432 : Int) (2 ^ (min (Int.toNat x1.1) IntKind.i64.bits)))), (7, .val sh2 v120), (10, .val sh7 (some ((IntKind.i64.wrap (Int.tdiv (IntKind.i64.wrap ((IntKind.i64.wrap ((List.getD x0 (Int.toNat v121) ((0 : Int), (0 : Int))).1 - r3.1.1)) * (4096 : Int))) (Int.fdiv (33554432 : Int) (2 ^ (min (Int.toNat x1.1) IntKind.i64.bits))))), (IntKind.i64.wrap (Int.tdiv (IntKind.i64.wrap ((IntKind.i64.wrap ((List.getD x0 (Int.toNat v121) ((0 : Int), (0 : Int))).2 - r3.1.2)) * (4096 : Int))) (Int.fdiv (33554432 : Int) (2 ^ (min (Int.toNat x1.1) IntKind.i64.bits)))))))), (24, .val sh4 x0), (25, .val (.int .i64) (List.length x0 : Int)), (26, .val (.int .i64) v121), (65, .val .bool v134)]) (by cases hv136; kernel_rfl)
          refine wp_if h (b := v134) (by kernel_rfl) (fun hb => ?_) (fun hb => ?_)
          · replace hF := of_t hb hF
            obtain ⟨hc135, hF⟩ := of_if hF
            refine wp_reg tok (orc := orcL []) (fz := []) (l := [5, 6, 7, 24, 25, 26]) (c := _) (.inr fun i h => h) h (by kernel_rfl) (AllP.cons hc135 AllP.nil) ?_
            intro a w h
            exact ⟨(v120 ++ [((IntKind.i64.wrap (Int.tdiv (IntKind.i64.wrap ((IntKind.i64.wrap ((List.getD x0 (Int.toNat v121) ((0 : Int), (0 : Int))).1 - r3.1.1)) * (4096 : Int))) (Int.fdiv (33554432 : Int) (2 ^ (min (Int.toNat x1.1) IntKind.i64.bits))))), (IntKind.i64.wrap (Int.tdiv (IntKind.i64.wrap ((IntKind.i64.wrap ((List.getD x0 (Int.toNat v121) ((0 : Int), (0 : Int))).2 - r3.1.2)) * (4096 : Int))) (Int.fdiv (33554432 : Int) (2 ^ (min (Int.toNat x1.1) IntKind.i64.bits))))))]), hF, h.arrive (fz := []) (l := [5, 6, 7, 24, 25, 26]) (.inr fun i h => h) (by kernel_rfl)⟩
          · replace hF := of_f hb hF
            refine wp_skip ?_
            exact ⟨v120, hF, h.arrive (fz := []) (l := [5, 6, 7, 24, 25, 26]) (.inr fun i h => h) (by kernel_rfl)⟩
      · rintro a w ⟨v131, hF, h⟩
        rw [f34.j132] at hF
        refine wp_reg tok (orc := orcL []) (fz := []) (l := [5, 6, 7, 24, 25, 26]) (c := _) (.inr fun i h => h) h (by kernel_rfl) (AllP.nil) ?_
        intro a w h
        exact ⟨(v131, (IntKind.i64.wrap (v121 + (1 : Int)))), hF, h.arrive (fz := []) (l := [5, 6, 7, 24, 25, 26]) (.inr fun i h => h) (by kernel_rfl)⟩
    · replace hF := of_f hb hF
      refine wp_exit ?_
      refine wp_reg_seq tok (orc := orcL []) (fz := []) (l := [4, 7]) (c := _) (.inr fun i h => h) h (by kernel_rfl) (AllP.nil) ?_
      intro a w h
      cases hF
      exact wp_ret (ret_okR tok h rfl (by kernel_rfl)).1

def f94 (k : Nat) (x0 : (Int × Int)) (x1 : (Int × Int)) : Option Bool := if ((x0.1 : Int) != x1.1) then (some false) else (if ((x0.2 : Int) != x1.2) then (some false) else (some true))
set_option maxRecDepth 100000 in
/-- 'laws.eqPoint'. -/
theorem c94 (k : Nat) (x0 : (Int × Int)) (x1 : (Int × Int)) (r : Bool) (hF : f94 k x0 x1 = some r) : PCall Try.prog 94 [⟨sh1, x0⟩, ⟨sh1, x1⟩] [⟨.bool, r⟩] := by
  refine pcall_intro Try.func94 rfl rfl (Nat.le_of_ble_eq_true rfl) ?_
  intro w0 Zi a w h
  rw [f94] at hF
  refine wp_reg_seq tok (orc := orcL []) (fz := []) (l := [2, 3]) (c := _) (.inr fun i h => h) h (by kernel_rfl) (AllP.nil) ?_
  intro a w h
  refine wp_seq ?_
  refine wp_reg_seq tok (orc := orcL []) (fz := []) (l := [2, 3, 9]) (c := _) (.inr fun i h => h) h (by kernel_rfl) (AllP.nil) ?_
  intro a w h
  refine wp_if h (b := ((x0.1 : Int) != x1.1)) (by kernel_rfl) (fun hb => ?_) (fun hb => ?_)
  · replace hF := of_t hb hF
    refine wp_reg_seq tok (orc := orcL []) (fz := []) (l := [4]) (c := _) (.inr fun i h => h) h (by kernel_rfl) (AllP.nil) ?_
    intro a w h
    cases hF
    exact wp_ret (ret_okR tok h rfl (by kernel_rfl)).1
  · replace hF := of_f hb hF
    refine wp_skip ?_
    refine wp_seq ?_
    refine wp_reg_seq tok (orc := orcL []) (fz := []) (l := [14]) (c := _) (.inr fun i h => h) h (by kernel_rfl) (AllP.nil) ?_
    intro a w h
    refine wp_if h (b := ((x0.2 : Int) != x1.2)) (by kernel_rfl) (fun hb => ?_) (fun hb => ?_)
    · replace hF := of_t hb hF
      refine wp_reg_seq tok (orc := orcL []) (fz := []) (l := [4]) (c := _) (.inr fun i h => h) h (by kernel_rfl) (AllP.nil) ?_
      intro a w h
      cases hF
      exact wp_ret (ret_okR tok h rfl (by kernel_rfl)).1
    · replace hF := of_f hb hF
      refine wp_skip ?_
      refine wp_reg_seq tok (orc := orcL []) (fz := []) (l := [4]) (c := _) (.inr fun i h => h) h (by kernel_rfl) (AllP.nil) ?_
      intro a w h
      cases hF
      exact wp_ret (ret_okR tok h rfl (by kernel_rfl)).1

def f35.l30 (k : Nat) (x0 : (List (Int × Int))) (x1 : (List (Int × Int))) : Nat → Int → Option Bool
  | 0, _ => none
  | m30 + 1, v50 => if (decide ((v50 : Int) < (List.length x0 : Int))) then (if (0 ≤ v50 ∧ v50 < (List.length x0 : Int)) then (if (0 ≤ v50 ∧ v50 < (List.length x1 : Int)) then ((f94 k (List.getD x0 (Int.toNat v50) ((0 : Int), (0 : Int))) (List.getD x1 (Int.toNat v50) ((0 : Int), (0 : Int)))).bind fun r55 => (if (!r55) then (some false) else ((f35.l30 k x0 x1) m30 (IntKind.i64.wrap (v50 + (1 : Int)))))) else none) else none) else (some true)
def f35 (k : Nat) (x0 : (List (Int × Int))) (x1 : (List (Int × Int))) : Option Bool := if (((List.length x0 : Int) : Int) != (List.length x1 : Int)) then (some false) else (f35.l30 k x0 x1 k (0 : Int))
set_option maxRecDepth 100000 in
/-- 'laws.eqPointS'. -/
theorem c35 (k : Nat) (x0 : (List (Int × Int))) (x1 : (List (Int × Int))) (r : Bool) (hF : f35 k x0 x1 = some r) : PCall Try.prog 35 [⟨sh4, x0⟩, ⟨sh4, x1⟩] [⟨.bool, r⟩] := by
  refine pcall_intro Try.func35 rfl rfl (Nat.le_of_ble_eq_true rfl) ?_
  intro w0 Zi a w h
  rw [f35] at hF
  refine wp_reg_seq tok (orc := orcL []) (fz := []) (l := [0, 1]) (c := _) (.inr fun i h => h) h (by kernel_rfl) (AllP.nil) ?_
  intro a w h
  refine wp_seq ?_
  refine wp_reg_seq tok (orc := orcL []) (fz := []) (l := [0, 1, 10]) (c := _) (.inr fun i h => h) h (by kernel_rfl) (AllP.nil) ?_
  intro a w h
  refine wp_if h (b := (((List.length x0 : Int) : Int) != (List.length x1 : Int))) (by kernel_rfl) (fun hb => ?_) (fun hb => ?_)
  · replace hF := of_t hb hF
    refine wp_reg_seq tok (orc := orcL []) (fz := []) (l := [4]) (c := _) (.inr fun i h => h) h (by kernel_rfl) (AllP.nil) ?_
    intro a w h
    cases hF
    exact wp_ret (ret_okR tok h rfl (by kernel_rfl)).1
  · replace hF := of_f hb hF
    refine wp_skip ?_
    refine wp_seq ?_
    refine wp_reg_seq tok (orc := orcL []) (fz := []) (l := [0, 1, 5]) (c := _) (.inr fun i h => h) h (by kernel_rfl) (AllP.nil) ?_
    intro a w h
    refine wp_block ?_
    refine wp_loop_fuel (f35.l30 k x0 x1) (fun (v50 : Int) => [(0, .val sh4 x0), (1, .val sh4 x1), (5, .val (.int .i64) v50)]) (fun v h => by rw [f35.l30] at h; cases h) ?_ hF (h.arrive (fz := []) (l := [0, 1, 5]) (.inr fun i h => h) (by kernel_rfl))
    intro m30 v50 a w hF h
    rw [f35.l30] at hF
    refine wp_seq ?_
    refine wp_reg_seq tok (orc := orcL []) (fz := []) (l := [0, 1, 5, 14]) (c := _) (.inr fun i h => h) h (by kernel_rfl) (AllP.nil) ?_
    intro a w h
    refine wp_if h (b := (decide ((v50 : Int) < (List.length x0 : Int)))) (by kernel_rfl) (fun hb => ?_) (fun hb => ?_)
    · replace hF := of_t hb hF
      refine wp_skip ?_
      refine wp_seq <| wp_block ?_
      obtain ⟨hc56, hF⟩ := of_if hF
      obtain ⟨hc57, hF⟩ := of_if hF
      obtain ⟨r55, hr58, hF⟩ := of_bind hF
      refine wp_regy_seq tok (orc := orcL [(25, [⟨.bool, r55⟩])]) (fz := []) (l := [0, 1, 5, 26]) (c := _) 10 (.inr fun i h => h) h (by kernel_rfl) (by kernel_rfl) (AllP.cons hc56 (AllP.cons hc57 (AllP.cons (c94 k (List.getD x0 (Int.toNat v50) ((0 : Int), (0 : Int))) (List.getD x1 (Int.toNat v50) ((0 : Int), (0 : Int))) r55 hr58) AllP.nil))) ?_
      intro a w h
      refine wp_if h (b := (!r55)) (by kernel_rfl) (fun hb => ?_) (fun hb => ?_)
      · replace hF := of_t hb hF
        refine wp_reg_seq tok (orc := orcL []) (fz := []) (l := [4]) (c := _) (.inr fun i h => h) h (by kernel_rfl) (AllP.nil) ?_
        intro a w h
        cases hF
        exact wp_ret (ret_okR tok h rfl (by kernel_rfl)).1
      · replace hF := of_f hb hF
        refine wp_skip ?_
        refine wp_reg tok (orc := orcL []) (fz := []) (l := [0, 1, 5]) (c := _) (.inr fun i h => h) h (by kernel_rfl) (AllP.nil) ?_
        intro a w h
        exact ⟨(IntKind.i64.wrap (v50 + (1 : Int))), hF, h.arrive (fz := []) (l := [0, 1, 5]) (.inr fun i h => h) (by kernel_rfl)⟩
    · replace hF := of_f hb hF
      refine wp_exit ?_
      refine wp_reg_seq tok (orc := orcL []) (fz := []) (l := [4]) (c := _) (.inr fun i h => h) h (by kernel_rfl) (AllP.nil) ?_
      intro a w h
      cases hF
      exact wp_ret (ret_okR tok h rfl (by kernel_rfl)).1

def f36.l26 (k : Nat) : Nat → ((List (Int × Int)) × Int × Int) → Option (Int × (List (Int × Int)))
  | 0, _ => none
  | m26 + 1, (v44, v45, v46) => if (decide ((v46 : Int) < (List.length v44 : Int))) then (if (0 ≤ v46 ∧ v46 < (List.length v44 : Int)) then (if (0 ≤ v46 ∧ v46 < (List.length (List.set v44 (Int.toNat v46) (v45, (List.getD v44 (Int.toNat v46) ((0 : Int), (0 : Int))).2)) : Int)) then ((f36.l26 k) m26 ((List.set (List.set v44 (Int.toNat v46) (v45, (List.getD v44 (Int.toNat v46) ((0 : Int), (0 : Int))).2)) (Int.toNat v46) ((List.getD (List.set v44 (Int.toNat v46) (v45, (List.getD v44 (Int.toNat v46) ((0 : Int), (0 : Int))).2)) (Int.toNat v46) ((0 : Int), (0 : Int))).1, (IntKind.i64.wrap (v45 + (1 : Int))))), (IntKind.i64.wrap ((IntKind.i64.wrap (v45 + (1 : Int))) + (1 : Int))), (IntKind.i64.wrap (v46 + (1 : Int))))) else none) else none) else (some (v45, v44))
def f36 (k : Nat) (x0 : (List (Int × Int))) (x1 : Int) : Option (Int × (List (Int × Int))) := f36.l26 k k (x0, x1, (0 : Int))
set_option maxRecDepth 100000 in
/-- 'laws.markPointS'. -/
theorem c36 (k : Nat) (x0 : (List (Int × Int))) (x1 : Int) (r : (Int × (List (Int × Int)))) (hF : f36 k x0 x1 = some r) : PMut Try.prog 36 [⟨sh2, x0⟩, ⟨(.int .i64), x1⟩] [⟨(.int .i64), r.1⟩] (List.set [⟨sh2, x0⟩, ⟨(.int .i64), x1⟩] 0 ⟨sh2, r.2⟩) := by
  refine pmut_intro (j := 0) (fin := ⟨sh2, r.2⟩) Try.func36 rfl rfl (Nat.le_of_ble_eq_true rfl) (Nat.le_of_ble_eq_true rfl) (by kernel_rfl) ?_
  intro w0 Zi f0 v0 a w h
  rw [f36] at hF
  refine wp_reg_seq tok (orc := orcL []) (fz := []) (l := [0, 1]) (c := _) (.inl rfl) h (by kernel_rfl) (AllP.nil) ?_
  intro a w h
  refine wp_seq ?_
  refine wp_reg_seq tok (orc := orcL []) (fz := []) (l := [0, 1, 5]) (c := _) (.inl rfl) h (by kernel_rfl) (AllP.nil) ?_
  intro a w h
  refine wp_block ?_
  refine wp_loop_fuel (f36.l26 k) (fun ((v44, v45, v46) : ((List (Int × Int)) × Int × Int)) => [(0, .val sh2 v44), (1, .val (.int .i64) v45), (5, .val (.int .i64) v46)]) (fun v h => by obtain ⟨v44, v45, v46⟩ := v; rw [f36.l26] at h; cases h) ?_ hF (h.arrive (fz := []) (l := [0, 1, 5]) (.inl rfl) (by kernel_rfl))
  intro m26 v a w hF h
  obtain ⟨v44, v45, v46⟩ := v
  rw [f36.l26] at hF
  refine wp_seq ?_
  refine wp_reg_seq tok (orc := orcL []) (fz := []) (l := [0, 1, 5, 9]) (c := _) (.inl rfl) h (by kernel_rfl) (AllP.nil) ?_
  intro a w h
  refine wp_if h (b := (decide ((v46 : Int) < (List.length v44 : Int)))) (by kernel_rfl) (fun hb => ?_) (fun hb => ?_)
  · replace hF := of_t hb hF
    refine wp_skip ?_
    refine wp_seq <| wp_block ?_
    obtain ⟨hc50, hF⟩ := of_if hF
    refine wp_reg_seq tok (orc := orcL []) (fz := []) (l := [0, 1, 5]) (c := _) (.inl rfl) h (by kernel_rfl) (AllP.cons hc50 AllP.nil) ?_
    intro a w h
    refine wp_reg_seq tok (orc := orcL []) (fz := []) (l := [0, 1, 5]) (c := _) (.inl rfl) h (by kernel_rfl) (AllP.nil) ?_
    intro a w h
    obtain ⟨hc49, hF⟩ := of_if hF
    refine wp_reg_seq tok (orc := orcL []) (fz := []) (l := [0, 1, 5]) (c := _) (.inl rfl) h (by kernel_rfl) (AllP.cons hc49 AllP.nil) ?_
    intro a w h
    refine wp_reg tok (orc := orcL []) (fz := []) (l := [0, 1, 5]) (c := _) (.inl rfl) h (by kernel_rfl) (AllP.nil) ?_
    intro a w h
    refine wp_reg tok (orc := orcL []) (fz := []) (l := [0, 1, 5]) (c := _) (.inl rfl) h (by kernel_rfl) (AllP.nil) ?_
    intro a w h
    exact ⟨((List.set (List.set v44 (Int.toNat v46) (v45, (List.getD v44 (Int.toNat v46) ((0 : Int), (0 : Int))).2)) (Int.toNat v46) ((List.getD (List.set v44 (Int.toNat v46) (v45, (List.getD v44 (Int.toNat v46) ((0 : Int), (0 : Int))).2)) (Int.toNat v46) ((0 : Int), (0 : Int))).1, (IntKind.i64.wrap (v45 + (1 : Int))))), (IntKind.i64.wrap ((IntKind.i64.wrap (v45 + (1 : Int))) + (1 : Int))), (IntKind.i64.wrap (v46 + (1 : Int)))), hF, h.arrive (fz := []) (l := [0, 1, 5]) (.inl rfl) (by kernel_rfl)⟩
  · replace hF := of_f hb hF
    refine wp_exit ?_
    refine wp_reg_seq tok (orc := orcL []) (fz := []) (l := [0, 4]) (c := _) (.inl rfl) h (by kernel_rfl) (AllP.nil) ?_
    intro a w h
    cases hF
    exact wp_ret (retM_ok tok h rfl (by kernel_rfl) (by kernel_rfl)).1

def f37.l22 (k : Nat) (x0 : (List (Int × Int))) : Nat → (Int × Int) → Option Int
  | 0, _ => none
  | m22 + 1, (v37, v38) => if (decide ((v38 : Int) < (List.length x0 : Int))) then (if (0 ≤ v38 ∧ v38 < (List.length x0 : Int)) then (if (((List.getD x0 (Int.toNat v38) ((0 : Int), (0 : Int))).1 : Int) != v37) then (some (-1 : Int)) else (if (0 ≤ v38 ∧ v38 < (List.length x0 : Int)) then (if (((List.getD x0 (Int.toNat v38) ((0 : Int), (0 : Int))).2 : Int) != (IntKind.i64.wrap (v37 + (1 : Int)))) then (some (-1 : Int)) else ((f37.l22 k x0) m22 ((IntKind.i64.wrap ((IntKind.i64.wrap (v37 + (1 : Int))) + (1 : Int))), (IntKind.i64.wrap (v38 + (1 : Int)))))) else none)) else none) else (some v37)
def f37 (k : Nat) (x0 : (List (Int × Int))) (x1 : Int) : Option Int := f37.l22 k x0 k (x1, (0 : Int))
set_option maxRecDepth 100000 in
/-- 'laws.heldPointS'. -/
theorem c37 (k : Nat) (x0 : (List (Int × Int))) (x1 : Int) (r : Int) (hF : f37 k x0 x1 = some r) : PCall Try.prog 37 [⟨sh4, x0⟩, ⟨(.int .i64), x1⟩] [⟨(.int .i64), r⟩] := by
  refine pcall_intro Try.func37 rfl rfl (Nat.le_of_ble_eq_true rfl) ?_
  intro w0 Zi a w h
  rw [f37] at hF
  refine wp_reg_seq tok (orc := orcL []) (fz := []) (l := [0, 1]) (c := _) (.inr fun i h => h) h (by kernel_rfl) (AllP.nil) ?_
  intro a w h
  refine wp_seq ?_
  refine wp_reg_seq tok (orc := orcL []) (fz := []) (l := [0, 1, 5]) (c := _) (.inr fun i h => h) h (by kernel_rfl) (AllP.nil) ?_
  intro a w h
  refine wp_block ?_
  refine wp_loop_fuel (f37.l22 k x0) (fun ((v37, v38) : (Int × Int)) => [(0, .val sh4 x0), (1, .val (.int .i64) v37), (5, .val (.int .i64) v38)]) (fun v h => by obtain ⟨v37, v38⟩ := v; rw [f37.l22] at h; cases h) ?_ hF (h.arrive (fz := []) (l := [0, 1, 5]) (.inr fun i h => h) (by kernel_rfl))
  intro m22 v a w hF h
  obtain ⟨v37, v38⟩ := v
  rw [f37.l22] at hF
  refine wp_seq ?_
  refine wp_reg_seq tok (orc := orcL []) (fz := []) (l := [0, 1, 5, 9]) (c := _) (.inr fun i h => h) h (by kernel_rfl) (AllP.nil) ?_
  intro a w h
  refine wp_if h (b := (decide ((v38 : Int) < (List.length x0 : Int)))) (by kernel_rfl) (fun hb => ?_) (fun hb => ?_)
  · replace hF := of_t hb hF
    refine wp_skip ?_
    refine wp_seq <| wp_block ?_
    refine wp_seq ?_
    obtain ⟨hc42, hF⟩ := of_if hF
    refine wp_reg_seq tok (orc := orcL []) (fz := []) (l := [0, 1, 5, 18]) (c := _) (.inr fun i h => h) h (by kernel_rfl) (AllP.cons hc42 AllP.nil) ?_
    intro a w h
    refine wp_if h (b := (((List.getD x0 (Int.toNat v38) ((0 : Int), (0 : Int))).1 : Int) != v37)) (by kernel_rfl) (fun hb => ?_) (fun hb => ?_)
    · replace hF := of_t hb hF
      refine wp_reg_seq tok (orc := orcL []) (fz := []) (l := [4]) (c := _) (.inr fun i h => h) h (by kernel_rfl) (AllP.nil) ?_
      intro a w h
      cases hF
      exact wp_ret (ret_okR tok h rfl (by kernel_rfl)).1
    · replace hF := of_f hb hF
      refine wp_skip ?_
      refine wp_reg_seq tok (orc := orcL []) (fz := []) (l := [0, 1, 5]) (c := _) (.inr fun i h => h) h (by kernel_rfl) (AllP.nil) ?_
      intro a w h
      refine wp_seq ?_
      obtain ⟨hc41, hF⟩ := of_if hF
      refine wp_reg_seq tok (orc := orcL []) (fz := []) (l := [0, 1, 5, 27]) (c := _) (.inr fun i h => h) h (by kernel_rfl) (AllP.cons hc41 AllP.nil) ?_
      intro a w h
      refine wp_if h (b := (((List.getD x0 (Int.toNat v38) ((0 : Int), (0 : Int))).2 : Int) != (IntKind.i64.wrap (v37 + (1 : Int))))) (by kernel_rfl) (fun hb => ?_) (fun hb => ?_)
      · replace hF := of_t hb hF
        refine wp_reg_seq tok (orc := orcL []) (fz := []) (l := [4]) (c := _) (.inr fun i h => h) h (by kernel_rfl) (AllP.nil) ?_
        intro a w h
        cases hF
        exact wp_ret (ret_okR tok h rfl (by kernel_rfl)).1
      · replace hF := of_f hb hF
        refine wp_skip ?_
        refine wp_reg tok (orc := orcL []) (fz := []) (l := [0, 1, 5]) (c := _) (.inr fun i h => h) h (by kernel_rfl) (AllP.nil) ?_
        intro a w h
        refine wp_reg tok (orc := orcL []) (fz := []) (l := [0, 1, 5]) (c := _) (.inr fun i h => h) h (by kernel_rfl) (AllP.nil) ?_
        intro a w h
        exact ⟨((IntKind.i64.wrap ((IntKind.i64.wrap (v37 + (1 : Int))) + (1 : Int))), (IntKind.i64.wrap (v38 + (1 : Int)))), hF, h.arrive (fz := []) (l := [0, 1, 5]) (.inr fun i h => h) (by kernel_rfl)⟩
  · replace hF := of_f hb hF
    refine wp_exit ?_
    refine wp_reg_seq tok (orc := orcL []) (fz := []) (l := [4]) (c := _) (.inr fun i h => h) h (by kernel_rfl) (AllP.nil) ?_
    intro a w h
    cases hF
    exact wp_ret (ret_okR tok h rfl (by kernel_rfl)).1

def f7 (k : Nat) (x0 : (List (Int × Int))) (x1 : (Int × (Int × Int))) : Option Bool := (f30 k x0 (1048576 : Int)).bind fun r1 => (if (decide ((r1 : Int) < (0 : Int))) then (some true) else ((f32 k x0).bind fun r2 => ((f33 k x1).bind fun r3 => ((f31 k r2 r3).bind fun r4 => ((f32 k x0).bind fun r5 => ((f33 k x1).bind fun r6 => ((f34 k r5 r6).bind fun r7 => ((f35 k r7 r4).bind fun r8 => (if (!r8) then (some false) else ((f32 k x0).bind fun r9 => ((f35 k r5 r9).bind fun r10 => (if (!r10) then (some false) else ((f36 k r5 (1 : Int)).bind fun r11 => ((if ((decide ((r11.1 : Int) < (0 : Int))) = false) then f35 k r7 r4 else some default).bind fun r12 => (if (bif (decide ((r11.1 : Int) < (0 : Int))) then true else (!r12)) then (some false) else ((f36 k r7 (1 : Int)).bind fun r13 => ((f37 k r13.2 (1 : Int)).bind fun r14 => (if (decide ((r14 : Int) < (0 : Int))) then (some false) else (if ((r14 : Int) != r13.1) then (some false) else ((f32 k x0).bind fun r15 => ((f33 k x1).bind fun r16 => ((f34 k r15 r16).bind fun r17 => ((f35 k r17 r4).bind fun r18 => (if (!r18) then (some false) else ((f37 k r13.2 (1 : Int)).bind fun r19 => (if (decide ((r19 : Int) < (0 : Int))) then (some false) else (if ((r19 : Int) != r13.1) then (some false) else (some true))))))))))))))))))))))))))))
set_option maxRecDepth 100000 in
/-- 'laws.FnExactQuantise'. -/
theorem c7 (k : Nat) (x0 : (List (Int × Int))) (x1 : (Int × (Int × Int))) (r : Bool) (hF : f7 k x0 x1 = some r) : PCall Try.prog 7 [⟨sh0, x0⟩, ⟨sh3, x1⟩] [⟨.bool, r⟩] := by
  refine pcall_intro Try.func7 rfl rfl (Nat.le_of_ble_eq_true rfl) ?_
  intro w0 Zi a w h
  rw [f7] at hF
  refine wp_reg_seq tok (orc := orcL []) (fz := []) (l := [0, 3]) (c := _) (.inr fun i h => h) h (by kernel_rfl) (AllP.nil) ?_
  intro a w h
  refine wp_reg_seq tok (orc := orcL []) (fz := []) (l := [0, 3, 5]) (c := _) (.inr fun i h => h) h (by kernel_rfl) (AllP.nil) ?_
  intro a w h
  obtain ⟨r1, hr38, hF⟩ := of_bind hF
  refine wp_reg_seq tok (orc := orcL [(15, [⟨(.int .i64), r1⟩])]) (fz := []) (l := [0, 3, 5]) (c := _) (.inr fun i h => h) h (by kernel_rfl) (AllP.cons (c30 k x0 (1048576 : Int) r1 hr38) AllP.nil) ?_
  intro a w h
  refine wp_seq ?_
  refine wp_reg_seq tok (orc := orcL []) (fz := []) (l := [0, 3, 17]) (c := _) (.inr fun i h => h) h (by kernel_rfl) (AllP.nil) ?_
  intro a w h
  refine wp_if h (b := (decide ((r1 : Int) < (0 : Int)))) (by kernel_rfl) (fun hb => ?_) (fun hb => ?_)
  · replace hF := of_t hb hF
    refine wp_reg_seq tok (orc := orcL []) (fz := []) (l := [4]) (c := _) (.inr fun i h => h) h (by kernel_rfl) (AllP.nil) ?_
    intro a w h
    cases hF
    exact wp_ret (ret_okR tok h rfl (by kernel_rfl)).1
  · replace hF := of_f hb hF
    refine wp_skip ?_
    obtain ⟨r2, hr35, hF⟩ := of_bind hF
    obtain ⟨r3, hr36, hF⟩ := of_bind hF
    obtain ⟨r4, hr37, hF⟩ := of_bind hF
    refine wp_regy_seq tok (orc := orcL [(19, [⟨sh2, r2⟩]), (21, [⟨sh3, r3⟩]), (22, [⟨sh2, r4⟩])]) (fz := []) (l := [0, 3, 6]) (c := _) 5 (.inr fun i h => h) h (by kernel_rfl) (by kernel_rfl) (AllP.cons (c32 k x0 r2 hr35) (AllP.cons (c33 k x1 r3 hr36) (AllP.cons (c31 k r2 r3 r4 hr37) AllP.nil))) ?_
    intro a w h
    obtain ⟨r5, hr34, hF⟩ := of_bind hF
    refine wp_reg_seq tok (orc := orcL [(24, [⟨sh2, r5⟩])]) (fz := []) (l := [0, 3, 6, 7]) (c := _) (.inr fun i h => h) h (by kernel_rfl) (AllP.cons (c32 k x0 r5 hr34) AllP.nil) ?_
    intro a w h
    obtain ⟨r6, hr32, hF⟩ := of_bind hF
    obtain ⟨r7, hr33, hF⟩ := of_bind hF
    refine wp_reg_seq tok (orc := orcL [(27, [⟨sh3, r6⟩]), (28, [⟨sh2, r7⟩])]) (fz := []) (l := [0, 3, 6, 7, 8]) (c := _) (.inr fun i h => h) h (by kernel_rfl) (AllP.cons (c33 k x1 r6 hr32) (AllP.cons (c34 k r5 r6 r7 hr33) AllP.nil)) ?_
    intro a w h
    refine wp_seq ?_
    obtain ⟨r8, hr31, hF⟩ := of_bind hF
    refine wp_reg_seq tok (orc := orcL [(31, [⟨.bool, r8⟩])]) (fz := []) (l := [0, 3, 6, 7, 8, 32]) (c := _) (.inr fun i h => h) h (by kernel_rfl) (AllP.cons (c35 k r7 r4 r8 hr31) AllP.nil) ?_
    intro a w h
    refine wp_if h (b := (!r8)) (by kernel_rfl) (fun hb => ?_) (fun hb => ?_)
    · replace hF := of_t hb hF
      refine wp_reg_seq tok (orc := orcL []) (fz := []) (l := [4]) (c := _) (.inr fun i h => h) h (by kernel_rfl) (AllP.nil) ?_
      intro a w h
      cases hF
      exact wp_ret (ret_okR tok h rfl (by kernel_rfl)).1
    · replace hF := of_f hb hF
      refine wp_skip ?_
      refine wp_seq ?_
      obtain ⟨r9, hr29, hF⟩ := of_bind hF
      obtain ⟨r10, hr30, hF⟩ := of_bind hF
      refine wp_reg_seq tok (orc := orcL [(35, [⟨sh2, r9⟩]), (36, [⟨.bool, r10⟩])]) (fz := []) (l := [0, 3, 6, 7, 8, 37]) (c := _) (.inr fun i h => h) h (by kernel_rfl) (AllP.cons (c32 k x0 r9 hr29) (AllP.cons (c35 k r5 r9 r10 hr30) AllP.nil)) ?_
      intro a w h
      refine wp_if h (b := (!r10)) (by kernel_rfl) (fun hb => ?_) (fun hb => ?_)
      · replace hF := of_t hb hF
        refine wp_reg_seq tok (orc := orcL []) (fz := []) (l := [4]) (c := _) (.inr fun i h => h) h (by kernel_rfl) (AllP.nil) ?_
        intro a w h
        cases hF
        exact wp_ret (ret_okR tok h rfl (by kernel_rfl)).1
      · replace hF := of_f hb hF
        refine wp_skip ?_
        refine wp_reg_seq tok (orc := orcL []) (fz := []) (l := [0, 3, 6, 7, 8, 9]) (c := _) (.inr fun i h => h) h (by kernel_rfl) (AllP.nil) ?_
        intro a w h
        obtain ⟨r11, hr28, hF⟩ := of_bind hF
        refine wp_reg_seq tok (orc := orcL [(40, [⟨.pt false 4294967295 (.sl true 27 (.st (.pair (.int .i64) (.int .i64)))), some r11.2⟩, ⟨(.int .i64), r11.1⟩])]) (fz := []) (l := [0, 3, 6, 8, 9]) (c := _) (.inr fun i h => h) h (by kernel_rfl) (AllP.cons (c36 k r5 (1 : Int) r11 hr28) AllP.nil) ?_
        intro a w h
        refine wp_seq ?_
        obtain ⟨r12, hr27, hF⟩ := of_bind hF
        refine wp_reg_seq tok (orc := orcL [(46, [⟨.bool, r12⟩])]) (fz := []) (l := [0, 3, 6, 8, 48]) (c := _) (.inr fun i h => h) h (by kernel_rfl) (AllP.cons (fun (hg : ((decide ((r11.1 : Int) < (0 : Int))) = false)) => c35 k r7 r4 r12 (of_g hg hr27)) AllP.nil) ?_
        intro a w h
        refine wp_if h (b := (bif (decide ((r11.1 : Int) < (0 : Int))) then true else (!r12))) (by kernel_rfl) (fun hb => ?_) (fun hb => ?_)
        · replace hF := of_t hb hF
          refine wp_reg_seq tok (orc := orcL []) (fz := []) (l := [4]) (c := _) (.inr fun i h => h) h (by kernel_rfl) (AllP.nil) ?_
          intro a w h
          cases hF
          exact wp_ret (ret_okR tok h rfl (by kernel_rfl)).1
        · replace hF := of_f hb hF
          refine wp_skip ?_
          refine wp_reg_seq tok (orc := orcL []) (fz := []) (l := [0, 3, 6, 8, 10]) (c := _) (.inr fun i h => h) h (by kernel_rfl) (AllP.nil) ?_
          intro a w h
          obtain ⟨r13, hr26, hF⟩ := of_bind hF
          refine wp_reg_seq tok (orc := orcL [(51, [⟨.pt false 4294967295 (.sl true 27 (.st (.pair (.int .i64) (.int .i64)))), some r13.2⟩, ⟨(.int .i64), r13.1⟩])]) (fz := []) (l := [0, 3, 6, 8, 10]) (c := _) (.inr fun i h => h) h (by kernel_rfl) (AllP.cons (c36 k r7 (1 : Int) r13 hr26) AllP.nil) ?_
          intro a w h
          refine wp_reg_seq tok (orc := orcL []) (fz := []) (l := [0, 3, 6, 8, 10, 11]) (c := _) (.inr fun i h => h) h (by kernel_rfl) (AllP.nil) ?_
          intro a w h
          obtain ⟨r14, hr25, hF⟩ := of_bind hF
          refine wp_reg_seq tok (orc := orcL [(54, [⟨(.int .i64), r14⟩])]) (fz := []) (l := [0, 3, 6, 8, 10, 11]) (c := _) (.inr fun i h => h) h (by kernel_rfl) (AllP.cons (c37 k r13.2 (1 : Int) r14 hr25) AllP.nil) ?_
          intro a w h
          refine wp_seq ?_
          refine wp_reg_seq tok (orc := orcL []) (fz := []) (l := [0, 3, 6, 8, 10, 11, 56]) (c := _) (.inr fun i h => h) h (by kernel_rfl) (AllP.nil) ?_
          intro a w h
          refine wp_if h (b := (decide ((r14 : Int) < (0 : Int)))) (by kernel_rfl) (fun hb => ?_) (fun hb => ?_)
          · replace hF := of_t hb hF
            refine wp_reg_seq tok (orc := orcL []) (fz := []) (l := [4]) (c := _) (.inr fun i h => h) h (by kernel_rfl) (AllP.nil) ?_
            intro a w h
            cases hF
            exact wp_ret (ret_okR tok h rfl (by kernel_rfl)).1
          · replace hF := of_f hb hF
            refine wp_skip ?_
            refine wp_seq ?_
            refine wp_reg_seq tok (orc := orcL []) (fz := []) (l := [0, 3, 6, 8, 10, 59]) (c := _) (.inr fun i h => h) h (by kernel_rfl) (AllP.nil) ?_
            intro a w h
            refine wp_if h (b := ((r14 : Int) != r13.1)) (by kernel_rfl) (fun hb => ?_) (fun hb => ?_)
            · replace hF := of_t hb hF
              refine wp_reg_seq tok (orc := orcL []) (fz := []) (l := [4]) (c := _) (.inr fun i h => h) h (by kernel_rfl) (AllP.nil) ?_
              intro a w h
              cases hF
              exact wp_ret (ret_okR tok h rfl (by kernel_rfl)).1
            · replace hF := of_f hb hF
              refine wp_skip ?_
              obtain ⟨r15, hr22, hF⟩ := of_bind hF
              obtain ⟨r16, hr23, hF⟩ := of_bind hF
              obtain ⟨r17, hr24, hF⟩ := of_bind hF
              refine wp_regy_seq tok (orc := orcL [(61, [⟨sh2, r15⟩]), (63, [⟨sh3, r16⟩]), (64, [⟨sh2, r17⟩])]) (fz := []) (l := [6, 8, 10, 12]) (c := _) 5 (.inr fun i h => h) h (by kernel_rfl) (by kernel_rfl) (AllP.cons (c32 k x0 r15 hr22) (AllP.cons (c33 k x1 r16 hr23) (AllP.cons (c34 k r15 r16 r17 hr24) AllP.nil))) ?_
              intro a w h
              refine wp_seq ?_
              obtain ⟨r18, hr21, hF⟩ := of_bind hF
              refine wp_reg_seq tok (orc := orcL [(67, [⟨.bool, r18⟩])]) (fz := []) (l := [8, 10, 68]) (c := _) (.inr fun i h => h) h (by kernel_rfl) (AllP.cons (c35 k r17 r4 r18 hr21) AllP.nil) ?_
              intro a w h
              refine wp_if h (b := (!r18)) (by kernel_rfl) (fun hb => ?_) (fun hb => ?_)
              · replace hF := of_t hb hF
                refine wp_reg_seq tok (orc := orcL []) (fz := []) (l := [4]) (c := _) (.inr fun i h => h) h (by kernel_rfl) (AllP.nil) ?_
                intro a w h
                cases hF
                exact wp_ret (ret_okR tok h rfl (by kernel_rfl)).1
              · replace hF := of_f hb hF
                refine wp_skip ?_
                refine wp_reg_seq tok (orc := orcL []) (fz := []) (l := [8, 10, 11]) (c := _) (.inr fun i h => h) h (by kernel_rfl) (AllP.nil) ?_
                intro a w h
                obtain ⟨r19, hr20, hF⟩ := of_bind hF
                refine wp_reg_seq tok (orc := orcL [(71, [⟨(.int .i64), r19⟩])]) (fz := []) (l := [10, 11]) (c := _) (.inr fun i h => h) h (by kernel_rfl) (AllP.cons (c37 k r13.2 (1 : Int) r19 hr20) AllP.nil) ?_
                intro a w h
                refine wp_seq ?_
                refine wp_reg_seq tok (orc := orcL []) (fz := []) (l := [10, 11, 73]) (c := _) (.inr fun i h => h) h (by kernel_rfl) (AllP.nil) ?_
                intro a w h
                refine wp_if h (b := (decide ((r19 : Int) < (0 : Int)))) (by kernel_rfl) (fun hb => ?_) (fun hb => ?_)
                · replace hF := of_t hb hF
                  refine wp_reg_seq tok (orc := orcL []) (fz := []) (l := [4]) (c := _) (.inr fun i h => h) h (by kernel_rfl) (AllP.nil) ?_
                  intro a w h
                  cases hF
                  exact wp_ret (ret_okR tok h rfl (by kernel_rfl)).1
                · replace hF := of_f hb hF
                  refine wp_skip ?_
                  refine wp_seq ?_
                  refine wp_reg_seq tok (orc := orcL []) (fz := []) (l := [76]) (c := _) (.inr fun i h => h) h (by kernel_rfl) (AllP.nil) ?_
                  intro a w h
                  refine wp_if h (b := ((r19 : Int) != r13.1)) (by kernel_rfl) (fun hb => ?_) (fun hb => ?_)
                  · replace hF := of_t hb hF
                    refine wp_reg_seq tok (orc := orcL []) (fz := []) (l := [4]) (c := _) (.inr fun i h => h) h (by kernel_rfl) (AllP.nil) ?_
                    intro a w h
                    cases hF
                    exact wp_ret (ret_okR tok h rfl (by kernel_rfl)).1
                  · replace hF := of_f hb hF
                    refine wp_skip ?_
                    refine wp_reg_seq tok (orc := orcL []) (fz := []) (l := [4]) (c := _) (.inr fun i h => h) h (by kernel_rfl) (AllP.nil) ?_
                    intro a w h
                    cases hF
                    exact wp_ret (ret_okR tok h rfl (by kernel_rfl)).1
end Go.Proofs.Ytijlnlonlmcdoaa.V
