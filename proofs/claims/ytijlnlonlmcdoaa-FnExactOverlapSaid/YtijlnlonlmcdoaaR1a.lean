/-
  THE CONTRACTS OF SOME FUNCTIONS OF THIS SEAT, PRINTED BY A PROGRAM OF THIS PROJECT (wip/gen/vgen.py).
-/
import Derived.Test.YtijlnlonlmcdoaaProg
import Derived.Test.YtijlnlonlmcdoaaVmW
import Derived.KernelRfl
set_option linter.unusedVariables false
open Go Go.Vm Go.Proofs
namespace Go.Proofs.Ytijlnlonlmcdoaa.V
abbrev sh0 : Sh := (.st (.pair (.int .i64) (.int .i64)))
abbrev sh1 : Sh := (.st (.pair (.int .i64) (.pair (.st (.pair (.int .i64) (.int .i64))) (.pair (.int .i64) (.pair (.int .i64) (.int .i64))))))
def tbl : Tbl := [⟨2, .int .i64, 1, 8, (.int .i64)⟩,
  ⟨4, .bool, 1, 1, .bool⟩,
  ⟨23, .struct [(2, 0), (2, 1)], 2, 16, (.st (.pair (.int .i64) (.int .i64)))⟩,
  ⟨25, .struct [(2, 0), (23, 1), (2, 3), (2, 4), (2, 5)], 6, 48, (.st (.pair (.int .i64) (.pair (.st (.pair (.int .i64) (.int .i64))) (.pair (.int .i64) (.pair (.int .i64) (.int .i64))))))⟩,
  ⟨27, .struct [(2, 0), (2, 1)], 2, 16, (.st (.pair (.int .i64) (.int .i64)))⟩,
  ⟨29, .struct [(2, 0), (27, 1), (2, 3), (2, 4), (2, 5)], 6, 48, (.st (.pair (.int .i64) (.pair (.st (.pair (.int .i64) (.int .i64))) (.pair (.int .i64) (.pair (.int .i64) (.int .i64))))))⟩]
theorem tok : TOk Try.prog tbl := by unfold TOk; kernel_rfl

def f77 (k : Nat) (x0 : (Int × Int)) : Option (Int × Int) := some (x0.1, x0.2)
set_option maxRecDepth 100000 in
/-- 'laws.toPoint'. -/
theorem c77 (k : Nat) (x0 : (Int × Int)) (r : (Int × Int)) (hF : f77 k x0 = some r) : PCall Try.prog 77 [⟨sh0, x0⟩] [⟨sh0, r⟩] := by
  refine pcall_intro Try.func77 rfl rfl (Nat.le_of_ble_eq_true rfl) ?_
  intro w0 Zi a w h
  rw [f77] at hF
  refine wp_reg_seq tok (orc := orcL []) (fz := []) (l := [1, 2]) (c := _) (fun i h => h) h (by kernel_rfl) (AllP.nil) ?_
  intro a w h
  refine wp_reg_seq tok (orc := orcL []) (fz := []) (l := [1, 2, 3]) (c := _) (fun i h => h) h (by kernel_rfl) (AllP.nil) ?_
  intro a w h
  refine wp_reg_seq tok (orc := orcL []) (fz := []) (l := [1, 2, 3]) (c := _) (fun i h => h) h (by kernel_rfl) (AllP.nil) ?_
  intro a w h
  refine wp_reg_seq tok (orc := orcL []) (fz := []) (l := [2, 3]) (c := _) (fun i h => h) h (by kernel_rfl) (AllP.nil) ?_
  intro a w h
  refine wp_reg_seq tok (orc := orcL []) (fz := []) (l := [2]) (c := _) (fun i h => h) h (by kernel_rfl) (AllP.nil) ?_
  intro a w h
  cases hF
  exact wp_ret (ret_okR tok h rfl (by kernel_rfl)).1

def f16 (k : Nat) (x0 : (Int × ((Int × Int) × (Int × (Int × Int))))) : Option (Int × ((Int × Int) × (Int × (Int × Int)))) := (f77 k x0.2.1).bind fun r1 => (some (x0.1, (r1, (x0.2.2.1, (x0.2.2.2.1, x0.2.2.2.2)))))
set_option maxRecDepth 100000 in
/-- 'laws.toLabel'. -/
theorem c16 (k : Nat) (x0 : (Int × ((Int × Int) × (Int × (Int × Int))))) (r : (Int × ((Int × Int) × (Int × (Int × Int))))) (hF : f16 k x0 = some r) : PCall Try.prog 16 [⟨sh1, x0⟩] [⟨sh1, r⟩] := by
  refine pcall_intro Try.func16 rfl rfl (Nat.le_of_ble_eq_true rfl) ?_
  intro w0 Zi a w h
  rw [f16] at hF
  refine wp_reg_seq tok (orc := orcL []) (fz := []) (l := [1, 2]) (c := _) (fun i h => h) h (by kernel_rfl) (AllP.nil) ?_
  intro a w h
  refine wp_reg_seq tok (orc := orcL []) (fz := []) (l := [1, 2, 3]) (c := _) (fun i h => h) h (by kernel_rfl) (AllP.nil) ?_
  intro a w h
  refine wp_reg_seq tok (orc := orcL []) (fz := []) (l := [1, 2, 3]) (c := _) (fun i h => h) h (by kernel_rfl) (AllP.nil) ?_
  intro a w h
  obtain ⟨r1, hr2, hF⟩ := of_bind hF
  refine wp_reg_seq tok (orc := orcL [(9, [⟨sh0, r1⟩])]) (fz := []) (l := [1, 2, 3]) (c := _) (fun i h => h) h (by kernel_rfl) (AllP.cons (c77 k x0.2.1 r1 hr2) AllP.nil) ?_
  intro a w h
  refine wp_reg_seq tok (orc := orcL []) (fz := []) (l := [1, 2, 3]) (c := _) (fun i h => h) h (by kernel_rfl) (AllP.nil) ?_
  intro a w h
  refine wp_reg_seq tok (orc := orcL []) (fz := []) (l := [1, 2, 3]) (c := _) (fun i h => h) h (by kernel_rfl) (AllP.nil) ?_
  intro a w h
  refine wp_reg_seq tok (orc := orcL []) (fz := []) (l := [2, 3]) (c := _) (fun i h => h) h (by kernel_rfl) (AllP.nil) ?_
  intro a w h
  refine wp_reg_seq tok (orc := orcL []) (fz := []) (l := [2]) (c := _) (fun i h => h) h (by kernel_rfl) (AllP.nil) ?_
  intro a w h
  cases hF
  exact wp_ret (ret_okR tok h rfl (by kernel_rfl)).1

def f114 (k : Nat) (x0 : Int) : Option Bool := some (bif (decide ((x0 : Int) ≥ (1 : Int))) then (decide ((x0 : Int) ≤ (1000000000 : Int))) else false)
set_option maxRecDepth 100000 in
/-- 'spec.l2IdOk'. -/
theorem c114 (k : Nat) (x0 : Int) (r : Bool) (hF : f114 k x0 = some r) : PCall Try.prog 114 [⟨(.int .i64), x0⟩] [⟨.bool, r⟩] := by
  refine pcall_intro Try.func114 rfl rfl (Nat.le_of_ble_eq_true rfl) ?_
  intro w0 Zi a w h
  rw [f114] at hF
  refine wp_reg_seq tok (orc := orcL []) (fz := []) (l := [0]) (c := _) (fun i h => h) h (by kernel_rfl) (AllP.nil) ?_
  intro a w h
  refine wp_reg_seq tok (orc := orcL []) (fz := []) (l := [2]) (c := _) (fun i h => h) h (by kernel_rfl) (AllP.nil) ?_
  intro a w h
  cases hF
  exact wp_ret (ret_okR tok h rfl (by kernel_rfl)).1

def f115 (k : Nat) (x0 : (Int × Int)) : Option Bool := some (bif (bif (bif (decide ((x0.1 : Int) ≥ (-10000000 : Int))) then (decide ((x0.1 : Int) ≤ (10000000 : Int))) else false) then (decide ((x0.2 : Int) ≥ (-10000000 : Int))) else false) then (decide ((x0.2 : Int) ≤ (10000000 : Int))) else false)
set_option maxRecDepth 100000 in
/-- 'spec.PointOk'. -/
theorem c115 (k : Nat) (x0 : (Int × Int)) (r : Bool) (hF : f115 k x0 = some r) : PCall Try.prog 115 [⟨sh0, x0⟩] [⟨.bool, r⟩] := by
  refine pcall_intro Try.func115 rfl rfl (Nat.le_of_ble_eq_true rfl) ?_
  intro w0 Zi a w h
  rw [f115] at hF
  refine wp_reg_seq tok (orc := orcL []) (fz := []) (l := [1]) (c := _) (fun i h => h) h (by kernel_rfl) (AllP.nil) ?_
  intro a w h
  refine wp_reg_seq tok (orc := orcL []) (fz := []) (l := [2]) (c := _) (fun i h => h) h (by kernel_rfl) (AllP.nil) ?_
  intro a w h
  cases hF
  exact wp_ret (ret_okR tok h rfl (by kernel_rfl)).1

def f75 (k : Nat) (x0 : (Int × ((Int × Int) × (Int × (Int × Int))))) : Option Bool := (f114 k x0.1).bind fun r1 => ((if (r1 = true) then f115 k x0.2.1 else some default).bind fun r2 => (some (bif (bif (bif (bif (bif (bif (bif r1 then r2 else false) then (decide ((x0.2.2.1 : Int) ≥ (1 : Int))) else false) then (decide ((x0.2.2.1 : Int) ≤ (100000 : Int))) else false) then (decide ((x0.2.2.2.1 : Int) ≥ (1 : Int))) else false) then (decide ((x0.2.2.2.1 : Int) ≤ (100000 : Int))) else false) then (decide ((x0.2.2.2.2 : Int) ≥ (0 : Int))) else false) then (decide ((x0.2.2.2.2 : Int) ≤ (1000 : Int))) else false)))
set_option maxRecDepth 100000 in
/-- 'spec.l8Ok'. -/
theorem c75 (k : Nat) (x0 : (Int × ((Int × Int) × (Int × (Int × Int))))) (r : Bool) (hF : f75 k x0 = some r) : PCall Try.prog 75 [⟨sh1, x0⟩] [⟨.bool, r⟩] := by
  refine pcall_intro Try.func75 rfl rfl (Nat.le_of_ble_eq_true rfl) ?_
  intro w0 Zi a w h
  rw [f75] at hF
  refine wp_reg_seq tok (orc := orcL []) (fz := []) (l := [1]) (c := _) (fun i h => h) h (by kernel_rfl) (AllP.nil) ?_
  intro a w h
  obtain ⟨r1, hr3, hF⟩ := of_bind hF
  obtain ⟨r2, hr4, hF⟩ := of_bind hF
  refine wp_reg_seq tok (orc := orcL [(5, [⟨.bool, r1⟩]), (9, [⟨.bool, r2⟩])]) (fz := []) (l := [2]) (c := _) (fun i h => h) h (by kernel_rfl) (AllP.cons (c114 k x0.1 r1 hr3) (AllP.cons (fun (hg : (r1 = true)) => c115 k x0.2.1 r2 (of_g hg hr4)) AllP.nil)) ?_
  intro a w h
  cases hF
  exact wp_ret (ret_okR tok h rfl (by kernel_rfl)).1

def f76 (k : Nat) (x0 : (Int × ((Int × Int) × (Int × (Int × Int))))) (x1 : (Int × ((Int × Int) × (Int × (Int × Int))))) : Option Bool := some (bif (bif (bif (decide ((x0.2.1.1 : Int) < (IntKind.i64.wrap (x1.2.1.1 + x1.2.2.1)))) then (decide ((x1.2.1.1 : Int) < (IntKind.i64.wrap (x0.2.1.1 + x0.2.2.1)))) else false) then (decide ((x0.2.1.2 : Int) < (IntKind.i64.wrap (x1.2.1.2 + x1.2.2.2.1)))) else false) then (decide ((x1.2.1.2 : Int) < (IntKind.i64.wrap (x0.2.1.2 + x0.2.2.2.1)))) else false)
set_option maxRecDepth 100000 in
/-- 'spec.l8Overlap'. -/
theorem c76 (k : Nat) (x0 : (Int × ((Int × Int) × (Int × (Int × Int))))) (x1 : (Int × ((Int × Int) × (Int × (Int × Int))))) (r : Bool) (hF : f76 k x0 x1 = some r) : PCall Try.prog 76 [⟨sh1, x0⟩, ⟨sh1, x1⟩] [⟨.bool, r⟩] := by
  refine pcall_intro Try.func76 rfl rfl (Nat.le_of_ble_eq_true rfl) ?_
  intro w0 Zi a w h
  rw [f76] at hF
  refine wp_reg_seq tok (orc := orcL []) (fz := []) (l := [2, 3]) (c := _) (fun i h => h) h (by kernel_rfl) (AllP.nil) ?_
  intro a w h
  refine wp_reg_seq tok (orc := orcL []) (fz := []) (l := [4]) (c := _) (fun i h => h) h (by kernel_rfl) (AllP.nil) ?_
  intro a w h
  cases hF
  exact wp_ret (ret_okR tok h rfl (by kernel_rfl)).1

def f15 (k : Nat) (x0 : (Int × ((Int × Int) × (Int × (Int × Int))))) (x1 : (Int × ((Int × Int) × (Int × (Int × Int))))) : Option Bool := (f75 k x0).bind fun r1 => ((if (r1 = true) then f75 k x1 else some default).bind fun r2 => ((if ((bif r1 then r2 else false) = true) then f76 k x0 x1 else some default).bind fun r3 => (some (bif (bif r1 then r2 else false) then r3 else false))))
set_option maxRecDepth 100000 in
/-- 'spec.Overlap'. -/
theorem c15 (k : Nat) (x0 : (Int × ((Int × Int) × (Int × (Int × Int))))) (x1 : (Int × ((Int × Int) × (Int × (Int × Int))))) (r : Bool) (hF : f15 k x0 x1 = some r) : PCall Try.prog 15 [⟨sh1, x0⟩, ⟨sh1, x1⟩] [⟨.bool, r⟩] := by
  refine pcall_intro Try.func15 rfl rfl (Nat.le_of_ble_eq_true rfl) ?_
  intro w0 Zi a w h
  rw [f15] at hF
  refine wp_reg_seq tok (orc := orcL []) (fz := []) (l := [2, 3]) (c := _) (fun i h => h) h (by kernel_rfl) (AllP.nil) ?_
  intro a w h
  obtain ⟨r1, hr4, hF⟩ := of_bind hF
  obtain ⟨r2, hr5, hF⟩ := of_bind hF
  obtain ⟨r3, hr6, hF⟩ := of_bind hF
  refine wp_reg_seq tok (orc := orcL [(6, [⟨.bool, r1⟩]), (9, [⟨.bool, r2⟩]), (14, [⟨.bool, r3⟩])]) (fz := []) (l := [4]) (c := _) (fun i h => h) h (by kernel_rfl) (AllP.cons (c75 k x0 r1 hr4) (AllP.cons (fun (hg : (r1 = true)) => c75 k x1 r2 (of_g hg hr5)) (AllP.cons (fun (hg : ((bif r1 then r2 else false) = true)) => c76 k x0 x1 r3 (of_g hg hr6)) AllP.nil))) ?_
  intro a w h
  cases hF
  exact wp_ret (ret_okR tok h rfl (by kernel_rfl)).1

def f120 (k : Nat) (x0 : Int) : Option Bool := some (bif (decide ((x0 : Int) ≥ (1 : Int))) then (decide ((x0 : Int) ≤ (1000000000 : Int))) else false)
set_option maxRecDepth 100000 in
/-- 'impl.idOk'. -/
theorem c120 (k : Nat) (x0 : Int) (r : Bool) (hF : f120 k x0 = some r) : PCall Try.prog 120 [⟨(.int .i64), x0⟩] [⟨.bool, r⟩] := by
  refine pcall_intro Try.func120 rfl rfl (Nat.le_of_ble_eq_true rfl) ?_
  intro w0 Zi a w h
  rw [f120] at hF
  refine wp_reg_seq tok (orc := orcL []) (fz := []) (l := [0]) (c := _) (fun i h => h) h (by kernel_rfl) (AllP.nil) ?_
  intro a w h
  refine wp_reg_seq tok (orc := orcL []) (fz := []) (l := [2]) (c := _) (fun i h => h) h (by kernel_rfl) (AllP.nil) ?_
  intro a w h
  cases hF
  exact wp_ret (ret_okR tok h rfl (by kernel_rfl)).1

def f121 (k : Nat) (x0 : (Int × Int)) : Option Bool := some (bif (bif (bif (decide ((x0.1 : Int) ≥ (-10000000 : Int))) then (decide ((x0.1 : Int) ≤ (10000000 : Int))) else false) then (decide ((x0.2 : Int) ≥ (-10000000 : Int))) else false) then (decide ((x0.2 : Int) ≤ (10000000 : Int))) else false)
set_option maxRecDepth 100000 in
/-- 'impl.PointOk'. -/
theorem c121 (k : Nat) (x0 : (Int × Int)) (r : Bool) (hF : f121 k x0 = some r) : PCall Try.prog 121 [⟨sh0, x0⟩] [⟨.bool, r⟩] := by
  refine pcall_intro Try.func121 rfl rfl (Nat.le_of_ble_eq_true rfl) ?_
  intro w0 Zi a w h
  rw [f121] at hF
  refine wp_reg_seq tok (orc := orcL []) (fz := []) (l := [1]) (c := _) (fun i h => h) h (by kernel_rfl) (AllP.nil) ?_
  intro a w h
  refine wp_reg_seq tok (orc := orcL []) (fz := []) (l := [2]) (c := _) (fun i h => h) h (by kernel_rfl) (AllP.nil) ?_
  intro a w h
  cases hF
  exact wp_ret (ret_okR tok h rfl (by kernel_rfl)).1

def f78 (k : Nat) (x0 : (Int × ((Int × Int) × (Int × (Int × Int))))) : Option Bool := (f120 k x0.1).bind fun r1 => ((if (r1 = true) then f121 k x0.2.1 else some default).bind fun r2 => (some (bif (bif (bif (bif (bif (bif (bif r1 then r2 else false) then (decide ((x0.2.2.1 : Int) ≥ (1 : Int))) else false) then (decide ((x0.2.2.1 : Int) ≤ (100000 : Int))) else false) then (decide ((x0.2.2.2.1 : Int) ≥ (1 : Int))) else false) then (decide ((x0.2.2.2.1 : Int) ≤ (100000 : Int))) else false) then (decide ((x0.2.2.2.2 : Int) ≥ (0 : Int))) else false) then (decide ((x0.2.2.2.2 : Int) ≤ (1000 : Int))) else false)))
set_option maxRecDepth 100000 in
/-- 'impl.labelOk'. -/
theorem c78 (k : Nat) (x0 : (Int × ((Int × Int) × (Int × (Int × Int))))) (r : Bool) (hF : f78 k x0 = some r) : PCall Try.prog 78 [⟨sh1, x0⟩] [⟨.bool, r⟩] := by
  refine pcall_intro Try.func78 rfl rfl (Nat.le_of_ble_eq_true rfl) ?_
  intro w0 Zi a w h
  rw [f78] at hF
  refine wp_reg_seq tok (orc := orcL []) (fz := []) (l := [1]) (c := _) (fun i h => h) h (by kernel_rfl) (AllP.nil) ?_
  intro a w h
  obtain ⟨r1, hr3, hF⟩ := of_bind hF
  obtain ⟨r2, hr4, hF⟩ := of_bind hF
  refine wp_reg_seq tok (orc := orcL [(5, [⟨.bool, r1⟩]), (9, [⟨.bool, r2⟩])]) (fz := []) (l := [2]) (c := _) (fun i h => h) h (by kernel_rfl) (AllP.cons (c120 k x0.1 r1 hr3) (AllP.cons (fun (hg : (r1 = true)) => c121 k x0.2.1 r2 (of_g hg hr4)) AllP.nil)) ?_
  intro a w h
  cases hF
  exact wp_ret (ret_okR tok h rfl (by kernel_rfl)).1

def f79 (k : Nat) (x0 : (Int × ((Int × Int) × (Int × (Int × Int))))) (x1 : (Int × ((Int × Int) × (Int × (Int × Int))))) : Option Bool := some (bif (bif (bif (decide ((x0.2.1.1 : Int) < (IntKind.i64.wrap (x1.2.1.1 + x1.2.2.1)))) then (decide ((x1.2.1.1 : Int) < (IntKind.i64.wrap (x0.2.1.1 + x0.2.2.1)))) else false) then (decide ((x0.2.1.2 : Int) < (IntKind.i64.wrap (x1.2.1.2 + x1.2.2.2.1)))) else false) then (decide ((x1.2.1.2 : Int) < (IntKind.i64.wrap (x0.2.1.2 + x0.2.2.2.1)))) else false)
set_option maxRecDepth 100000 in
/-- 'impl.overlap'. -/
theorem c79 (k : Nat) (x0 : (Int × ((Int × Int) × (Int × (Int × Int))))) (x1 : (Int × ((Int × Int) × (Int × (Int × Int))))) (r : Bool) (hF : f79 k x0 x1 = some r) : PCall Try.prog 79 [⟨sh1, x0⟩, ⟨sh1, x1⟩] [⟨.bool, r⟩] := by
  refine pcall_intro Try.func79 rfl rfl (Nat.le_of_ble_eq_true rfl) ?_
  intro w0 Zi a w h
  rw [f79] at hF
  refine wp_reg_seq tok (orc := orcL []) (fz := []) (l := [2, 3]) (c := _) (fun i h => h) h (by kernel_rfl) (AllP.nil) ?_
  intro a w h
  refine wp_reg_seq tok (orc := orcL []) (fz := []) (l := [4]) (c := _) (fun i h => h) h (by kernel_rfl) (AllP.nil) ?_
  intro a w h
  cases hF
  exact wp_ret (ret_okR tok h rfl (by kernel_rfl)).1

def f17 (k : Nat) (x0 : (Int × ((Int × Int) × (Int × (Int × Int))))) (x1 : (Int × ((Int × Int) × (Int × (Int × Int))))) : Option Bool := (f78 k x0).bind fun r1 => ((if (r1 = true) then f78 k x1 else some default).bind fun r2 => ((if ((bif r1 then r2 else false) = true) then f79 k x0 x1 else some default).bind fun r3 => (some (bif (bif r1 then r2 else false) then r3 else false))))
set_option maxRecDepth 100000 in
/-- 'impl.Overlap'. -/
theorem c17 (k : Nat) (x0 : (Int × ((Int × Int) × (Int × (Int × Int))))) (x1 : (Int × ((Int × Int) × (Int × (Int × Int))))) (r : Bool) (hF : f17 k x0 x1 = some r) : PCall Try.prog 17 [⟨sh1, x0⟩, ⟨sh1, x1⟩] [⟨.bool, r⟩] := by
  refine pcall_intro Try.func17 rfl rfl (Nat.le_of_ble_eq_true rfl) ?_
  intro w0 Zi a w h
  rw [f17] at hF
  refine wp_reg_seq tok (orc := orcL []) (fz := []) (l := [2, 3]) (c := _) (fun i h => h) h (by kernel_rfl) (AllP.nil) ?_
  intro a w h
  obtain ⟨r1, hr4, hF⟩ := of_bind hF
  obtain ⟨r2, hr5, hF⟩ := of_bind hF
  obtain ⟨r3, hr6, hF⟩ := of_bind hF
  refine wp_reg_seq tok (orc := orcL [(6, [⟨.bool, r1⟩]), (9, [⟨.bool, r2⟩]), (14, [⟨.bool, r3⟩])]) (fz := []) (l := [4]) (c := _) (fun i h => h) h (by kernel_rfl) (AllP.cons (c78 k x0 r1 hr4) (AllP.cons (fun (hg : (r1 = true)) => c78 k x1 r2 (of_g hg hr5)) (AllP.cons (fun (hg : ((bif r1 then r2 else false) = true)) => c79 k x0 x1 r3 (of_g hg hr6)) AllP.nil))) ?_
  intro a w h
  cases hF
  exact wp_ret (ret_okR tok h rfl (by kernel_rfl)).1

def f3 (k : Nat) (x0 : (Int × ((Int × Int) × (Int × (Int × Int))))) (x1 : (Int × ((Int × Int) × (Int × (Int × Int))))) : Option Bool := (f16 k x0).bind fun r1 => ((f16 k x1).bind fun r2 => ((f15 k r1 r2).bind fun r3 => ((f16 k x0).bind fun r4 => ((f16 k x1).bind fun r5 => ((f17 k r4 r5).bind fun r6 => (if (!((r6 : Bool) == r3)) then (some false) else (some true)))))))
set_option maxRecDepth 100000 in
/-- 'laws.FnExactOverlap'. -/
theorem c3 (k : Nat) (x0 : (Int × ((Int × Int) × (Int × (Int × Int))))) (x1 : (Int × ((Int × Int) × (Int × (Int × Int))))) (r : Bool) (hF : f3 k x0 x1 = some r) : PCall Try.prog 3 [⟨sh1, x0⟩, ⟨sh1, x1⟩] [⟨.bool, r⟩] := by
  refine pcall_intro Try.func3 rfl rfl (Nat.le_of_ble_eq_true rfl) ?_
  intro w0 Zi a w h
  rw [f3] at hF
  refine wp_reg_seq tok (orc := orcL []) (fz := []) (l := [2, 3]) (c := _) (fun i h => h) h (by kernel_rfl) (AllP.nil) ?_
  intro a w h
  obtain ⟨r1, hr10, hF⟩ := of_bind hF
  obtain ⟨r2, hr11, hF⟩ := of_bind hF
  obtain ⟨r3, hr12, hF⟩ := of_bind hF
  refine wp_regd_seq tok (orc := orcL [(8, [⟨sh1, r1⟩]), (10, [⟨sh1, r2⟩]), (11, [⟨.bool, r3⟩])]) (fz := []) (l := [2, 3, 5]) (c := _) (fun i h => h) h (by kernel_rfl) (by kernel_rfl) (AllP.cons (c16 k x0 r1 hr10) (AllP.cons (c16 k x1 r2 hr11) (AllP.cons (c15 k r1 r2 r3 hr12) AllP.nil))) ?_
  intro a w h
  obtain ⟨r4, hr7, hF⟩ := of_bind hF
  obtain ⟨r5, hr8, hF⟩ := of_bind hF
  obtain ⟨r6, hr9, hF⟩ := of_bind hF
  refine wp_regd_seq tok (orc := orcL [(13, [⟨sh1, r4⟩]), (15, [⟨sh1, r5⟩]), (16, [⟨.bool, r6⟩])]) (fz := []) (l := [5, 6]) (c := _) (fun i h => h) h (by kernel_rfl) (by kernel_rfl) (AllP.cons (c16 k x0 r4 hr7) (AllP.cons (c16 k x1 r5 hr8) (AllP.cons (c17 k r4 r5 r6 hr9) AllP.nil))) ?_
  intro a w h
  refine wp_seq ?_
  refine wp_reg_seq tok (orc := orcL []) (fz := []) (l := [19]) (c := _) (fun i h => h) h (by kernel_rfl) (AllP.nil) ?_
  intro a w h
  refine wp_if h (b := (!((r6 : Bool) == r3))) (by kernel_rfl) (fun hb => ?_) (fun hb => ?_)
  · replace hF := of_t hb hF
    refine wp_reg_seq tok (orc := orcL []) (fz := []) (l := [4]) (c := _) (fun i h => h) h (by kernel_rfl) (AllP.nil) ?_
    intro a w h
    cases hF
    exact wp_ret (ret_okR tok h rfl (by kernel_rfl)).1
  · replace hF := of_f hb hF
    refine wp_skip ?_
    refine wp_reg_seq tok (orc := orcL []) (fz := []) (l := [4]) (c := _) (fun i h => h) h (by kernel_rfl) (AllP.nil) ?_
    intro a w h
    cases hF
    exact wp_ret (ret_okR tok h rfl (by kernel_rfl)).1
end Go.Proofs.Ytijlnlonlmcdoaa.V
