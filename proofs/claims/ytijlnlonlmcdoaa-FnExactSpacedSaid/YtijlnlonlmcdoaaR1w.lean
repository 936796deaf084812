/-
  THE CONTRACTS OF SOME FUNCTIONS OF THIS SEAT, PRINTED BY A PROGRAM OF THIS PROJECT (wip/gen/vgen.py).
-/
import Derived.Test.YtijlnlonlmcdoaaProg
import Derived.Test.YtijlnlonlmcdoaaVmW
import Derived.Test.YtijlnlonlmcdoaaVmY
import Derived.KernelRfl
set_option linter.unusedVariables false
open Go Go.Vm Go.Proofs
namespace Go.Proofs.Ytijlnlonlmcdoaa.V
abbrev sh0 : Sh := (.sl false 25 (.st (.pair (.int .i64) (.pair (.st (.pair (.int .i64) (.int .i64))) (.pair (.int .i64) (.pair (.int .i64) (.int .i64)))))))
abbrev sh1 : Sh := (.st (.pair (.int .i64) (.int .i64)))
abbrev sh2 : Sh := (.st (.pair (.int .i64) (.pair (.st (.pair (.int .i64) (.int .i64))) (.pair (.int .i64) (.pair (.int .i64) (.int .i64))))))
abbrev sh3 : Sh := (.sl true 29 (.st (.pair (.int .i64) (.pair (.st (.pair (.int .i64) (.int .i64))) (.pair (.int .i64) (.pair (.int .i64) (.int .i64)))))))
abbrev sh4 : Sh := (.sl false 29 (.st (.pair (.int .i64) (.pair (.st (.pair (.int .i64) (.int .i64))) (.pair (.int .i64) (.pair (.int .i64) (.int .i64)))))))
abbrev sh5 : Sh := (.mp true (.int .i64) .bool)
def tbl : Tbl := [⟨2, .int .i64, 1, 8, (.int .i64)⟩,
  ⟨3, .int .i64, 1, 8, (.int .i64)⟩,
  ⟨4, .bool, 1, 1, .bool⟩,
  ⟨23, .struct [(2, 0), (2, 1)], 2, 16, (.st (.pair (.int .i64) (.int .i64)))⟩,
  ⟨25, .struct [(2, 0), (23, 1), (2, 3), (2, 4), (2, 5)], 6, 48, (.st (.pair (.int .i64) (.pair (.st (.pair (.int .i64) (.int .i64))) (.pair (.int .i64) (.pair (.int .i64) (.int .i64))))))⟩,
  ⟨27, .struct [(2, 0), (2, 1)], 2, 16, (.st (.pair (.int .i64) (.int .i64)))⟩,
  ⟨29, .struct [(2, 0), (27, 1), (2, 3), (2, 4), (2, 5)], 6, 48, (.st (.pair (.int .i64) (.pair (.st (.pair (.int .i64) (.int .i64))) (.pair (.int .i64) (.pair (.int .i64) (.int .i64))))))⟩,
  ⟨39, .slice 25, 1, 24, (.sl true 25 (.st (.pair (.int .i64) (.pair (.st (.pair (.int .i64) (.int .i64))) (.pair (.int .i64) (.pair (.int .i64) (.int .i64)))))))⟩,
  ⟨42, .slice 29, 1, 24, (.sl true 29 (.st (.pair (.int .i64) (.pair (.st (.pair (.int .i64) (.int .i64))) (.pair (.int .i64) (.pair (.int .i64) (.int .i64)))))))⟩,
  ⟨58, .slice 2, 1, 24, (.sl true 2 (.int .i64))⟩,
  ⟨133, .map 2 4, 1, 8, (.mp true (.int .i64) .bool)⟩]
theorem tok : TOk Try.prog tbl := by unfold TOk; kernel_rfl

def f23 (k : Nat) (x0 : (List (Int × ((Int × Int) × (Int × (Int × Int)))))) (x1 : Int) : Option Int := if (decide (((IntKind.i64.wrap (x1 - (List.length x0 : Int))) : Int) < (0 : Int))) then (some (-1 : Int)) else (some (IntKind.i64.wrap (x1 - (List.length x0 : Int))))
set_option maxRecDepth 100000 in
/-- 'laws.szLabelS'. -/
theorem c23 (k : Nat) (x0 : (List (Int × ((Int × Int) × (Int × (Int × Int)))))) (x1 : Int) (r : Int) (hF : f23 k x0 x1 = some r) : PCall Try.prog 23 [⟨sh0, x0⟩, ⟨(.int .i64), x1⟩] [⟨(.int .i64), r⟩] := by
  refine pcall_intro Try.func23 rfl rfl (Nat.le_of_ble_eq_true rfl) ?_
  intro w0 Zi a w h
  rw [f23] at hF
  refine wp_reg_seq tok (orc := orcL []) (fz := []) (l := [0, 1]) (c := _) (fun i h => h) h (by kernel_rfl) (AllP.nil) ?_
  intro a w h
  refine wp_reg_seq tok (orc := orcL []) (fz := []) (l := [1]) (c := _) (fun i h => h) h (by kernel_rfl) (AllP.nil) ?_
  intro a w h
  refine wp_seq ?_
  refine wp_reg_seq tok (orc := orcL []) (fz := []) (l := [1, 10]) (c := _) (fun i h => h) h (by kernel_rfl) (AllP.nil) ?_
  intro a w h
  refine wp_if h (b := (decide (((IntKind.i64.wrap (x1 - (List.length x0 : Int))) : Int) < (0 : Int)))) (by kernel_rfl) (fun hb => ?_) (fun hb => ?_)
  · replace hF := of_t hb hF
    refine wp_reg_seq tok (orc := orcL []) (fz := []) (l := [4]) (c := _) (fun i h => h) h (by kernel_rfl) (AllP.nil) ?_
    intro a w h
    cases hF
    exact wp_ret (ret_okR tok h rfl (by kernel_rfl)).1
  · replace hF := of_f hb hF
    refine wp_skip ?_
    refine wp_reg_seq tok (orc := orcL []) (fz := []) (l := [4]) (c := _) (fun i h => h) h (by kernel_rfl) (AllP.nil) ?_
    intro a w h
    cases hF
    exact wp_ret (ret_okR tok h rfl (by kernel_rfl)).1

def f77 (k : Nat) (x0 : (Int × Int)) : Option (Int × Int) := some (x0.1, x0.2)
set_option maxRecDepth 100000 in
/-- 'laws.toPoint'. -/
theorem c77 (k : Nat) (x0 : (Int × Int)) (r : (Int × Int)) (hF : f77 k x0 = some r) : PCall Try.prog 77 [⟨sh1, x0⟩] [⟨sh1, r⟩] := by
  refine pcall_intro Try.func77 rfl rfl (Nat.le_of_ble_eq_true rfl) ?_
  intro w0 Zi a w h
  rw [f77] at hF
  refine wp_reg_seq tok (orc := orcL []) (fz := []) (l := [1, 2]) (c := _) (fun i h => h) h (by kernel_rfl) (AllP.nil) ?_
  intro a w h
  refine wp_reg_seq tok (orc := orcL []) (fz := []) (l := [1, 2, 3]) (c := _) (fun i h => h) h (by kernel_rfl) (AllP.nil) ?_
  intro a w h
  refine wp_reg_seq tok (orc := orcL []) (fz := []) (l := [1, 2, 3]) (c := _) (fun i h => h) h (by kernel_rfl) (AllP.nil) ?_
  intro a w h
  refine wp_reg_seq tok (orc := orcL []) (fz := []) (l := [2, 3]) (c := _) (fun i h => h) h (by kernel_rfl) (AllP.nil) ?_
  intro a w h
  refine wp_reg_seq tok (orc := orcL []) (fz := []) (l := [2]) (c := _) (fun i h => h) h (by kernel_rfl) (AllP.nil) ?_
  intro a w h
  cases hF
  exact wp_ret (ret_okR tok h rfl (by kernel_rfl)).1

def f16 (k : Nat) (x0 : (Int × ((Int × Int) × (Int × (Int × Int))))) : Option (Int × ((Int × Int) × (Int × (Int × Int)))) := (f77 k x0.2.1).bind fun r1 => (some (x0.1, (r1, (x0.2.2.1, (x0.2.2.2.1, x0.2.2.2.2)))))
set_option maxRecDepth 100000 in
/-- 'laws.toLabel'. -/
theorem c16 (k : Nat) (x0 : (Int × ((Int × Int) × (Int × (Int × Int))))) (r : (Int × ((Int × Int) × (Int × (Int × Int))))) (hF : f16 k x0 = some r) : PCall Try.prog 16 [⟨sh2, x0⟩] [⟨sh2, r⟩] := by
  refine pcall_intro Try.func16 rfl rfl (Nat.le_of_ble_eq_true rfl) ?_
  intro w0 Zi a w h
  rw [f16] at hF
  refine wp_reg_seq tok (orc := orcL []) (fz := []) (l := [1, 2]) (c := _) (fun i h => h) h (by kernel_rfl) (AllP.nil) ?_
  intro a w h
  refine wp_reg_seq tok (orc := orcL []) (fz := []) (l := [1, 2, 3]) (c := _) (fun i h => h) h (by kernel_rfl) (AllP.nil) ?_
  intro a w h
  refine wp_reg_seq tok (orc := orcL []) (fz := []) (l := [1, 2, 3]) (c := _) (fun i h => h) h (by kernel_rfl) (AllP.nil) ?_
  intro a w h
  obtain ⟨r1, hr2, hF⟩ := of_bind hF
  refine wp_reg_seq tok (orc := orcL [(9, [⟨sh1, r1⟩])]) (fz := []) (l := [1, 2, 3]) (c := _) (fun i h => h) h (by kernel_rfl) (AllP.cons (c77 k x0.2.1 r1 hr2) AllP.nil) ?_
  intro a w h
  refine wp_reg_seq tok (orc := orcL []) (fz := []) (l := [1, 2, 3]) (c := _) (fun i h => h) h (by kernel_rfl) (AllP.nil) ?_
  intro a w h
  refine wp_reg_seq tok (orc := orcL []) (fz := []) (l := [1, 2, 3]) (c := _) (fun i h => h) h (by kernel_rfl) (AllP.nil) ?_
  intro a w h
  refine wp_reg_seq tok (orc := orcL []) (fz := []) (l := [2, 3]) (c := _) (fun i h => h) h (by kernel_rfl) (AllP.nil) ?_
  intro a w h
  refine wp_reg_seq tok (orc := orcL []) (fz := []) (l := [2]) (c := _) (fun i h => h) h (by kernel_rfl) (AllP.nil) ?_
  intro a w h
  cases hF
  exact wp_ret (ret_okR tok h rfl (by kernel_rfl)).1

def f25.l34 (k : Nat) (x0 : (List (Int × ((Int × Int) × (Int × (Int × Int)))))) : Nat → ((List (Int × ((Int × Int) × (Int × (Int × Int))))) × Int) → Option (List (Int × ((Int × Int) × (Int × (Int × Int)))))
  | 0, _ => none
  | m34 + 1, (v57, v58) => if (decide ((v58 : Int) < (List.length x0 : Int))) then (if (0 ≤ v58 ∧ v58 < (List.length x0 : Int)) then ((f16 k (List.getD x0 (Int.toNat v58) ((0 : Int), (((0 : Int), (0 : Int)), ((0 : Int), ((0 : Int), (0 : Int))))))).bind fun r63 => (if (0 ≤ v58 ∧ v58 < (List.length v57 : Int)) then ((f25.l34 k x0) m34 ((List.set v57 (Int.toNat v58) r63), (IntKind.i64.wrap (v58 + (1 : Int))))) else none)) else none) else (some v57)
def f25 (k : Nat) (x0 : (List (Int × ((Int × Int) × (Int × (Int × Int)))))) : Option (List (Int × ((Int × Int) × (Int × (Int × Int))))) := if (0 ≤ (List.length x0 : Int) ∧ Int.toNat (List.length x0 : Int) * 48 ≤ 140737488355328) then (f25.l34 k x0 k ((List.replicate (Int.toNat (List.length x0 : Int)) ((0 : Int), (((0 : Int), (0 : Int)), ((0 : Int), ((0 : Int), (0 : Int)))))), (0 : Int))) else none
set_option maxRecDepth 100000 in
/-- 'laws.toLabelS'. -/
theorem c25 (k : Nat) (x0 : (List (Int × ((Int × Int) × (Int × (Int × Int)))))) (r : (List (Int × ((Int × Int) × (Int × (Int × Int)))))) (hF : f25 k x0 = some r) : PCall Try.prog 25 [⟨sh0, x0⟩] [⟨sh3, r⟩] := by
  refine pcall_intro Try.func25 rfl rfl (Nat.le_of_ble_eq_true rfl) ?_
  intro w0 Zi a w h
  rw [f25] at hF
  refine wp_reg_seq tok (orc := orcL []) (fz := []) (l := [0]) (c := _) (fun i h => h) h (by kernel_rfl) (AllP.nil) ?_
  intro a w h
  obtain ⟨hc67, hF⟩ := of_if hF
  refine wp_reg_seq tok (orc := orcL []) (fz := []) (l := [0, 3]) (c := _) (fun i h => h) h (by kernel_rfl) (AllP.cons hc67 AllP.nil) ?_
  intro a w h
  refine wp_seq ?_
  refine wp_reg_seq tok (orc := orcL []) (fz := []) (l := [0, 3, 4]) (c := _) (fun i h => h) h (by kernel_rfl) (AllP.nil) ?_
  intro a w h
  refine wp_block ?_
  refine wp_loop_fuel (f25.l34 k x0) (fun ((v57, v58) : ((List (Int × ((Int × Int) × (Int × (Int × Int))))) × Int)) => [(0, .val sh0 x0), (3, .val sh3 v57), (4, .val (.int .i64) v58)]) (fun v h => by obtain ⟨v57, v58⟩ := v; rw [f25.l34] at h; cases h) ?_ hF (h.arrive (fz := []) (l := [0, 3, 4]) (fun i h => h) (by kernel_rfl))
  intro m34 v a w hF h
  obtain ⟨v57, v58⟩ := v
  rw [f25.l34] at hF
  refine wp_seq ?_
  refine wp_reg_seq tok (orc := orcL []) (fz := []) (l := [0, 3, 4, 11]) (c := _) (fun i h => h) h (by kernel_rfl) (AllP.nil) ?_
  intro a w h
  refine wp_if h (b := (decide ((v58 : Int) < (List.length x0 : Int)))) (by kernel_rfl) (fun hb => ?_) (fun hb => ?_)
  · replace hF := of_t hb hF
    refine wp_skip ?_
    refine wp_seq <| wp_block ?_
    obtain ⟨hc64, hF⟩ := of_if hF
    obtain ⟨r63, hr65, hF⟩ := of_bind hF
    obtain ⟨hc66, hF⟩ := of_if hF
    refine wp_reg tok (orc := orcL [(20, [⟨sh2, r63⟩])]) (fz := []) (l := [0, 3, 4]) (c := _) (fun i h => h) h (by kernel_rfl) (AllP.cons hc64 (AllP.cons (c16 k (List.getD x0 (Int.toNat v58) ((0 : Int), (((0 : Int), (0 : Int)), ((0 : Int), ((0 : Int), (0 : Int)))))) r63 hr65) (AllP.cons hc66 AllP.nil))) ?_
    intro a w h
    refine wp_reg tok (orc := orcL []) (fz := []) (l := [0, 3, 4]) (c := _) (fun i h => h) h (by kernel_rfl) (AllP.nil) ?_
    intro a w h
    exact ⟨((List.set v57 (Int.toNat v58) r63), (IntKind.i64.wrap (v58 + (1 : Int)))), hF, h.arrive (fz := []) (l := [0, 3, 4]) (fun i h => h) (by kernel_rfl)⟩
  · replace hF := of_f hb hF
    refine wp_exit ?_
    refine wp_reg_seq tok (orc := orcL []) (fz := []) (l := [2, 3]) (c := _) (fun i h => h) h (by kernel_rfl) (AllP.nil) ?_
    intro a w h
    cases hF
    exact wp_ret (ret_okR tok h rfl (by kernel_rfl)).1

def f114 (k : Nat) (x0 : Int) : Option Bool := some (bif (decide ((x0 : Int) ≥ (1 : Int))) then (decide ((x0 : Int) ≤ (1000000000 : Int))) else false)
set_option maxRecDepth 100000 in
/-- 'spec.l2IdOk'. -/
theorem c114 (k : Nat) (x0 : Int) (r : Bool) (hF : f114 k x0 = some r) : PCall Try.prog 114 [⟨(.int .i64), x0⟩] [⟨.bool, r⟩] := by
  refine pcall_intro Try.func114 rfl rfl (Nat.le_of_ble_eq_true rfl) ?_
  intro w0 Zi a w h
  rw [f114] at hF
  refine wp_reg_seq tok (orc := orcL []) (fz := []) (l := [0]) (c := _) (fun i h => h) h (by kernel_rfl) (AllP.nil) ?_
  intro a w h
  refine wp_reg_seq tok (orc := orcL []) (fz := []) (l := [2]) (c := _) (fun i h => h) h (by kernel_rfl) (AllP.nil) ?_
  intro a w h
  cases hF
  exact wp_ret (ret_okR tok h rfl (by kernel_rfl)).1

def f115 (k : Nat) (x0 : (Int × Int)) : Option Bool := some (bif (bif (bif (decide ((x0.1 : Int) ≥ (-10000000 : Int))) then (decide ((x0.1 : Int) ≤ (10000000 : Int))) else false) then (decide ((x0.2 : Int) ≥ (-10000000 : Int))) else false) then (decide ((x0.2 : Int) ≤ (10000000 : Int))) else false)
set_option maxRecDepth 100000 in
/-- 'spec.PointOk'. -/
theorem c115 (k : Nat) (x0 : (Int × Int)) (r : Bool) (hF : f115 k x0 = some r) : PCall Try.prog 115 [⟨sh1, x0⟩] [⟨.bool, r⟩] := by
  refine pcall_intro Try.func115 rfl rfl (Nat.le_of_ble_eq_true rfl) ?_
  intro w0 Zi a w h
  rw [f115] at hF
  refine wp_reg_seq tok (orc := orcL []) (fz := []) (l := [1]) (c := _) (fun i h => h) h (by kernel_rfl) (AllP.nil) ?_
  intro a w h
  refine wp_reg_seq tok (orc := orcL []) (fz := []) (l := [2]) (c := _) (fun i h => h) h (by kernel_rfl) (AllP.nil) ?_
  intro a w h
  cases hF
  exact wp_ret (ret_okR tok h rfl (by kernel_rfl)).1

def f75 (k : Nat) (x0 : (Int × ((Int × Int) × (Int × (Int × Int))))) : Option Bool := (f114 k x0.1).bind fun r1 => ((if (r1 = true) then f115 k x0.2.1 else some default).bind fun r2 => (some (bif (bif (bif (bif (bif (bif (bif r1 then r2 else false) then (decide ((x0.2.2.1 : Int) ≥ (1 : Int))) else false) then (decide ((x0.2.2.1 : Int) ≤ (100000 : Int))) else false) then (decide ((x0.2.2.2.1 : Int) ≥ (1 : Int))) else false) then (decide ((x0.2.2.2.1 : Int) ≤ (100000 : Int))) else false) then (decide ((x0.2.2.2.2 : Int) ≥ (0 : Int))) else false) then (decide ((x0.2.2.2.2 : Int) ≤ (1000 : Int))) else false)))
set_option maxRecDepth 100000 in
/-- 'spec.l8Ok'. -/
theorem c75 (k : Nat) (x0 : (Int × ((Int × Int) × (Int × (Int × Int))))) (r : Bool) (hF : f75 k x0 = some r) : PCall Try.prog 75 [⟨sh2, x0⟩] [⟨.bool, r⟩] := by
  refine pcall_intro Try.func75 rfl rfl (Nat.le_of_ble_eq_true rfl) ?_
  intro w0 Zi a w h
  rw [f75] at hF
  refine wp_reg_seq tok (orc := orcL []) (fz := []) (l := [1]) (c := _) (fun i h => h) h (by kernel_rfl) (AllP.nil) ?_
  intro a w h
  obtain ⟨r1, hr3, hF⟩ := of_bind hF
  obtain ⟨r2, hr4, hF⟩ := of_bind hF
  refine wp_reg_seq tok (orc := orcL [(5, [⟨.bool, r1⟩]), (9, [⟨.bool, r2⟩])]) (fz := []) (l := [2]) (c := _) (fun i h => h) h (by kernel_rfl) (AllP.cons (c114 k x0.1 r1 hr3) (AllP.cons (fun (hg : (r1 = true)) => c115 k x0.2.1 r2 (of_g hg hr4)) AllP.nil)) ?_
  intro a w h
  cases hF
  exact wp_ret (ret_okR tok h rfl (by kernel_rfl)).1

def f85.l12 (k : Nat) (x0 : (List (Int × ((Int × Int) × (Int × (Int × Int)))))) (x1 : Int) : Nat → Int → Option Int
  | 0, _ => none
  | m12 + 1, v20 => if (decide ((v20 : Int) < (List.length x0 : Int))) then (if (0 ≤ v20 ∧ v20 < (List.length x0 : Int)) then (if (((List.getD x0 (Int.toNat v20) ((0 : Int), (((0 : Int), (0 : Int)), ((0 : Int), ((0 : Int), (0 : Int)))))).1 : Int) == x1) then (some v20) else ((f85.l12 k x0 x1) m12 (IntKind.i64.wrap (v20 + (1 : Int))))) else none) else (some (-1 : Int))
def f85 (k : Nat) (x0 : (List (Int × ((Int × Int) × (Int × (Int × Int)))))) (x1 : Int) : Option Int := f85.l12 k x0 x1 k (0 : Int)
set_option maxRecDepth 100000 in
/-- 'spec.l8Find'. -/
theorem c85 (k : Nat) (x0 : (List (Int × ((Int × Int) × (Int × (Int × Int)))))) (x1 : Int) (r : Int) (hF : f85 k x0 x1 = some r) : PCall Try.prog 85 [⟨sh4, x0⟩, ⟨(.int .i64), x1⟩] [⟨(.int .i64), r⟩] := by
  refine pcall_intro Try.func85 rfl rfl (Nat.le_of_ble_eq_true rfl) ?_
  intro w0 Zi a w h
  rw [f85] at hF
  refine wp_reg_seq tok (orc := orcL []) (fz := []) (l := [0, 1]) (c := _) (fun i h => h) h (by kernel_rfl) (AllP.nil) ?_
  intro a w h
  refine wp_seq ?_
  refine wp_reg_seq tok (orc := orcL []) (fz := []) (l := [0, 1, 5]) (c := _) (fun i h => h) h (by kernel_rfl) (AllP.nil) ?_
  intro a w h
  refine wp_block ?_
  refine wp_loop_fuel (f85.l12 k x0 x1) (fun (v20 : Int) => [(0, .val sh4 x0), (1, .val (.int .i64) x1), (5, .val (.int .i64) v20)]) (fun v h => by rw [f85.l12] at h; cases h) ?_ hF (h.arrive (fz := []) (l := [0, 1, 5]) (fun i h => h) (by kernel_rfl))
  intro m12 v20 a w hF h
  rw [f85.l12] at hF
  refine wp_seq ?_
  refine wp_reg_seq tok (orc := orcL []) (fz := []) (l := [0, 1, 5, 9]) (c := _) (fun i h => h) h (by kernel_rfl) (AllP.nil) ?_
  intro a w h
  refine wp_if h (b := (decide ((v20 : Int) < (List.length x0 : Int)))) (by kernel_rfl) (fun hb => ?_) (fun hb => ?_)
  · replace hF := of_t hb hF
    refine wp_skip ?_
    refine wp_seq <| wp_block ?_
    obtain ⟨hc22, hF⟩ := of_if hF
    refine wp_reg_seq tok (orc := orcL []) (fz := []) (l := [0, 1, 5, 18]) (c := _) (fun i h => h) h (by kernel_rfl) (AllP.cons hc22 AllP.nil) ?_
    intro a w h
    refine wp_if h (b := (((List.getD x0 (Int.toNat v20) ((0 : Int), (((0 : Int), (0 : Int)), ((0 : Int), ((0 : Int), (0 : Int)))))).1 : Int) == x1)) (by kernel_rfl) (fun hb => ?_) (fun hb => ?_)
    · replace hF := of_t hb hF
      refine wp_reg_seq tok (orc := orcL []) (fz := []) (l := [4]) (c := _) (fun i h => h) h (by kernel_rfl) (AllP.nil) ?_
      intro a w h
      cases hF
      exact wp_ret (ret_okR tok h rfl (by kernel_rfl)).1
    · replace hF := of_f hb hF
      refine wp_skip ?_
      refine wp_reg tok (orc := orcL []) (fz := []) (l := [0, 1, 5]) (c := _) (fun i h => h) h (by kernel_rfl) (AllP.nil) ?_
      intro a w h
      exact ⟨(IntKind.i64.wrap (v20 + (1 : Int))), hF, h.arrive (fz := []) (l := [0, 1, 5]) (fun i h => h) (by kernel_rfl)⟩
  · replace hF := of_f hb hF
    refine wp_exit ?_
    refine wp_reg_seq tok (orc := orcL []) (fz := []) (l := [4]) (c := _) (fun i h => h) h (by kernel_rfl) (AllP.nil) ?_
    intro a w h
    cases hF
    exact wp_ret (ret_okR tok h rfl (by kernel_rfl)).1

def f24.l48 (k : Nat) (x0 : (List (Int × ((Int × Int) × (Int × (Int × Int)))))) : Nat → Int → Option Bool
  | 0, _ => none
  | m48 + 1, v80 => if (decide ((v80 : Int) < (List.length x0 : Int))) then (if (0 ≤ v80 ∧ v80 < (List.length x0 : Int)) then ((f75 k (List.getD x0 (Int.toNat v80) ((0 : Int), (((0 : Int), (0 : Int)), ((0 : Int), ((0 : Int), (0 : Int))))))).bind fun r88 => (if (((!r88) = false) → (True ∧ ((0 : Int) ≤ v80) ∧ 0 ≤ (Int.toNat v80) ∧ (Int.toNat v80) ≤ (List.length x0))) then (if (((!r88) = false) → (0 ≤ v80 ∧ v80 < (List.length x0 : Int))) then ((if ((!r88) = false) then f85 k (List.drop 0 (List.take (Int.toNat v80) x0)) (List.getD x0 (Int.toNat v80) ((0 : Int), (((0 : Int), (0 : Int)), ((0 : Int), ((0 : Int), (0 : Int)))))).1 else some default).bind fun r89 => (if (bif (!r88) then true else (decide ((r89 : Int) ≥ (0 : Int)))) then (some false) else ((f24.l48 k x0) m48 (IntKind.i64.wrap (v80 + (1 : Int)))))) else none) else none)) else none) else (some true)
def f24 (k : Nat) (x0 : (List (Int × ((Int × Int) × (Int × (Int × Int)))))) : Option Bool := if (decide (((List.length x0 : Int) : Int) > (500 : Int))) then (some false) else (f24.l48 k x0 k (0 : Int))
set_option maxRecDepth 100000 in
/-- 'spec.LabelsOk'. -/
theorem c24 (k : Nat) (x0 : (List (Int × ((Int × Int) × (Int × (Int × Int)))))) (r : Bool) (hF : f24 k x0 = some r) : PCall Try.prog 24 [⟨sh4, x0⟩] [⟨.bool, r⟩] := by
  refine pcall_intro Try.func24 rfl rfl (Nat.le_of_ble_eq_true rfl) ?_
  intro w0 Zi a w h
  rw [f24] at hF
  refine wp_reg_seq tok (orc := orcL []) (fz := []) (l := [0]) (c := _) (fun i h => h) h (by kernel_rfl) (AllP.nil) ?_
  intro a w h
  refine wp_seq ?_
  refine wp_reg_seq tok (orc := orcL []) (fz := []) (l := [0, 6]) (c := _) (fun i h => h) h (by kernel_rfl) (AllP.nil) ?_
  intro a w h
  refine wp_if h (b := (decide (((List.length x0 : Int) : Int) > (500 : Int)))) (by kernel_rfl) (fun hb => ?_) (fun hb => ?_)
  · replace hF := of_t hb hF
    refine wp_reg_seq tok (orc := orcL []) (fz := []) (l := [2]) (c := _) (fun i h => h) h (by kernel_rfl) (AllP.nil) ?_
    intro a w h
    cases hF
    exact wp_ret (ret_okR tok h rfl (by kernel_rfl)).1
  · replace hF := of_f hb hF
    refine wp_skip ?_
    refine wp_seq ?_
    refine wp_reg_seq tok (orc := orcL []) (fz := []) (l := [0, 3]) (c := _) (fun i h => h) h (by kernel_rfl) (AllP.nil) ?_
    intro a w h
    refine wp_block ?_
    refine wp_loop_fuel (f24.l48 k x0) (fun (v80 : Int) => [(0, .val sh4 x0), (3, .val (.int .i64) v80)]) (fun v h => by rw [f24.l48] at h; cases h) ?_ hF (h.arrive (fz := []) (l := [0, 3]) (fun i h => h) (by kernel_rfl))
    intro m48 v80 a w hF h
    rw [f24.l48] at hF
    refine wp_seq ?_
    refine wp_reg_seq tok (orc := orcL []) (fz := []) (l := [0, 3, 10]) (c := _) (fun i h => h) h (by kernel_rfl) (AllP.nil) ?_
    intro a w h
    refine wp_if h (b := (decide ((v80 : Int) < (List.length x0 : Int)))) (by kernel_rfl) (fun hb => ?_) (fun hb => ?_)
    · replace hF := of_t hb hF
      refine wp_skip ?_
      refine wp_seq <| wp_block ?_
      obtain ⟨hc90, hF⟩ := of_if hF
      obtain ⟨r88, hr91, hF⟩ := of_bind hF
      obtain ⟨hc92, hF⟩ := of_if hF
      obtain ⟨hc93, hF⟩ := of_if hF
      obtain ⟨r89, hr94, hF⟩ := of_bind hF
      refine wp_regy_seq tok (orc := orcL [(17, [⟨.bool, r88⟩]), (28, [⟨(.int .i64), r89⟩])]) (fz := []) (l := [0, 3, 30]) (c := _) 18 (fun i h => h) h (by kernel_rfl) (by kernel_rfl) (AllP.cons hc90 (AllP.cons (c75 k (List.getD x0 (Int.toNat v80) ((0 : Int), (((0 : Int), (0 : Int)), ((0 : Int), ((0 : Int), (0 : Int)))))) r88 hr91) (AllP.cons hc92 (AllP.cons hc93 (AllP.cons (fun (hg : ((!r88) = false)) => c85 k (List.drop 0 (List.take (Int.toNat v80) x0)) (List.getD x0 (Int.toNat v80) ((0 : Int), (((0 : Int), (0 : Int)), ((0 : Int), ((0 : Int), (0 : Int)))))).1 r89 (of_g hg hr94)) AllP.nil))))) ?_
      intro a w h
      refine wp_if h (b := (bif (!r88) then true else (decide ((r89 : Int) ≥ (0 : Int))))) (by kernel_rfl) (fun hb => ?_) (fun hb => ?_)
      · replace hF := of_t hb hF
        refine wp_reg_seq tok (orc := orcL []) (fz := []) (l := [2]) (c := _) (fun i h => h) h (by kernel_rfl) (AllP.nil) ?_
        intro a w h
        cases hF
        exact wp_ret (ret_okR tok h rfl (by kernel_rfl)).1
      · replace hF := of_f hb hF
        refine wp_skip ?_
        refine wp_reg tok (orc := orcL []) (fz := []) (l := [0, 3]) (c := _) (fun i h => h) h (by kernel_rfl) (AllP.nil) ?_
        intro a w h
        exact ⟨(IntKind.i64.wrap (v80 + (1 : Int))), hF, h.arrive (fz := []) (l := [0, 3]) (fun i h => h) (by kernel_rfl)⟩
    · replace hF := of_f hb hF
      refine wp_exit ?_
      refine wp_reg_seq tok (orc := orcL []) (fz := []) (l := [2]) (c := _) (fun i h => h) h (by kernel_rfl) (AllP.nil) ?_
      intro a w h
      cases hF
      exact wp_ret (ret_okR tok h rfl (by kernel_rfl)).1

def f120 (k : Nat) (x0 : Int) : Option Bool := some (bif (decide ((x0 : Int) ≥ (1 : Int))) then (decide ((x0 : Int) ≤ (1000000000 : Int))) else false)
set_option maxRecDepth 100000 in
/-- 'impl.idOk'. -/
theorem c120 (k : Nat) (x0 : Int) (r : Bool) (hF : f120 k x0 = some r) : PCall Try.prog 120 [⟨(.int .i64), x0⟩] [⟨.bool, r⟩] := by
  refine pcall_intro Try.func120 rfl rfl (Nat.le_of_ble_eq_true rfl) ?_
  intro w0 Zi a w h
  rw [f120] at hF
  refine wp_reg_seq tok (orc := orcL []) (fz := []) (l := [0]) (c := _) (fun i h => h) h (by kernel_rfl) (AllP.nil) ?_
  intro a w h
  refine wp_reg_seq tok (orc := orcL []) (fz := []) (l := [2]) (c := _) (fun i h => h) h (by kernel_rfl) (AllP.nil) ?_
  intro a w h
  cases hF
  exact wp_ret (ret_okR tok h rfl (by kernel_rfl)).1

def f121 (k : Nat) (x0 : (Int × Int)) : Option Bool := some (bif (bif (bif (decide ((x0.1 : Int) ≥ (-10000000 : Int))) then (decide ((x0.1 : Int) ≤ (10000000 : Int))) else false) then (decide ((x0.2 : Int) ≥ (-10000000 : Int))) else false) then (decide ((x0.2 : Int) ≤ (10000000 : Int))) else false)
set_option maxRecDepth 100000 in
/-- 'impl.PointOk'. -/
theorem c121 (k : Nat) (x0 : (Int × Int)) (r : Bool) (hF : f121 k x0 = some r) : PCall Try.prog 121 [⟨sh1, x0⟩] [⟨.bool, r⟩] := by
  refine pcall_intro Try.func121 rfl rfl (Nat.le_of_ble_eq_true rfl) ?_
  intro w0 Zi a w h
  rw [f121] at hF
  refine wp_reg_seq tok (orc := orcL []) (fz := []) (l := [1]) (c := _) (fun i h => h) h (by kernel_rfl) (AllP.nil) ?_
  intro a w h
  refine wp_reg_seq tok (orc := orcL []) (fz := []) (l := [2]) (c := _) (fun i h => h) h (by kernel_rfl) (AllP.nil) ?_
  intro a w h
  cases hF
  exact wp_ret (ret_okR tok h rfl (by kernel_rfl)).1

def f78 (k : Nat) (x0 : (Int × ((Int × Int) × (Int × (Int × Int))))) : Option Bool := (f120 k x0.1).bind fun r1 => ((if (r1 = true) then f121 k x0.2.1 else some default).bind fun r2 => (some (bif (bif (bif (bif (bif (bif (bif r1 then r2 else false) then (decide ((x0.2.2.1 : Int) ≥ (1 : Int))) else false) then (decide ((x0.2.2.1 : Int) ≤ (100000 : Int))) else false) then (decide ((x0.2.2.2.1 : Int) ≥ (1 : Int))) else false) then (decide ((x0.2.2.2.1 : Int) ≤ (100000 : Int))) else false) then (decide ((x0.2.2.2.2 : Int) ≥ (0 : Int))) else false) then (decide ((x0.2.2.2.2 : Int) ≤ (1000 : Int))) else false)))
set_option maxRecDepth 100000 in
/-- 'impl.labelOk'. -/
theorem c78 (k : Nat) (x0 : (Int × ((Int × Int) × (Int × (Int × Int))))) (r : Bool) (hF : f78 k x0 = some r) : PCall Try.prog 78 [⟨sh2, x0⟩] [⟨.bool, r⟩] := by
  refine pcall_intro Try.func78 rfl rfl (Nat.le_of_ble_eq_true rfl) ?_
  intro w0 Zi a w h
  rw [f78] at hF
  refine wp_reg_seq tok (orc := orcL []) (fz := []) (l := [1]) (c := _) (fun i h => h) h (by kernel_rfl) (AllP.nil) ?_
  intro a w h
  obtain ⟨r1, hr3, hF⟩ := of_bind hF
  obtain ⟨r2, hr4, hF⟩ := of_bind hF
  refine wp_reg_seq tok (orc := orcL [(5, [⟨.bool, r1⟩]), (9, [⟨.bool, r2⟩])]) (fz := []) (l := [2]) (c := _) (fun i h => h) h (by kernel_rfl) (AllP.cons (c120 k x0.1 r1 hr3) (AllP.cons (fun (hg : (r1 = true)) => c121 k x0.2.1 r2 (of_g hg hr4)) AllP.nil)) ?_
  intro a w h
  cases hF
  exact wp_ret (ret_okR tok h rfl (by kernel_rfl)).1

def f26.l28 (k : Nat) (x0 : (List (Int × ((Int × Int) × (Int × (Int × Int)))))) : Nat → ((List (Int × Bool)) × Int) → Option Bool
  | 0, _ => none
  | m28 + 1, (v47, v48) => if (decide ((v48 : Int) < (List.length x0 : Int))) then (if (0 ≤ v48 ∧ v48 < (List.length x0 : Int)) then ((f78 k (List.getD x0 (Int.toNat v48) ((0 : Int), (((0 : Int), (0 : Int)), ((0 : Int), ((0 : Int), (0 : Int))))))).bind fun r52 => (if (bif (!r52) then true else (mget (Sh.beq (.int .i64)) (some v47) (List.getD x0 (Int.toNat v48) ((0 : Int), (((0 : Int), (0 : Int)), ((0 : Int), ((0 : Int), (0 : Int)))))).1 false)) then (some false) else ((f26.l28 k x0) m28 ((mput (Sh.beq (.int .i64)) (List.getD x0 (Int.toNat v48) ((0 : Int), (((0 : Int), (0 : Int)), ((0 : Int), ((0 : Int), (0 : Int)))))).1 true v47), (IntKind.i64.wrap (v48 + (1 : Int))))))) else none) else (some true)
def f26 (k : Nat) (x0 : (List (Int × ((Int × Int) × (Int × (Int × Int)))))) : Option Bool := if (decide (((List.length x0 : Int) : Int) > (500 : Int))) then (some false) else (f26.l28 k x0 k (([] : (List (Int × Bool))), (0 : Int)))
set_option maxRecDepth 100000 in
/-- 'impl.LabelsOk'. -/
theorem c26 (k : Nat) (x0 : (List (Int × ((Int × Int) × (Int × (Int × Int)))))) (r : Bool) (hF : f26 k x0 = some r) : PCall Try.prog 26 [⟨sh4, x0⟩] [⟨.bool, r⟩] := by
  refine pcall_intro Try.func26 rfl rfl (Nat.le_of_ble_eq_true rfl) ?_
  intro w0 Zi a w h
  rw [f26] at hF
  refine wp_reg_seq tok (orc := orcL []) (fz := []) (l := [0]) (c := _) (fun i h => h) h (by kernel_rfl) (AllP.nil) ?_
  intro a w h
  refine wp_seq ?_
  refine wp_reg_seq tok (orc := orcL []) (fz := []) (l := [0, 8]) (c := _) (fun i h => h) h (by kernel_rfl) (AllP.nil) ?_
  intro a w h
  refine wp_if h (b := (decide (((List.length x0 : Int) : Int) > (500 : Int)))) (by kernel_rfl) (fun hb => ?_) (fun hb => ?_)
  · replace hF := of_t hb hF
    refine wp_reg_seq tok (orc := orcL []) (fz := []) (l := [2]) (c := _) (fun i h => h) h (by kernel_rfl) (AllP.nil) ?_
    intro a w h
    cases hF
    exact wp_ret (ret_okR tok h rfl (by kernel_rfl)).1
  · replace hF := of_f hb hF
    refine wp_skip ?_
    refine wp_reg_seq tok (orc := orcL []) (fz := []) (l := [0, 3]) (c := _) (fun i h => h) h (by kernel_rfl) (AllP.nil) ?_
    intro a w h
    refine wp_seq ?_
    refine wp_reg_seq tok (orc := orcL []) (fz := []) (l := [3, 10, 11, 12]) (c := _) (fun i h => h) h (by kernel_rfl) (AllP.nil) ?_
    intro a w h
    refine wp_block ?_
    refine wp_loop_fuel (f26.l28 k x0) (fun ((v47, v48) : ((List (Int × Bool)) × Int)) => [(3, .val sh5 (some v47)), (10, .val sh4 x0), (11, .val (.int .i64) (List.length x0 : Int)), (12, .val (.int .i64) v48)]) (fun v h => by obtain ⟨v47, v48⟩ := v; rw [f26.l28] at h; cases h) ?_ hF (h.arrive (fz := []) (l := [3, 10, 11, 12]) (fun i h => h) (by kernel_rfl))
    intro m28 v a w hF h
    obtain ⟨v47, v48⟩ := v
    rw [f26.l28] at hF
    refine wp_reg_seq tok (orc := orcL []) (fz := []) (l := [3, 10, 11, 12, 13]) (c := _) (fun i h => h) h (by kernel_rfl) (AllP.nil) ?_
    intro a w h
    refine wp_seq <| wp_if h (b := (decide ((v48 : Int) < (List.length x0 : Int)))) (by kernel_rfl) (fun hb => ?_) (fun hb => ?_)
    · replace hF := of_t hb hF
      refine wp_skip ?_
      refine wp_seq <| wp_block ?_
      obtain ⟨hc54, hF⟩ := of_if hF
      refine wp_reg_seq tok (orc := orcL []) (fz := []) (l := [3, 5, 10, 11, 12]) (c := _) (fun i h => h) h (by kernel_rfl) (AllP.cons hc54 AllP.nil) ?_
      intro a w h
      refine wp_seq ?_
      obtain ⟨r52, hr53, hF⟩ := of_bind hF
      refine wp_reg_seq tok (orc := orcL [(17, [⟨.bool, r52⟩])]) (fz := []) (l := [3, 5, 10, 11, 12, 24]) (c := _) (fun i h => h) h (by kernel_rfl) (AllP.cons (c78 k (List.getD x0 (Int.toNat v48) ((0 : Int), (((0 : Int), (0 : Int)), ((0 : Int), ((0 : Int), (0 : Int)))))) r52 hr53) (AllP.cons (fun (_ : ((!r52) = false)) => (show eqTy Try.prog 9 2 (.int .i64) = true from by kernel_rfl)) AllP.nil)) ?_
      intro a w h
      refine wp_if h (b := (bif (!r52) then true else (mget (Sh.beq (.int .i64)) (some v47) (List.getD x0 (Int.toNat v48) ((0 : Int), (((0 : Int), (0 : Int)), ((0 : Int), ((0 : Int), (0 : Int)))))).1 false))) (by kernel_rfl) (fun hb => ?_) (fun hb => ?_)
      · replace hF := of_t hb hF
        refine wp_reg_seq tok (orc := orcL []) (fz := []) (l := [2]) (c := _) (fun i h => h) h (by kernel_rfl) (AllP.nil) ?_
        intro a w h
        cases hF
        exact wp_ret (ret_okR tok h rfl (by kernel_rfl)).1
      · replace hF := of_f hb hF
        refine wp_skip ?_
        refine wp_reg tok (orc := orcL []) (fz := []) (l := [3, 10, 11, 12]) (c := _) (fun i h => h) h (by kernel_rfl) (AllP.cons (show eqTy Try.prog 9 2 (.int .i64) = true from by kernel_rfl) AllP.nil) ?_
        intro a w h
        refine wp_reg tok (orc := orcL []) (fz := []) (l := [3, 10, 11, 12]) (c := _) (fun i h => h) h (by kernel_rfl) (AllP.nil) ?_
        intro a w h
        exact ⟨((mput (Sh.beq (.int .i64)) (List.getD x0 (Int.toNat v48) ((0 : Int), (((0 : Int), (0 : Int)), ((0 : Int), ((0 : Int), (0 : Int)))))).1 true v47), (IntKind.i64.wrap (v48 + (1 : Int)))), hF, h.arrive (fz := []) (l := [3, 10, 11, 12]) (fun i h => h) (by kernel_rfl)⟩
    · replace hF := of_f hb hF
      refine wp_exit ?_
      refine wp_reg_seq tok (orc := orcL []) (fz := []) (l := [2]) (c := _) (fun i h => h) h (by kernel_rfl) (AllP.nil) ?_
      intro a w h
      cases hF
      exact wp_ret (ret_okR tok h rfl (by kernel_rfl)).1

def f94 (k : Nat) (x0 : (Int × Int)) (x1 : (Int × Int)) : Option Bool := if ((x0.1 : Int) != x1.1) then (some false) else (if ((x0.2 : Int) != x1.2) then (some false) else (some true))
set_option maxRecDepth 100000 in
/-- 'laws.eqPoint'. -/
theorem c94 (k : Nat) (x0 : (Int × Int)) (x1 : (Int × Int)) (r : Bool) (hF : f94 k x0 x1 = some r) : PCall Try.prog 94 [⟨sh1, x0⟩, ⟨sh1, x1⟩] [⟨.bool, r⟩] := by
  refine pcall_intro Try.func94 rfl rfl (Nat.le_of_ble_eq_true rfl) ?_
  intro w0 Zi a w h
  rw [f94] at hF
  refine wp_reg_seq tok (orc := orcL []) (fz := []) (l := [2, 3]) (c := _) (fun i h => h) h (by kernel_rfl) (AllP.nil) ?_
  intro a w h
  refine wp_seq ?_
  refine wp_reg_seq tok (orc := orcL []) (fz := []) (l := [2, 3, 9]) (c := _) (fun i h => h) h (by kernel_rfl) (AllP.nil) ?_
  intro a w h
  refine wp_if h (b := ((x0.1 : Int) != x1.1)) (by kernel_rfl) (fun hb => ?_) (fun hb => ?_)
  · replace hF := of_t hb hF
    refine wp_reg_seq tok (orc := orcL []) (fz := []) (l := [4]) (c := _) (fun i h => h) h (by kernel_rfl) (AllP.nil) ?_
    intro a w h
    cases hF
    exact wp_ret (ret_okR tok h rfl (by kernel_rfl)).1
  · replace hF := of_f hb hF
    refine wp_skip ?_
    refine wp_seq ?_
    refine wp_reg_seq tok (orc := orcL []) (fz := []) (l := [14]) (c := _) (fun i h => h) h (by kernel_rfl) (AllP.nil) ?_
    intro a w h
    refine wp_if h (b := ((x0.2 : Int) != x1.2)) (by kernel_rfl) (fun hb => ?_) (fun hb => ?_)
    · replace hF := of_t hb hF
      refine wp_reg_seq tok (orc := orcL []) (fz := []) (l := [4]) (c := _) (fun i h => h) h (by kernel_rfl) (AllP.nil) ?_
      intro a w h
      cases hF
      exact wp_ret (ret_okR tok h rfl (by kernel_rfl)).1
    · replace hF := of_f hb hF
      refine wp_skip ?_
      refine wp_reg_seq tok (orc := orcL []) (fz := []) (l := [4]) (c := _) (fun i h => h) h (by kernel_rfl) (AllP.nil) ?_
      intro a w h
      cases hF
      exact wp_ret (ret_okR tok h rfl (by kernel_rfl)).1

def f86 (k : Nat) (x0 : (Int × ((Int × Int) × (Int × (Int × Int))))) (x1 : (Int × ((Int × Int) × (Int × (Int × Int))))) : Option Bool := if ((x0.1 : Int) != x1.1) then (some false) else ((f94 k x0.2.1 x1.2.1).bind fun r1 => (if (!r1) then (some false) else (if ((x0.2.2.1 : Int) != x1.2.2.1) then (some false) else (if ((x0.2.2.2.1 : Int) != x1.2.2.2.1) then (some false) else (if ((x0.2.2.2.2 : Int) != x1.2.2.2.2) then (some false) else (some true))))))
set_option maxRecDepth 100000 in
/-- 'laws.eqLabel'. -/
theorem c86 (k : Nat) (x0 : (Int × ((Int × Int) × (Int × (Int × Int))))) (x1 : (Int × ((Int × Int) × (Int × (Int × Int))))) (r : Bool) (hF : f86 k x0 x1 = some r) : PCall Try.prog 86 [⟨sh2, x0⟩, ⟨sh2, x1⟩] [⟨.bool, r⟩] := by
  refine pcall_intro Try.func86 rfl rfl (Nat.le_of_ble_eq_true rfl) ?_
  intro w0 Zi a w h
  rw [f86] at hF
  refine wp_reg_seq tok (orc := orcL []) (fz := []) (l := [2, 3]) (c := _) (fun i h => h) h (by kernel_rfl) (AllP.nil) ?_
  intro a w h
  refine wp_seq ?_
  refine wp_reg_seq tok (orc := orcL []) (fz := []) (l := [2, 3, 9]) (c := _) (fun i h => h) h (by kernel_rfl) (AllP.nil) ?_
  intro a w h
  refine wp_if h (b := ((x0.1 : Int) != x1.1)) (by kernel_rfl) (fun hb => ?_) (fun hb => ?_)
  · replace hF := of_t hb hF
    refine wp_reg_seq tok (orc := orcL []) (fz := []) (l := [4]) (c := _) (fun i h => h) h (by kernel_rfl) (AllP.nil) ?_
    intro a w h
    cases hF
    exact wp_ret (ret_okR tok h rfl (by kernel_rfl)).1
  · replace hF := of_f hb hF
    refine wp_skip ?_
    refine wp_seq ?_
    obtain ⟨r1, hr2, hF⟩ := of_bind hF
    refine wp_reg_seq tok (orc := orcL [(14, [⟨.bool, r1⟩])]) (fz := []) (l := [2, 3, 15]) (c := _) (fun i h => h) h (by kernel_rfl) (AllP.cons (c94 k x0.2.1 x1.2.1 r1 hr2) AllP.nil) ?_
    intro a w h
    refine wp_if h (b := (!r1)) (by kernel_rfl) (fun hb => ?_) (fun hb => ?_)
    · replace hF := of_t hb hF
      refine wp_reg_seq tok (orc := orcL []) (fz := []) (l := [4]) (c := _) (fun i h => h) h (by kernel_rfl) (AllP.nil) ?_
      intro a w h
      cases hF
      exact wp_ret (ret_okR tok h rfl (by kernel_rfl)).1
    · replace hF := of_f hb hF
      refine wp_skip ?_
      refine wp_seq ?_
      refine wp_reg_seq tok (orc := orcL []) (fz := []) (l := [2, 3, 20]) (c := _) (fun i h => h) h (by kernel_rfl) (AllP.nil) ?_
      intro a w h
      refine wp_if h (b := ((x0.2.2.1 : Int) != x1.2.2.1)) (by kernel_rfl) (fun hb => ?_) (fun hb => ?_)
      · replace hF := of_t hb hF
        refine wp_reg_seq tok (orc := orcL []) (fz := []) (l := [4]) (c := _) (fun i h => h) h (by kernel_rfl) (AllP.nil) ?_
        intro a w h
        cases hF
        exact wp_ret (ret_okR tok h rfl (by kernel_rfl)).1
      · replace hF := of_f hb hF
        refine wp_skip ?_
        refine wp_seq ?_
        refine wp_reg_seq tok (orc := orcL []) (fz := []) (l := [2, 3, 25]) (c := _) (fun i h => h) h (by kernel_rfl) (AllP.nil) ?_
        intro a w h
        refine wp_if h (b := ((x0.2.2.2.1 : Int) != x1.2.2.2.1)) (by kernel_rfl) (fun hb => ?_) (fun hb => ?_)
        · replace hF := of_t hb hF
          refine wp_reg_seq tok (orc := orcL []) (fz := []) (l := [4]) (c := _) (fun i h => h) h (by kernel_rfl) (AllP.nil) ?_
          intro a w h
          cases hF
          exact wp_ret (ret_okR tok h rfl (by kernel_rfl)).1
        · replace hF := of_f hb hF
          refine wp_skip ?_
          refine wp_seq ?_
          refine wp_reg_seq tok (orc := orcL []) (fz := []) (l := [30]) (c := _) (fun i h => h) h (by kernel_rfl) (AllP.nil) ?_
          intro a w h
          refine wp_if h (b := ((x0.2.2.2.2 : Int) != x1.2.2.2.2)) (by kernel_rfl) (fun hb => ?_) (fun hb => ?_)
          · replace hF := of_t hb hF
            refine wp_reg_seq tok (orc := orcL []) (fz := []) (l := [4]) (c := _) (fun i h => h) h (by kernel_rfl) (AllP.nil) ?_
            intro a w h
            cases hF
            exact wp_ret (ret_okR tok h rfl (by kernel_rfl)).1
          · replace hF := of_f hb hF
            refine wp_skip ?_
            refine wp_reg_seq tok (orc := orcL []) (fz := []) (l := [4]) (c := _) (fun i h => h) h (by kernel_rfl) (AllP.nil) ?_
            intro a w h
            cases hF
            exact wp_ret (ret_okR tok h rfl (by kernel_rfl)).1

def f27.l30 (k : Nat) (x0 : (List (Int × ((Int × Int) × (Int × (Int × Int)))))) (x1 : (List (Int × ((Int × Int) × (Int × (Int × Int)))))) : Nat → Int → Option Bool
  | 0, _ => none
  | m30 + 1, v50 => if (decide ((v50 : Int) < (List.length x0 : Int))) then (if (0 ≤ v50 ∧ v50 < (List.length x0 : Int)) then (if (0 ≤ v50 ∧ v50 < (List.length x1 : Int)) then ((f86 k (List.getD x0 (Int.toNat v50) ((0 : Int), (((0 : Int), (0 : Int)), ((0 : Int), ((0 : Int), (0 : Int)))))) (List.getD x1 (Int.toNat v50) ((0 : Int), (((0 : Int), (0 : Int)), ((0 : Int), ((0 : Int), (0 : Int))))))).bind fun r55 => (if (!r55) then (some false) else ((f27.l30 k x0 x1) m30 (IntKind.i64.wrap (v50 + (1 : Int)))))) else none) else none) else (some true)
def f27 (k : Nat) (x0 : (List (Int × ((Int × Int) × (Int × (Int × Int)))))) (x1 : (List (Int × ((Int × Int) × (Int × (Int × Int)))))) : Option Bool := if (((List.length x0 : Int) : Int) != (List.length x1 : Int)) then (some false) else (f27.l30 k x0 x1 k (0 : Int))
set_option maxRecDepth 100000 in
/-- 'laws.eqLabelS'. -/
theorem c27 (k : Nat) (x0 : (List (Int × ((Int × Int) × (Int × (Int × Int)))))) (x1 : (List (Int × ((Int × Int) × (Int × (Int × Int)))))) (r : Bool) (hF : f27 k x0 x1 = some r) : PCall Try.prog 27 [⟨sh4, x0⟩, ⟨sh4, x1⟩] [⟨.bool, r⟩] := by
  refine pcall_intro Try.func27 rfl rfl (Nat.le_of_ble_eq_true rfl) ?_
  intro w0 Zi a w h
  rw [f27] at hF
  refine wp_reg_seq tok (orc := orcL []) (fz := []) (l := [0, 1]) (c := _) (fun i h => h) h (by kernel_rfl) (AllP.nil) ?_
  intro a w h
  refine wp_seq ?_
  refine wp_reg_seq tok (orc := orcL []) (fz := []) (l := [0, 1, 10]) (c := _) (fun i h => h) h (by kernel_rfl) (AllP.nil) ?_
  intro a w h
  refine wp_if h (b := (((List.length x0 : Int) : Int) != (List.length x1 : Int))) (by kernel_rfl) (fun hb => ?_) (fun hb => ?_)
  · replace hF := of_t hb hF
    refine wp_reg_seq tok (orc := orcL []) (fz := []) (l := [4]) (c := _) (fun i h => h) h (by kernel_rfl) (AllP.nil) ?_
    intro a w h
    cases hF
    exact wp_ret (ret_okR tok h rfl (by kernel_rfl)).1
  · replace hF := of_f hb hF
    refine wp_skip ?_
    refine wp_seq ?_
    refine wp_reg_seq tok (orc := orcL []) (fz := []) (l := [0, 1, 5]) (c := _) (fun i h => h) h (by kernel_rfl) (AllP.nil) ?_
    intro a w h
    refine wp_block ?_
    refine wp_loop_fuel (f27.l30 k x0 x1) (fun (v50 : Int) => [(0, .val sh4 x0), (1, .val sh4 x1), (5, .val (.int .i64) v50)]) (fun v h => by rw [f27.l30] at h; cases h) ?_ hF (h.arrive (fz := []) (l := [0, 1, 5]) (fun i h => h) (by kernel_rfl))
    intro m30 v50 a w hF h
    rw [f27.l30] at hF
    refine wp_seq ?_
    refine wp_reg_seq tok (orc := orcL []) (fz := []) (l := [0, 1, 5, 14]) (c := _) (fun i h => h) h (by kernel_rfl) (AllP.nil) ?_
    intro a w h
    refine wp_if h (b := (decide ((v50 : Int) < (List.length x0 : Int)))) (by kernel_rfl) (fun hb => ?_) (fun hb => ?_)
    · replace hF := of_t hb hF
      refine wp_skip ?_
      refine wp_seq <| wp_block ?_
      obtain ⟨hc56, hF⟩ := of_if hF
      obtain ⟨hc57, hF⟩ := of_if hF
      obtain ⟨r55, hr58, hF⟩ := of_bind hF
      refine wp_regy_seq tok (orc := orcL [(25, [⟨.bool, r55⟩])]) (fz := []) (l := [0, 1, 5, 26]) (c := _) 10 (fun i h => h) h (by kernel_rfl) (by kernel_rfl) (AllP.cons hc56 (AllP.cons hc57 (AllP.cons (c86 k (List.getD x0 (Int.toNat v50) ((0 : Int), (((0 : Int), (0 : Int)), ((0 : Int), ((0 : Int), (0 : Int)))))) (List.getD x1 (Int.toNat v50) ((0 : Int), (((0 : Int), (0 : Int)), ((0 : Int), ((0 : Int), (0 : Int)))))) r55 hr58) AllP.nil))) ?_
      intro a w h
      refine wp_if h (b := (!r55)) (by kernel_rfl) (fun hb => ?_) (fun hb => ?_)
      · replace hF := of_t hb hF
        refine wp_reg_seq tok (orc := orcL []) (fz := []) (l := [4]) (c := _) (fun i h => h) h (by kernel_rfl) (AllP.nil) ?_
        intro a w h
        cases hF
        exact wp_ret (ret_okR tok h rfl (by kernel_rfl)).1
      · replace hF := of_f hb hF
        refine wp_skip ?_
        refine wp_reg tok (orc := orcL []) (fz := []) (l := [0, 1, 5]) (c := _) (fun i h => h) h (by kernel_rfl) (AllP.nil) ?_
        intro a w h
        exact ⟨(IntKind.i64.wrap (v50 + (1 : Int))), hF, h.arrive (fz := []) (l := [0, 1, 5]) (fun i h => h) (by kernel_rfl)⟩
    · replace hF := of_f hb hF
      refine wp_exit ?_
      refine wp_reg_seq tok (orc := orcL []) (fz := []) (l := [4]) (c := _) (fun i h => h) h (by kernel_rfl) (AllP.nil) ?_
      intro a w h
      cases hF
      exact wp_ret (ret_okR tok h rfl (by kernel_rfl)).1

def f5 (k : Nat) (x0 : (List (Int × ((Int × Int) × (Int × (Int × Int)))))) : Option Bool := (f23 k x0 (1048576 : Int)).bind fun r1 => (if (decide ((r1 : Int) < (0 : Int))) then (some true) else ((f25 k x0).bind fun r2 => ((f24 k r2).bind fun r3 => ((f25 k x0).bind fun r4 => ((f26 k r4).bind fun r5 => (if (!((r5 : Bool) == r3)) then (some false) else ((f25 k x0).bind fun r6 => ((f27 k r4 r6).bind fun r7 => (if (!r7) then (some false) else (some true))))))))))
set_option maxRecDepth 100000 in
/-- 'laws.FnExactLabelsOk'. -/
theorem c5 (k : Nat) (x0 : (List (Int × ((Int × Int) × (Int × (Int × Int)))))) (r : Bool) (hF : f5 k x0 = some r) : PCall Try.prog 5 [⟨sh0, x0⟩] [⟨.bool, r⟩] := by
  refine pcall_intro Try.func5 rfl rfl (Nat.le_of_ble_eq_true rfl) ?_
  intro w0 Zi a w h
  rw [f5] at hF
  refine wp_reg_seq tok (orc := orcL []) (fz := []) (l := [0]) (c := _) (fun i h => h) h (by kernel_rfl) (AllP.nil) ?_
  intro a w h
  refine wp_reg_seq tok (orc := orcL []) (fz := []) (l := [0, 3]) (c := _) (fun i h => h) h (by kernel_rfl) (AllP.nil) ?_
  intro a w h
  obtain ⟨r1, hr14, hF⟩ := of_bind hF
  refine wp_reg_seq tok (orc := orcL [(9, [⟨(.int .i64), r1⟩])]) (fz := []) (l := [0, 3]) (c := _) (fun i h => h) h (by kernel_rfl) (AllP.cons (c23 k x0 (1048576 : Int) r1 hr14) AllP.nil) ?_
  intro a w h
  refine wp_seq ?_
  refine wp_reg_seq tok (orc := orcL []) (fz := []) (l := [0, 11]) (c := _) (fun i h => h) h (by kernel_rfl) (AllP.nil) ?_
  intro a w h
  refine wp_if h (b := (decide ((r1 : Int) < (0 : Int)))) (by kernel_rfl) (fun hb => ?_) (fun hb => ?_)
  · replace hF := of_t hb hF
    refine wp_reg_seq tok (orc := orcL []) (fz := []) (l := [2]) (c := _) (fun i h => h) h (by kernel_rfl) (AllP.nil) ?_
    intro a w h
    cases hF
    exact wp_ret (ret_okR tok h rfl (by kernel_rfl)).1
  · replace hF := of_f hb hF
    refine wp_skip ?_
    obtain ⟨r2, hr12, hF⟩ := of_bind hF
    obtain ⟨r3, hr13, hF⟩ := of_bind hF
    refine wp_reg_seq tok (orc := orcL [(13, [⟨sh3, r2⟩]), (14, [⟨.bool, r3⟩])]) (fz := []) (l := [0, 4]) (c := _) (fun i h => h) h (by kernel_rfl) (AllP.cons (c25 k x0 r2 hr12) (AllP.cons (c24 k r2 r3 hr13) AllP.nil)) ?_
    intro a w h
    obtain ⟨r4, hr11, hF⟩ := of_bind hF
    refine wp_reg_seq tok (orc := orcL [(16, [⟨sh3, r4⟩])]) (fz := []) (l := [0, 4, 5]) (c := _) (fun i h => h) h (by kernel_rfl) (AllP.cons (c25 k x0 r4 hr11) AllP.nil) ?_
    intro a w h
    obtain ⟨r5, hr10, hF⟩ := of_bind hF
    refine wp_reg_seq tok (orc := orcL [(18, [⟨.bool, r5⟩])]) (fz := []) (l := [0, 4, 5, 6]) (c := _) (fun i h => h) h (by kernel_rfl) (AllP.cons (c26 k r4 r5 hr10) AllP.nil) ?_
    intro a w h
    refine wp_seq ?_
    refine wp_reg_seq tok (orc := orcL []) (fz := []) (l := [0, 5, 21]) (c := _) (fun i h => h) h (by kernel_rfl) (AllP.nil) ?_
    intro a w h
    refine wp_if h (b := (!((r5 : Bool) == r3))) (by kernel_rfl) (fun hb => ?_) (fun hb => ?_)
    · replace hF := of_t hb hF
      refine wp_reg_seq tok (orc := orcL []) (fz := []) (l := [2]) (c := _) (fun i h => h) h (by kernel_rfl) (AllP.nil) ?_
      intro a w h
      cases hF
      exact wp_ret (ret_okR tok h rfl (by kernel_rfl)).1
    · replace hF := of_f hb hF
      refine wp_skip ?_
      refine wp_seq ?_
      obtain ⟨r6, hr8, hF⟩ := of_bind hF
      obtain ⟨r7, hr9, hF⟩ := of_bind hF
      refine wp_reg_seq tok (orc := orcL [(24, [⟨sh3, r6⟩]), (25, [⟨.bool, r7⟩])]) (fz := []) (l := [26]) (c := _) (fun i h => h) h (by kernel_rfl) (AllP.cons (c25 k x0 r6 hr8) (AllP.cons (c27 k r4 r6 r7 hr9) AllP.nil)) ?_
      intro a w h
      refine wp_if h (b := (!r7)) (by kernel_rfl) (fun hb => ?_) (fun hb => ?_)
      · replace hF := of_t hb hF
        refine wp_reg_seq tok (orc := orcL []) (fz := []) (l := [2]) (c := _) (fun i h => h) h (by kernel_rfl) (AllP.nil) ?_
        intro a w h
        cases hF
        exact wp_ret (ret_okR tok h rfl (by kernel_rfl)).1
      · replace hF := of_f hb hF
        refine wp_skip ?_
        refine wp_reg_seq tok (orc := orcL []) (fz := []) (l := [2]) (c := _) (fun i h => h) h (by kernel_rfl) (AllP.nil) ?_
        intro a w h
        cases hF
        exact wp_ret (ret_okR tok h rfl (by kernel_rfl)).1

def f39.l22 (k : Nat) (x0 : (List Int)) : Nat → ((List Int) × Int) → Option (List Int)
  | 0, _ => none
  | m22 + 1, (v37, v38) => if (decide ((v38 : Int) < (List.length x0 : Int))) then (if (0 ≤ v38 ∧ v38 < (List.length x0 : Int)) then (if (0 ≤ v38 ∧ v38 < (List.length v37 : Int)) then ((f39.l22 k x0) m22 ((List.set v37 (Int.toNat v38) (List.getD x0 (Int.toNat v38) (0 : Int))), (IntKind.i64.wrap (v38 + (1 : Int))))) else none) else none) else (some v37)
def f39 (k : Nat) (x0 : (List Int)) : Option (List Int) := if (0 ≤ (List.length x0 : Int) ∧ Int.toNat (List.length x0 : Int) * 8 ≤ 140737488355328) then (f39.l22 k x0 k ((List.replicate (Int.toNat (List.length x0 : Int)) (0 : Int)), (0 : Int))) else none
set_option maxRecDepth 100000 in
/-- 'laws.toInt64S'. -/
theorem c39 (k : Nat) (x0 : (List Int)) (r : (List Int)) (hF : f39 k x0 = some r) : PCall Try.prog 39 [⟨(.sl false 2 (.int .i64)), x0⟩] [⟨(.sl true 2 (.int .i64)), r⟩] := by
  refine pcall_intro Try.func39 rfl rfl (Nat.le_of_ble_eq_true rfl) ?_
  intro w0 Zi a w h
  rw [f39] at hF
  refine wp_reg_seq tok (orc := orcL []) (fz := []) (l := [0]) (c := _) (fun i h => h) h (by kernel_rfl) (AllP.nil) ?_
  intro a w h
  obtain ⟨hc43, hF⟩ := of_if hF
  refine wp_reg_seq tok (orc := orcL []) (fz := []) (l := [0, 3]) (c := _) (fun i h => h) h (by kernel_rfl) (AllP.cons hc43 AllP.nil) ?_
  intro a w h
  refine wp_seq ?_
  refine wp_reg_seq tok (orc := orcL []) (fz := []) (l := [0, 3, 4]) (c := _) (fun i h => h) h (by kernel_rfl) (AllP.nil) ?_
  intro a w h
  refine wp_block ?_
  refine wp_loop_fuel (f39.l22 k x0) (fun ((v37, v38) : ((List Int) × Int)) => [(0, .val (.sl false 2 (.int .i64)) x0), (3, .val (.sl true 2 (.int .i64)) v37), (4, .val (.int .i64) v38)]) (fun v h => by obtain ⟨v37, v38⟩ := v; rw [f39.l22] at h; cases h) ?_ hF (h.arrive (fz := []) (l := [0, 3, 4]) (fun i h => h) (by kernel_rfl))
  intro m22 v a w hF h
  obtain ⟨v37, v38⟩ := v
  rw [f39.l22] at hF
  refine wp_seq ?_
  refine wp_reg_seq tok (orc := orcL []) (fz := []) (l := [0, 3, 4, 11]) (c := _) (fun i h => h) h (by kernel_rfl) (AllP.nil) ?_
  intro a w h
  refine wp_if h (b := (decide ((v38 : Int) < (List.length x0 : Int)))) (by kernel_rfl) (fun hb => ?_) (fun hb => ?_)
  · replace hF := of_t hb hF
    refine wp_skip ?_
    refine wp_seq <| wp_block ?_
    obtain ⟨hc41, hF⟩ := of_if hF
    obtain ⟨hc42, hF⟩ := of_if hF
    refine wp_reg tok (orc := orcL []) (fz := []) (l := [0, 3, 4]) (c := _) (fun i h => h) h (by kernel_rfl) (AllP.cons hc41 (AllP.cons hc42 AllP.nil)) ?_
    intro a w h
    refine wp_reg tok (orc := orcL []) (fz := []) (l := [0, 3, 4]) (c := _) (fun i h => h) h (by kernel_rfl) (AllP.nil) ?_
    intro a w h
    exact ⟨((List.set v37 (Int.toNat v38) (List.getD x0 (Int.toNat v38) (0 : Int))), (IntKind.i64.wrap (v38 + (1 : Int)))), hF, h.arrive (fz := []) (l := [0, 3, 4]) (fun i h => h) (by kernel_rfl)⟩
  · replace hF := of_f hb hF
    refine wp_exit ?_
    refine wp_reg_seq tok (orc := orcL []) (fz := []) (l := [2, 3]) (c := _) (fun i h => h) h (by kernel_rfl) (AllP.nil) ?_
    intro a w h
    cases hF
    exact wp_ret (ret_okR tok h rfl (by kernel_rfl)).1

def f95.l12 (k : Nat) (x0 : (List Int)) (x1 : Int) : Nat → Int → Option Bool
  | 0, _ => none
  | m12 + 1, v20 => if (decide ((v20 : Int) < (List.length x0 : Int))) then (if (0 ≤ v20 ∧ v20 < (List.length x0 : Int)) then (if (((List.getD x0 (Int.toNat v20) (0 : Int)) : Int) == x1) then (some true) else ((f95.l12 k x0 x1) m12 (IntKind.i64.wrap (v20 + (1 : Int))))) else none) else (some false)
def f95 (k : Nat) (x0 : (List Int)) (x1 : Int) : Option Bool := f95.l12 k x0 x1 k (0 : Int)
set_option maxRecDepth 100000 in
/-- 'spec.l2HasId'. -/
theorem c95 (k : Nat) (x0 : (List Int)) (x1 : Int) (r : Bool) (hF : f95 k x0 x1 = some r) : PCall Try.prog 95 [⟨(.sl false 2 (.int .i64)), x0⟩, ⟨(.int .i64), x1⟩] [⟨.bool, r⟩] := by
  refine pcall_intro Try.func95 rfl rfl (Nat.le_of_ble_eq_true rfl) ?_
  intro w0 Zi a w h
  rw [f95] at hF
  refine wp_reg_seq tok (orc := orcL []) (fz := []) (l := [0, 1]) (c := _) (fun i h => h) h (by kernel_rfl) (AllP.nil) ?_
  intro a w h
  refine wp_seq ?_
  refine wp_reg_seq tok (orc := orcL []) (fz := []) (l := [0, 1, 5]) (c := _) (fun i h => h) h (by kernel_rfl) (AllP.nil) ?_
  intro a w h
  refine wp_block ?_
  refine wp_loop_fuel (f95.l12 k x0 x1) (fun (v20 : Int) => [(0, .val (.sl false 2 (.int .i64)) x0), (1, .val (.int .i64) x1), (5, .val (.int .i64) v20)]) (fun v h => by rw [f95.l12] at h; cases h) ?_ hF (h.arrive (fz := []) (l := [0, 1, 5]) (fun i h => h) (by kernel_rfl))
  intro m12 v20 a w hF h
  rw [f95.l12] at hF
  refine wp_seq ?_
  refine wp_reg_seq tok (orc := orcL []) (fz := []) (l := [0, 1, 5, 9]) (c := _) (fun i h => h) h (by kernel_rfl) (AllP.nil) ?_
  intro a w h
  refine wp_if h (b := (decide ((v20 : Int) < (List.length x0 : Int)))) (by kernel_rfl) (fun hb => ?_) (fun hb => ?_)
  · replace hF := of_t hb hF
    refine wp_skip ?_
    refine wp_seq <| wp_block ?_
    obtain ⟨hc22, hF⟩ := of_if hF
    refine wp_reg_seq tok (orc := orcL []) (fz := []) (l := [0, 1, 5, 17]) (c := _) (fun i h => h) h (by kernel_rfl) (AllP.cons hc22 AllP.nil) ?_
    intro a w h
    refine wp_if h (b := (((List.getD x0 (Int.toNat v20) (0 : Int)) : Int) == x1)) (by kernel_rfl) (fun hb => ?_) (fun hb => ?_)
    · replace hF := of_t hb hF
      refine wp_reg_seq tok (orc := orcL []) (fz := []) (l := [4]) (c := _) (fun i h => h) h (by kernel_rfl) (AllP.nil) ?_
      intro a w h
      cases hF
      exact wp_ret (ret_okR tok h rfl (by kernel_rfl)).1
    · replace hF := of_f hb hF
      refine wp_skip ?_
      refine wp_reg tok (orc := orcL []) (fz := []) (l := [0, 1, 5]) (c := _) (fun i h => h) h (by kernel_rfl) (AllP.nil) ?_
      intro a w h
      exact ⟨(IntKind.i64.wrap (v20 + (1 : Int))), hF, h.arrive (fz := []) (l := [0, 1, 5]) (fun i h => h) (by kernel_rfl)⟩
  · replace hF := of_f hb hF
    refine wp_exit ?_
    refine wp_reg_seq tok (orc := orcL []) (fz := []) (l := [4]) (c := _) (fun i h => h) h (by kernel_rfl) (AllP.nil) ?_
    intro a w h
    cases hF
    exact wp_ret (ret_okR tok h rfl (by kernel_rfl)).1

def f38.j75 (k : Nat) (v69 : Int) (q41 : (Int × Int) → Option Int) : Int → Option Int
  | v74 => q41 (v74, (IntKind.i64.wrap (v69 + (1 : Int))))
def f38.l41 (k : Nat) (x0 : (List (Int × ((Int × Int) × (Int × (Int × Int)))))) (x1 : (List Int)) : Nat → (Int × Int) → Option Int
  | 0, _ => none
  | m41 + 1, (v68, v69) => if (decide ((v69 : Int) < (List.length x0 : Int))) then (if (0 ≤ v69 ∧ v69 < (List.length x0 : Int)) then ((f95 k x1 (List.getD x0 (Int.toNat v69) ((0 : Int), (((0 : Int), (0 : Int)), ((0 : Int), ((0 : Int), (0 : Int)))))).1).bind fun r76 => (if r76 then (if (0 ≤ v69 ∧ v69 < (List.length x0 : Int)) then (f38.j75 k v69 ((f38.l41 k x0 x1) m41) (IntKind.i64.wrap (v68 + (List.getD x0 (Int.toNat v69) ((0 : Int), (((0 : Int), (0 : Int)), ((0 : Int), ((0 : Int), (0 : Int)))))).2.2.2.2))) else none) else (f38.j75 k v69 ((f38.l41 k x0 x1) m41) v68))) else none) else (some v68)
def f38 (k : Nat) (x0 : (List (Int × ((Int × Int) × (Int × (Int × Int)))))) (x1 : (List Int)) : Option Int := (f24 k x0).bind fun r1 => (if (!r1) then (some (0 : Int)) else (f38.l41 k x0 x1 k ((0 : Int), (0 : Int))))
set_option maxRecDepth 100000 in
/-- 'spec.Weight'. -/
theorem c38 (k : Nat) (x0 : (List (Int × ((Int × Int) × (Int × (Int × Int)))))) (x1 : (List Int)) (r : Int) (hF : f38 k x0 x1 = some r) : PCall Try.prog 38 [⟨sh4, x0⟩, ⟨(.sl false 2 (.int .i64)), x1⟩] [⟨(.int .i64), r⟩] := by
  refine pcall_intro Try.func38 rfl rfl (Nat.le_of_ble_eq_true rfl) ?_
  intro w0 Zi a w h
  rw [f38] at hF
  refine wp_reg_seq tok (orc := orcL []) (fz := []) (l := [0, 1]) (c := _) (fun i h => h) h (by kernel_rfl) (AllP.nil) ?_
  intro a w h
  refine wp_reg_seq tok (orc := orcL []) (fz := []) (l := [0, 1, 5]) (c := _) (fun i h => h) h (by kernel_rfl) (AllP.nil) ?_
  intro a w h
  refine wp_seq ?_
  obtain ⟨r1, hr80, hF⟩ := of_bind hF
  refine wp_reg_seq tok (orc := orcL [(8, [⟨.bool, r1⟩])]) (fz := []) (l := [0, 1, 5, 9]) (c := _) (fun i h => h) h (by kernel_rfl) (AllP.cons (c24 k x0 r1 hr80) AllP.nil) ?_
  intro a w h
  refine wp_if h (b := (!r1)) (by kernel_rfl) (fun hb => ?_) (fun hb => ?_)
  · replace hF := of_t hb hF
    refine wp_reg_seq tok (orc := orcL []) (fz := []) (l := [4]) (c := _) (fun i h => h) h (by kernel_rfl) (AllP.nil) ?_
    intro a w h
    cases hF
    exact wp_ret (ret_okR tok h rfl (by kernel_rfl)).1
  · replace hF := of_f hb hF
    refine wp_skip ?_
    refine wp_seq ?_
    refine wp_reg_seq tok (orc := orcL []) (fz := []) (l := [0, 1, 5, 6]) (c := _) (fun i h => h) h (by kernel_rfl) (AllP.nil) ?_
    intro a w h
    refine wp_block ?_
    refine wp_loop_fuel (f38.l41 k x0 x1) (fun ((v68, v69) : (Int × Int)) => [(0, .val sh4 x0), (1, .val (.sl false 2 (.int .i64)) x1), (5, .val (.int .i64) v68), (6, .val (.int .i64) v69)]) (fun v h => by obtain ⟨v68, v69⟩ := v; rw [f38.l41] at h; cases h) ?_ hF (h.arrive (fz := []) (l := [0, 1, 5, 6]) (fun i h => h) (by kernel_rfl))
    intro m41 v a w hF h
    obtain ⟨v68, v69⟩ := v
    rw [f38.l41] at hF
    refine wp_seq ?_
    refine wp_reg_seq tok (orc := orcL []) (fz := []) (l := [0, 1, 5, 6, 13]) (c := _) (fun i h => h) h (by kernel_rfl) (AllP.nil) ?_
    intro a w h
    refine wp_if h (b := (decide ((v69 : Int) < (List.length x0 : Int)))) (by kernel_rfl) (fun hb => ?_) (fun hb => ?_)
    · replace hF := of_t hb hF
      refine wp_skip ?_
      refine wp_mid (fun a w => ∃ v : Int, f38.j75 k v69 ((f38.l41 k x0 x1) m41) v = some r ∧ Rel w0 (fun _ => False) Zi Try.f38.ntmps ((fun (v74 : Int) => ([(0, .val sh4 x0), (1, .val (.sl false 2 (.int .i64)) x1), (5, .val (.int .i64) v74), (6, .val (.int .i64) v69)] : SS)) v) a w) ?_ ?_
      ·
        refine wp_block ?_
        obtain ⟨hc78, hF⟩ := of_if hF
        obtain ⟨r76, hr79, hF⟩ := of_bind hF
        refine wp_reg_seq tok (orc := orcL [(22, [⟨.bool, r76⟩])]) (fz := []) (l := [0, 1, 5, 6, 22]) (c := _) (fun i h => h) h (by kernel_rfl) (AllP.cons hc78 (AllP.cons (c95 k x1 (List.getD x0 (Int.toNat v69) ((0 : Int), (((0 : Int), (0 : Int)), ((0 : Int), ((0 : Int), (0 : Int)))))).1 r76 hr79) AllP.nil)) ?_
        intro a w h
        refine wp_if h (b := r76) (by kernel_rfl) (fun hb => ?_) (fun hb => ?_)
        · replace hF := of_t hb hF
          obtain ⟨hc77, hF⟩ := of_if hF
          refine wp_reg tok (orc := orcL []) (fz := []) (l := [0, 1, 5, 6]) (c := _) (fun i h => h) h (by kernel_rfl) (AllP.cons hc77 AllP.nil) ?_
          intro a w h
          exact ⟨(IntKind.i64.wrap (v68 + (List.getD x0 (Int.toNat v69) ((0 : Int), (((0 : Int), (0 : Int)), ((0 : Int), ((0 : Int), (0 : Int)))))).2.2.2.2)), hF, h.arrive (fz := []) (l := [0, 1, 5, 6]) (fun i h => h) (by kernel_rfl)⟩
        · replace hF := of_f hb hF
          refine wp_skip ?_
          exact ⟨v68, hF, h.arrive (fz := []) (l := [0, 1, 5, 6]) (fun i h => h) (by kernel_rfl)⟩
      · rintro a w ⟨v74, hF, h⟩
        rw [f38.j75] at hF
        refine wp_reg tok (orc := orcL []) (fz := []) (l := [0, 1, 5, 6]) (c := _) (fun i h => h) h (by kernel_rfl) (AllP.nil) ?_
        intro a w h
        exact ⟨(v74, (IntKind.i64.wrap (v69 + (1 : Int)))), hF, h.arrive (fz := []) (l := [0, 1, 5, 6]) (fun i h => h) (by kernel_rfl)⟩
    · replace hF := of_f hb hF
      refine wp_exit ?_
      refine wp_reg_seq tok (orc := orcL []) (fz := []) (l := [4]) (c := _) (fun i h => h) h (by kernel_rfl) (AllP.nil) ?_
      intro a w h
      cases hF
      exact wp_ret (ret_okR tok h rfl (by kernel_rfl)).1

def f96.j82 (k : Nat) (v78 : Int) (q58 : ((List (Int × ((Int × Int) × (Int × (Int × Int))))) × Int) → Option (List (Int × ((Int × Int) × (Int × (Int × Int)))))) : (List (Int × ((Int × Int) × (Int × (Int × Int))))) → Option (List (Int × ((Int × Int) × (Int × (Int × Int)))))
  | v81 => q58 (v81, (IntKind.i64.wrap (v78 + (1 : Int))))
def f96.l58 (k : Nat) (x0 : (List (Int × ((Int × Int) × (Int × (Int × Int)))))) (v27 : (List (Int × Bool))) : Nat → ((List (Int × ((Int × Int) × (Int × (Int × Int))))) × Int) → Option (List (Int × ((Int × Int) × (Int × (Int × Int)))))
  | 0, _ => none
  | m58 + 1, (v77, v78) => if (decide ((v78 : Int) < (List.length x0 : Int))) then (if (0 ≤ v78 ∧ v78 < (List.length x0 : Int)) then (if (mget (Sh.beq (.int .i64)) (some v27) (List.getD x0 (Int.toNat v78) ((0 : Int), (((0 : Int), (0 : Int)), ((0 : Int), ((0 : Int), (0 : Int)))))).1 false) then (if ((List.length v77 + List.length [(List.getD x0 (Int.toNat v78) ((0 : Int), (((0 : Int), (0 : Int)), ((0 : Int), ((0 : Int), (0 : Int))))))]) * 48 ≤ 140737488355328) then (f96.j82 k v78 ((f96.l58 k x0 v27) m58) (v77 ++ [(List.getD x0 (Int.toNat v78) ((0 : Int), (((0 : Int), (0 : Int)), ((0 : Int), ((0 : Int), (0 : Int))))))])) else none) else (f96.j82 k v78 ((f96.l58 k x0 v27) m58) v77)) else none) else (some v77)
def f96.l16 (k : Nat) (x1 : (List Int)) (x0 : (List (Int × ((Int × Int) × (Int × (Int × Int)))))) : Nat → ((List (Int × Bool)) × Int) → Option (List (Int × ((Int × Int) × (Int × (Int × Int)))))
  | 0, _ => none
  | m16 + 1, (v27, v28) => if (decide ((v28 : Int) < (List.length x1 : Int))) then (if (0 ≤ v28 ∧ v28 < (List.length x1 : Int)) then ((f96.l16 k x1 x0) m16 ((mput (Sh.beq (.int .i64)) (List.getD x1 (Int.toNat v28) (0 : Int)) true v27), (IntKind.i64.wrap (v28 + (1 : Int))))) else none) else (f96.l58 k x0 v27 k (([] : (List (Int × ((Int × Int) × (Int × (Int × Int)))))), (0 : Int)))
def f96 (k : Nat) (x0 : (List (Int × ((Int × Int) × (Int × (Int × Int)))))) (x1 : (List Int)) : Option (List (Int × ((Int × Int) × (Int × (Int × Int))))) := f96.l16 k x1 x0 k (([] : (List (Int × Bool))), (0 : Int))
set_option maxRecDepth 100000 in
/-- 'impl.chosen'. -/
theorem c96 (k : Nat) (x0 : (List (Int × ((Int × Int) × (Int × (Int × Int)))))) (x1 : (List Int)) (r : (List (Int × ((Int × Int) × (Int × (Int × Int)))))) (hF : f96 k x0 x1 = some r) : PCall Try.prog 96 [⟨sh4, x0⟩, ⟨(.sl false 2 (.int .i64)), x1⟩] [⟨sh3, r⟩] := by
  refine pcall_intro Try.func96 rfl rfl (Nat.le_of_ble_eq_true rfl) ?_
  intro w0 Zi a w h
  rw [f96] at hF
  refine wp_reg_seq tok (orc := orcL []) (fz := []) (l := [0, 1]) (c := _) (fun i h => h) h (by kernel_rfl) (AllP.nil) ?_
  intro a w h
  refine wp_reg_seq tok (orc := orcL []) (fz := []) (l := [0, 1, 5]) (c := _) (fun i h => h) h (by kernel_rfl) (AllP.nil) ?_
  intro a w h
  refine wp_seq ?_
  refine wp_reg_seq tok (orc := orcL []) (fz := []) (l := [0, 5, 12, 13, 14]) (c := _) (fun i h => h) h (by kernel_rfl) (AllP.nil) ?_
  intro a w h
  refine wp_block ?_
  refine wp_loop_fuel (f96.l16 k x1 x0) (fun ((v27, v28) : ((List (Int × Bool)) × Int)) => [(0, .val sh4 x0), (5, .val sh5 (some v27)), (12, .val (.sl false 2 (.int .i64)) x1), (13, .val (.int .i64) (List.length x1 : Int)), (14, .val (.int .i64) v28)]) (fun v h => by obtain ⟨v27, v28⟩ := v; rw [f96.l16] at h; cases h) ?_ hF (h.arrive (fz := []) (l := [0, 5, 12, 13, 14]) (fun i h => h) (by kernel_rfl))
  intro m16 v a w hF h
  obtain ⟨v27, v28⟩ := v
  rw [f96.l16] at hF
  refine wp_reg_seq tok (orc := orcL []) (fz := []) (l := [0, 5, 12, 13, 14, 15]) (c := _) (fun i h => h) h (by kernel_rfl) (AllP.nil) ?_
  intro a w h
  refine wp_seq <| wp_if h (b := (decide ((v28 : Int) < (List.length x1 : Int)))) (by kernel_rfl) (fun hb => ?_) (fun hb => ?_)
  · replace hF := of_t hb hF
    refine wp_skip ?_
    refine wp_seq <| wp_block ?_
    obtain ⟨hc30, hF⟩ := of_if hF
    refine wp_reg_seq tok (orc := orcL []) (fz := []) (l := [0, 5, 7, 12, 13, 14]) (c := _) (fun i h => h) h (by kernel_rfl) (AllP.cons hc30 AllP.nil) ?_
    intro a w h
    refine wp_reg tok (orc := orcL []) (fz := []) (l := [0, 5, 12, 13, 14]) (c := _) (fun i h => h) h (by kernel_rfl) (AllP.cons (show eqTy Try.prog 9 2 (.int .i64) = true from by kernel_rfl) AllP.nil) ?_
    intro a w h
    refine wp_reg tok (orc := orcL []) (fz := []) (l := [0, 5, 12, 13, 14]) (c := _) (fun i h => h) h (by kernel_rfl) (AllP.nil) ?_
    intro a w h
    exact ⟨((mput (Sh.beq (.int .i64)) (List.getD x1 (Int.toNat v28) (0 : Int)) true v27), (IntKind.i64.wrap (v28 + (1 : Int)))), hF, h.arrive (fz := []) (l := [0, 5, 12, 13, 14]) (fun i h => h) (by kernel_rfl)⟩
  · replace hF := of_f hb hF
    refine wp_exit ?_
    refine wp_reg_seq tok (orc := orcL []) (fz := []) (l := [0, 5, 8]) (c := _) (fun i h => h) h (by kernel_rfl) (AllP.nil) ?_
    intro a w h
    refine wp_seq ?_
    refine wp_reg_seq tok (orc := orcL []) (fz := []) (l := [5, 8, 21, 22, 23]) (c := _) (fun i h => h) h (by kernel_rfl) (AllP.nil) ?_
    intro a w h
    refine wp_block ?_
    refine wp_loop_fuel (f96.l58 k x0 v27) (fun ((v77, v78) : ((List (Int × ((Int × Int) × (Int × (Int × Int))))) × Int)) => [(5, .val sh5 (some v27)), (8, .val sh3 v77), (21, .val sh4 x0), (22, .val (.int .i64) (List.length x0 : Int)), (23, .val (.int .i64) v78)]) (fun v h => by obtain ⟨v77, v78⟩ := v; rw [f96.l58] at h; cases h) ?_ hF (h.arrive (fz := []) (l := [5, 8, 21, 22, 23]) (fun i h => h) (by kernel_rfl))
    intro m58 v a w hF h
    obtain ⟨v77, v78⟩ := v
    rw [f96.l58] at hF
    refine wp_reg_seq tok (orc := orcL []) (fz := []) (l := [5, 8, 21, 22, 23, 24]) (c := _) (fun i h => h) h (by kernel_rfl) (AllP.nil) ?_
    intro a w h
    refine wp_seq <| wp_if h (b := (decide ((v78 : Int) < (List.length x0 : Int)))) (by kernel_rfl) (fun hb => ?_) (fun hb => ?_)
    · replace hF := of_t hb hF
      refine wp_skip ?_
      refine wp_mid (fun a w => ∃ v : (List (Int × ((Int × Int) × (Int × (Int × Int))))), f96.j82 k v78 ((f96.l58 k x0 v27) m58) v = some r ∧ Rel w0 (fun _ => False) Zi Try.f96.ntmps ((fun (v81 : (List (Int × ((Int × Int) × (Int × (Int × Int)))))) => ([(5, .val sh5 (some v27)), (8, .val sh3 v81), (21, .val sh4 x0), (22, .val (.int .i64) (List.length x0 : Int)), (23, .val (.int .i64) v78)] : SS)) v) a w) ?_ ?_
      ·
        refine wp_block ?_
        obtain ⟨hc84, hF⟩ := of_if hF
        refine wp_reg_seq tok (orc := orcL []) (fz := []) (l := [5, 8, 10, 21, 22, 23]) (c := _) (fun i h => h) h (by kernel_rfl) (AllP.cons hc84 AllP.nil) ?_
        intro a w h
        refine wp_reg_seq tok (orc := orcL []) (fz := []) (l := [5, 8, 10, 21, 22, 23, 30]) (c := _) (fun i h => h) h (by kernel_rfl) (AllP.cons (show eqTy Try.prog 9 2 (.int .i64) = true from by kernel_rfl) AllP.nil) ?_
        intro a w h
        refine wp_if h (b := (mget (Sh.beq (.int .i64)) (some v27) (List.getD x0 (Int.toNat v78) ((0 : Int), (((0 : Int), (0 : Int)), ((0 : Int), ((0 : Int), (0 : Int)))))).1 false)) (by kernel_rfl) (fun hb => ?_) (fun hb => ?_)
        · replace hF := of_t hb hF
          obtain ⟨hc83, hF⟩ := of_if hF
          refine wp_reg tok (orc := orcL []) (fz := []) (l := [5, 8, 21, 22, 23]) (c := _) (fun i h => h) h (by kernel_rfl) (AllP.cons hc83 AllP.nil) ?_
          intro a w h
          exact ⟨(v77 ++ [(List.getD x0 (Int.toNat v78) ((0 : Int), (((0 : Int), (0 : Int)), ((0 : Int), ((0 : Int), (0 : Int))))))]), hF, h.arrive (fz := []) (l := [5, 8, 21, 22, 23]) (fun i h => h) (by kernel_rfl)⟩
        · replace hF := of_f hb hF
          refine wp_skip ?_
          exact ⟨v77, hF, h.arrive (fz := []) (l := [5, 8, 21, 22, 23]) (fun i h => h) (by kernel_rfl)⟩
      · rintro a w ⟨v81, hF, h⟩
        rw [f96.j82] at hF
        refine wp_reg tok (orc := orcL []) (fz := []) (l := [5, 8, 21, 22, 23]) (c := _) (fun i h => h) h (by kernel_rfl) (AllP.nil) ?_
        intro a w h
        exact ⟨(v81, (IntKind.i64.wrap (v78 + (1 : Int)))), hF, h.arrive (fz := []) (l := [5, 8, 21, 22, 23]) (fun i h => h) (by kernel_rfl)⟩
    · replace hF := of_f hb hF
      refine wp_exit ?_
      refine wp_reg_seq tok (orc := orcL []) (fz := []) (l := [4, 8]) (c := _) (fun i h => h) h (by kernel_rfl) (AllP.nil) ?_
      intro a w h
      cases hF
      exact wp_ret (ret_okR tok h rfl (by kernel_rfl)).1

def f40.l18 (k : Nat) (r2 : (List (Int × ((Int × Int) × (Int × (Int × Int)))))) : Nat → (Int × Int) → Option Int
  | 0, _ => none
  | m18 + 1, (v29, v30) => if (decide ((v30 : Int) < (List.length r2 : Int))) then (if (0 ≤ v30 ∧ v30 < (List.length r2 : Int)) then ((f40.l18 k r2) m18 ((IntKind.i64.wrap (v29 + (List.getD r2 (Int.toNat v30) ((0 : Int), (((0 : Int), (0 : Int)), ((0 : Int), ((0 : Int), (0 : Int)))))).2.2.2.2)), (IntKind.i64.wrap (v30 + (1 : Int))))) else none) else (some v29)
def f40 (k : Nat) (x0 : (List (Int × ((Int × Int) × (Int × (Int × Int)))))) (x1 : (List Int)) : Option Int := (f26 k x0).bind fun r1 => (if (!r1) then (some (0 : Int)) else ((f96 k x0 x1).bind fun r2 => (f40.l18 k r2 k ((0 : Int), (0 : Int)))))
set_option maxRecDepth 100000 in
/-- 'impl.Weight'. -/
theorem c40 (k : Nat) (x0 : (List (Int × ((Int × Int) × (Int × (Int × Int)))))) (x1 : (List Int)) (r : Int) (hF : f40 k x0 x1 = some r) : PCall Try.prog 40 [⟨sh4, x0⟩, ⟨(.sl false 2 (.int .i64)), x1⟩] [⟨(.int .i64), r⟩] := by
  refine pcall_intro Try.func40 rfl rfl (Nat.le_of_ble_eq_true rfl) ?_
  intro w0 Zi a w h
  rw [f40] at hF
  refine wp_reg_seq tok (orc := orcL []) (fz := []) (l := [0, 1]) (c := _) (fun i h => h) h (by kernel_rfl) (AllP.nil) ?_
  intro a w h
  refine wp_seq ?_
  obtain ⟨r1, hr34, hF⟩ := of_bind hF
  refine wp_reg_seq tok (orc := orcL [(9, [⟨.bool, r1⟩])]) (fz := []) (l := [0, 1, 10]) (c := _) (fun i h => h) h (by kernel_rfl) (AllP.cons (c26 k x0 r1 hr34) AllP.nil) ?_
  intro a w h
  refine wp_if h (b := (!r1)) (by kernel_rfl) (fun hb => ?_) (fun hb => ?_)
  · replace hF := of_t hb hF
    refine wp_reg_seq tok (orc := orcL []) (fz := []) (l := [4]) (c := _) (fun i h => h) h (by kernel_rfl) (AllP.nil) ?_
    intro a w h
    cases hF
    exact wp_ret (ret_okR tok h rfl (by kernel_rfl)).1
  · replace hF := of_f hb hF
    refine wp_skip ?_
    refine wp_reg_seq tok (orc := orcL []) (fz := []) (l := [0, 1, 5]) (c := _) (fun i h => h) h (by kernel_rfl) (AllP.nil) ?_
    intro a w h
    refine wp_seq ?_
    obtain ⟨r2, hr33, hF⟩ := of_bind hF
    refine wp_reg_seq tok (orc := orcL [(13, [⟨sh3, r2⟩])]) (fz := []) (l := [5, 13, 14, 15]) (c := _) (fun i h => h) h (by kernel_rfl) (AllP.cons (c96 k x0 x1 r2 hr33) AllP.nil) ?_
    intro a w h
    refine wp_block ?_
    refine wp_loop_fuel (f40.l18 k r2) (fun ((v29, v30) : (Int × Int)) => [(5, .val (.int .i64) v29), (13, .val sh3 r2), (14, .val (.int .i64) (List.length r2 : Int)), (15, .val (.int .i64) v30)]) (fun v h => by obtain ⟨v29, v30⟩ := v; rw [f40.l18] at h; cases h) ?_ hF (h.arrive (fz := []) (l := [5, 13, 14, 15]) (fun i h => h) (by kernel_rfl))
    intro m18 v a w hF h
    obtain ⟨v29, v30⟩ := v
    rw [f40.l18] at hF
    refine wp_reg_seq tok (orc := orcL []) (fz := []) (l := [5, 13, 14, 15, 16]) (c := _) (fun i h => h) h (by kernel_rfl) (AllP.nil) ?_
    intro a w h
    refine wp_seq <| wp_if h (b := (decide ((v30 : Int) < (List.length r2 : Int)))) (by kernel_rfl) (fun hb => ?_) (fun hb => ?_)
    · replace hF := of_t hb hF
      refine wp_skip ?_
      refine wp_seq <| wp_block ?_
      obtain ⟨hc32, hF⟩ := of_if hF
      refine wp_reg_seq tok (orc := orcL []) (fz := []) (l := [5, 7, 13, 14, 15]) (c := _) (fun i h => h) h (by kernel_rfl) (AllP.cons hc32 AllP.nil) ?_
      intro a w h
      refine wp_reg tok (orc := orcL []) (fz := []) (l := [5, 13, 14, 15]) (c := _) (fun i h => h) h (by kernel_rfl) (AllP.nil) ?_
      intro a w h
      refine wp_reg tok (orc := orcL []) (fz := []) (l := [5, 13, 14, 15]) (c := _) (fun i h => h) h (by kernel_rfl) (AllP.nil) ?_
      intro a w h
      exact ⟨((IntKind.i64.wrap (v29 + (List.getD r2 (Int.toNat v30) ((0 : Int), (((0 : Int), (0 : Int)), ((0 : Int), ((0 : Int), (0 : Int)))))).2.2.2.2)), (IntKind.i64.wrap (v30 + (1 : Int)))), hF, h.arrive (fz := []) (l := [5, 13, 14, 15]) (fun i h => h) (by kernel_rfl)⟩
    · replace hF := of_f hb hF
      refine wp_exit ?_
      refine wp_reg_seq tok (orc := orcL []) (fz := []) (l := [4]) (c := _) (fun i h => h) h (by kernel_rfl) (AllP.nil) ?_
      intro a w h
      cases hF
      exact wp_ret (ret_okR tok h rfl (by kernel_rfl)).1

def f41.l18 (k : Nat) (x0 : (List Int)) (x1 : (List Int)) : Nat → Int → Option Bool
  | 0, _ => none
  | m18 + 1, v30 => if (decide ((v30 : Int) < (List.length x0 : Int))) then (if (0 ≤ v30 ∧ v30 < (List.length x0 : Int)) then (if (0 ≤ v30 ∧ v30 < (List.length x1 : Int)) then (if (((List.getD x0 (Int.toNat v30) (0 : Int)) : Int) != (List.getD x1 (Int.toNat v30) (0 : Int))) then (some false) else ((f41.l18 k x0 x1) m18 (IntKind.i64.wrap (v30 + (1 : Int))))) else none) else none) else (some true)
def f41 (k : Nat) (x0 : (List Int)) (x1 : (List Int)) : Option Bool := if (((List.length x0 : Int) : Int) != (List.length x1 : Int)) then (some false) else (f41.l18 k x0 x1 k (0 : Int))
set_option maxRecDepth 100000 in
/-- 'laws.eqInt64S'. -/
theorem c41 (k : Nat) (x0 : (List Int)) (x1 : (List Int)) (r : Bool) (hF : f41 k x0 x1 = some r) : PCall Try.prog 41 [⟨(.sl false 2 (.int .i64)), x0⟩, ⟨(.sl false 2 (.int .i64)), x1⟩] [⟨.bool, r⟩] := by
  refine pcall_intro Try.func41 rfl rfl (Nat.le_of_ble_eq_true rfl) ?_
  intro w0 Zi a w h
  rw [f41] at hF
  refine wp_reg_seq tok (orc := orcL []) (fz := []) (l := [0, 1]) (c := _) (fun i h => h) h (by kernel_rfl) (AllP.nil) ?_
  intro a w h
  refine wp_seq ?_
  refine wp_reg_seq tok (orc := orcL []) (fz := []) (l := [0, 1, 10]) (c := _) (fun i h => h) h (by kernel_rfl) (AllP.nil) ?_
  intro a w h
  refine wp_if h (b := (((List.length x0 : Int) : Int) != (List.length x1 : Int))) (by kernel_rfl) (fun hb => ?_) (fun hb => ?_)
  · replace hF := of_t hb hF
    refine wp_reg_seq tok (orc := orcL []) (fz := []) (l := [4]) (c := _) (fun i h => h) h (by kernel_rfl) (AllP.nil) ?_
    intro a w h
    cases hF
    exact wp_ret (ret_okR tok h rfl (by kernel_rfl)).1
  · replace hF := of_f hb hF
    refine wp_skip ?_
    refine wp_seq ?_
    refine wp_reg_seq tok (orc := orcL []) (fz := []) (l := [0, 1, 5]) (c := _) (fun i h => h) h (by kernel_rfl) (AllP.nil) ?_
    intro a w h
    refine wp_block ?_
    refine wp_loop_fuel (f41.l18 k x0 x1) (fun (v30 : Int) => [(0, .val (.sl false 2 (.int .i64)) x0), (1, .val (.sl false 2 (.int .i64)) x1), (5, .val (.int .i64) v30)]) (fun v h => by rw [f41.l18] at h; cases h) ?_ hF (h.arrive (fz := []) (l := [0, 1, 5]) (fun i h => h) (by kernel_rfl))
    intro m18 v30 a w hF h
    rw [f41.l18] at hF
    refine wp_seq ?_
    refine wp_reg_seq tok (orc := orcL []) (fz := []) (l := [0, 1, 5, 14]) (c := _) (fun i h => h) h (by kernel_rfl) (AllP.nil) ?_
    intro a w h
    refine wp_if h (b := (decide ((v30 : Int) < (List.length x0 : Int)))) (by kernel_rfl) (fun hb => ?_) (fun hb => ?_)
    · replace hF := of_t hb hF
      refine wp_skip ?_
      refine wp_seq <| wp_block ?_
      obtain ⟨hc33, hF⟩ := of_if hF
      obtain ⟨hc34, hF⟩ := of_if hF
      refine wp_regy_seq tok (orc := orcL []) (fz := []) (l := [0, 1, 5, 25]) (c := _) 9 (fun i h => h) h (by kernel_rfl) (by kernel_rfl) (AllP.cons hc33 (AllP.cons hc34 AllP.nil)) ?_
      intro a w h
      refine wp_if h (b := (((List.getD x0 (Int.toNat v30) (0 : Int)) : Int) != (List.getD x1 (Int.toNat v30) (0 : Int)))) (by kernel_rfl) (fun hb => ?_) (fun hb => ?_)
      · replace hF := of_t hb hF
        refine wp_reg_seq tok (orc := orcL []) (fz := []) (l := [4]) (c := _) (fun i h => h) h (by kernel_rfl) (AllP.nil) ?_
        intro a w h
        cases hF
        exact wp_ret (ret_okR tok h rfl (by kernel_rfl)).1
      · replace hF := of_f hb hF
        refine wp_skip ?_
        refine wp_reg tok (orc := orcL []) (fz := []) (l := [0, 1, 5]) (c := _) (fun i h => h) h (by kernel_rfl) (AllP.nil) ?_
        intro a w h
        exact ⟨(IntKind.i64.wrap (v30 + (1 : Int))), hF, h.arrive (fz := []) (l := [0, 1, 5]) (fun i h => h) (by kernel_rfl)⟩
    · replace hF := of_f hb hF
      refine wp_exit ?_
      refine wp_reg_seq tok (orc := orcL []) (fz := []) (l := [4]) (c := _) (fun i h => h) h (by kernel_rfl) (AllP.nil) ?_
      intro a w h
      cases hF
      exact wp_ret (ret_okR tok h rfl (by kernel_rfl)).1

def f8 (k : Nat) (x0 : (List (Int × ((Int × Int) × (Int × (Int × Int)))))) (x1 : (List Int)) : Option Bool := if (decide (((List.length x1 : Int) : Int) > (1048576 : Int))) then (some true) else ((f23 k x0 (1048576 : Int)).bind fun r1 => (if (decide ((r1 : Int) < (0 : Int))) then (some true) else ((f25 k x0).bind fun r2 => ((f39 k x1).bind fun r3 => ((f38 k r2 r3).bind fun r4 => ((f25 k x0).bind fun r5 => ((f39 k x1).bind fun r6 => ((f40 k r5 r6).bind fun r7 => (if ((r7 : Int) != r4) then (some false) else ((f25 k x0).bind fun r8 => ((f27 k r5 r8).bind fun r9 => (if (!r9) then (some false) else ((f39 k x1).bind fun r10 => ((f41 k r6 r10).bind fun r11 => (if (!r11) then (some false) else (some true))))))))))))))))
set_option maxRecDepth 100000 in
/-- 'laws.FnExactWeight'. -/
theorem c8 (k : Nat) (x0 : (List (Int × ((Int × Int) × (Int × (Int × Int)))))) (x1 : (List Int)) (r : Bool) (hF : f8 k x0 x1 = some r) : PCall Try.prog 8 [⟨sh0, x0⟩, ⟨(.sl false 2 (.int .i64)), x1⟩] [⟨.bool, r⟩] := by
  refine pcall_intro Try.func8 rfl rfl (Nat.le_of_ble_eq_true rfl) ?_
  intro w0 Zi a w h
  rw [f8] at hF
  refine wp_reg_seq tok (orc := orcL []) (fz := []) (l := [0, 1]) (c := _) (fun i h => h) h (by kernel_rfl) (AllP.nil) ?_
  intro a w h
  refine wp_seq ?_
  refine wp_reg_seq tok (orc := orcL []) (fz := []) (l := [0, 1, 12]) (c := _) (fun i h => h) h (by kernel_rfl) (AllP.nil) ?_
  intro a w h
  refine wp_if h (b := (decide (((List.length x1 : Int) : Int) > (1048576 : Int)))) (by kernel_rfl) (fun hb => ?_) (fun hb => ?_)
  · replace hF := of_t hb hF
    refine wp_reg_seq tok (orc := orcL []) (fz := []) (l := [4]) (c := _) (fun i h => h) h (by kernel_rfl) (AllP.nil) ?_
    intro a w h
    cases hF
    exact wp_ret (ret_okR tok h rfl (by kernel_rfl)).1
  · replace hF := of_f hb hF
    refine wp_skip ?_
    refine wp_reg_seq tok (orc := orcL []) (fz := []) (l := [0, 1, 5]) (c := _) (fun i h => h) h (by kernel_rfl) (AllP.nil) ?_
    intro a w h
    obtain ⟨r1, hr22, hF⟩ := of_bind hF
    refine wp_reg_seq tok (orc := orcL [(15, [⟨(.int .i64), r1⟩])]) (fz := []) (l := [0, 1, 5]) (c := _) (fun i h => h) h (by kernel_rfl) (AllP.cons (c23 k x0 (1048576 : Int) r1 hr22) AllP.nil) ?_
    intro a w h
    refine wp_seq ?_
    refine wp_reg_seq tok (orc := orcL []) (fz := []) (l := [0, 1, 17]) (c := _) (fun i h => h) h (by kernel_rfl) (AllP.nil) ?_
    intro a w h
    refine wp_if h (b := (decide ((r1 : Int) < (0 : Int)))) (by kernel_rfl) (fun hb => ?_) (fun hb => ?_)
    · replace hF := of_t hb hF
      refine wp_reg_seq tok (orc := orcL []) (fz := []) (l := [4]) (c := _) (fun i h => h) h (by kernel_rfl) (AllP.nil) ?_
      intro a w h
      cases hF
      exact wp_ret (ret_okR tok h rfl (by kernel_rfl)).1
    · replace hF := of_f hb hF
      refine wp_skip ?_
      obtain ⟨r2, hr19, hF⟩ := of_bind hF
      obtain ⟨r3, hr20, hF⟩ := of_bind hF
      obtain ⟨r4, hr21, hF⟩ := of_bind hF
      refine wp_reg_seq tok (orc := orcL [(19, [⟨sh3, r2⟩]), (21, [⟨(.sl true 2 (.int .i64)), r3⟩]), (22, [⟨(.int .i64), r4⟩])]) (fz := []) (l := [0, 1, 6]) (c := _) (fun i h => h) h (by kernel_rfl) (AllP.cons (c25 k x0 r2 hr19) (AllP.cons (c39 k x1 r3 hr20) (AllP.cons (c38 k r2 r3 r4 hr21) AllP.nil))) ?_
      intro a w h
      obtain ⟨r5, hr18, hF⟩ := of_bind hF
      refine wp_reg_seq tok (orc := orcL [(24, [⟨sh3, r5⟩])]) (fz := []) (l := [0, 1, 6, 7]) (c := _) (fun i h => h) h (by kernel_rfl) (AllP.cons (c25 k x0 r5 hr18) AllP.nil) ?_
      intro a w h
      obtain ⟨r6, hr17, hF⟩ := of_bind hF
      refine wp_reg_seq tok (orc := orcL [(26, [⟨(.sl true 2 (.int .i64)), r6⟩])]) (fz := []) (l := [0, 1, 6, 7, 8]) (c := _) (fun i h => h) h (by kernel_rfl) (AllP.cons (c39 k x1 r6 hr17) AllP.nil) ?_
      intro a w h
      obtain ⟨r7, hr16, hF⟩ := of_bind hF
      refine wp_reg_seq tok (orc := orcL [(29, [⟨(.int .i64), r7⟩])]) (fz := []) (l := [0, 1, 6, 7, 8, 9]) (c := _) (fun i h => h) h (by kernel_rfl) (AllP.cons (c40 k r5 r6 r7 hr16) AllP.nil) ?_
      intro a w h
      refine wp_seq ?_
      refine wp_reg_seq tok (orc := orcL []) (fz := []) (l := [0, 1, 7, 8, 32]) (c := _) (fun i h => h) h (by kernel_rfl) (AllP.nil) ?_
      intro a w h
      refine wp_if h (b := ((r7 : Int) != r4)) (by kernel_rfl) (fun hb => ?_) (fun hb => ?_)
      · replace hF := of_t hb hF
        refine wp_reg_seq tok (orc := orcL []) (fz := []) (l := [4]) (c := _) (fun i h => h) h (by kernel_rfl) (AllP.nil) ?_
        intro a w h
        cases hF
        exact wp_ret (ret_okR tok h rfl (by kernel_rfl)).1
      · replace hF := of_f hb hF
        refine wp_skip ?_
        refine wp_seq ?_
        obtain ⟨r8, hr14, hF⟩ := of_bind hF
        obtain ⟨r9, hr15, hF⟩ := of_bind hF
        refine wp_reg_seq tok (orc := orcL [(35, [⟨sh3, r8⟩]), (36, [⟨.bool, r9⟩])]) (fz := []) (l := [1, 8, 37]) (c := _) (fun i h => h) h (by kernel_rfl) (AllP.cons (c25 k x0 r8 hr14) (AllP.cons (c27 k r5 r8 r9 hr15) AllP.nil)) ?_
        intro a w h
        refine wp_if h (b := (!r9)) (by kernel_rfl) (fun hb => ?_) (fun hb => ?_)
        · replace hF := of_t hb hF
          refine wp_reg_seq tok (orc := orcL []) (fz := []) (l := [4]) (c := _) (fun i h => h) h (by kernel_rfl) (AllP.nil) ?_
          intro a w h
          cases hF
          exact wp_ret (ret_okR tok h rfl (by kernel_rfl)).1
        · replace hF := of_f hb hF
          refine wp_skip ?_
          refine wp_seq ?_
          obtain ⟨r10, hr12, hF⟩ := of_bind hF
          obtain ⟨r11, hr13, hF⟩ := of_bind hF
          refine wp_reg_seq tok (orc := orcL [(40, [⟨(.sl true 2 (.int .i64)), r10⟩]), (41, [⟨.bool, r11⟩])]) (fz := []) (l := [42]) (c := _) (fun i h => h) h (by kernel_rfl) (AllP.cons (c39 k x1 r10 hr12) (AllP.cons (c41 k r6 r10 r11 hr13) AllP.nil)) ?_
          intro a w h
          refine wp_if h (b := (!r11)) (by kernel_rfl) (fun hb => ?_) (fun hb => ?_)
          · replace hF := of_t hb hF
            refine wp_reg_seq tok (orc := orcL []) (fz := []) (l := [4]) (c := _) (fun i h => h) h (by kernel_rfl) (AllP.nil) ?_
            intro a w h
            cases hF
            exact wp_ret (ret_okR tok h rfl (by kernel_rfl)).1
          · replace hF := of_f hb hF
            refine wp_skip ?_
            refine wp_reg_seq tok (orc := orcL []) (fz := []) (l := [4]) (c := _) (fun i h => h) h (by kernel_rfl) (AllP.nil) ?_
            intro a w h
            cases hF
            exact wp_ret (ret_okR tok h rfl (by kernel_rfl)).1

def f76 (k : Nat) (x0 : (Int × ((Int × Int) × (Int × (Int × Int))))) (x1 : (Int × ((Int × Int) × (Int × (Int × Int))))) : Option Bool := some (bif (bif (bif (decide ((x0.2.1.1 : Int) < (IntKind.i64.wrap (x1.2.1.1 + x1.2.2.1)))) then (decide ((x1.2.1.1 : Int) < (IntKind.i64.wrap (x0.2.1.1 + x0.2.2.1)))) else false) then (decide ((x0.2.1.2 : Int) < (IntKind.i64.wrap (x1.2.1.2 + x1.2.2.2.1)))) else false) then (decide ((x1.2.1.2 : Int) < (IntKind.i64.wrap (x0.2.1.2 + x0.2.2.2.1)))) else false)
set_option maxRecDepth 100000 in
/-- 'spec.l8Overlap'. -/
theorem c76 (k : Nat) (x0 : (Int × ((Int × Int) × (Int × (Int × Int))))) (x1 : (Int × ((Int × Int) × (Int × (Int × Int))))) (r : Bool) (hF : f76 k x0 x1 = some r) : PCall Try.prog 76 [⟨sh2, x0⟩, ⟨sh2, x1⟩] [⟨.bool, r⟩] := by
  refine pcall_intro Try.func76 rfl rfl (Nat.le_of_ble_eq_true rfl) ?_
  intro w0 Zi a w h
  rw [f76] at hF
  refine wp_reg_seq tok (orc := orcL []) (fz := []) (l := [2, 3]) (c := _) (fun i h => h) h (by kernel_rfl) (AllP.nil) ?_
  intro a w h
  refine wp_reg_seq tok (orc := orcL []) (fz := []) (l := [4]) (c := _) (fun i h => h) h (by kernel_rfl) (AllP.nil) ?_
  intro a w h
  cases hF
  exact wp_ret (ret_okR tok h rfl (by kernel_rfl)).1

def f49.l727 (k : Nat) (v661 : Int) (x0 : (List (Int × ((Int × Int) × (Int × (Int × Int)))))) (x1 : (List Int)) (q397 : Int → Option Bool) : Nat → Int → Option Bool
  | 0, _ => none
  | m727 + 1, v771 => if (decide ((v771 : Int) < v661)) then (if (0 ≤ v661 ∧ v661 < (List.length x0 : Int)) then (if (0 ≤ v771 ∧ v771 < (List.length x0 : Int)) then ((f76 k (List.getD x0 (Int.toNat v661) ((0 : Int), (((0 : Int), (0 : Int)), ((0 : Int), ((0 : Int), (0 : Int)))))) (List.getD x0 (Int.toNat v771) ((0 : Int), (((0 : Int), (0 : Int)), ((0 : Int), ((0 : Int), (0 : Int))))))).bind fun r782 => (if ((r782 = true) → (0 ≤ v661 ∧ v661 < (List.length x0 : Int))) then ((if (r782 = true) then f95 k x1 (List.getD x0 (Int.toNat v661) ((0 : Int), (((0 : Int), (0 : Int)), ((0 : Int), ((0 : Int), (0 : Int)))))).1 else some default).bind fun r783 => (if (((bif r782 then r783 else false) = true) → (0 ≤ v771 ∧ v771 < (List.length x0 : Int))) then ((if ((bif r782 then r783 else false) = true) then f95 k x1 (List.getD x0 (Int.toNat v771) ((0 : Int), (((0 : Int), (0 : Int)), ((0 : Int), ((0 : Int), (0 : Int)))))).1 else some default).bind fun r784 => (if (bif (bif r782 then r783 else false) then r784 else false) then (some false) else ((f49.l727 k v661 x0 x1 q397) m727 (IntKind.i64.wrap (v771 + (1 : Int)))))) else none)) else none)) else none) else none) else (q397 (IntKind.i64.wrap (v661 + (1 : Int))))
def f49.l397 (k : Nat) (x0 : (List (Int × ((Int × Int) × (Int × (Int × Int)))))) (x1 : (List Int)) : Nat → Int → Option Bool
  | 0, _ => none
  | m397 + 1, v661 => if (decide ((v661 : Int) < (List.length x0 : Int))) then (f49.l727 k v661 x0 x1 ((f49.l397 k x0 x1) m397) k (0 : Int)) else (some true)
def f49 (k : Nat) (x0 : (List (Int × ((Int × Int) × (Int × (Int × Int)))))) (x1 : (List Int)) : Option Bool := (f24 k x0).bind fun r1 => (if (!r1) then (some false) else (f49.l397 k x0 x1 k (0 : Int)))
set_option maxRecDepth 100000 in
/-- 'spec.Spaced'. -/
theorem c49 (k : Nat) (x0 : (List (Int × ((Int × Int) × (Int × (Int × Int)))))) (x1 : (List Int)) (r : Bool) (hF : f49 k x0 x1 = some r) : PCall Try.prog 49 [⟨sh4, x0⟩, ⟨(.sl false 2 (.int .i64)), x1⟩] [⟨.bool, r⟩] := by
  refine pcall_intro Try.func49 rfl rfl (Nat.le_of_ble_eq_true rfl) ?_
  intro w0 Zi a w h
  rw [f49] at hF
  refine wp_reg_seq tok (orc := orcL []) (fz := []) (l := [0, 1]) (c := _) (fun i h => h) h (by kernel_rfl) (AllP.nil) ?_
  intro a w h
  refine wp_seq ?_
  obtain ⟨r1, hr792, hF⟩ := of_bind hF
  refine wp_reg_seq tok (orc := orcL [(8, [⟨.bool, r1⟩])]) (fz := []) (l := [0, 1, 9]) (c := _) (fun i h => h) h (by kernel_rfl) (AllP.cons (c24 k x0 r1 hr792) AllP.nil) ?_
  intro a w h
  refine wp_if h (b := (!r1)) (by kernel_rfl) (fun hb => ?_) (fun hb => ?_)
  · replace hF := of_t hb hF
    refine wp_reg_seq tok (orc := orcL []) (fz := []) (l := [4]) (c := _) (fun i h => h) h (by kernel_rfl) (AllP.nil) ?_
    intro a w h
    cases hF
    exact wp_ret (ret_okR tok h rfl (by kernel_rfl)).1
  · replace hF := of_f hb hF
    refine wp_skip ?_
    refine wp_seq ?_
    refine wp_reg_seq tok (orc := orcL []) (fz := []) (l := [0, 1, 5]) (c := _) (fun i h => h) h (by kernel_rfl) (AllP.nil) ?_
    intro a w h
    refine wp_block ?_
    refine wp_loop_fuel (f49.l397 k x0 x1) (fun (v661 : Int) => [(0, .val sh4 x0), (1, .val (.sl false 2 (.int .i64)) x1), (5, .val (.int .i64) v661)]) (fun v h => by rw [f49.l397] at h; cases h) ?_ hF (h.arrive (fz := []) (l := [0, 1, 5]) (fun i h => h) (by kernel_rfl))
    intro m397 v661 a w hF h
    rw [f49.l397] at hF
    refine wp_seq ?_
    refine wp_reg_seq tok (orc := orcL []) (fz := []) (l := [0, 1, 5, 13]) (c := _) (fun i h => h) h (by kernel_rfl) (AllP.nil) ?_
    intro a w h
    refine wp_if h (b := (decide ((v661 : Int) < (List.length x0 : Int)))) (by kernel_rfl) (fun hb => ?_) (fun hb => ?_)
    · replace hF := of_t hb hF
      refine wp_skip ?_
      refine wp_seq <| wp_block ?_
      refine wp_reg_seq tok (orc := orcL []) (fz := []) (l := [0, 1, 5, 6]) (c := _) (fun i h => h) h (by kernel_rfl) (AllP.nil) ?_
      intro a w h
      refine wp_block ?_
      refine wp_loop_fuel (f49.l727 k v661 x0 x1 ((f49.l397 k x0 x1) m397)) (fun (v771 : Int) => [(0, .val sh4 x0), (1, .val (.sl false 2 (.int .i64)) x1), (5, .val (.int .i64) v661), (6, .val (.int .i64) v771)]) (fun v h => by rw [f49.l727] at h; cases h) ?_ hF (h.arrive (fz := []) (l := [0, 1, 5, 6]) (fun i h => h) (by kernel_rfl))
      intro m727 v771 a w hF h
      rw [f49.l727] at hF
      refine wp_seq ?_
      refine wp_reg_seq tok (orc := orcL []) (fz := []) (l := [0, 1, 5, 6, 18]) (c := _) (fun i h => h) h (by kernel_rfl) (AllP.nil) ?_
      intro a w h
      refine wp_if h (b := (decide ((v771 : Int) < v661))) (by kernel_rfl) (fun hb => ?_) (fun hb => ?_)
      · replace hF := of_t hb hF
        refine wp_skip ?_
        refine wp_seq <| wp_block ?_
        obtain ⟨hc785, hF⟩ := of_if hF
        obtain ⟨hc786, hF⟩ := of_if hF
        obtain ⟨r782, hr787, hF⟩ := of_bind hF
        obtain ⟨hc788, hF⟩ := of_if hF
        obtain ⟨r783, hr789, hF⟩ := of_bind hF
        obtain ⟨hc790, hF⟩ := of_if hF
        obtain ⟨r784, hr791, hF⟩ := of_bind hF
        refine wp_regy_seq tok (orc := orcL [(29, [⟨.bool, r782⟩]), (37, [⟨.bool, r783⟩]), (46, [⟨.bool, r784⟩])]) (fz := []) (l := [0, 1, 5, 6, 47]) (c := _) 27 (fun i h => h) h (by kernel_rfl) (by kernel_rfl) (AllP.cons hc785 (AllP.cons hc786 (AllP.cons (c76 k (List.getD x0 (Int.toNat v661) ((0 : Int), (((0 : Int), (0 : Int)), ((0 : Int), ((0 : Int), (0 : Int)))))) (List.getD x0 (Int.toNat v771) ((0 : Int), (((0 : Int), (0 : Int)), ((0 : Int), ((0 : Int), (0 : Int)))))) r782 hr787) (AllP.cons hc788 (AllP.cons (fun (hg : (r782 = true)) => c95 k x1 (List.getD x0 (Int.toNat v661) ((0 : Int), (((0 : Int), (0 : Int)), ((0 : Int), ((0 : Int), (0 : Int)))))).1 r783 (of_g hg hr789)) (AllP.cons hc790 (AllP.cons (fun (hg : ((bif r782 then r783 else false) = true)) => c95 k x1 (List.getD x0 (Int.toNat v771) ((0 : Int), (((0 : Int), (0 : Int)), ((0 : Int), ((0 : Int), (0 : Int)))))).1 r784 (of_g hg hr791)) AllP.nil))))))) ?_
        intro a w h
        refine wp_if h (b := (bif (bif r782 then r783 else false) then r784 else false)) (by kernel_rfl) (fun hb => ?_) (fun hb => ?_)
        · replace hF := of_t hb hF
          refine wp_reg_seq tok (orc := orcL []) (fz := []) (l := [4]) (c := _) (fun i h => h) h (by kernel_rfl) (AllP.nil) ?_
          intro a w h
          cases hF
          exact wp_ret (ret_okR tok h rfl (by kernel_rfl)).1
        · replace hF := of_f hb hF
          refine wp_skip ?_
          refine wp_reg tok (orc := orcL []) (fz := []) (l := [0, 1, 5, 6]) (c := _) (fun i h => h) h (by kernel_rfl) (AllP.nil) ?_
          intro a w h
          exact ⟨(IntKind.i64.wrap (v771 + (1 : Int))), hF, h.arrive (fz := []) (l := [0, 1, 5, 6]) (fun i h => h) (by kernel_rfl)⟩
      · replace hF := of_f hb hF
        refine wp_exit ?_
        refine wp_reg tok (orc := orcL []) (fz := []) (l := [0, 1, 5]) (c := _) (fun i h => h) h (by kernel_rfl) (AllP.nil) ?_
        intro a w h
        exact ⟨(IntKind.i64.wrap (v661 + (1 : Int))), hF, h.arrive (fz := []) (l := [0, 1, 5]) (fun i h => h) (by kernel_rfl)⟩
    · replace hF := of_f hb hF
      refine wp_exit ?_
      refine wp_reg_seq tok (orc := orcL []) (fz := []) (l := [4]) (c := _) (fun i h => h) h (by kernel_rfl) (AllP.nil) ?_
      intro a w h
      cases hF
      exact wp_ret (ret_okR tok h rfl (by kernel_rfl)).1

def f79 (k : Nat) (x0 : (Int × ((Int × Int) × (Int × (Int × Int))))) (x1 : (Int × ((Int × Int) × (Int × (Int × Int))))) : Option Bool := some (bif (bif (bif (decide ((x0.2.1.1 : Int) < (IntKind.i64.wrap (x1.2.1.1 + x1.2.2.1)))) then (decide ((x1.2.1.1 : Int) < (IntKind.i64.wrap (x0.2.1.1 + x0.2.2.1)))) else false) then (decide ((x0.2.1.2 : Int) < (IntKind.i64.wrap (x1.2.1.2 + x1.2.2.2.1)))) else false) then (decide ((x1.2.1.2 : Int) < (IntKind.i64.wrap (x0.2.1.2 + x0.2.2.2.1)))) else false)
set_option maxRecDepth 100000 in
/-- 'impl.overlap'. -/
theorem c79 (k : Nat) (x0 : (Int × ((Int × Int) × (Int × (Int × Int))))) (x1 : (Int × ((Int × Int) × (Int × (Int × Int))))) (r : Bool) (hF : f79 k x0 x1 = some r) : PCall Try.prog 79 [⟨sh2, x0⟩, ⟨sh2, x1⟩] [⟨.bool, r⟩] := by
  refine pcall_intro Try.func79 rfl rfl (Nat.le_of_ble_eq_true rfl) ?_
  intro w0 Zi a w h
  rw [f79] at hF
  refine wp_reg_seq tok (orc := orcL []) (fz := []) (l := [2, 3]) (c := _) (fun i h => h) h (by kernel_rfl) (AllP.nil) ?_
  intro a w h
  refine wp_reg_seq tok (orc := orcL []) (fz := []) (l := [4]) (c := _) (fun i h => h) h (by kernel_rfl) (AllP.nil) ?_
  intro a w h
  cases hF
  exact wp_ret (ret_okR tok h rfl (by kernel_rfl)).1

def f50.l332 (k : Nat) (v302 : Int) (r2 : (List (Int × ((Int × Int) × (Int × (Int × Int)))))) (q182 : Int → Option Bool) : Nat → Int → Option Bool
  | 0, _ => none
  | m332 + 1, v352 => if (decide ((v352 : Int) < v302)) then (if (0 ≤ v302 ∧ v302 < (List.length r2 : Int)) then (if (0 ≤ v352 ∧ v352 < (List.length r2 : Int)) then ((f79 k (List.getD r2 (Int.toNat v302) ((0 : Int), (((0 : Int), (0 : Int)), ((0 : Int), ((0 : Int), (0 : Int)))))) (List.getD r2 (Int.toNat v352) ((0 : Int), (((0 : Int), (0 : Int)), ((0 : Int), ((0 : Int), (0 : Int))))))).bind fun r357 => (if r357 then (some false) else ((f50.l332 k v302 r2 q182) m332 (IntKind.i64.wrap (v352 + (1 : Int)))))) else none) else none) else (q182 (IntKind.i64.wrap (v302 + (1 : Int))))
def f50.l182 (k : Nat) (r2 : (List (Int × ((Int × Int) × (Int × (Int × Int)))))) : Nat → Int → Option Bool
  | 0, _ => none
  | m182 + 1, v302 => if (decide ((v302 : Int) < (List.length r2 : Int))) then (f50.l332 k v302 r2 ((f50.l182 k r2) m182) k (0 : Int)) else (some true)
def f50 (k : Nat) (x0 : (List (Int × ((Int × Int) × (Int × (Int × Int)))))) (x1 : (List Int)) : Option Bool := (f26 k x0).bind fun r1 => (if (!r1) then (some false) else ((f96 k x0 x1).bind fun r2 => (f50.l182 k r2 k (0 : Int))))
set_option maxRecDepth 100000 in
/-- 'impl.Spaced'. -/
theorem c50 (k : Nat) (x0 : (List (Int × ((Int × Int) × (Int × (Int × Int)))))) (x1 : (List Int)) (r : Bool) (hF : f50 k x0 x1 = some r) : PCall Try.prog 50 [⟨sh4, x0⟩, ⟨(.sl false 2 (.int .i64)), x1⟩] [⟨.bool, r⟩] := by
  refine pcall_intro Try.func50 rfl rfl (Nat.le_of_ble_eq_true rfl) ?_
  intro w0 Zi a w h
  rw [f50] at hF
  refine wp_reg_seq tok (orc := orcL []) (fz := []) (l := [0, 1]) (c := _) (fun i h => h) h (by kernel_rfl) (AllP.nil) ?_
  intro a w h
  refine wp_seq ?_
  obtain ⟨r1, hr362, hF⟩ := of_bind hF
  refine wp_reg_seq tok (orc := orcL [(9, [⟨.bool, r1⟩])]) (fz := []) (l := [0, 1, 10]) (c := _) (fun i h => h) h (by kernel_rfl) (AllP.cons (c26 k x0 r1 hr362) AllP.nil) ?_
  intro a w h
  refine wp_if h (b := (!r1)) (by kernel_rfl) (fun hb => ?_) (fun hb => ?_)
  · replace hF := of_t hb hF
    refine wp_reg_seq tok (orc := orcL []) (fz := []) (l := [4]) (c := _) (fun i h => h) h (by kernel_rfl) (AllP.nil) ?_
    intro a w h
    cases hF
    exact wp_ret (ret_okR tok h rfl (by kernel_rfl)).1
  · replace hF := of_f hb hF
    refine wp_skip ?_
    obtain ⟨r2, hr361, hF⟩ := of_bind hF
    refine wp_reg_seq tok (orc := orcL [(13, [⟨sh3, r2⟩])]) (fz := []) (l := [5]) (c := _) (fun i h => h) h (by kernel_rfl) (AllP.cons (c96 k x0 x1 r2 hr361) AllP.nil) ?_
    intro a w h
    refine wp_seq ?_
    refine wp_reg_seq tok (orc := orcL []) (fz := []) (l := [5, 15, 16]) (c := _) (fun i h => h) h (by kernel_rfl) (AllP.nil) ?_
    intro a w h
    refine wp_block ?_
    refine wp_loop_fuel (f50.l182 k r2) (fun (v302 : Int) => [(5, .val sh3 r2), (15, .val (.int .i64) (List.length r2 : Int)), (16, .val (.int .i64) v302)]) (fun v h => by rw [f50.l182] at h; cases h) ?_ hF (h.arrive (fz := []) (l := [5, 15, 16]) (fun i h => h) (by kernel_rfl))
    intro m182 v302 a w hF h
    rw [f50.l182] at hF
    refine wp_reg_seq tok (orc := orcL []) (fz := []) (l := [5, 15, 16, 17]) (c := _) (fun i h => h) h (by kernel_rfl) (AllP.nil) ?_
    intro a w h
    refine wp_seq <| wp_if h (b := (decide ((v302 : Int) < (List.length r2 : Int)))) (by kernel_rfl) (fun hb => ?_) (fun hb => ?_)
    · replace hF := of_t hb hF
      refine wp_skip ?_
      refine wp_seq <| wp_block ?_
      refine wp_reg_seq tok (orc := orcL []) (fz := []) (l := [5, 6, 15, 16]) (c := _) (fun i h => h) h (by kernel_rfl) (AllP.nil) ?_
      intro a w h
      refine wp_reg_seq tok (orc := orcL []) (fz := []) (l := [5, 6, 15, 16, 19, 20]) (c := _) (fun i h => h) h (by kernel_rfl) (AllP.nil) ?_
      intro a w h
      refine wp_block ?_
      refine wp_loop_fuel (f50.l332 k v302 r2 ((f50.l182 k r2) m182)) (fun (v352 : Int) => [(5, .val sh3 r2), (6, .val (.int .i64) v302), (15, .val (.int .i64) (List.length r2 : Int)), (16, .val (.int .i64) v302), (19, .val (.int .i64) v302), (20, .val (.int .i64) v352)]) (fun v h => by rw [f50.l332] at h; cases h) ?_ hF (h.arrive (fz := []) (l := [5, 6, 15, 16, 19, 20]) (fun i h => h) (by kernel_rfl))
      intro m332 v352 a w hF h
      rw [f50.l332] at hF
      refine wp_reg_seq tok (orc := orcL []) (fz := []) (l := [5, 6, 15, 16, 19, 20, 21]) (c := _) (fun i h => h) h (by kernel_rfl) (AllP.nil) ?_
      intro a w h
      refine wp_seq <| wp_if h (b := (decide ((v352 : Int) < v302))) (by kernel_rfl) (fun hb => ?_) (fun hb => ?_)
      · replace hF := of_t hb hF
        refine wp_skip ?_
        refine wp_seq <| wp_block ?_
        refine wp_reg_seq tok (orc := orcL []) (fz := []) (l := [5, 6, 7, 15, 16, 19, 20]) (c := _) (fun i h => h) h (by kernel_rfl) (AllP.nil) ?_
        intro a w h
        obtain ⟨hc358, hF⟩ := of_if hF
        obtain ⟨hc359, hF⟩ := of_if hF
        obtain ⟨r357, hr360, hF⟩ := of_bind hF
        refine wp_regy_seq tok (orc := orcL [(31, [⟨.bool, r357⟩])]) (fz := []) (l := [5, 6, 15, 16, 19, 20, 31]) (c := _) 9 (fun i h => h) h (by kernel_rfl) (by kernel_rfl) (AllP.cons hc358 (AllP.cons hc359 (AllP.cons (c79 k (List.getD r2 (Int.toNat v302) ((0 : Int), (((0 : Int), (0 : Int)), ((0 : Int), ((0 : Int), (0 : Int)))))) (List.getD r2 (Int.toNat v352) ((0 : Int), (((0 : Int), (0 : Int)), ((0 : Int), ((0 : Int), (0 : Int)))))) r357 hr360) AllP.nil))) ?_
        intro a w h
        refine wp_if h (b := r357) (by kernel_rfl) (fun hb => ?_) (fun hb => ?_)
        · replace hF := of_t hb hF
          refine wp_reg_seq tok (orc := orcL []) (fz := []) (l := [4]) (c := _) (fun i h => h) h (by kernel_rfl) (AllP.nil) ?_
          intro a w h
          cases hF
          exact wp_ret (ret_okR tok h rfl (by kernel_rfl)).1
        · replace hF := of_f hb hF
          refine wp_skip ?_
          refine wp_reg tok (orc := orcL []) (fz := []) (l := [5, 6, 15, 16, 19, 20]) (c := _) (fun i h => h) h (by kernel_rfl) (AllP.nil) ?_
          intro a w h
          exact ⟨(IntKind.i64.wrap (v352 + (1 : Int))), hF, h.arrive (fz := []) (l := [5, 6, 15, 16, 19, 20]) (fun i h => h) (by kernel_rfl)⟩
      · replace hF := of_f hb hF
        refine wp_exit ?_
        refine wp_reg tok (orc := orcL []) (fz := []) (l := [5, 15, 16]) (c := _) (fun i h => h) h (by kernel_rfl) (AllP.nil) ?_
        intro a w h
        exact ⟨(IntKind.i64.wrap (v302 + (1 : Int))), hF, h.arrive (fz := []) (l := [5, 15, 16]) (fun i h => h) (by kernel_rfl)⟩
    · replace hF := of_f hb hF
      refine wp_exit ?_
      refine wp_reg_seq tok (orc := orcL []) (fz := []) (l := [4]) (c := _) (fun i h => h) h (by kernel_rfl) (AllP.nil) ?_
      intro a w h
      cases hF
      exact wp_ret (ret_okR tok h rfl (by kernel_rfl)).1

def f10 (k : Nat) (x0 : (List (Int × ((Int × Int) × (Int × (Int × Int)))))) (x1 : (List Int)) : Option Bool := if (decide (((List.length x1 : Int) : Int) > (1048576 : Int))) then (some true) else ((f23 k x0 (1048576 : Int)).bind fun r1 => (if (decide ((r1 : Int) < (0 : Int))) then (some true) else ((f25 k x0).bind fun r2 => ((f39 k x1).bind fun r3 => ((f49 k r2 r3).bind fun r4 => ((f25 k x0).bind fun r5 => ((f39 k x1).bind fun r6 => ((f50 k r5 r6).bind fun r7 => (if (!((r7 : Bool) == r4)) then (some false) else ((f25 k x0).bind fun r8 => ((f27 k r5 r8).bind fun r9 => (if (!r9) then (some false) else ((f39 k x1).bind fun r10 => ((f41 k r6 r10).bind fun r11 => (if (!r11) then (some false) else (some true))))))))))))))))
set_option maxRecDepth 100000 in
/-- 'laws.FnExactSpaced'. -/
theorem c10 (k : Nat) (x0 : (List (Int × ((Int × Int) × (Int × (Int × Int)))))) (x1 : (List Int)) (r : Bool) (hF : f10 k x0 x1 = some r) : PCall Try.prog 10 [⟨sh0, x0⟩, ⟨(.sl false 2 (.int .i64)), x1⟩] [⟨.bool, r⟩] := by
  refine pcall_intro Try.func10 rfl rfl (Nat.le_of_ble_eq_true rfl) ?_
  intro w0 Zi a w h
  rw [f10] at hF
  refine wp_reg_seq tok (orc := orcL []) (fz := []) (l := [0, 1]) (c := _) (fun i h => h) h (by kernel_rfl) (AllP.nil) ?_
  intro a w h
  refine wp_seq ?_
  refine wp_reg_seq tok (orc := orcL []) (fz := []) (l := [0, 1, 12]) (c := _) (fun i h => h) h (by kernel_rfl) (AllP.nil) ?_
  intro a w h
  refine wp_if h (b := (decide (((List.length x1 : Int) : Int) > (1048576 : Int)))) (by kernel_rfl) (fun hb => ?_) (fun hb => ?_)
  · replace hF := of_t hb hF
    refine wp_reg_seq tok (orc := orcL []) (fz := []) (l := [4]) (c := _) (fun i h => h) h (by kernel_rfl) (AllP.nil) ?_
    intro a w h
    cases hF
    exact wp_ret (ret_okR tok h rfl (by kernel_rfl)).1
  · replace hF := of_f hb hF
    refine wp_skip ?_
    refine wp_reg_seq tok (orc := orcL []) (fz := []) (l := [0, 1, 5]) (c := _) (fun i h => h) h (by kernel_rfl) (AllP.nil) ?_
    intro a w h
    obtain ⟨r1, hr22, hF⟩ := of_bind hF
    refine wp_reg_seq tok (orc := orcL [(15, [⟨(.int .i64), r1⟩])]) (fz := []) (l := [0, 1, 5]) (c := _) (fun i h => h) h (by kernel_rfl) (AllP.cons (c23 k x0 (1048576 : Int) r1 hr22) AllP.nil) ?_
    intro a w h
    refine wp_seq ?_
    refine wp_reg_seq tok (orc := orcL []) (fz := []) (l := [0, 1, 17]) (c := _) (fun i h => h) h (by kernel_rfl) (AllP.nil) ?_
    intro a w h
    refine wp_if h (b := (decide ((r1 : Int) < (0 : Int)))) (by kernel_rfl) (fun hb => ?_) (fun hb => ?_)
    · replace hF := of_t hb hF
      refine wp_reg_seq tok (orc := orcL []) (fz := []) (l := [4]) (c := _) (fun i h => h) h (by kernel_rfl) (AllP.nil) ?_
      intro a w h
      cases hF
      exact wp_ret (ret_okR tok h rfl (by kernel_rfl)).1
    · replace hF := of_f hb hF
      refine wp_skip ?_
      obtain ⟨r2, hr19, hF⟩ := of_bind hF
      obtain ⟨r3, hr20, hF⟩ := of_bind hF
      obtain ⟨r4, hr21, hF⟩ := of_bind hF
      refine wp_reg_seq tok (orc := orcL [(19, [⟨sh3, r2⟩]), (21, [⟨(.sl true 2 (.int .i64)), r3⟩]), (22, [⟨.bool, r4⟩])]) (fz := []) (l := [0, 1, 6]) (c := _) (fun i h => h) h (by kernel_rfl) (AllP.cons (c25 k x0 r2 hr19) (AllP.cons (c39 k x1 r3 hr20) (AllP.cons (c49 k r2 r3 r4 hr21) AllP.nil))) ?_
      intro a w h
      obtain ⟨r5, hr18, hF⟩ := of_bind hF
      refine wp_reg_seq tok (orc := orcL [(24, [⟨sh3, r5⟩])]) (fz := []) (l := [0, 1, 6, 7]) (c := _) (fun i h => h) h (by kernel_rfl) (AllP.cons (c25 k x0 r5 hr18) AllP.nil) ?_
      intro a w h
      obtain ⟨r6, hr17, hF⟩ := of_bind hF
      refine wp_reg_seq tok (orc := orcL [(26, [⟨(.sl true 2 (.int .i64)), r6⟩])]) (fz := []) (l := [0, 1, 6, 7, 8]) (c := _) (fun i h => h) h (by kernel_rfl) (AllP.cons (c39 k x1 r6 hr17) AllP.nil) ?_
      intro a w h
      obtain ⟨r7, hr16, hF⟩ := of_bind hF
      refine wp_reg_seq tok (orc := orcL [(29, [⟨.bool, r7⟩])]) (fz := []) (l := [0, 1, 6, 7, 8, 9]) (c := _) (fun i h => h) h (by kernel_rfl) (AllP.cons (c50 k r5 r6 r7 hr16) AllP.nil) ?_
      intro a w h
      refine wp_seq ?_
      refine wp_reg_seq tok (orc := orcL []) (fz := []) (l := [0, 1, 7, 8, 32]) (c := _) (fun i h => h) h (by kernel_rfl) (AllP.nil) ?_
      intro a w h
      refine wp_if h (b := (!((r7 : Bool) == r4))) (by kernel_rfl) (fun hb => ?_) (fun hb => ?_)
      · replace hF := of_t hb hF
        refine wp_reg_seq tok (orc := orcL []) (fz := []) (l := [4]) (c := _) (fun i h => h) h (by kernel_rfl) (AllP.nil) ?_
        intro a w h
        cases hF
        exact wp_ret (ret_okR tok h rfl (by kernel_rfl)).1
      · replace hF := of_f hb hF
        refine wp_skip ?_
        refine wp_seq ?_
        obtain ⟨r8, hr14, hF⟩ := of_bind hF
        obtain ⟨r9, hr15, hF⟩ := of_bind hF
        refine wp_reg_seq tok (orc := orcL [(35, [⟨sh3, r8⟩]), (36, [⟨.bool, r9⟩])]) (fz := []) (l := [1, 8, 37]) (c := _) (fun i h => h) h (by kernel_rfl) (AllP.cons (c25 k x0 r8 hr14) (AllP.cons (c27 k r5 r8 r9 hr15) AllP.nil)) ?_
        intro a w h
        refine wp_if h (b := (!r9)) (by kernel_rfl) (fun hb => ?_) (fun hb => ?_)
        · replace hF := of_t hb hF
          refine wp_reg_seq tok (orc := orcL []) (fz := []) (l := [4]) (c := _) (fun i h => h) h (by kernel_rfl) (AllP.nil) ?_
          intro a w h
          cases hF
          exact wp_ret (ret_okR tok h rfl (by kernel_rfl)).1
        · replace hF := of_f hb hF
          refine wp_skip ?_
          refine wp_seq ?_
          obtain ⟨r10, hr12, hF⟩ := of_bind hF
          obtain ⟨r11, hr13, hF⟩ := of_bind hF
          refine wp_reg_seq tok (orc := orcL [(40, [⟨(.sl true 2 (.int .i64)), r10⟩]), (41, [⟨.bool, r11⟩])]) (fz := []) (l := [42]) (c := _) (fun i h => h) h (by kernel_rfl) (AllP.cons (c39 k x1 r10 hr12) (AllP.cons (c41 k r6 r10 r11 hr13) AllP.nil)) ?_
          intro a w h
          refine wp_if h (b := (!r11)) (by kernel_rfl) (fun hb => ?_) (fun hb => ?_)
          · replace hF := of_t hb hF
            refine wp_reg_seq tok (orc := orcL []) (fz := []) (l := [4]) (c := _) (fun i h => h) h (by kernel_rfl) (AllP.nil) ?_
            intro a w h
            cases hF
            exact wp_ret (ret_okR tok h rfl (by kernel_rfl)).1
          · replace hF := of_f hb hF
            refine wp_skip ?_
            refine wp_reg_seq tok (orc := orcL []) (fz := []) (l := [4]) (c := _) (fun i h => h) h (by kernel_rfl) (AllP.nil) ?_
            intro a w h
            cases hF
            exact wp_ret (ret_okR tok h rfl (by kernel_rfl)).1
end Go.Proofs.Ytijlnlonlmcdoaa.V
