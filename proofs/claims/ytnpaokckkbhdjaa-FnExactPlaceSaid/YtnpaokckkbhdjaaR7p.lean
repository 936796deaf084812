/-
  THE CONTRACTS OF SOME FUNCTIONS OF THIS SEAT, PRINTED BY A PROGRAM OF THIS PROJECT (wip/gen/vgen.py).
-/
import Derived.Test.YtnpaokckkbhdjaaProg
import Derived.Test.YtnpaokckkbhdjaaVmW
import Derived.Test.YtnpaokckkbhdjaaVmSr
import Derived.KernelRfl
import Derived.Test.YtnpaokckkbhdjaaSoH
set_option linter.unusedVariables false
open Go Go.Vm Go.Proofs
namespace Go.Proofs.Ytnpaokckkbhdjaa.V
abbrev sh0 : Sh := (.sl false 110 (.st (.pair (.int .i64) (.pair (.st (.pair (.int .i64) (.int .i64))) (.pair (.int .i64) (.pair (.int .i64) (.int .i64)))))))
abbrev sh1 : Sh := (.st (.pair (.int .i64) (.int .i64)))
abbrev sh2 : Sh := (.st (.pair (.int .i64) (.pair (.st (.pair (.int .i64) (.int .i64))) (.pair (.int .i64) (.pair (.int .i64) (.int .i64))))))
abbrev sh3 : Sh := (.sl true 54 (.st (.pair (.int .i64) (.pair (.st (.pair (.int .i64) (.int .i64))) (.pair (.int .i64) (.pair (.int .i64) (.int .i64)))))))
abbrev sh4 : Sh := (.sl false 54 (.st (.pair (.int .i64) (.pair (.st (.pair (.int .i64) (.int .i64))) (.pair (.int .i64) (.pair (.int .i64) (.int .i64)))))))
abbrev sh5 : Sh := (.pt true 54 (.st (.pair (.int .i64) (.pair (.st (.pair (.int .i64) (.int .i64))) (.pair (.int .i64) (.pair (.int .i64) (.int .i64)))))))
abbrev sh6 : Sh := (.mp true (.int .i64) .bool)
abbrev sh7 : Sh := (.pt true 111 (.mp true (.int .i64) .bool))
abbrev sh8 : Sh := (.pt false 0 (.mp false (.int .i64) .bool))
abbrev sh9 : Sh := (.pt false 0 (.fn 72 (.pair (.pt false 0 (.mp false (.int .i64) .bool)) .unit)))
abbrev sh10 : Sh := (.pt false 0 (.sl false 54 (.st (.pair (.int .i64) (.pair (.st (.pair (.int .i64) (.int .i64))) (.pair (.int .i64) (.pair (.int .i64) (.int .i64))))))))
abbrev sh11 : Sh := (.pt true 26 (.sl true 54 (.st (.pair (.int .i64) (.pair (.st (.pair (.int .i64) (.int .i64))) (.pair (.int .i64) (.pair (.int .i64) (.int .i64))))))))
abbrev sh12 : Sh := (.pt true 23 (.sl true 2 (.int .i64)))
abbrev sh13 : Sh := (.pt false 0 (.sl false 2 (.int .i64)))
def tbl : Tbl := [⟨2, .int .i64, 1, 8, (.int .i64)⟩,
  ⟨3, .int .i64, 1, 8, (.int .i64)⟩,
  ⟨4, .bool, 1, 1, .bool⟩,
  ⟨22, .slice 110, 1, 24, (.sl true 110 (.st (.pair (.int .i64) (.pair (.st (.pair (.int .i64) (.int .i64))) (.pair (.int .i64) (.pair (.int .i64) (.int .i64)))))))⟩,
  ⟨23, .slice 2, 1, 24, (.sl true 2 (.int .i64))⟩,
  ⟨26, .slice 54, 1, 24, (.sl true 54 (.st (.pair (.int .i64) (.pair (.st (.pair (.int .i64) (.int .i64))) (.pair (.int .i64) (.pair (.int .i64) (.int .i64)))))))⟩,
  ⟨52, .struct [(2, 0), (2, 1)], 2, 16, (.st (.pair (.int .i64) (.int .i64)))⟩,
  ⟨54, .struct [(2, 0), (52, 1), (2, 3), (2, 4), (2, 5)], 6, 48, (.st (.pair (.int .i64) (.pair (.st (.pair (.int .i64) (.int .i64))) (.pair (.int .i64) (.pair (.int .i64) (.int .i64))))))⟩,
  ⟨108, .struct [(2, 0), (2, 1)], 2, 16, (.st (.pair (.int .i64) (.int .i64)))⟩,
  ⟨110, .struct [(2, 0), (108, 1), (2, 3), (2, 4), (2, 5)], 6, 48, (.st (.pair (.int .i64) (.pair (.st (.pair (.int .i64) (.int .i64))) (.pair (.int .i64) (.pair (.int .i64) (.int .i64))))))⟩,
  ⟨111, .map 2 4, 1, 8, (.mp true (.int .i64) .bool)⟩,
  ⟨112, .other, 1, 8, .raw⟩,
  ⟨183, .slice 3, 1, 24, (.sl true 3 (.int .i64))⟩]
theorem tok : TOk Try.prog tbl := by unfold TOk; kernel_rfl

def f11 (k : Nat) (x0 : (List (Int × ((Int × Int) × (Int × (Int × Int)))))) (x1 : Int) : Option Int := if (decide (((IntKind.i64.wrap (x1 - (List.length x0 : Int))) : Int) < (0 : Int))) then (some (-1 : Int)) else (some (IntKind.i64.wrap (x1 - (List.length x0 : Int))))
set_option maxRecDepth 100000 in
/-- 'laws.szLabelS'. -/
theorem c11 (k : Nat) (x0 : (List (Int × ((Int × Int) × (Int × (Int × Int)))))) (x1 : Int) (r : Int) (hF : f11 k x0 x1 = some r) : PCall Try.prog 11 [⟨sh0, x0⟩, ⟨(.int .i64), x1⟩] [⟨(.int .i64), r⟩] := by
  refine pcall_intro Try.func11 rfl rfl (Nat.le_of_ble_eq_true rfl) ?_
  intro w0 Zi a w h
  rw [f11] at hF
  refine wp_reg_seq tok (orc := orcL []) (fz := []) (l := [0, 1]) (c := _) (.inr fun i h => h) h (by kernel_rfl) (AllP.nil) ?_
  intro a w h
  refine wp_reg_seq tok (orc := orcL []) (fz := []) (l := [1]) (c := _) (.inr fun i h => h) h (by kernel_rfl) (AllP.nil) ?_
  intro a w h
  refine wp_seq ?_
  refine wp_reg_seq tok (orc := orcL []) (fz := []) (l := [1, 10]) (c := _) (.inr fun i h => h) h (by kernel_rfl) (AllP.nil) ?_
  intro a w h
  refine wp_if h (b := (decide (((IntKind.i64.wrap (x1 - (List.length x0 : Int))) : Int) < (0 : Int)))) (by kernel_rfl) (fun hb => ?_) (fun hb => ?_)
  · replace hF := of_t hb hF
    refine wp_reg_seq tok (orc := orcL []) (fz := []) (l := [4]) (c := _) (.inr fun i h => h) h (by kernel_rfl) (AllP.nil) ?_
    intro a w h
    cases hF
    exact wp_ret (ret_okR tok h rfl (by kernel_rfl)).1
  · replace hF := of_f hb hF
    refine wp_skip ?_
    refine wp_reg_seq tok (orc := orcL []) (fz := []) (l := [4]) (c := _) (.inr fun i h => h) h (by kernel_rfl) (AllP.nil) ?_
    intro a w h
    cases hF
    exact wp_ret (ret_okR tok h rfl (by kernel_rfl)).1

def f137 (k : Nat) (x0 : (Int × Int)) : Option (Int × Int) := some (x0.1, x0.2)
set_option maxRecDepth 100000 in
/-- 'laws.toPoint'. -/
theorem c137 (k : Nat) (x0 : (Int × Int)) (r : (Int × Int)) (hF : f137 k x0 = some r) : PCall Try.prog 137 [⟨sh1, x0⟩] [⟨sh1, r⟩] := by
  refine pcall_intro Try.func137 rfl rfl (Nat.le_of_ble_eq_true rfl) ?_
  intro w0 Zi a w h
  rw [f137] at hF
  refine wp_reg_seq tok (orc := orcL []) (fz := []) (l := [1, 2]) (c := _) (.inr fun i h => h) h (by kernel_rfl) (AllP.nil) ?_
  intro a w h
  refine wp_reg_seq tok (orc := orcL []) (fz := []) (l := [1, 2, 3]) (c := _) (.inr fun i h => h) h (by kernel_rfl) (AllP.nil) ?_
  intro a w h
  refine wp_reg_seq tok (orc := orcL []) (fz := []) (l := [1, 2, 3]) (c := _) (.inr fun i h => h) h (by kernel_rfl) (AllP.nil) ?_
  intro a w h
  refine wp_reg_seq tok (orc := orcL []) (fz := []) (l := [2, 3]) (c := _) (.inr fun i h => h) h (by kernel_rfl) (AllP.nil) ?_
  intro a w h
  refine wp_reg_seq tok (orc := orcL []) (fz := []) (l := [2]) (c := _) (.inr fun i h => h) h (by kernel_rfl) (AllP.nil) ?_
  intro a w h
  cases hF
  exact wp_ret (ret_okR tok h rfl (by kernel_rfl)).1

def f71 (k : Nat) (x0 : (Int × ((Int × Int) × (Int × (Int × Int))))) : Option (Int × ((Int × Int) × (Int × (Int × Int)))) := (f137 k x0.2.1).bind fun r1 => (some (x0.1, (r1, (x0.2.2.1, (x0.2.2.2.1, x0.2.2.2.2)))))
set_option maxRecDepth 100000 in
/-- 'laws.toLabel'. -/
theorem c71 (k : Nat) (x0 : (Int × ((Int × Int) × (Int × (Int × Int))))) (r : (Int × ((Int × Int) × (Int × (Int × Int))))) (hF : f71 k x0 = some r) : PCall Try.prog 71 [⟨sh2, x0⟩] [⟨sh2, r⟩] := by
  refine pcall_intro Try.func71 rfl rfl (Nat.le_of_ble_eq_true rfl) ?_
  intro w0 Zi a w h
  rw [f71] at hF
  refine wp_reg_seq tok (orc := orcL []) (fz := []) (l := [1, 2]) (c := _) (.inr fun i h => h) h (by kernel_rfl) (AllP.nil) ?_
  intro a w h
  refine wp_reg_seq tok (orc := orcL []) (fz := []) (l := [1, 2, 3]) (c := _) (.inr fun i h => h) h (by kernel_rfl) (AllP.nil) ?_
  intro a w h
  refine wp_reg_seq tok (orc := orcL []) (fz := []) (l := [1, 2, 3]) (c := _) (.inr fun i h => h) h (by kernel_rfl) (AllP.nil) ?_
  intro a w h
  obtain ⟨r1, hr2, hF⟩ := of_bind hF
  refine wp_reg_seq tok (orc := orcL [(9, [⟨sh1, r1⟩])]) (fz := []) (l := [1, 2, 3]) (c := _) (.inr fun i h => h) h (by kernel_rfl) (AllP.cons (c137 k x0.2.1 r1 hr2) AllP.nil) ?_
  intro a w h
  refine wp_reg_seq tok (orc := orcL []) (fz := []) (l := [1, 2, 3]) (c := _) (.inr fun i h => h) h (by kernel_rfl) (AllP.nil) ?_
  intro a w h
  refine wp_reg_seq tok (orc := orcL []) (fz := []) (l := [1, 2, 3]) (c := _) (.inr fun i h => h) h (by kernel_rfl) (AllP.nil) ?_
  intro a w h
  refine wp_reg_seq tok (orc := orcL []) (fz := []) (l := [2, 3]) (c := _) (.inr fun i h => h) h (by kernel_rfl) (AllP.nil) ?_
  intro a w h
  refine wp_reg_seq tok (orc := orcL []) (fz := []) (l := [2]) (c := _) (.inr fun i h => h) h (by kernel_rfl) (AllP.nil) ?_
  intro a w h
  cases hF
  exact wp_ret (ret_okR tok h rfl (by kernel_rfl)).1

def f13.l34 (k : Nat) (x0 : (List (Int × ((Int × Int) × (Int × (Int × Int)))))) : Nat → ((List (Int × ((Int × Int) × (Int × (Int × Int))))) × Int) → Option (List (Int × ((Int × Int) × (Int × (Int × Int)))))
  | 0, _ => none
  | m34 + 1, (v57, v58) => if (decide ((v58 : Int) < (List.length x0 : Int))) then (if (0 ≤ v58 ∧ v58 < (List.length x0 : Int)) then ((f71 k (List.getD x0 (Int.toNat v58) ((0 : Int), (((0 : Int), (0 : Int)), ((0 : Int), ((0 : Int), (0 : Int))))))).bind fun r63 => (if (0 ≤ v58 ∧ v58 < (List.length v57 : Int)) then ((f13.l34 k x0) m34 ((List.set v57 (Int.toNat v58) r63), (IntKind.i64.wrap (v58 + (1 : Int))))) else none)) else none) else (some v57)
def f13 (k : Nat) (x0 : (List (Int × ((Int × Int) × (Int × (Int × Int)))))) : Option (List (Int × ((Int × Int) × (Int × (Int × Int))))) := if (0 ≤ (List.length x0 : Int) ∧ Int.toNat (List.length x0 : Int) * 48 ≤ 140737488355328) then (f13.l34 k x0 k ((List.replicate (Int.toNat (List.length x0 : Int)) ((0 : Int), (((0 : Int), (0 : Int)), ((0 : Int), ((0 : Int), (0 : Int)))))), (0 : Int))) else none
set_option maxRecDepth 100000 in
/-- 'laws.toLabelS'. -/
theorem c13 (k : Nat) (x0 : (List (Int × ((Int × Int) × (Int × (Int × Int)))))) (r : (List (Int × ((Int × Int) × (Int × (Int × Int)))))) (hF : f13 k x0 = some r) : PCall Try.prog 13 [⟨sh0, x0⟩] [⟨sh3, r⟩] := by
  refine pcall_intro Try.func13 rfl rfl (Nat.le_of_ble_eq_true rfl) ?_
  intro w0 Zi a w h
  rw [f13] at hF
  refine wp_reg_seq tok (orc := orcL []) (fz := []) (l := [0]) (c := _) (.inr fun i h => h) h (by kernel_rfl) (AllP.nil) ?_
  intro a w h
  obtain ⟨hc67, hF⟩ := of_if hF
  refine wp_reg_seq tok (orc := orcL []) (fz := []) (l := [0, 3]) (c := _) (.inr fun i h => h) h (by kernel_rfl) (AllP.cons hc67 AllP.nil) ?_
  intro a w h
  refine wp_seq ?_
  refine wp_reg_seq tok (orc := orcL []) (fz := []) (l := [0, 3, 4]) (c := _) (.inr fun i h => h) h (by kernel_rfl) (AllP.nil) ?_
  intro a w h
  refine wp_block ?_
  refine wp_loop_fuel (f13.l34 k x0) (fun ((v57, v58) : ((List (Int × ((Int × Int) × (Int × (Int × Int))))) × Int)) => [(0, .val sh0 x0), (3, .val sh3 v57), (4, .val (.int .i64) v58)]) (fun v h => by obtain ⟨v57, v58⟩ := v; rw [f13.l34] at h; cases h) ?_ hF (h.arrive (fz := []) (l := [0, 3, 4]) (.inr fun i h => h) (by kernel_rfl))
  intro m34 v a w hF h
  obtain ⟨v57, v58⟩ := v
  rw [f13.l34] at hF
  refine wp_seq ?_
  refine wp_reg_seq tok (orc := orcL []) (fz := []) (l := [0, 3, 4, 11]) (c := _) (.inr fun i h => h) h (by kernel_rfl) (AllP.nil) ?_
  intro a w h
  refine wp_if h (b := (decide ((v58 : Int) < (List.length x0 : Int)))) (by kernel_rfl) (fun hb => ?_) (fun hb => ?_)
  · replace hF := of_t hb hF
    refine wp_skip ?_
    refine wp_seq <| wp_block ?_
    obtain ⟨hc64, hF⟩ := of_if hF
    obtain ⟨r63, hr65, hF⟩ := of_bind hF
    obtain ⟨hc66, hF⟩ := of_if hF
    refine wp_reg tok (orc := orcL [(20, [⟨sh2, r63⟩])]) (fz := []) (l := [0, 3, 4]) (c := _) (.inr fun i h => h) h (by kernel_rfl) (AllP.cons hc64 (AllP.cons (c71 k (List.getD x0 (Int.toNat v58) ((0 : Int), (((0 : Int), (0 : Int)), ((0 : Int), ((0 : Int), (0 : Int)))))) r63 hr65) (AllP.cons hc66 AllP.nil))) ?_
    intro a w h
    refine wp_reg tok (orc := orcL []) (fz := []) (l := [0, 3, 4]) (c := _) (.inr fun i h => h) h (by kernel_rfl) (AllP.nil) ?_
    intro a w h
    exact ⟨((List.set v57 (Int.toNat v58) r63), (IntKind.i64.wrap (v58 + (1 : Int)))), hF, h.arrive (fz := []) (l := [0, 3, 4]) (.inr fun i h => h) (by kernel_rfl)⟩
  · replace hF := of_f hb hF
    refine wp_exit ?_
    refine wp_reg_seq tok (orc := orcL []) (fz := []) (l := [2, 3]) (c := _) (.inr fun i h => h) h (by kernel_rfl) (AllP.nil) ?_
    intro a w h
    cases hF
    exact wp_ret (ret_okR tok h rfl (by kernel_rfl)).1

def f14.l22 (k : Nat) (x0 : (List Int)) : Nat → ((List Int) × Int) → Option (List Int)
  | 0, _ => none
  | m22 + 1, (v37, v38) => if (decide ((v38 : Int) < (List.length x0 : Int))) then (if (0 ≤ v38 ∧ v38 < (List.length x0 : Int)) then (if (0 ≤ v38 ∧ v38 < (List.length v37 : Int)) then ((f14.l22 k x0) m22 ((List.set v37 (Int.toNat v38) (List.getD x0 (Int.toNat v38) (0 : Int))), (IntKind.i64.wrap (v38 + (1 : Int))))) else none) else none) else (some v37)
def f14 (k : Nat) (x0 : (List Int)) : Option (List Int) := if (0 ≤ (List.length x0 : Int) ∧ Int.toNat (List.length x0 : Int) * 8 ≤ 140737488355328) then (f14.l22 k x0 k ((List.replicate (Int.toNat (List.length x0 : Int)) (0 : Int)), (0 : Int))) else none
set_option maxRecDepth 100000 in
/-- 'laws.toInt64S'. -/
theorem c14 (k : Nat) (x0 : (List Int)) (r : (List Int)) (hF : f14 k x0 = some r) : PCall Try.prog 14 [⟨(.sl false 2 (.int .i64)), x0⟩] [⟨(.sl true 2 (.int .i64)), r⟩] := by
  refine pcall_intro Try.func14 rfl rfl (Nat.le_of_ble_eq_true rfl) ?_
  intro w0 Zi a w h
  rw [f14] at hF
  refine wp_reg_seq tok (orc := orcL []) (fz := []) (l := [0]) (c := _) (.inr fun i h => h) h (by kernel_rfl) (AllP.nil) ?_
  intro a w h
  obtain ⟨hc43, hF⟩ := of_if hF
  refine wp_reg_seq tok (orc := orcL []) (fz := []) (l := [0, 3]) (c := _) (.inr fun i h => h) h (by kernel_rfl) (AllP.cons hc43 AllP.nil) ?_
  intro a w h
  refine wp_seq ?_
  refine wp_reg_seq tok (orc := orcL []) (fz := []) (l := [0, 3, 4]) (c := _) (.inr fun i h => h) h (by kernel_rfl) (AllP.nil) ?_
  intro a w h
  refine wp_block ?_
  refine wp_loop_fuel (f14.l22 k x0) (fun ((v37, v38) : ((List Int) × Int)) => [(0, .val (.sl false 2 (.int .i64)) x0), (3, .val (.sl true 2 (.int .i64)) v37), (4, .val (.int .i64) v38)]) (fun v h => by obtain ⟨v37, v38⟩ := v; rw [f14.l22] at h; cases h) ?_ hF (h.arrive (fz := []) (l := [0, 3, 4]) (.inr fun i h => h) (by kernel_rfl))
  intro m22 v a w hF h
  obtain ⟨v37, v38⟩ := v
  rw [f14.l22] at hF
  refine wp_seq ?_
  refine wp_reg_seq tok (orc := orcL []) (fz := []) (l := [0, 3, 4, 11]) (c := _) (.inr fun i h => h) h (by kernel_rfl) (AllP.nil) ?_
  intro a w h
  refine wp_if h (b := (decide ((v38 : Int) < (List.length x0 : Int)))) (by kernel_rfl) (fun hb => ?_) (fun hb => ?_)
  · replace hF := of_t hb hF
    refine wp_skip ?_
    refine wp_seq <| wp_block ?_
    obtain ⟨hc41, hF⟩ := of_if hF
    obtain ⟨hc42, hF⟩ := of_if hF
    refine wp_reg tok (orc := orcL []) (fz := []) (l := [0, 3, 4]) (c := _) (.inr fun i h => h) h (by kernel_rfl) (AllP.cons hc41 (AllP.cons hc42 AllP.nil)) ?_
    intro a w h
    refine wp_reg tok (orc := orcL []) (fz := []) (l := [0, 3, 4]) (c := _) (.inr fun i h => h) h (by kernel_rfl) (AllP.nil) ?_
    intro a w h
    exact ⟨((List.set v37 (Int.toNat v38) (List.getD x0 (Int.toNat v38) (0 : Int))), (IntKind.i64.wrap (v38 + (1 : Int)))), hF, h.arrive (fz := []) (l := [0, 3, 4]) (.inr fun i h => h) (by kernel_rfl)⟩
  · replace hF := of_f hb hF
    refine wp_exit ?_
    refine wp_reg_seq tok (orc := orcL []) (fz := []) (l := [2, 3]) (c := _) (.inr fun i h => h) h (by kernel_rfl) (AllP.nil) ?_
    intro a w h
    cases hF
    exact wp_ret (ret_okR tok h rfl (by kernel_rfl)).1

def f149 (k : Nat) (x0 : Int) : Option Bool := some (bif (decide ((x0 : Int) ≥ (1 : Int))) then (decide ((x0 : Int) ≤ (1000000000 : Int))) else false)
set_option maxRecDepth 100000 in
/-- 'spec.l2IdOk'. -/
theorem c149 (k : Nat) (x0 : Int) (r : Bool) (hF : f149 k x0 = some r) : PCall Try.prog 149 [⟨(.int .i64), x0⟩] [⟨.bool, r⟩] := by
  refine pcall_intro Try.func149 rfl rfl (Nat.le_of_ble_eq_true rfl) ?_
  intro w0 Zi a w h
  rw [f149] at hF
  refine wp_reg_seq tok (orc := orcL []) (fz := []) (l := [0]) (c := _) (.inr fun i h => h) h (by kernel_rfl) (AllP.nil) ?_
  intro a w h
  refine wp_reg_seq tok (orc := orcL []) (fz := []) (l := [2]) (c := _) (.inr fun i h => h) h (by kernel_rfl) (AllP.nil) ?_
  intro a w h
  cases hF
  exact wp_ret (ret_okR tok h rfl (by kernel_rfl)).1

def f150 (k : Nat) (x0 : (Int × Int)) : Option Bool := some (bif (bif (bif (decide ((x0.1 : Int) ≥ (-10000000 : Int))) then (decide ((x0.1 : Int) ≤ (10000000 : Int))) else false) then (decide ((x0.2 : Int) ≥ (-10000000 : Int))) else false) then (decide ((x0.2 : Int) ≤ (10000000 : Int))) else false)
set_option maxRecDepth 100000 in
/-- 'spec.PointOk'. -/
theorem c150 (k : Nat) (x0 : (Int × Int)) (r : Bool) (hF : f150 k x0 = some r) : PCall Try.prog 150 [⟨sh1, x0⟩] [⟨.bool, r⟩] := by
  refine pcall_intro Try.func150 rfl rfl (Nat.le_of_ble_eq_true rfl) ?_
  intro w0 Zi a w h
  rw [f150] at hF
  refine wp_reg_seq tok (orc := orcL []) (fz := []) (l := [1]) (c := _) (.inr fun i h => h) h (by kernel_rfl) (AllP.nil) ?_
  intro a w h
  refine wp_reg_seq tok (orc := orcL []) (fz := []) (l := [2]) (c := _) (.inr fun i h => h) h (by kernel_rfl) (AllP.nil) ?_
  intro a w h
  cases hF
  exact wp_ret (ret_okR tok h rfl (by kernel_rfl)).1

def f132 (k : Nat) (x0 : (Int × ((Int × Int) × (Int × (Int × Int))))) : Option Bool := (f149 k x0.1).bind fun r1 => ((if (r1 = true) then f150 k x0.2.1 else some default).bind fun r2 => (some (bif (bif (bif (bif (bif (bif (bif r1 then r2 else false) then (decide ((x0.2.2.1 : Int) ≥ (1 : Int))) else false) then (decide ((x0.2.2.1 : Int) ≤ (100000 : Int))) else false) then (decide ((x0.2.2.2.1 : Int) ≥ (1 : Int))) else false) then (decide ((x0.2.2.2.1 : Int) ≤ (100000 : Int))) else false) then (decide ((x0.2.2.2.2 : Int) ≥ (0 : Int))) else false) then (decide ((x0.2.2.2.2 : Int) ≤ (1000 : Int))) else false)))
set_option maxRecDepth 100000 in
/-- 'spec.l8Ok'. -/
theorem c132 (k : Nat) (x0 : (Int × ((Int × Int) × (Int × (Int × Int))))) (r : Bool) (hF : f132 k x0 = some r) : PCall Try.prog 132 [⟨sh2, x0⟩] [⟨.bool, r⟩] := by
  refine pcall_intro Try.func132 rfl rfl (Nat.le_of_ble_eq_true rfl) ?_
  intro w0 Zi a w h
  rw [f132] at hF
  refine wp_reg_seq tok (orc := orcL []) (fz := []) (l := [1]) (c := _) (.inr fun i h => h) h (by kernel_rfl) (AllP.nil) ?_
  intro a w h
  obtain ⟨r1, hr3, hF⟩ := of_bind hF
  obtain ⟨r2, hr4, hF⟩ := of_bind hF
  refine wp_reg_seq tok (orc := orcL [(5, [⟨.bool, r1⟩]), (9, [⟨.bool, r2⟩])]) (fz := []) (l := [2]) (c := _) (.inr fun i h => h) h (by kernel_rfl) (AllP.cons (c149 k x0.1 r1 hr3) (AllP.cons (fun (hg : (r1 = true)) => c150 k x0.2.1 r2 (of_g hg hr4)) AllP.nil)) ?_
  intro a w h
  cases hF
  exact wp_ret (ret_okR tok h rfl (by kernel_rfl)).1

def f133.l12 (k : Nat) (x0 : (List (Int × ((Int × Int) × (Int × (Int × Int)))))) (x1 : Int) : Nat → Int → Option Int
  | 0, _ => none
  | m12 + 1, v20 => if (decide ((v20 : Int) < (List.length x0 : Int))) then (if (0 ≤ v20 ∧ v20 < (List.length x0 : Int)) then (if (((List.getD x0 (Int.toNat v20) ((0 : Int), (((0 : Int), (0 : Int)), ((0 : Int), ((0 : Int), (0 : Int)))))).1 : Int) == x1) then (some v20) else ((f133.l12 k x0 x1) m12 (IntKind.i64.wrap (v20 + (1 : Int))))) else none) else (some (-1 : Int))
def f133 (k : Nat) (x0 : (List (Int × ((Int × Int) × (Int × (Int × Int)))))) (x1 : Int) : Option Int := f133.l12 k x0 x1 k (0 : Int)
set_option maxRecDepth 100000 in
/-- 'spec.l8Find'. -/
theorem c133 (k : Nat) (x0 : (List (Int × ((Int × Int) × (Int × (Int × Int)))))) (x1 : Int) (r : Int) (hF : f133 k x0 x1 = some r) : PCall Try.prog 133 [⟨sh4, x0⟩, ⟨(.int .i64), x1⟩] [⟨(.int .i64), r⟩] := by
  refine pcall_intro Try.func133 rfl rfl (Nat.le_of_ble_eq_true rfl) ?_
  intro w0 Zi a w h
  rw [f133] at hF
  refine wp_reg_seq tok (orc := orcL []) (fz := []) (l := [0, 1]) (c := _) (.inr fun i h => h) h (by kernel_rfl) (AllP.nil) ?_
  intro a w h
  refine wp_seq ?_
  refine wp_reg_seq tok (orc := orcL []) (fz := []) (l := [0, 1, 5]) (c := _) (.inr fun i h => h) h (by kernel_rfl) (AllP.nil) ?_
  intro a w h
  refine wp_block ?_
  refine wp_loop_fuel (f133.l12 k x0 x1) (fun (v20 : Int) => [(0, .val sh4 x0), (1, .val (.int .i64) x1), (5, .val (.int .i64) v20)]) (fun v h => by rw [f133.l12] at h; cases h) ?_ hF (h.arrive (fz := []) (l := [0, 1, 5]) (.inr fun i h => h) (by kernel_rfl))
  intro m12 v20 a w hF h
  rw [f133.l12] at hF
  refine wp_seq ?_
  refine wp_reg_seq tok (orc := orcL []) (fz := []) (l := [0, 1, 5, 9]) (c := _) (.inr fun i h => h) h (by kernel_rfl) (AllP.nil) ?_
  intro a w h
  refine wp_if h (b := (decide ((v20 : Int) < (List.length x0 : Int)))) (by kernel_rfl) (fun hb => ?_) (fun hb => ?_)
  · replace hF := of_t hb hF
    refine wp_skip ?_
    refine wp_seq <| wp_block ?_
    obtain ⟨hc22, hF⟩ := of_if hF
    refine wp_reg_seq tok (orc := orcL []) (fz := []) (l := [0, 1, 5, 18]) (c := _) (.inr fun i h => h) h (by kernel_rfl) (AllP.cons hc22 AllP.nil) ?_
    intro a w h
    refine wp_if h (b := (((List.getD x0 (Int.toNat v20) ((0 : Int), (((0 : Int), (0 : Int)), ((0 : Int), ((0 : Int), (0 : Int)))))).1 : Int) == x1)) (by kernel_rfl) (fun hb => ?_) (fun hb => ?_)
    · replace hF := of_t hb hF
      refine wp_reg_seq tok (orc := orcL []) (fz := []) (l := [4]) (c := _) (.inr fun i h => h) h (by kernel_rfl) (AllP.nil) ?_
      intro a w h
      cases hF
      exact wp_ret (ret_okR tok h rfl (by kernel_rfl)).1
    · replace hF := of_f hb hF
      refine wp_skip ?_
      refine wp_reg tok (orc := orcL []) (fz := []) (l := [0, 1, 5]) (c := _) (.inr fun i h => h) h (by kernel_rfl) (AllP.nil) ?_
      intro a w h
      exact ⟨(IntKind.i64.wrap (v20 + (1 : Int))), hF, h.arrive (fz := []) (l := [0, 1, 5]) (.inr fun i h => h) (by kernel_rfl)⟩
  · replace hF := of_f hb hF
    refine wp_exit ?_
    refine wp_reg_seq tok (orc := orcL []) (fz := []) (l := [4]) (c := _) (.inr fun i h => h) h (by kernel_rfl) (AllP.nil) ?_
    intro a w h
    cases hF
    exact wp_ret (ret_okR tok h rfl (by kernel_rfl)).1

def f69.l48 (k : Nat) (x0 : (List (Int × ((Int × Int) × (Int × (Int × Int)))))) : Nat → Int → Option Bool
  | 0, _ => none
  | m48 + 1, v80 => if (decide ((v80 : Int) < (List.length x0 : Int))) then (if (0 ≤ v80 ∧ v80 < (List.length x0 : Int)) then ((f132 k (List.getD x0 (Int.toNat v80) ((0 : Int), (((0 : Int), (0 : Int)), ((0 : Int), ((0 : Int), (0 : Int))))))).bind fun r88 => (if (((!r88) = false) → (True ∧ ((0 : Int) ≤ v80) ∧ 0 ≤ (Int.toNat v80) ∧ (Int.toNat v80) ≤ (List.length x0))) then (if (((!r88) = false) → (0 ≤ v80 ∧ v80 < (List.length x0 : Int))) then ((if ((!r88) = false) then f133 k (List.drop 0 (List.take (Int.toNat v80) x0)) (List.getD x0 (Int.toNat v80) ((0 : Int), (((0 : Int), (0 : Int)), ((0 : Int), ((0 : Int), (0 : Int)))))).1 else some default).bind fun r89 => (if (bif (!r88) then true else (decide ((r89 : Int) ≥ (0 : Int)))) then (some false) else ((f69.l48 k x0) m48 (IntKind.i64.wrap (v80 + (1 : Int)))))) else none) else none)) else none) else (some true)
def f69 (k : Nat) (x0 : (List (Int × ((Int × Int) × (Int × (Int × Int)))))) : Option Bool := if (decide (((List.length x0 : Int) : Int) > (500 : Int))) then (some false) else (f69.l48 k x0 k (0 : Int))
set_option maxRecDepth 100000 in
/-- 'spec.LabelsOk'. -/
theorem c69 (k : Nat) (x0 : (List (Int × ((Int × Int) × (Int × (Int × Int)))))) (r : Bool) (hF : f69 k x0 = some r) : PCall Try.prog 69 [⟨sh4, x0⟩] [⟨.bool, r⟩] := by
  refine pcall_intro Try.func69 rfl rfl (Nat.le_of_ble_eq_true rfl) ?_
  intro w0 Zi a w h
  rw [f69] at hF
  refine wp_reg_seq tok (orc := orcL []) (fz := []) (l := [0]) (c := _) (.inr fun i h => h) h (by kernel_rfl) (AllP.nil) ?_
  intro a w h
  refine wp_seq ?_
  refine wp_reg_seq tok (orc := orcL []) (fz := []) (l := [0, 6]) (c := _) (.inr fun i h => h) h (by kernel_rfl) (AllP.nil) ?_
  intro a w h
  refine wp_if h (b := (decide (((List.length x0 : Int) : Int) > (500 : Int)))) (by kernel_rfl) (fun hb => ?_) (fun hb => ?_)
  · replace hF := of_t hb hF
    refine wp_reg_seq tok (orc := orcL []) (fz := []) (l := [2]) (c := _) (.inr fun i h => h) h (by kernel_rfl) (AllP.nil) ?_
    intro a w h
    cases hF
    exact wp_ret (ret_okR tok h rfl (by kernel_rfl)).1
  · replace hF := of_f hb hF
    refine wp_skip ?_
    refine wp_seq ?_
    refine wp_reg_seq tok (orc := orcL []) (fz := []) (l := [0, 3]) (c := _) (.inr fun i h => h) h (by kernel_rfl) (AllP.nil) ?_
    intro a w h
    refine wp_block ?_
    refine wp_loop_fuel (f69.l48 k x0) (fun (v80 : Int) => [(0, .val sh4 x0), (3, .val (.int .i64) v80)]) (fun v h => by rw [f69.l48] at h; cases h) ?_ hF (h.arrive (fz := []) (l := [0, 3]) (.inr fun i h => h) (by kernel_rfl))
    intro m48 v80 a w hF h
    rw [f69.l48] at hF
    refine wp_seq ?_
    refine wp_reg_seq tok (orc := orcL []) (fz := []) (l := [0, 3, 10]) (c := _) (.inr fun i h => h) h (by kernel_rfl) (AllP.nil) ?_
    intro a w h
    refine wp_if h (b := (decide ((v80 : Int) < (List.length x0 : Int)))) (by kernel_rfl) (fun hb => ?_) (fun hb => ?_)
    · replace hF := of_t hb hF
      refine wp_skip ?_
      refine wp_seq <| wp_block ?_
      obtain ⟨hc90, hF⟩ := of_if hF
      obtain ⟨r88, hr91, hF⟩ := of_bind hF
      obtain ⟨hc92, hF⟩ := of_if hF
      obtain ⟨hc93, hF⟩ := of_if hF
      obtain ⟨r89, hr94, hF⟩ := of_bind hF
      refine wp_regy_seq tok (orc := orcL [(17, [⟨.bool, r88⟩]), (28, [⟨(.int .i64), r89⟩])]) (fz := []) (l := [0, 3, 30]) (c := _) ([], [], [], []) 18 (.inr fun i h => h) h (by kernel_rfl) (by kernel_rfl) (AllP.cons hc90 (AllP.cons (c132 k (List.getD x0 (Int.toNat v80) ((0 : Int), (((0 : Int), (0 : Int)), ((0 : Int), ((0 : Int), (0 : Int)))))) r88 hr91) (AllP.cons hc92 (AllP.cons hc93 (AllP.cons (fun (hg : ((!r88) = false)) => c133 k (List.drop 0 (List.take (Int.toNat v80) x0)) (List.getD x0 (Int.toNat v80) ((0 : Int), (((0 : Int), (0 : Int)), ((0 : Int), ((0 : Int), (0 : Int)))))).1 r89 (of_g hg hr94)) AllP.nil))))) ?_
      intro a w h
      refine wp_if h (b := (bif (!r88) then true else (decide ((r89 : Int) ≥ (0 : Int))))) (by kernel_rfl) (fun hb => ?_) (fun hb => ?_)
      · replace hF := of_t hb hF
        refine wp_reg_seq tok (orc := orcL []) (fz := []) (l := [2]) (c := _) (.inr fun i h => h) h (by kernel_rfl) (AllP.nil) ?_
        intro a w h
        cases hF
        exact wp_ret (ret_okR tok h rfl (by kernel_rfl)).1
      · replace hF := of_f hb hF
        refine wp_skip ?_
        refine wp_reg tok (orc := orcL []) (fz := []) (l := [0, 3]) (c := _) (.inr fun i h => h) h (by kernel_rfl) (AllP.nil) ?_
        intro a w h
        exact ⟨(IntKind.i64.wrap (v80 + (1 : Int))), hF, h.arrive (fz := []) (l := [0, 3]) (.inr fun i h => h) (by kernel_rfl)⟩
    · replace hF := of_f hb hF
      refine wp_exit ?_
      refine wp_reg_seq tok (orc := orcL []) (fz := []) (l := [2]) (c := _) (.inr fun i h => h) h (by kernel_rfl) (AllP.nil) ?_
      intro a w h
      cases hF
      exact wp_ret (ret_okR tok h rfl (by kernel_rfl)).1

def f174.l12 (k : Nat) (x0 : (List Int)) (x1 : Int) : Nat → Int → Option Bool
  | 0, _ => none
  | m12 + 1, v20 => if (decide ((v20 : Int) < (List.length x0 : Int))) then (if (0 ≤ v20 ∧ v20 < (List.length x0 : Int)) then (if (((List.getD x0 (Int.toNat v20) (0 : Int)) : Int) == x1) then (some true) else ((f174.l12 k x0 x1) m12 (IntKind.i64.wrap (v20 + (1 : Int))))) else none) else (some false)
def f174 (k : Nat) (x0 : (List Int)) (x1 : Int) : Option Bool := f174.l12 k x0 x1 k (0 : Int)
set_option maxRecDepth 100000 in
/-- 'spec.l2HasId'. -/
theorem c174 (k : Nat) (x0 : (List Int)) (x1 : Int) (r : Bool) (hF : f174 k x0 x1 = some r) : PCall Try.prog 174 [⟨(.sl false 2 (.int .i64)), x0⟩, ⟨(.int .i64), x1⟩] [⟨.bool, r⟩] := by
  refine pcall_intro Try.func174 rfl rfl (Nat.le_of_ble_eq_true rfl) ?_
  intro w0 Zi a w h
  rw [f174] at hF
  refine wp_reg_seq tok (orc := orcL []) (fz := []) (l := [0, 1]) (c := _) (.inr fun i h => h) h (by kernel_rfl) (AllP.nil) ?_
  intro a w h
  refine wp_seq ?_
  refine wp_reg_seq tok (orc := orcL []) (fz := []) (l := [0, 1, 5]) (c := _) (.inr fun i h => h) h (by kernel_rfl) (AllP.nil) ?_
  intro a w h
  refine wp_block ?_
  refine wp_loop_fuel (f174.l12 k x0 x1) (fun (v20 : Int) => [(0, .val (.sl false 2 (.int .i64)) x0), (1, .val (.int .i64) x1), (5, .val (.int .i64) v20)]) (fun v h => by rw [f174.l12] at h; cases h) ?_ hF (h.arrive (fz := []) (l := [0, 1, 5]) (.inr fun i h => h) (by kernel_rfl))
  intro m12 v20 a w hF h
  rw [f174.l12] at hF
  refine wp_seq ?_
  refine wp_reg_seq tok (orc := orcL []) (fz := []) (l := [0, 1, 5, 9]) (c := _) (.inr fun i h => h) h (by kernel_rfl) (AllP.nil) ?_
  intro a w h
  refine wp_if h (b := (decide ((v20 : Int) < (List.length x0 : Int)))) (by kernel_rfl) (fun hb => ?_) (fun hb => ?_)
  · replace hF := of_t hb hF
    refine wp_skip ?_
    refine wp_seq <| wp_block ?_
    obtain ⟨hc22, hF⟩ := of_if hF
    refine wp_reg_seq tok (orc := orcL []) (fz := []) (l := [0, 1, 5, 17]) (c := _) (.inr fun i h => h) h (by kernel_rfl) (AllP.cons hc22 AllP.nil) ?_
    intro a w h
    refine wp_if h (b := (((List.getD x0 (Int.toNat v20) (0 : Int)) : Int) == x1)) (by kernel_rfl) (fun hb => ?_) (fun hb => ?_)
    · replace hF := of_t hb hF
      refine wp_reg_seq tok (orc := orcL []) (fz := []) (l := [4]) (c := _) (.inr fun i h => h) h (by kernel_rfl) (AllP.nil) ?_
      intro a w h
      cases hF
      exact wp_ret (ret_okR tok h rfl (by kernel_rfl)).1
    · replace hF := of_f hb hF
      refine wp_skip ?_
      refine wp_reg tok (orc := orcL []) (fz := []) (l := [0, 1, 5]) (c := _) (.inr fun i h => h) h (by kernel_rfl) (AllP.nil) ?_
      intro a w h
      exact ⟨(IntKind.i64.wrap (v20 + (1 : Int))), hF, h.arrive (fz := []) (l := [0, 1, 5]) (.inr fun i h => h) (by kernel_rfl)⟩
  · replace hF := of_f hb hF
    refine wp_exit ?_
    refine wp_reg_seq tok (orc := orcL []) (fz := []) (l := [4]) (c := _) (.inr fun i h => h) h (by kernel_rfl) (AllP.nil) ?_
    intro a w h
    cases hF
    exact wp_ret (ret_okR tok h rfl (by kernel_rfl)).1

def f134 (k : Nat) (x0 : (Int × ((Int × Int) × (Int × (Int × Int))))) (x1 : (List Int)) : Option Int := (f174 k x1 x0.1).bind fun r1 => (if r1 then (some (IntKind.i64.wrap (x0.2.2.2.2 + (50 : Int)))) else (some x0.2.2.2.2))
set_option maxRecDepth 100000 in
/-- 'spec.l8Rank'. -/
theorem c134 (k : Nat) (x0 : (Int × ((Int × Int) × (Int × (Int × Int))))) (x1 : (List Int)) (r : Int) (hF : f134 k x0 x1 = some r) : PCall Try.prog 134 [⟨sh2, x0⟩, ⟨(.sl false 2 (.int .i64)), x1⟩] [⟨(.int .i64), r⟩] := by
  refine pcall_intro Try.func134 rfl rfl (Nat.le_of_ble_eq_true rfl) ?_
  intro w0 Zi a w h
  rw [f134] at hF
  refine wp_reg_seq tok (orc := orcL []) (fz := []) (l := [1, 2]) (c := _) (.inr fun i h => h) h (by kernel_rfl) (AllP.nil) ?_
  intro a w h
  refine wp_seq ?_
  obtain ⟨r1, hr2, hF⟩ := of_bind hF
  refine wp_reg_seq tok (orc := orcL [(8, [⟨.bool, r1⟩])]) (fz := []) (l := [2, 8]) (c := _) (.inr fun i h => h) h (by kernel_rfl) (AllP.cons (c174 k x1 x0.1 r1 hr2) AllP.nil) ?_
  intro a w h
  refine wp_if h (b := r1) (by kernel_rfl) (fun hb => ?_) (fun hb => ?_)
  · replace hF := of_t hb hF
    refine wp_reg_seq tok (orc := orcL []) (fz := []) (l := [4]) (c := _) (.inr fun i h => h) h (by kernel_rfl) (AllP.nil) ?_
    intro a w h
    cases hF
    exact wp_ret (ret_okR tok h rfl (by kernel_rfl)).1
  · replace hF := of_f hb hF
    refine wp_skip ?_
    refine wp_reg_seq tok (orc := orcL []) (fz := []) (l := [4]) (c := _) (.inr fun i h => h) h (by kernel_rfl) (AllP.nil) ?_
    intro a w h
    cases hF
    exact wp_ret (ret_okR tok h rfl (by kernel_rfl)).1

def f135 (k : Nat) (x0 : (Int × ((Int × Int) × (Int × (Int × Int))))) (x1 : (Int × ((Int × Int) × (Int × (Int × Int))))) : Option Bool := some (bif (bif (bif (decide ((x0.2.1.1 : Int) < (IntKind.i64.wrap (x1.2.1.1 + x1.2.2.1)))) then (decide ((x1.2.1.1 : Int) < (IntKind.i64.wrap (x0.2.1.1 + x0.2.2.1)))) else false) then (decide ((x0.2.1.2 : Int) < (IntKind.i64.wrap (x1.2.1.2 + x1.2.2.2.1)))) else false) then (decide ((x1.2.1.2 : Int) < (IntKind.i64.wrap (x0.2.1.2 + x0.2.2.2.1)))) else false)
set_option maxRecDepth 100000 in
/-- 'spec.l8Overlap'. -/
theorem c135 (k : Nat) (x0 : (Int × ((Int × Int) × (Int × (Int × Int))))) (x1 : (Int × ((Int × Int) × (Int × (Int × Int))))) (r : Bool) (hF : f135 k x0 x1 = some r) : PCall Try.prog 135 [⟨sh2, x0⟩, ⟨sh2, x1⟩] [⟨.bool, r⟩] := by
  refine pcall_intro Try.func135 rfl rfl (Nat.le_of_ble_eq_true rfl) ?_
  intro w0 Zi a w h
  rw [f135] at hF
  refine wp_reg_seq tok (orc := orcL []) (fz := []) (l := [2, 3]) (c := _) (.inr fun i h => h) h (by kernel_rfl) (AllP.nil) ?_
  intro a w h
  refine wp_reg_seq tok (orc := orcL []) (fz := []) (l := [4]) (c := _) (.inr fun i h => h) h (by kernel_rfl) (AllP.nil) ?_
  intro a w h
  cases hF
  exact wp_ret (ret_okR tok h rfl (by kernel_rfl)).1

def f136.l9 (k : Nat) (x0 : (List Int)) (x1 : Int) : Nat → Int → Option (List Int)
  | 0, _ => none
  | m9 + 1, v15 => if (((decide ((v15 : Int) < (List.length x0 : Int))) = true) → (0 ≤ v15 ∧ v15 < (List.length x0 : Int))) then (if (bif (decide ((v15 : Int) < (List.length x0 : Int))) then (decide (((List.getD x0 (Int.toNat v15) (0 : Int)) : Int) < x1)) else false) then ((f136.l9 k x0 x1) m9 (IntKind.i64.wrap (v15 + (1 : Int)))) else (if (((decide ((v15 : Int) < (List.length x0 : Int))) = true) → (0 ≤ v15 ∧ v15 < (List.length x0 : Int))) then (if (bif (decide ((v15 : Int) < (List.length x0 : Int))) then (((List.getD x0 (Int.toNat v15) (0 : Int)) : Int) == x1) else false) then (some x0) else (if (True ∧ ((0 : Int) ≤ v15) ∧ 0 ≤ (Int.toNat v15) ∧ (Int.toNat v15) ≤ (List.length x0)) then (if ((List.length ([] : List Int) + List.length (List.drop 0 (List.take (Int.toNat v15) x0))) * 8 ≤ 140737488355328) then (if ((List.length (([] : List Int) ++ (List.drop 0 (List.take (Int.toNat v15) x0))) + List.length [x1]) * 8 ≤ 140737488355328) then (if (((0 : Int) ≤ v15) ∧ True ∧ (Int.toNat v15) ≤ (List.length x0) ∧ (List.length x0) ≤ (List.length x0)) then (if ((List.length ((([] : List Int) ++ (List.drop 0 (List.take (Int.toNat v15) x0))) ++ [x1]) + List.length (List.drop (Int.toNat v15) (List.take (List.length x0) x0))) * 8 ≤ 140737488355328) then (some (((([] : List Int) ++ (List.drop 0 (List.take (Int.toNat v15) x0))) ++ [x1]) ++ (List.drop (Int.toNat v15) (List.take (List.length x0) x0)))) else none) else none) else none) else none) else none)) else none)) else none
def f136 (k : Nat) (x0 : (List Int)) (x1 : Int) : Option (List Int) := f136.l9 k x0 x1 k (0 : Int)
set_option maxRecDepth 100000 in
/-- 'spec.l8Add'. -/
theorem c136 (k : Nat) (x0 : (List Int)) (x1 : Int) (r : (List Int)) (hF : f136 k x0 x1 = some r) : PCall Try.prog 136 [⟨(.sl false 2 (.int .i64)), x0⟩, ⟨(.int .i64), x1⟩] [⟨(.sl false 2 (.int .i64)), r⟩] := by
  refine pcall_intro Try.func136 rfl rfl (Nat.le_of_ble_eq_true rfl) ?_
  intro w0 Zi a w h
  rw [f136] at hF
  refine wp_reg_seq tok (orc := orcL []) (fz := []) (l := [0, 1]) (c := _) (.inr fun i h => h) h (by kernel_rfl) (AllP.nil) ?_
  intro a w h
  refine wp_reg_seq tok (orc := orcL []) (fz := []) (l := [0, 1, 5]) (c := _) (.inr fun i h => h) h (by kernel_rfl) (AllP.nil) ?_
  intro a w h
  refine wp_seq <| wp_block ?_
  refine wp_loop_fuel (f136.l9 k x0 x1) (fun (v15 : Int) => [(0, .val (.sl false 2 (.int .i64)) x0), (1, .val (.int .i64) x1), (5, .val (.int .i64) v15)]) (fun v h => by rw [f136.l9] at h; cases h) ?_ hF (h.arrive (fz := []) (l := [0, 1, 5]) (.inr fun i h => h) (by kernel_rfl))
  intro m9 v15 a w hF h
  rw [f136.l9] at hF
  refine wp_seq ?_
  obtain ⟨hc22, hF⟩ := of_if hF
  refine wp_reg_seq tok (orc := orcL []) (fz := []) (l := [0, 1, 5, 17]) (c := _) (.inr fun i h => h) h (by kernel_rfl) (AllP.cons hc22 AllP.nil) ?_
  intro a w h
  refine wp_if h (b := (bif (decide ((v15 : Int) < (List.length x0 : Int))) then (decide (((List.getD x0 (Int.toNat v15) (0 : Int)) : Int) < x1)) else false)) (by kernel_rfl) (fun hb => ?_) (fun hb => ?_)
  · replace hF := of_t hb hF
    refine wp_skip ?_
    refine wp_block ?_
    refine wp_reg tok (orc := orcL []) (fz := []) (l := [0, 1, 5]) (c := _) (.inr fun i h => h) h (by kernel_rfl) (AllP.nil) ?_
    intro a w h
    exact ⟨(IntKind.i64.wrap (v15 + (1 : Int))), hF, h.arrive (fz := []) (l := [0, 1, 5]) (.inr fun i h => h) (by kernel_rfl)⟩
  · replace hF := of_f hb hF
    refine wp_exit ?_
    refine wp_seq ?_
    obtain ⟨hc21, hF⟩ := of_if hF
    refine wp_reg_seq tok (orc := orcL []) (fz := []) (l := [0, 1, 5, 31]) (c := _) (.inr fun i h => h) h (by kernel_rfl) (AllP.cons hc21 AllP.nil) ?_
    intro a w h
    refine wp_if h (b := (bif (decide ((v15 : Int) < (List.length x0 : Int))) then (((List.getD x0 (Int.toNat v15) (0 : Int)) : Int) == x1) else false)) (by kernel_rfl) (fun hb => ?_) (fun hb => ?_)
    · replace hF := of_t hb hF
      refine wp_reg_seq tok (orc := orcL []) (fz := []) (l := [4]) (c := _) (.inr fun i h => h) h (by kernel_rfl) (AllP.nil) ?_
      intro a w h
      cases hF
      exact wp_ret (ret_okR tok h rfl (by kernel_rfl)).1
    · replace hF := of_f hb hF
      refine wp_skip ?_
      obtain ⟨hc16, hF⟩ := of_if hF
      obtain ⟨hc17, hF⟩ := of_if hF
      obtain ⟨hc18, hF⟩ := of_if hF
      obtain ⟨hc19, hF⟩ := of_if hF
      obtain ⟨hc20, hF⟩ := of_if hF
      refine wp_regy_seq tok (orc := orcL []) (fz := []) (l := [4]) (c := _) ([], [(4, [33]), (7, [37])], [], [(5, [1]), (6, [38]), (8, [0]), (9, [5]), (10, [41, 42])]) 11 (.inr fun i h => h) h (by kernel_rfl) (by kernel_rfl) (AllP.cons hc16 (AllP.cons hc17 (AllP.cons hc18 (AllP.cons hc19 (AllP.cons hc20 AllP.nil))))) ?_
      intro a w h
      cases hF
      have h := Rel.freezeS (fz := [4]) (.inr fun i h => h) h (by kernel_rfl)
      exact wp_ret (ret_okR tok h rfl (by kernel_rfl)).1

def f70.j764 (k : Nat) (v667 : (List Int)) (v668 : Int) (q400 : ((List Int) × Int) → Option (List Int)) : Int → Option (List Int)
  | v763 => if (True ∧ ((0 : Int) ≤ v763) ∧ 0 ≤ (Int.toNat v763) ∧ (Int.toNat v763) ≤ (List.length v667)) then (if ((List.length ([] : List Int) + List.length (List.drop 0 (List.take (Int.toNat v763) v667))) * 8 ≤ 140737488355328) then (if ((List.length (([] : List Int) ++ (List.drop 0 (List.take (Int.toNat v763) v667))) + List.length [v668]) * 8 ≤ 140737488355328) then (if (((0 : Int) ≤ v763) ∧ True ∧ (Int.toNat v763) ≤ (List.length v667) ∧ (List.length v667) ≤ (List.length v667)) then (if ((List.length ((([] : List Int) ++ (List.drop 0 (List.take (Int.toNat v763) v667))) ++ [v668]) + List.length (List.drop (Int.toNat v763) (List.take (List.length v667) v667))) * 8 ≤ 140737488355328) then (q400 ((((([] : List Int) ++ (List.drop 0 (List.take (Int.toNat v763) v667))) ++ [v668]) ++ (List.drop (Int.toNat v763) (List.take (List.length v667) v667))), (IntKind.i64.wrap (v668 + (1 : Int))))) else none) else none) else none) else none) else none
def f70.l770 (k : Nat) (v667 : (List Int)) (x0 : (List (Int × ((Int × Int) × (Int × (Int × Int)))))) (x1 : (List Int)) (v668 : Int) (q764 : Int → Option (List Int)) : Nat → Int → Option (List Int)
  | 0, _ => none
  | m770 + 1, v790 => if (decide ((v790 : Int) > (0 : Int))) then (if (0 ≤ (IntKind.i64.wrap (v790 - (1 : Int))) ∧ (IntKind.i64.wrap (v790 - (1 : Int))) < (List.length v667 : Int)) then (if (0 ≤ (List.getD v667 (Int.toNat (IntKind.i64.wrap (v790 - (1 : Int)))) (0 : Int)) ∧ (List.getD v667 (Int.toNat (IntKind.i64.wrap (v790 - (1 : Int)))) (0 : Int)) < (List.length x0 : Int)) then ((f134 k (List.getD x0 (Int.toNat (List.getD v667 (Int.toNat (IntKind.i64.wrap (v790 - (1 : Int)))) (0 : Int))) ((0 : Int), (((0 : Int), (0 : Int)), ((0 : Int), ((0 : Int), (0 : Int)))))) x1).bind fun r791 => (if (0 ≤ v668 ∧ v668 < (List.length x0 : Int)) then ((f134 k (List.getD x0 (Int.toNat v668) ((0 : Int), (((0 : Int), (0 : Int)), ((0 : Int), ((0 : Int), (0 : Int)))))) x1).bind fun r792 => (if ((((decide ((r791 : Int) > r792)) = false) ∧ (((r791 : Int) == r792) = true)) → (0 ≤ v668 ∧ v668 < (List.length x0 : Int))) then (if (bif (decide ((r791 : Int) > r792)) then true else (bif ((r791 : Int) == r792) then (decide (((List.getD x0 (Int.toNat (List.getD v667 (Int.toNat (IntKind.i64.wrap (v790 - (1 : Int)))) (0 : Int))) ((0 : Int), (((0 : Int), (0 : Int)), ((0 : Int), ((0 : Int), (0 : Int)))))).1 : Int) < (List.getD x0 (Int.toNat v668) ((0 : Int), (((0 : Int), (0 : Int)), ((0 : Int), ((0 : Int), (0 : Int)))))).1)) else false)) then (q764 v790) else ((f70.l770 k v667 x0 x1 v668 q764) m770 (IntKind.i64.wrap (v790 - (1 : Int))))) else none)) else none)) else none) else none) else (q764 v790)
def f70.j1491 (k : Nat) (v1429 : Int) (q1175 : ((List (Int × ((Int × Int) × (Int × (Int × Int))))) × (List Int) × Int) → Option (List Int)) : ((List (Int × ((Int × Int) × (Int × (Int × Int))))) × (List Int)) → Option (List Int)
  | (v1489, v1490) => q1175 (v1489, v1490, (IntKind.i64.wrap (v1429 + (1 : Int))))
def f70.l1519 (k : Nat) (v1427 : (List (Int × ((Int × Int) × (Int × (Int × Int)))))) (x0 : (List (Int × ((Int × Int) × (Int × (Int × Int)))))) (v667 : (List Int)) (v1429 : Int) (v1428 : (List Int)) (q1491 : ((List (Int × ((Int × Int) × (Int × (Int × Int))))) × (List Int)) → Option (List Int)) : Nat → (Bool × Int) → Option (List Int)
  | 0, _ => none
  | m1519 + 1, (v1538, v1539) => if (bif (decide ((v1539 : Int) < (List.length v1427 : Int))) then v1538 else false) then (if (0 ≤ v1539 ∧ v1539 < (List.length v1427 : Int)) then ((f135 k (List.getD x0 (Int.toNat (List.getD v667 (Int.toNat v1429) (0 : Int))) ((0 : Int), (((0 : Int), (0 : Int)), ((0 : Int), ((0 : Int), (0 : Int)))))) (List.getD v1427 (Int.toNat v1539) ((0 : Int), (((0 : Int), (0 : Int)), ((0 : Int), ((0 : Int), (0 : Int))))))).bind fun r1543 => ((f70.l1519 k v1427 x0 v667 v1429 v1428 q1491) m1519 ((!r1543), (IntKind.i64.wrap (v1539 + (1 : Int)))))) else none) else (if v1538 then (if ((List.length v1427 + List.length [(List.getD x0 (Int.toNat (List.getD v667 (Int.toNat v1429) (0 : Int))) ((0 : Int), (((0 : Int), (0 : Int)), ((0 : Int), ((0 : Int), (0 : Int))))))]) * 48 ≤ 140737488355328) then ((f136 k v1428 (List.getD x0 (Int.toNat (List.getD v667 (Int.toNat v1429) (0 : Int))) ((0 : Int), (((0 : Int), (0 : Int)), ((0 : Int), ((0 : Int), (0 : Int)))))).1).bind fun r1546 => (q1491 ((v1427 ++ [(List.getD x0 (Int.toNat (List.getD v667 (Int.toNat v1429) (0 : Int))) ((0 : Int), (((0 : Int), (0 : Int)), ((0 : Int), ((0 : Int), (0 : Int))))))]), r1546))) else none) else (q1491 (v1427, v1428)))
def f70.l1175 (k : Nat) (v667 : (List Int)) (x0 : (List (Int × ((Int × Int) × (Int × (Int × Int)))))) : Nat → ((List (Int × ((Int × Int) × (Int × (Int × Int))))) × (List Int) × Int) → Option (List Int)
  | 0, _ => none
  | m1175 + 1, (v1427, v1428, v1429) => if (decide ((v1429 : Int) < (List.length v667 : Int))) then (if (0 ≤ v1429 ∧ v1429 < (List.length v667 : Int)) then (if (0 ≤ (List.getD v667 (Int.toNat v1429) (0 : Int)) ∧ (List.getD v667 (Int.toNat v1429) (0 : Int)) < (List.length x0 : Int)) then (f70.l1519 k v1427 x0 v667 v1429 v1428 (f70.j1491 k v1429 ((f70.l1175 k v667 x0) m1175)) k (true, (0 : Int))) else none) else none) else (some v1428)
def f70.l400 (k : Nat) (x0 : (List (Int × ((Int × Int) × (Int × (Int × Int)))))) (x1 : (List Int)) : Nat → ((List Int) × Int) → Option (List Int)
  | 0, _ => none
  | m400 + 1, (v667, v668) => if (decide ((v668 : Int) < (List.length x0 : Int))) then (f70.l770 k v667 x0 x1 v668 (f70.j764 k v667 v668 ((f70.l400 k x0 x1) m400)) k (List.length v667 : Int)) else (f70.l1175 k v667 x0 k (([] : List (Int × ((Int × Int) × (Int × (Int × Int))))), ([] : List Int), (0 : Int)))
def f70 (k : Nat) (x0 : (List (Int × ((Int × Int) × (Int × (Int × Int)))))) (x1 : (List Int)) : Option (List Int) := f70.l400 k x0 x1 k (([] : List Int), (0 : Int))
set_option maxRecDepth 100000 in
/-- 'spec.l8Place'. -/
theorem c70 (k : Nat) (x0 : (List (Int × ((Int × Int) × (Int × (Int × Int)))))) (x1 : (List Int)) (r : (List Int)) (hF : f70 k x0 x1 = some r) : PCall Try.prog 70 [⟨sh4, x0⟩, ⟨(.sl false 2 (.int .i64)), x1⟩] [⟨(.sl false 2 (.int .i64)), r⟩] := by
  refine pcall_intro Try.func70 rfl rfl (Nat.le_of_ble_eq_true rfl) ?_
  intro w0 Zi a w h
  rw [f70] at hF
  refine wp_reg_seq tok (orc := orcL []) (fz := []) (l := [0, 1]) (c := _) (.inr fun i h => h) h (by kernel_rfl) (AllP.nil) ?_
  intro a w h
  refine wp_reg_seq tok (orc := orcL []) (fz := []) (l := [0, 1, 5]) (c := _) (.inr fun i h => h) h (by kernel_rfl) (AllP.nil) ?_
  intro a w h
  refine wp_seq ?_
  refine wp_reg_seq tok (orc := orcL []) (fz := []) (l := [0, 1, 5, 6]) (c := _) (.inr fun i h => h) h (by kernel_rfl) (AllP.nil) ?_
  intro a w h
  refine wp_block ?_
  refine wp_loop_fuel (f70.l400 k x0 x1) (fun ((v667, v668) : ((List Int) × Int)) => [(0, .val sh4 x0), (1, .val (.sl false 2 (.int .i64)) x1), (5, .val (.sl true 3 (.int .i64)) v667), (6, .val (.int .i64) v668)]) (fun v h => by obtain ⟨v667, v668⟩ := v; rw [f70.l400] at h; cases h) ?_ hF (h.arrive (fz := []) (l := [0, 1, 5, 6]) (.inr fun i h => h) (by kernel_rfl))
  intro m400 v a w hF h
  obtain ⟨v667, v668⟩ := v
  rw [f70.l400] at hF
  refine wp_seq ?_
  refine wp_reg_seq tok (orc := orcL []) (fz := []) (l := [0, 1, 5, 6, 21]) (c := _) (.inr fun i h => h) h (by kernel_rfl) (AllP.nil) ?_
  intro a w h
  refine wp_if h (b := (decide ((v668 : Int) < (List.length x0 : Int)))) (by kernel_rfl) (fun hb => ?_) (fun hb => ?_)
  · replace hF := of_t hb hF
    refine wp_skip ?_
    refine wp_seq <| wp_block ?_
    refine wp_reg_seq tok (orc := orcL []) (fz := []) (l := [0, 1, 5, 6, 7]) (c := _) (.inr fun i h => h) h (by kernel_rfl) (AllP.nil) ?_
    intro a w h
    refine wp_mid (fun a w => ∃ v : Int, f70.j764 k v667 v668 ((f70.l400 k x0 x1) m400) v = some r ∧ Rel w0 (fun _ => False) Zi Try.f70.ntmps ((fun (v763 : Int) => ([(0, .val sh4 x0), (1, .val (.sl false 2 (.int .i64)) x1), (5, .val (.sl true 3 (.int .i64)) v667), (6, .val (.int .i64) v668), (7, .val (.int .i64) v763)] : SS)) v) a w) ?_ ?_
    ·
      refine wp_block ?_
      refine wp_loop_fuel (f70.l770 k v667 x0 x1 v668 (f70.j764 k v667 v668 ((f70.l400 k x0 x1) m400))) (fun (v790 : Int) => [(0, .val sh4 x0), (1, .val (.sl false 2 (.int .i64)) x1), (5, .val (.sl true 3 (.int .i64)) v667), (6, .val (.int .i64) v668), (7, .val (.int .i64) v790)]) (fun v h => by rw [f70.l770] at h; cases h) ?_ hF (h.arrive (fz := []) (l := [0, 1, 5, 6, 7]) (.inr fun i h => h) (by kernel_rfl))
      intro m770 v790 a w hF h
      rw [f70.l770] at hF
      refine wp_seq ?_
      refine wp_reg_seq tok (orc := orcL []) (fz := []) (l := [0, 1, 5, 6, 7, 27]) (c := _) (.inr fun i h => h) h (by kernel_rfl) (AllP.nil) ?_
      intro a w h
      refine wp_if h (b := (decide ((v790 : Int) > (0 : Int)))) (by kernel_rfl) (fun hb => ?_) (fun hb => ?_)
      · replace hF := of_t hb hF
        refine wp_skip ?_
        refine wp_block ?_
        obtain ⟨hc797, hF⟩ := of_if hF
        obtain ⟨hc798, hF⟩ := of_if hF
        refine wp_reg_seq tok (orc := orcL []) (fz := []) (l := [0, 1, 5, 6, 7, 8]) (c := _) (.inr fun i h => h) h (by kernel_rfl) (AllP.cons hc797 (AllP.cons hc798 AllP.nil)) ?_
        intro a w h
        obtain ⟨r791, hr796, hF⟩ := of_bind hF
        refine wp_reg_seq tok (orc := orcL [(38, [⟨(.int .i64), r791⟩])]) (fz := []) (l := [0, 1, 5, 6, 7, 8, 9]) (c := _) (.inr fun i h => h) h (by kernel_rfl) (AllP.cons (c134 k (List.getD x0 (Int.toNat (List.getD v667 (Int.toNat (IntKind.i64.wrap (v790 - (1 : Int)))) (0 : Int))) ((0 : Int), (((0 : Int), (0 : Int)), ((0 : Int), ((0 : Int), (0 : Int)))))) x1 r791 hr796) AllP.nil) ?_
        intro a w h
        obtain ⟨hc794, hF⟩ := of_if hF
        obtain ⟨r792, hr795, hF⟩ := of_bind hF
        refine wp_reg_seq tok (orc := orcL [(44, [⟨(.int .i64), r792⟩])]) (fz := []) (l := [0, 1, 5, 6, 7, 8, 9, 10]) (c := _) (.inr fun i h => h) h (by kernel_rfl) (AllP.cons hc794 (AllP.cons (c134 k (List.getD x0 (Int.toNat v668) ((0 : Int), (((0 : Int), (0 : Int)), ((0 : Int), ((0 : Int), (0 : Int)))))) x1 r792 hr795) AllP.nil)) ?_
        intro a w h
        refine wp_seq ?_
        obtain ⟨hc793, hF⟩ := of_if hF
        refine wp_regy_seq tok (orc := orcL []) (fz := []) (l := [0, 1, 5, 6, 7, 62]) (c := _) ([], [], [], []) 18 (.inr fun i h => h) h (by kernel_rfl) (by kernel_rfl) (AllP.cons hc793 AllP.nil) ?_
        intro a w h
        refine wp_if h (b := (bif (decide ((r791 : Int) > r792)) then true else (bif ((r791 : Int) == r792) then (decide (((List.getD x0 (Int.toNat (List.getD v667 (Int.toNat (IntKind.i64.wrap (v790 - (1 : Int)))) (0 : Int))) ((0 : Int), (((0 : Int), (0 : Int)), ((0 : Int), ((0 : Int), (0 : Int)))))).1 : Int) < (List.getD x0 (Int.toNat v668) ((0 : Int), (((0 : Int), (0 : Int)), ((0 : Int), ((0 : Int), (0 : Int)))))).1)) else false))) (by kernel_rfl) (fun hb => ?_) (fun hb => ?_)
        · replace hF := of_t hb hF
          refine wp_exit ?_
          exact ⟨v790, hF, h.arrive (fz := []) (l := [0, 1, 5, 6, 7]) (.inr fun i h => h) (by kernel_rfl)⟩
        · replace hF := of_f hb hF
          refine wp_skip ?_
          refine wp_reg tok (orc := orcL []) (fz := []) (l := [0, 1, 5, 6, 7]) (c := _) (.inr fun i h => h) h (by kernel_rfl) (AllP.nil) ?_
          intro a w h
          exact ⟨(IntKind.i64.wrap (v790 - (1 : Int))), hF, h.arrive (fz := []) (l := [0, 1, 5, 6, 7]) (.inr fun i h => h) (by kernel_rfl)⟩
      · replace hF := of_f hb hF
        refine wp_exit ?_
        exact ⟨v790, hF, h.arrive (fz := []) (l := [0, 1, 5, 6, 7]) (.inr fun i h => h) (by kernel_rfl)⟩
    · rintro a w ⟨v763, hF, h⟩
      rw [f70.j764] at hF
      obtain ⟨hc765, hF⟩ := of_if hF
      obtain ⟨hc766, hF⟩ := of_if hF
      obtain ⟨hc767, hF⟩ := of_if hF
      obtain ⟨hc768, hF⟩ := of_if hF
      obtain ⟨hc769, hF⟩ := of_if hF
      refine wp_regy tok (orc := orcL []) (fz := [5]) (l := [0, 1, 5, 6]) (c := _) ([], [(4, [65]), (7, [69])], [], [(5, [6]), (6, [70]), (8, [5]), (9, [7]), (10, [73, 74])]) 11 (.inr fun i h => h) h (by kernel_rfl) (by kernel_rfl) (AllP.cons hc765 (AllP.cons hc766 (AllP.cons hc767 (AllP.cons hc768 (AllP.cons hc769 AllP.nil))))) ?_
      intro a w h
      refine wp_reg tok (orc := orcL []) (fz := []) (l := [0, 1, 5, 6]) (c := _) (.inr fun i h => h) h (by kernel_rfl) (AllP.nil) ?_
      intro a w h
      exact ⟨((((([] : List Int) ++ (List.drop 0 (List.take (Int.toNat v763) v667))) ++ [v668]) ++ (List.drop (Int.toNat v763) (List.take (List.length v667) v667))), (IntKind.i64.wrap (v668 + (1 : Int)))), hF, h.arrive (fz := []) (l := [0, 1, 5, 6]) (.inr fun i h => h) (by kernel_rfl)⟩
  · replace hF := of_f hb hF
    refine wp_exit ?_
    refine wp_reg_seq tok (orc := orcL []) (fz := []) (l := [0, 5, 11]) (c := _) (.inr fun i h => h) h (by kernel_rfl) (AllP.nil) ?_
    intro a w h
    refine wp_reg_seq tok (orc := orcL []) (fz := []) (l := [0, 5, 11, 12]) (c := _) (.inr fun i h => h) h (by kernel_rfl) (AllP.nil) ?_
    intro a w h
    refine wp_seq ?_
    refine wp_reg_seq tok (orc := orcL []) (fz := []) (l := [0, 5, 11, 12, 13]) (c := _) (.inr fun i h => h) h (by kernel_rfl) (AllP.nil) ?_
    intro a w h
    refine wp_block ?_
    refine wp_loop_fuel (f70.l1175 k v667 x0) (fun ((v1427, v1428, v1429) : ((List (Int × ((Int × Int) × (Int × (Int × Int))))) × (List Int) × Int)) => [(0, .val sh4 x0), (5, .val (.sl true 3 (.int .i64)) v667), (11, .val sh3 v1427), (12, .val (.sl false 2 (.int .i64)) v1428), (13, .val (.int .i64) v1429)]) (fun v h => by obtain ⟨v1427, v1428, v1429⟩ := v; rw [f70.l1175] at h; cases h) ?_ hF (h.arrive (fz := [12]) (l := [0, 5, 11, 12, 13]) (.inr fun i h => h) (by kernel_rfl))
    intro m1175 v a w hF h
    obtain ⟨v1427, v1428, v1429⟩ := v
    rw [f70.l1175] at hF
    refine wp_seq ?_
    refine wp_reg_seq tok (orc := orcL []) (fz := []) (l := [0, 5, 11, 12, 13, 82]) (c := _) (.inr fun i h => h) h (by kernel_rfl) (AllP.nil) ?_
    intro a w h
    refine wp_if h (b := (decide ((v1429 : Int) < (List.length v667 : Int)))) (by kernel_rfl) (fun hb => ?_) (fun hb => ?_)
    · replace hF := of_t hb hF
      refine wp_skip ?_
      refine wp_mid (fun a w => ∃ v : ((List (Int × ((Int × Int) × (Int × (Int × Int))))) × (List Int)), f70.j1491 k v1429 ((f70.l1175 k v667 x0) m1175) v = some r ∧ Rel w0 (fun _ => False) Zi Try.f70.ntmps ((fun ((v1489, v1490) : ((List (Int × ((Int × Int) × (Int × (Int × Int))))) × (List Int))) => ([(0, .val sh4 x0), (5, .val (.sl true 3 (.int .i64)) v667), (11, .val sh3 v1489), (12, .val (.sl false 2 (.int .i64)) v1490), (13, .val (.int .i64) v1429)] : SS)) v) a w) ?_ ?_
      ·
        refine wp_block ?_
        obtain ⟨hc1549, hF⟩ := of_if hF
        obtain ⟨hc1550, hF⟩ := of_if hF
        refine wp_reg_seq tok (orc := orcL []) (fz := []) (l := [0, 5, 11, 12, 13, 14]) (c := _) (.inr fun i h => h) h (by kernel_rfl) (AllP.cons hc1549 (AllP.cons hc1550 AllP.nil)) ?_
        intro a w h
        refine wp_reg_seq tok (orc := orcL []) (fz := []) (l := [0, 5, 11, 12, 13, 14, 15]) (c := _) (.inr fun i h => h) h (by kernel_rfl) (AllP.nil) ?_
        intro a w h
        refine wp_seq ?_
        refine wp_reg_seq tok (orc := orcL []) (fz := []) (l := [0, 5, 11, 12, 13, 14, 15, 16]) (c := _) (.inr fun i h => h) h (by kernel_rfl) (AllP.nil) ?_
        intro a w h
        refine wp_block ?_
        refine wp_loop_fuel (f70.l1519 k v1427 x0 v667 v1429 v1428 (f70.j1491 k v1429 ((f70.l1175 k v667 x0) m1175))) (fun ((v1538, v1539) : (Bool × Int)) => [(0, .val sh4 x0), (5, .val (.sl true 3 (.int .i64)) v667), (11, .val sh3 v1427), (12, .val (.sl false 2 (.int .i64)) v1428), (13, .val (.int .i64) v1429), (14, .val sh5 (some (List.getD x0 (Int.toNat (List.getD v667 (Int.toNat v1429) (0 : Int))) ((0 : Int), (((0 : Int), (0 : Int)), ((0 : Int), ((0 : Int), (0 : Int)))))))), (15, .val .bool v1538), (16, .val (.int .i64) v1539)]) (fun v h => by obtain ⟨v1538, v1539⟩ := v; rw [f70.l1519] at h; cases h) ?_ hF (h.arrive (fz := []) (l := [0, 5, 11, 12, 13, 14, 15, 16]) (.inr fun i h => h) (by kernel_rfl))
        intro m1519 v a w hF h
        obtain ⟨v1538, v1539⟩ := v
        rw [f70.l1519] at hF
        refine wp_seq ?_
        refine wp_reg_seq tok (orc := orcL []) (fz := []) (l := [0, 5, 11, 12, 13, 14, 15, 16, 98]) (c := _) (.inr fun i h => h) h (by kernel_rfl) (AllP.nil) ?_
        intro a w h
        refine wp_if h (b := (bif (decide ((v1539 : Int) < (List.length v1427 : Int))) then v1538 else false)) (by kernel_rfl) (fun hb => ?_) (fun hb => ?_)
        · replace hF := of_t hb hF
          refine wp_skip ?_
          refine wp_seq <| wp_block ?_
          obtain ⟨hc1544, hF⟩ := of_if hF
          obtain ⟨r1543, hr1545, hF⟩ := of_bind hF
          refine wp_regy tok (orc := orcL [(106, [⟨.bool, r1543⟩])]) (fz := []) (l := [0, 5, 11, 12, 13, 14, 15, 16]) (c := _) ([], [], [], []) 8 (.inr fun i h => h) h (by kernel_rfl) (by kernel_rfl) (AllP.cons hc1544 (AllP.cons (c135 k (List.getD x0 (Int.toNat (List.getD v667 (Int.toNat v1429) (0 : Int))) ((0 : Int), (((0 : Int), (0 : Int)), ((0 : Int), ((0 : Int), (0 : Int)))))) (List.getD v1427 (Int.toNat v1539) ((0 : Int), (((0 : Int), (0 : Int)), ((0 : Int), ((0 : Int), (0 : Int)))))) r1543 hr1545) AllP.nil)) ?_
          intro a w h
          refine wp_reg tok (orc := orcL []) (fz := []) (l := [0, 5, 11, 12, 13, 14, 15, 16]) (c := _) (.inr fun i h => h) h (by kernel_rfl) (AllP.nil) ?_
          intro a w h
          exact ⟨((!r1543), (IntKind.i64.wrap (v1539 + (1 : Int)))), hF, h.arrive (fz := []) (l := [0, 5, 11, 12, 13, 14, 15, 16]) (.inr fun i h => h) (by kernel_rfl)⟩
        · replace hF := of_f hb hF
          refine wp_exit ?_
          refine wp_reg_seq tok (orc := orcL []) (fz := []) (l := [0, 5, 11, 12, 13, 14, 108]) (c := _) (.inr fun i h => h) h (by kernel_rfl) (AllP.nil) ?_
          intro a w h
          refine wp_if h (b := v1538) (by kernel_rfl) (fun hb => ?_) (fun hb => ?_)
          · replace hF := of_t hb hF
            obtain ⟨hc1548, hF⟩ := of_if hF
            refine wp_reg_seq tok (orc := orcL []) (fz := []) (l := [0, 5, 11, 12, 13, 14]) (c := _) (.inr fun i h => h) h (by kernel_rfl) (AllP.cons hc1548 AllP.nil) ?_
            intro a w h
            obtain ⟨r1546, hr1547, hF⟩ := of_bind hF
            refine wp_reg tok (orc := orcL [(116, [⟨(.sl false 2 (.int .i64)), r1546⟩])]) (fz := []) (l := [0, 5, 11, 12, 13]) (c := _) (.inr fun i h => h) h (by kernel_rfl) (AllP.cons (c136 k v1428 (List.getD x0 (Int.toNat (List.getD v667 (Int.toNat v1429) (0 : Int))) ((0 : Int), (((0 : Int), (0 : Int)), ((0 : Int), ((0 : Int), (0 : Int)))))).1 r1546 hr1547) AllP.nil) ?_
            intro a w h
            exact ⟨((v1427 ++ [(List.getD x0 (Int.toNat (List.getD v667 (Int.toNat v1429) (0 : Int))) ((0 : Int), (((0 : Int), (0 : Int)), ((0 : Int), ((0 : Int), (0 : Int))))))]), r1546), hF, h.arrive (fz := []) (l := [0, 5, 11, 12, 13]) (.inr fun i h => h) (by kernel_rfl)⟩
          · replace hF := of_f hb hF
            refine wp_skip ?_
            exact ⟨(v1427, v1428), hF, h.arrive (fz := []) (l := [0, 5, 11, 12, 13]) (.inr fun i h => h) (by kernel_rfl)⟩
      · rintro a w ⟨v, hF, h⟩
        obtain ⟨v1489, v1490⟩ := v
        rw [f70.j1491] at hF
        refine wp_reg tok (orc := orcL []) (fz := []) (l := [0, 5, 11, 12, 13]) (c := _) (.inr fun i h => h) h (by kernel_rfl) (AllP.nil) ?_
        intro a w h
        exact ⟨(v1489, v1490, (IntKind.i64.wrap (v1429 + (1 : Int)))), hF, h.arrive (fz := []) (l := [0, 5, 11, 12, 13]) (.inr fun i h => h) (by kernel_rfl)⟩
    · replace hF := of_f hb hF
      refine wp_exit ?_
      refine wp_reg_seq tok (orc := orcL []) (fz := []) (l := [4]) (c := _) (.inr fun i h => h) h (by kernel_rfl) (AllP.nil) ?_
      intro a w h
      cases hF
      exact wp_ret (ret_okR tok h rfl (by kernel_rfl)).1

def f12 (k : Nat) (x0 : (List (Int × ((Int × Int) × (Int × (Int × Int)))))) (x1 : (List Int)) : Option (List Int) := (f69 k x0).bind fun r1 => (if (bif (!r1) then true else (decide (((List.length x1 : Int) : Int) > (500 : Int)))) then (some ([] : List Int)) else ((f70 k x0 x1).bind fun r2 => (some r2)))
set_option maxRecDepth 100000 in
/-- 'spec.Place'. -/
theorem c12 (k : Nat) (x0 : (List (Int × ((Int × Int) × (Int × (Int × Int)))))) (x1 : (List Int)) (r : (List Int)) (hF : f12 k x0 x1 = some r) : PCall Try.prog 12 [⟨sh4, x0⟩, ⟨(.sl false 2 (.int .i64)), x1⟩] [⟨(.sl false 2 (.int .i64)), r⟩] := by
  refine pcall_intro Try.func12 rfl rfl (Nat.le_of_ble_eq_true rfl) ?_
  intro w0 Zi a w h
  rw [f12] at hF
  refine wp_reg_seq tok (orc := orcL []) (fz := []) (l := [0, 1]) (c := _) (.inr fun i h => h) h (by kernel_rfl) (AllP.nil) ?_
  intro a w h
  refine wp_seq ?_
  obtain ⟨r1, hr4, hF⟩ := of_bind hF
  refine wp_reg_seq tok (orc := orcL [(6, [⟨.bool, r1⟩])]) (fz := []) (l := [0, 1, 12]) (c := _) (.inr fun i h => h) h (by kernel_rfl) (AllP.cons (c69 k x0 r1 hr4) AllP.nil) ?_
  intro a w h
  refine wp_if h (b := (bif (!r1) then true else (decide (((List.length x1 : Int) : Int) > (500 : Int))))) (by kernel_rfl) (fun hb => ?_) (fun hb => ?_)
  · replace hF := of_t hb hF
    refine wp_reg_seq tok (orc := orcL []) (fz := []) (l := [4]) (c := _) (.inr fun i h => h) h (by kernel_rfl) (AllP.nil) ?_
    intro a w h
    cases hF
    have h := Rel.freezeS (fz := [4]) (.inr fun i h => h) h (by kernel_rfl)
    exact wp_ret (ret_okR tok h rfl (by kernel_rfl)).1
  · replace hF := of_f hb hF
    refine wp_skip ?_
    obtain ⟨r2, hr3, hF⟩ := of_bind hF
    refine wp_reg_seq tok (orc := orcL [(16, [⟨(.sl false 2 (.int .i64)), r2⟩])]) (fz := []) (l := [4]) (c := _) (.inr fun i h => h) h (by kernel_rfl) (AllP.cons (c70 k x0 x1 r2 hr3) AllP.nil) ?_
    intro a w h
    cases hF
    exact wp_ret (ret_okR tok h rfl (by kernel_rfl)).1

def f146 (k : Nat) (x0 : Int) : Option Bool := some (bif (decide ((x0 : Int) ≥ (1 : Int))) then (decide ((x0 : Int) ≤ (1000000000 : Int))) else false)
set_option maxRecDepth 100000 in
/-- 'impl.idOk'. -/
theorem c146 (k : Nat) (x0 : Int) (r : Bool) (hF : f146 k x0 = some r) : PCall Try.prog 146 [⟨(.int .i64), x0⟩] [⟨.bool, r⟩] := by
  refine pcall_intro Try.func146 rfl rfl (Nat.le_of_ble_eq_true rfl) ?_
  intro w0 Zi a w h
  rw [f146] at hF
  refine wp_reg_seq tok (orc := orcL []) (fz := []) (l := [0]) (c := _) (.inr fun i h => h) h (by kernel_rfl) (AllP.nil) ?_
  intro a w h
  refine wp_reg_seq tok (orc := orcL []) (fz := []) (l := [2]) (c := _) (.inr fun i h => h) h (by kernel_rfl) (AllP.nil) ?_
  intro a w h
  cases hF
  exact wp_ret (ret_okR tok h rfl (by kernel_rfl)).1

def f147 (k : Nat) (x0 : (Int × Int)) : Option Bool := some (bif (bif (bif (decide ((x0.1 : Int) ≥ (-10000000 : Int))) then (decide ((x0.1 : Int) ≤ (10000000 : Int))) else false) then (decide ((x0.2 : Int) ≥ (-10000000 : Int))) else false) then (decide ((x0.2 : Int) ≤ (10000000 : Int))) else false)
set_option maxRecDepth 100000 in
/-- 'impl.PointOk'. -/
theorem c147 (k : Nat) (x0 : (Int × Int)) (r : Bool) (hF : f147 k x0 = some r) : PCall Try.prog 147 [⟨sh1, x0⟩] [⟨.bool, r⟩] := by
  refine pcall_intro Try.func147 rfl rfl (Nat.le_of_ble_eq_true rfl) ?_
  intro w0 Zi a w h
  rw [f147] at hF
  refine wp_reg_seq tok (orc := orcL []) (fz := []) (l := [1]) (c := _) (.inr fun i h => h) h (by kernel_rfl) (AllP.nil) ?_
  intro a w h
  refine wp_reg_seq tok (orc := orcL []) (fz := []) (l := [2]) (c := _) (.inr fun i h => h) h (by kernel_rfl) (AllP.nil) ?_
  intro a w h
  cases hF
  exact wp_ret (ret_okR tok h rfl (by kernel_rfl)).1

def f81 (k : Nat) (x0 : (Int × ((Int × Int) × (Int × (Int × Int))))) : Option Bool := (f146 k x0.1).bind fun r1 => ((if (r1 = true) then f147 k x0.2.1 else some default).bind fun r2 => (some (bif (bif (bif (bif (bif (bif (bif r1 then r2 else false) then (decide ((x0.2.2.1 : Int) ≥ (1 : Int))) else false) then (decide ((x0.2.2.1 : Int) ≤ (100000 : Int))) else false) then (decide ((x0.2.2.2.1 : Int) ≥ (1 : Int))) else false) then (decide ((x0.2.2.2.1 : Int) ≤ (100000 : Int))) else false) then (decide ((x0.2.2.2.2 : Int) ≥ (0 : Int))) else false) then (decide ((x0.2.2.2.2 : Int) ≤ (1000 : Int))) else false)))
set_option maxRecDepth 100000 in
/-- 'impl.labelOk'. -/
theorem c81 (k : Nat) (x0 : (Int × ((Int × Int) × (Int × (Int × Int))))) (r : Bool) (hF : f81 k x0 = some r) : PCall Try.prog 81 [⟨sh2, x0⟩] [⟨.bool, r⟩] := by
  refine pcall_intro Try.func81 rfl rfl (Nat.le_of_ble_eq_true rfl) ?_
  intro w0 Zi a w h
  rw [f81] at hF
  refine wp_reg_seq tok (orc := orcL []) (fz := []) (l := [1]) (c := _) (.inr fun i h => h) h (by kernel_rfl) (AllP.nil) ?_
  intro a w h
  obtain ⟨r1, hr3, hF⟩ := of_bind hF
  obtain ⟨r2, hr4, hF⟩ := of_bind hF
  refine wp_reg_seq tok (orc := orcL [(5, [⟨.bool, r1⟩]), (9, [⟨.bool, r2⟩])]) (fz := []) (l := [2]) (c := _) (.inr fun i h => h) h (by kernel_rfl) (AllP.cons (c146 k x0.1 r1 hr3) (AllP.cons (fun (hg : (r1 = true)) => c147 k x0.2.1 r2 (of_g hg hr4)) AllP.nil)) ?_
  intro a w h
  cases hF
  exact wp_ret (ret_okR tok h rfl (by kernel_rfl)).1

def f32.l28 (k : Nat) (x0 : (List (Int × ((Int × Int) × (Int × (Int × Int)))))) : Nat → ((List (Int × Bool)) × Int) → Option Bool
  | 0, _ => none
  | m28 + 1, (v47, v48) => if (decide ((v48 : Int) < (List.length x0 : Int))) then (if (0 ≤ v48 ∧ v48 < (List.length x0 : Int)) then ((f81 k (List.getD x0 (Int.toNat v48) ((0 : Int), (((0 : Int), (0 : Int)), ((0 : Int), ((0 : Int), (0 : Int))))))).bind fun r52 => (if (bif (!r52) then true else (mget (Sh.beq (.int .i64)) (some v47) (List.getD x0 (Int.toNat v48) ((0 : Int), (((0 : Int), (0 : Int)), ((0 : Int), ((0 : Int), (0 : Int)))))).1 false)) then (some false) else ((f32.l28 k x0) m28 ((mput (Sh.beq (.int .i64)) (List.getD x0 (Int.toNat v48) ((0 : Int), (((0 : Int), (0 : Int)), ((0 : Int), ((0 : Int), (0 : Int)))))).1 true v47), (IntKind.i64.wrap (v48 + (1 : Int))))))) else none) else (some true)
def f32 (k : Nat) (x0 : (List (Int × ((Int × Int) × (Int × (Int × Int)))))) : Option Bool := if (decide (((List.length x0 : Int) : Int) > (500 : Int))) then (some false) else (f32.l28 k x0 k (([] : (List (Int × Bool))), (0 : Int)))
set_option maxRecDepth 100000 in
/-- 'impl.LabelsOk'. -/
theorem c32 (k : Nat) (x0 : (List (Int × ((Int × Int) × (Int × (Int × Int)))))) (r : Bool) (hF : f32 k x0 = some r) : PCall Try.prog 32 [⟨sh4, x0⟩] [⟨.bool, r⟩] := by
  refine pcall_intro Try.func32 rfl rfl (Nat.le_of_ble_eq_true rfl) ?_
  intro w0 Zi a w h
  rw [f32] at hF
  refine wp_reg_seq tok (orc := orcL []) (fz := []) (l := [0]) (c := _) (.inr fun i h => h) h (by kernel_rfl) (AllP.nil) ?_
  intro a w h
  refine wp_seq ?_
  refine wp_reg_seq tok (orc := orcL []) (fz := []) (l := [0, 8]) (c := _) (.inr fun i h => h) h (by kernel_rfl) (AllP.nil) ?_
  intro a w h
  refine wp_if h (b := (decide (((List.length x0 : Int) : Int) > (500 : Int)))) (by kernel_rfl) (fun hb => ?_) (fun hb => ?_)
  · replace hF := of_t hb hF
    refine wp_reg_seq tok (orc := orcL []) (fz := []) (l := [2]) (c := _) (.inr fun i h => h) h (by kernel_rfl) (AllP.nil) ?_
    intro a w h
    cases hF
    exact wp_ret (ret_okR tok h rfl (by kernel_rfl)).1
  · replace hF := of_f hb hF
    refine wp_skip ?_
    refine wp_reg_seq tok (orc := orcL []) (fz := []) (l := [0, 3]) (c := _) (.inr fun i h => h) h (by kernel_rfl) (AllP.nil) ?_
    intro a w h
    refine wp_seq ?_
    refine wp_reg_seq tok (orc := orcL []) (fz := []) (l := [3, 10, 11, 12]) (c := _) (.inr fun i h => h) h (by kernel_rfl) (AllP.nil) ?_
    intro a w h
    refine wp_block ?_
    refine wp_loop_fuel (f32.l28 k x0) (fun ((v47, v48) : ((List (Int × Bool)) × Int)) => [(3, .val sh6 (some v47)), (10, .val sh4 x0), (11, .val (.int .i64) (List.length x0 : Int)), (12, .val (.int .i64) v48)]) (fun v h => by obtain ⟨v47, v48⟩ := v; rw [f32.l28] at h; cases h) ?_ hF (h.arrive (fz := []) (l := [3, 10, 11, 12]) (.inr fun i h => h) (by kernel_rfl))
    intro m28 v a w hF h
    obtain ⟨v47, v48⟩ := v
    rw [f32.l28] at hF
    refine wp_reg_seq tok (orc := orcL []) (fz := []) (l := [3, 10, 11, 12, 13]) (c := _) (.inr fun i h => h) h (by kernel_rfl) (AllP.nil) ?_
    intro a w h
    refine wp_seq <| wp_if h (b := (decide ((v48 : Int) < (List.length x0 : Int)))) (by kernel_rfl) (fun hb => ?_) (fun hb => ?_)
    · replace hF := of_t hb hF
      refine wp_skip ?_
      refine wp_seq <| wp_block ?_
      obtain ⟨hc54, hF⟩ := of_if hF
      refine wp_reg_seq tok (orc := orcL []) (fz := []) (l := [3, 5, 10, 11, 12]) (c := _) (.inr fun i h => h) h (by kernel_rfl) (AllP.cons hc54 AllP.nil) ?_
      intro a w h
      refine wp_seq ?_
      obtain ⟨r52, hr53, hF⟩ := of_bind hF
      refine wp_reg_seq tok (orc := orcL [(17, [⟨.bool, r52⟩])]) (fz := []) (l := [3, 5, 10, 11, 12, 24]) (c := _) (.inr fun i h => h) h (by kernel_rfl) (AllP.cons (c81 k (List.getD x0 (Int.toNat v48) ((0 : Int), (((0 : Int), (0 : Int)), ((0 : Int), ((0 : Int), (0 : Int)))))) r52 hr53) (AllP.cons (fun (_ : ((!r52) = false)) => (show eqTy Try.prog 9 2 (.int .i64) = true from by kernel_rfl)) AllP.nil)) ?_
      intro a w h
      refine wp_if h (b := (bif (!r52) then true else (mget (Sh.beq (.int .i64)) (some v47) (List.getD x0 (Int.toNat v48) ((0 : Int), (((0 : Int), (0 : Int)), ((0 : Int), ((0 : Int), (0 : Int)))))).1 false))) (by kernel_rfl) (fun hb => ?_) (fun hb => ?_)
      · replace hF := of_t hb hF
        refine wp_reg_seq tok (orc := orcL []) (fz := []) (l := [2]) (c := _) (.inr fun i h => h) h (by kernel_rfl) (AllP.nil) ?_
        intro a w h
        cases hF
        exact wp_ret (ret_okR tok h rfl (by kernel_rfl)).1
      · replace hF := of_f hb hF
        refine wp_skip ?_
        refine wp_reg tok (orc := orcL []) (fz := []) (l := [3, 10, 11, 12]) (c := _) (.inr fun i h => h) h (by kernel_rfl) (AllP.cons (show eqTy Try.prog 9 2 (.int .i64) = true from by kernel_rfl) AllP.nil) ?_
        intro a w h
        refine wp_reg tok (orc := orcL []) (fz := []) (l := [3, 10, 11, 12]) (c := _) (.inr fun i h => h) h (by kernel_rfl) (AllP.nil) ?_
        intro a w h
        exact ⟨((mput (Sh.beq (.int .i64)) (List.getD x0 (Int.toNat v48) ((0 : Int), (((0 : Int), (0 : Int)), ((0 : Int), ((0 : Int), (0 : Int)))))).1 true v47), (IntKind.i64.wrap (v48 + (1 : Int)))), hF, h.arrive (fz := []) (l := [3, 10, 11, 12]) (.inr fun i h => h) (by kernel_rfl)⟩
    · replace hF := of_f hb hF
      refine wp_exit ?_
      refine wp_reg_seq tok (orc := orcL []) (fz := []) (l := [2]) (c := _) (.inr fun i h => h) h (by kernel_rfl) (AllP.nil) ?_
      intro a w h
      cases hF
      exact wp_ret (ret_okR tok h rfl (by kernel_rfl)).1

def f72 (k : Nat) (x0 : (Int × ((Int × Int) × (Int × (Int × Int))))) (x1_0 : (Option (List (Int × Bool)))) : Option Int := if (mget (Sh.beq (.int .i64)) x1_0 x0.1 false) then (some (IntKind.i64.wrap (x0.2.2.2.2 + (50 : Int)))) else (some x0.2.2.2.2)
set_option maxRecDepth 100000 in
/-- 'impl.Place$1'. -/
theorem c72 (k : Nat) (x0 : (Int × ((Int × Int) × (Int × (Int × Int))))) (x1_0 : (Option (List (Int × Bool)))) (r : Int) (hF : f72 k x0 x1_0 = some r) : PCall Try.prog 72 [⟨sh2, x0⟩, ⟨sh8, (some x1_0)⟩] [⟨(.int .i64), r⟩] := by
  refine pcall_intro Try.func72 rfl rfl (Nat.le_of_ble_eq_true rfl) ?_
  intro w0 Zi a w h
  rw [f72] at hF
  refine wp_reg_seq tok (orc := orcL []) (fz := []) (l := [1, 2]) (c := _) (.inr fun i h => h) h (by kernel_rfl) (AllP.nil) ?_
  intro a w h
  refine wp_seq ?_
  refine wp_reg_seq tok (orc := orcL []) (fz := []) (l := [2, 7]) (c := _) (.inr fun i h => h) h (by kernel_rfl) (AllP.cons (show eqTy Try.prog 9 2 (.int .i64) = true from by kernel_rfl) AllP.nil) ?_
  intro a w h
  refine wp_if h (b := (mget (Sh.beq (.int .i64)) x1_0 x0.1 false)) (by kernel_rfl) (fun hb => ?_) (fun hb => ?_)
  · replace hF := of_t hb hF
    refine wp_reg_seq tok (orc := orcL []) (fz := []) (l := [3]) (c := _) (.inr fun i h => h) h (by kernel_rfl) (AllP.nil) ?_
    intro a w h
    cases hF
    exact wp_ret (ret_okR tok h rfl (by kernel_rfl)).1
  · replace hF := of_f hb hF
    refine wp_skip ?_
    refine wp_reg_seq tok (orc := orcL []) (fz := []) (l := [3]) (c := _) (.inr fun i h => h) h (by kernel_rfl) (AllP.nil) ?_
    intro a w h
    cases hF
    exact wp_ret (ret_okR tok h rfl (by kernel_rfl)).1

def f74 (k : Nat) (x0 : Int) (x1 : Int) (x2_0 : (Option (List (Int × Bool)))) (x3_0 : (List (Int × ((Int × Int) × (Int × (Int × Int)))))) : Option Bool := if (0 ≤ x0 ∧ x0 < (List.length x3_0 : Int)) then ((f72 k (List.getD x3_0 (Int.toNat x0) ((0 : Int), (((0 : Int), (0 : Int)), ((0 : Int), ((0 : Int), (0 : Int)))))) x2_0).bind fun r1 => (if (0 ≤ x1 ∧ x1 < (List.length x3_0 : Int)) then ((f72 k (List.getD x3_0 (Int.toNat x1) ((0 : Int), (((0 : Int), (0 : Int)), ((0 : Int), ((0 : Int), (0 : Int)))))) x2_0).bind fun r2 => (if ((r1 : Int) != r2) then (some (decide ((r1 : Int) > r2))) else (if (0 ≤ x0 ∧ x0 < (List.length x3_0 : Int)) then (if (0 ≤ x1 ∧ x1 < (List.length x3_0 : Int)) then (some (decide (((List.getD x3_0 (Int.toNat x0) ((0 : Int), (((0 : Int), (0 : Int)), ((0 : Int), ((0 : Int), (0 : Int)))))).1 : Int) < (List.getD x3_0 (Int.toNat x1) ((0 : Int), (((0 : Int), (0 : Int)), ((0 : Int), ((0 : Int), (0 : Int)))))).1))) else none) else none))) else none)) else none
set_option maxRecDepth 100000 in
/-- 'impl.Place$2'. -/
theorem c74 (k : Nat) (x0 : Int) (x1 : Int) (x2_0 : (Option (List (Int × Bool)))) (x3_0 : (List (Int × ((Int × Int) × (Int × (Int × Int)))))) (r : Bool) (hF : f74 k x0 x1 x2_0 x3_0 = some r) : PCall Try.prog 74 [⟨(.int .i64), x0⟩, ⟨(.int .i64), x1⟩, ⟨sh9, (some ((some x2_0), ()))⟩, ⟨sh10, (some x3_0)⟩] [⟨.bool, r⟩] := by
  refine pcall_intro Try.func74 rfl rfl (Nat.le_of_ble_eq_true rfl) ?_
  intro w0 Zi a w h
  rw [f74] at hF
  refine wp_reg_seq tok (orc := orcL []) (fz := []) (l := [0, 1, 2, 3]) (c := _) (.inr fun i h => h) h (by kernel_rfl) (AllP.nil) ?_
  intro a w h
  refine wp_seq ?_
  obtain ⟨hc5, hF⟩ := of_if hF
  obtain ⟨r1, hr6, hF⟩ := of_bind hF
  obtain ⟨hc7, hF⟩ := of_if hF
  obtain ⟨r2, hr8, hF⟩ := of_bind hF
  refine wp_regy_seq tok (orc := orcL [(14, [⟨(.int .i64), r1⟩]), (20, [⟨(.int .i64), r2⟩])]) (fz := []) (l := [0, 1, 3, 7, 8]) (c := _) ([], [], [], []) 14 (.inr fun i h => h) h (by kernel_rfl) (by kernel_rfl) (AllP.cons hc5 (AllP.cons (c72 k (List.getD x3_0 (Int.toNat x0) ((0 : Int), (((0 : Int), (0 : Int)), ((0 : Int), ((0 : Int), (0 : Int)))))) x2_0 r1 hr6) (AllP.cons hc7 (AllP.cons (c72 k (List.getD x3_0 (Int.toNat x1) ((0 : Int), (((0 : Int), (0 : Int)), ((0 : Int), ((0 : Int), (0 : Int)))))) x2_0 r2 hr8) AllP.nil)))) ?_
  intro a w h
  refine wp_reg_seq tok (orc := orcL []) (fz := []) (l := [0, 1, 3, 7, 8, 23]) (c := _) (.inr fun i h => h) h (by kernel_rfl) (AllP.nil) ?_
  intro a w h
  refine wp_if h (b := ((r1 : Int) != r2)) (by kernel_rfl) (fun hb => ?_) (fun hb => ?_)
  · replace hF := of_t hb hF
    refine wp_reg_seq tok (orc := orcL []) (fz := []) (l := [6]) (c := _) (.inr fun i h => h) h (by kernel_rfl) (AllP.nil) ?_
    intro a w h
    cases hF
    exact wp_ret (ret_okR tok h rfl (by kernel_rfl)).1
  · replace hF := of_f hb hF
    refine wp_skip ?_
    obtain ⟨hc3, hF⟩ := of_if hF
    obtain ⟨hc4, hF⟩ := of_if hF
    refine wp_regy_seq tok (orc := orcL []) (fz := []) (l := [6]) (c := _) ([], [], [], []) 12 (.inr fun i h => h) h (by kernel_rfl) (by kernel_rfl) (AllP.cons hc3 (AllP.cons hc4 AllP.nil)) ?_
    intro a w h
    cases hF
    exact wp_ret (ret_okR tok h rfl (by kernel_rfl)).1

def f75 (k : Nat) (x0 : (Int × ((Int × Int) × (Int × (Int × Int))))) (x1 : (Int × ((Int × Int) × (Int × (Int × Int))))) : Option Bool := some (bif (bif (bif (decide ((x0.2.1.1 : Int) < (IntKind.i64.wrap (x1.2.1.1 + x1.2.2.1)))) then (decide ((x1.2.1.1 : Int) < (IntKind.i64.wrap (x0.2.1.1 + x0.2.2.1)))) else false) then (decide ((x0.2.1.2 : Int) < (IntKind.i64.wrap (x1.2.1.2 + x1.2.2.2.1)))) else false) then (decide ((x1.2.1.2 : Int) < (IntKind.i64.wrap (x0.2.1.2 + x0.2.2.2.1)))) else false)
set_option maxRecDepth 100000 in
/-- 'impl.overlap'. -/
theorem c75 (k : Nat) (x0 : (Int × ((Int × Int) × (Int × (Int × Int))))) (x1 : (Int × ((Int × Int) × (Int × (Int × Int))))) (r : Bool) (hF : f75 k x0 x1 = some r) : PCall Try.prog 75 [⟨sh2, x0⟩, ⟨sh2, x1⟩] [⟨.bool, r⟩] := by
  refine pcall_intro Try.func75 rfl rfl (Nat.le_of_ble_eq_true rfl) ?_
  intro w0 Zi a w h
  rw [f75] at hF
  refine wp_reg_seq tok (orc := orcL []) (fz := []) (l := [2, 3]) (c := _) (.inr fun i h => h) h (by kernel_rfl) (AllP.nil) ?_
  intro a w h
  refine wp_reg_seq tok (orc := orcL []) (fz := []) (l := [4]) (c := _) (.inr fun i h => h) h (by kernel_rfl) (AllP.nil) ?_
  intro a w h
  cases hF
  exact wp_ret (ret_okR tok h rfl (by kernel_rfl)).1

def f76 (k : Nat) (x0 : Int) (x1 : Int) (x2_0 : (List Int)) : Option Bool := if (0 ≤ x0 ∧ x0 < (List.length x2_0 : Int)) then (if (0 ≤ x1 ∧ x1 < (List.length x2_0 : Int)) then (some (decide (((List.getD x2_0 (Int.toNat x0) (0 : Int)) : Int) < (List.getD x2_0 (Int.toNat x1) (0 : Int))))) else none) else none
set_option maxRecDepth 100000 in
/-- 'impl.Place$3'. -/
theorem c76 (k : Nat) (x0 : Int) (x1 : Int) (x2_0 : (List Int)) (r : Bool) (hF : f76 k x0 x1 x2_0 = some r) : PCall Try.prog 76 [⟨(.int .i64), x0⟩, ⟨(.int .i64), x1⟩, ⟨sh13, (some x2_0)⟩] [⟨.bool, r⟩] := by
  refine pcall_intro Try.func76 rfl rfl (Nat.le_of_ble_eq_true rfl) ?_
  intro w0 Zi a w h
  rw [f76] at hF
  refine wp_reg_seq tok (orc := orcL []) (fz := []) (l := [0, 1, 2]) (c := _) (.inr fun i h => h) h (by kernel_rfl) (AllP.nil) ?_
  intro a w h
  obtain ⟨hc1, hF⟩ := of_if hF
  obtain ⟨hc2, hF⟩ := of_if hF
  refine wp_regy_seq tok (orc := orcL []) (fz := []) (l := [5]) (c := _) ([], [], [], []) 10 (.inr fun i h => h) h (by kernel_rfl) (by kernel_rfl) (AllP.cons hc1 (AllP.cons hc2 AllP.nil)) ?_
  intro a w h
  cases hF
  exact wp_ret (ret_okR tok h rfl (by kernel_rfl)).1

def H74 : Prop := ∀ (k : Nat) (c0 : (Option (List (Int × Bool)))), LessOk (α := (Int × ((Int × Int) × (Int × (Int × Int))))) (Sh.dflt sh2) (fun (ys : List (Int × ((Int × Int) × (Int × (Int × Int))))) (i j : Int) => f74 k i j c0 ys)
def H76 : Prop := ∀ (k : Nat), LessOk (α := Int) (Sh.dflt (.int .i64)) (fun (ys : List Int) (i j : Int) => f76 k i j ys)
def f15.j677 (k : Nat) (v619 : Int) (q383 : ((List (Int × ((Int × Int) × (Int × (Int × Int))))) × Int) → Option (List Int)) : (List (Int × ((Int × Int) × (Int × (Int × Int))))) → Option (List Int)
  | v676 => q383 (v676, (IntKind.i64.wrap (v619 + (1 : Int))))
def f15.l705 (k : Nat) (v618 : (List (Int × ((Int × Int) × (Int × (Int × Int)))))) (v28 : (List (Int × Bool))) (x0 : (List (Int × ((Int × Int) × (Int × (Int × Int)))))) (v619 : Int) (q677 : (List (Int × ((Int × Int) × (Int × (Int × Int))))) → Option (List Int)) : Nat → (Bool × Int) → Option (List Int)
  | 0, _ => none
  | m705 + 1, (v724, v725) => if (decide ((v725 : Int) < (List.length v618 : Int))) then (if (0 ≤ v725 ∧ v725 < (List.length v618 : Int)) then ((if (v724 = true) then f75 k (List.getD (sortR (α := (Int × ((Int × Int) × (Int × (Int × Int))))) pdqR (Sh.dflt sh2) (ofLess (fun (ys : List (Int × ((Int × Int) × (Int × (Int × Int))))) (i j : Int) => f74 k i j (some v28) ys)) (([] : (List (Int × ((Int × Int) × (Int × (Int × Int)))))) ++ x0)) (Int.toNat v619) ((0 : Int), (((0 : Int), (0 : Int)), ((0 : Int), ((0 : Int), (0 : Int)))))) (List.getD v618 (Int.toNat v725) ((0 : Int), (((0 : Int), (0 : Int)), ((0 : Int), ((0 : Int), (0 : Int)))))) else some default).bind fun r729 => ((f15.l705 k v618 v28 x0 v619 q677) m705 ((bif v724 then (!r729) else false), (IntKind.i64.wrap (v725 + (1 : Int)))))) else none) else (if v724 then (if ((List.length v618 + List.length [(List.getD (sortR (α := (Int × ((Int × Int) × (Int × (Int × Int))))) pdqR (Sh.dflt sh2) (ofLess (fun (ys : List (Int × ((Int × Int) × (Int × (Int × Int))))) (i j : Int) => f74 k i j (some v28) ys)) (([] : (List (Int × ((Int × Int) × (Int × (Int × Int)))))) ++ x0)) (Int.toNat v619) ((0 : Int), (((0 : Int), (0 : Int)), ((0 : Int), ((0 : Int), (0 : Int))))))]) * 48 ≤ 140737488355328) then (q677 (v618 ++ [(List.getD (sortR (α := (Int × ((Int × Int) × (Int × (Int × Int))))) pdqR (Sh.dflt sh2) (ofLess (fun (ys : List (Int × ((Int × Int) × (Int × (Int × Int))))) (i j : Int) => f74 k i j (some v28) ys)) (([] : (List (Int × ((Int × Int) × (Int × (Int × Int)))))) ++ x0)) (Int.toNat v619) ((0 : Int), (((0 : Int), (0 : Int)), ((0 : Int), ((0 : Int), (0 : Int))))))])) else none) else (q677 v618))
def f15.l755 (k : Nat) (v618 : (List (Int × ((Int × Int) × (Int × (Int × Int)))))) : Nat → ((List Int) × Int) → Option (List Int)
  | 0, _ => none
  | m755 + 1, (v770, v771) => if (decide ((v771 : Int) < (List.length v618 : Int))) then (if (0 ≤ v771 ∧ v771 < (List.length v618 : Int)) then (if ((List.length v770 + List.length [(List.getD v618 (Int.toNat v771) ((0 : Int), (((0 : Int), (0 : Int)), ((0 : Int), ((0 : Int), (0 : Int)))))).1]) * 8 ≤ 140737488355328) then ((f15.l755 k v618) m755 ((List.append v770 [(List.getD v618 (Int.toNat v771) ((0 : Int), (((0 : Int), (0 : Int)), ((0 : Int), ((0 : Int), (0 : Int)))))).1]), (IntKind.i64.wrap (v771 + (1 : Int))))) else none) else none) else (if (List.length v770 < 2305843009213693952) then (some (sortR (α := Int) pdqR (Sh.dflt (.int .i64)) (ofLess (fun (ys : List Int) (i j : Int) => f76 k i j ys)) v770)) else none)
def f15.l383 (k : Nat) (v28 : (List (Int × Bool))) (x0 : (List (Int × ((Int × Int) × (Int × (Int × Int)))))) : Nat → ((List (Int × ((Int × Int) × (Int × (Int × Int))))) × Int) → Option (List Int)
  | 0, _ => none
  | m383 + 1, (v618, v619) => if (decide ((v619 : Int) < (List.length (sortR (α := (Int × ((Int × Int) × (Int × (Int × Int))))) pdqR (Sh.dflt sh2) (ofLess (fun (ys : List (Int × ((Int × Int) × (Int × (Int × Int))))) (i j : Int) => f74 k i j (some v28) ys)) (([] : (List (Int × ((Int × Int) × (Int × (Int × Int)))))) ++ x0)) : Int))) then (if (0 ≤ v619 ∧ v619 < (List.length (sortR (α := (Int × ((Int × Int) × (Int × (Int × Int))))) pdqR (Sh.dflt sh2) (ofLess (fun (ys : List (Int × ((Int × Int) × (Int × (Int × Int))))) (i j : Int) => f74 k i j (some v28) ys)) (([] : (List (Int × ((Int × Int) × (Int × (Int × Int)))))) ++ x0)) : Int)) then (f15.l705 k v618 v28 x0 v619 (f15.j677 k v619 ((f15.l383 k v28 x0) m383)) k (true, (0 : Int))) else none) else (f15.l755 k v618 k (([] : (List Int)), (0 : Int)))
def f15.l17 (k : Nat) (x1 : (List Int)) (x0 : (List (Int × ((Int × Int) × (Int × (Int × Int)))))) : Nat → ((List (Int × Bool)) × Int) → Option (List Int)
  | 0, _ => none
  | m17 + 1, (v28, v29) => if (decide ((v29 : Int) < (List.length x1 : Int))) then (if (0 ≤ v29 ∧ v29 < (List.length x1 : Int)) then ((f15.l17 k x1 x0) m17 ((mput (Sh.beq (.int .i64)) (List.getD x1 (Int.toNat v29) (0 : Int)) true v28), (IntKind.i64.wrap (v29 + (1 : Int))))) else none) else (if ((List.length ([] : (List (Int × ((Int × Int) × (Int × (Int × Int)))))) + List.length x0) * 48 ≤ 140737488355328) then (if (List.length (([] : (List (Int × ((Int × Int) × (Int × (Int × Int)))))) ++ x0) < 2305843009213693952) then (f15.l383 k v28 x0 k (([] : (List (Int × ((Int × Int) × (Int × (Int × Int)))))), (0 : Int))) else none) else none)
def f15 (k : Nat) (x0 : (List (Int × ((Int × Int) × (Int × (Int × Int)))))) (x1 : (List Int)) : Option (List Int) := (f32 k x0).bind fun r1 => (if (bif (!r1) then true else (decide (((List.length x1 : Int) : Int) > (500 : Int)))) then (some ([] : (List Int))) else (f15.l17 k x1 x0 k (([] : (List (Int × Bool))), (0 : Int))))
set_option maxRecDepth 100000 in
/-- 'impl.Place'. -/
theorem c15 (k : Nat) (x0 : (List (Int × ((Int × Int) × (Int × (Int × Int)))))) (x1 : (List Int)) (h74 : H74) (h76 : H76) (r : (List Int)) (hF : f15 k x0 x1 = some r) : PCall Try.prog 15 [⟨sh4, x0⟩, ⟨(.sl false 2 (.int .i64)), x1⟩] [⟨(.sl true 2 (.int .i64)), r⟩] := by
  refine pcall_intro Try.func15 rfl rfl (Nat.le_of_ble_eq_true rfl) ?_
  intro w0 Zi a w h
  rw [f15] at hF
  refine wp_reg_seq tok (orc := orcL []) (fz := []) (l := [0, 1]) (c := _) (.inr fun i h => h) h (by kernel_rfl) (AllP.nil) ?_
  intro a w h
  refine wp_seq ?_
  obtain ⟨r1, hr779, hF⟩ := of_bind hF
  refine wp_reg_seq tok (orc := orcL [(20, [⟨.bool, r1⟩])]) (fz := []) (l := [0, 1, 26]) (c := _) (.inr fun i h => h) h (by kernel_rfl) (AllP.cons (c32 k x0 r1 hr779) AllP.nil) ?_
  intro a w h
  refine wp_if h (b := (bif (!r1) then true else (decide (((List.length x1 : Int) : Int) > (500 : Int))))) (by kernel_rfl) (fun hb => ?_) (fun hb => ?_)
  · replace hF := of_t hb hF
    refine wp_reg_seq tok (orc := orcL []) (fz := []) (l := [4]) (c := _) (.inr fun i h => h) h (by kernel_rfl) (AllP.nil) ?_
    intro a w h
    cases hF
    exact wp_ret (ret_okR tok h rfl (by kernel_rfl)).1
  · replace hF := of_f hb hF
    refine wp_skip ?_
    refine wp_reg_seq tok (orc := orcL []) (fz := []) (l := [0, 1, 5]) (c := _) (.inr fun i h => h) h (by kernel_rfl) (AllP.nil) ?_
    intro a w h
    refine wp_seq ?_
    refine wp_reg_seq tok (orc := orcL []) (fz := []) (l := [0, 5, 28, 29, 30]) (c := _) (.inr fun i h => h) h (by kernel_rfl) (AllP.nil) ?_
    intro a w h
    refine wp_block ?_
    refine wp_loop_fuel (f15.l17 k x1 x0) (fun ((v28, v29) : ((List (Int × Bool)) × Int)) => [(0, .val sh4 x0), (5, .val sh7 (some (some v28))), (28, .val (.sl false 2 (.int .i64)) x1), (29, .val (.int .i64) (List.length x1 : Int)), (30, .val (.int .i64) v29)]) (fun v h => by obtain ⟨v28, v29⟩ := v; rw [f15.l17] at h; cases h) ?_ hF (h.arrive (fz := []) (l := [0, 5, 28, 29, 30]) (.inr fun i h => h) (by kernel_rfl))
    intro m17 v a w hF h
    obtain ⟨v28, v29⟩ := v
    rw [f15.l17] at hF
    refine wp_reg_seq tok (orc := orcL []) (fz := []) (l := [0, 5, 28, 29, 30, 31]) (c := _) (.inr fun i h => h) h (by kernel_rfl) (AllP.nil) ?_
    intro a w h
    refine wp_seq <| wp_if h (b := (decide ((v29 : Int) < (List.length x1 : Int)))) (by kernel_rfl) (fun hb => ?_) (fun hb => ?_)
    · replace hF := of_t hb hF
      refine wp_skip ?_
      refine wp_seq <| wp_block ?_
      obtain ⟨hc31, hF⟩ := of_if hF
      refine wp_reg_seq tok (orc := orcL []) (fz := []) (l := [0, 5, 7, 28, 29, 30]) (c := _) (.inr fun i h => h) h (by kernel_rfl) (AllP.cons hc31 AllP.nil) ?_
      intro a w h
      refine wp_reg tok (orc := orcL []) (fz := []) (l := [0, 5, 28, 29, 30]) (c := _) (.inr fun i h => h) h (by kernel_rfl) (AllP.cons (show eqTy Try.prog 9 2 (.int .i64) = true from by kernel_rfl) AllP.nil) ?_
      intro a w h
      refine wp_reg tok (orc := orcL []) (fz := []) (l := [0, 5, 28, 29, 30]) (c := _) (.inr fun i h => h) h (by kernel_rfl) (AllP.nil) ?_
      intro a w h
      exact ⟨((mput (Sh.beq (.int .i64)) (List.getD x1 (Int.toNat v29) (0 : Int)) true v28), (IntKind.i64.wrap (v29 + (1 : Int)))), hF, h.arrive (fz := []) (l := [0, 5, 28, 29, 30]) (.inr fun i h => h) (by kernel_rfl)⟩
    · replace hF := of_f hb hF
      refine wp_exit ?_
      replace h := Rel.freezeS (fz := [5]) (.inr fun i h => h) h (by kernel_rfl)
      refine wp_seqX_seq (sxG_ok tok (orc := orcL []) (sp := [(0, .fnv)])) (c := _) h (by kernel_rfl) (AllP.nil) ?_
      intro a w h
      replace h := h.only [0, 8] (by kernel_rfl)
      obtain ⟨hc778, hF⟩ := of_if hF
      refine wp_reg_seq tok (orc := orcL []) (fz := []) (l := [8, 9]) (c := _) (.inr fun i h => h) h (by kernel_rfl) (AllP.cons hc778 AllP.nil) ?_
      intro a w h
      obtain ⟨hc777, hF⟩ := of_if hF
      refine wp_sort_seq tok (fs := 73) (te := 54) (g := 74) (e := sh2) (res := pdqR) (cap := #[.tmp 8, .tmp 9]) (cl := [8, 9]) (f := (fun (ys : List (Int × ((Int × Int) × (Int × (Int × Int))))) (i j : Int) => f74 k i j (some v28) ys)) Go.Proofs.Ytnpaokckkbhdjaa.S.sc73_26 h rfl rfl rfl rfl rfl rfl rfl rfl rfl rfl rfl rfl rfl rfl (by kernel_rfl) (by kernel_rfl) (by kernel_rfl) rfl (by kernel_rfl) (by kernel_rfl) hc777 ⟨_, Try.func73, rfl, rfl⟩ ⟨_, Try.func74, rfl, rfl⟩ (h74 k (some v28)) (fun ys => ⟨[(8, []), (9, [])], [⟨sh9, (some ((some (some v28)), ()))⟩, ⟨sh10, (some ys)⟩], by kernel_rfl, by kernel_rfl, fun i j r hr => c74 k i j (some v28) ys r hr⟩) ?_
      intro a w h
      replace h := h.only [9] (by kernel_rfl)
      refine wp_reg_seq tok (orc := orcL []) (fz := []) (l := [9, 10]) (c := _) (.inr fun i h => h) h (by kernel_rfl) (AllP.nil) ?_
      intro a w h
      refine wp_seq ?_
      refine wp_reg_seq tok (orc := orcL []) (fz := []) (l := [9, 10, 44, 45, 46]) (c := _) (.inr fun i h => h) h (by kernel_rfl) (AllP.nil) ?_
      intro a w h
      refine wp_block ?_
      refine wp_loop_fuel (f15.l383 k v28 x0) (fun ((v618, v619) : ((List (Int × ((Int × Int) × (Int × (Int × Int))))) × Int)) => [(9, .val sh11 (some (sortR (α := (Int × ((Int × Int) × (Int × (Int × Int))))) pdqR (Sh.dflt sh2) (ofLess (fun (ys : List (Int × ((Int × Int) × (Int × (Int × Int))))) (i j : Int) => f74 k i j (some v28) ys)) (([] : (List (Int × ((Int × Int) × (Int × (Int × Int)))))) ++ x0)))), (10, .val sh3 v618), (44, .copy 9 [.der]), (45, .val (.int .i64) (List.length (sortR (α := (Int × ((Int × Int) × (Int × (Int × Int))))) pdqR (Sh.dflt sh2) (ofLess (fun (ys : List (Int × ((Int × Int) × (Int × (Int × Int))))) (i j : Int) => f74 k i j (some v28) ys)) (([] : (List (Int × ((Int × Int) × (Int × (Int × Int)))))) ++ x0)) : Int)), (46, .val (.int .i64) v619)]) (fun v h => by obtain ⟨v618, v619⟩ := v; rw [f15.l383] at h; cases h) ?_ hF (h.arrive (fz := []) (l := [9, 10, 44, 45, 46]) (.inr fun i h => h) (by kernel_rfl))
      intro m383 v a w hF h
      obtain ⟨v618, v619⟩ := v
      rw [f15.l383] at hF
      refine wp_reg_seq tok (orc := orcL []) (fz := []) (l := [9, 10, 44, 45, 46, 47]) (c := _) (.inr fun i h => h) h (by kernel_rfl) (AllP.nil) ?_
      intro a w h
      refine wp_seq <| wp_if h (b := (decide ((v619 : Int) < (List.length (sortR (α := (Int × ((Int × Int) × (Int × (Int × Int))))) pdqR (Sh.dflt sh2) (ofLess (fun (ys : List (Int × ((Int × Int) × (Int × (Int × Int))))) (i j : Int) => f74 k i j (some v28) ys)) (([] : (List (Int × ((Int × Int) × (Int × (Int × Int)))))) ++ x0)) : Int)))) (by kernel_rfl) (fun hb => ?_) (fun hb => ?_)
      · replace hF := of_t hb hF
        refine wp_skip ?_
        refine wp_mid (fun a w => ∃ v : (List (Int × ((Int × Int) × (Int × (Int × Int))))), f15.j677 k v619 ((f15.l383 k v28 x0) m383) v = some r ∧ Rel w0 (fun _ => False) Zi Try.f15.ntmps ((fun (v676 : (List (Int × ((Int × Int) × (Int × (Int × Int)))))) => ([(9, .val sh11 (some (sortR (α := (Int × ((Int × Int) × (Int × (Int × Int))))) pdqR (Sh.dflt sh2) (ofLess (fun (ys : List (Int × ((Int × Int) × (Int × (Int × Int))))) (i j : Int) => f74 k i j (some v28) ys)) (([] : (List (Int × ((Int × Int) × (Int × (Int × Int)))))) ++ x0)))), (10, .val sh3 v676), (44, .copy 9 [.der]), (45, .val (.int .i64) (List.length (sortR (α := (Int × ((Int × Int) × (Int × (Int × Int))))) pdqR (Sh.dflt sh2) (ofLess (fun (ys : List (Int × ((Int × Int) × (Int × (Int × Int))))) (i j : Int) => f74 k i j (some v28) ys)) (([] : (List (Int × ((Int × Int) × (Int × (Int × Int)))))) ++ x0)) : Int)), (46, .val (.int .i64) v619)] : SS)) v) a w) ?_ ?_
        ·
          refine wp_block ?_
          obtain ⟨hc733, hF⟩ := of_if hF
          refine wp_reg_seq tok (orc := orcL []) (fz := []) (l := [9, 10, 12, 44, 45, 46]) (c := _) (.inr fun i h => h) h (by kernel_rfl) (AllP.cons hc733 AllP.nil) ?_
          intro a w h
          refine wp_reg_seq tok (orc := orcL []) (fz := []) (l := [9, 10, 12, 13, 44, 45, 46]) (c := _) (.inr fun i h => h) h (by kernel_rfl) (AllP.nil) ?_
          intro a w h
          refine wp_seq ?_
          refine wp_reg_seq tok (orc := orcL []) (fz := []) (l := [9, 10, 12, 13, 44, 45, 46, 50, 51, 52]) (c := _) (.inr fun i h => h) h (by kernel_rfl) (AllP.nil) ?_
          intro a w h
          refine wp_block ?_
          refine wp_loop_fuel (f15.l705 k v618 v28 x0 v619 (f15.j677 k v619 ((f15.l383 k v28 x0) m383))) (fun ((v724, v725) : (Bool × Int)) => [(9, .val sh11 (some (sortR (α := (Int × ((Int × Int) × (Int × (Int × Int))))) pdqR (Sh.dflt sh2) (ofLess (fun (ys : List (Int × ((Int × Int) × (Int × (Int × Int))))) (i j : Int) => f74 k i j (some v28) ys)) (([] : (List (Int × ((Int × Int) × (Int × (Int × Int)))))) ++ x0)))), (10, .val sh3 v618), (12, .val sh5 (some (List.getD (sortR (α := (Int × ((Int × Int) × (Int × (Int × Int))))) pdqR (Sh.dflt sh2) (ofLess (fun (ys : List (Int × ((Int × Int) × (Int × (Int × Int))))) (i j : Int) => f74 k i j (some v28) ys)) (([] : (List (Int × ((Int × Int) × (Int × (Int × Int)))))) ++ x0)) (Int.toNat v619) ((0 : Int), (((0 : Int), (0 : Int)), ((0 : Int), ((0 : Int), (0 : Int)))))))), (13, .val .bool v724), (44, .copy 9 [.der]), (45, .val (.int .i64) (List.length (sortR (α := (Int × ((Int × Int) × (Int × (Int × Int))))) pdqR (Sh.dflt sh2) (ofLess (fun (ys : List (Int × ((Int × Int) × (Int × (Int × Int))))) (i j : Int) => f74 k i j (some v28) ys)) (([] : (List (Int × ((Int × Int) × (Int × (Int × Int)))))) ++ x0)) : Int)), (46, .val (.int .i64) v619), (50, .copy 10 []), (51, .val (.int .i64) (List.length v618 : Int)), (52, .val (.int .i64) v725)]) (fun v h => by obtain ⟨v724, v725⟩ := v; rw [f15.l705] at h; cases h) ?_ hF (h.arrive (fz := []) (l := [9, 10, 12, 13, 44, 45, 46, 50, 51, 52]) (.inr fun i h => h) (by kernel_rfl))
          intro m705 v a w hF h
          obtain ⟨v724, v725⟩ := v
          rw [f15.l705] at hF
          refine wp_reg_seq tok (orc := orcL []) (fz := []) (l := [9, 10, 12, 13, 44, 45, 46, 50, 51, 52, 53]) (c := _) (.inr fun i h => h) h (by kernel_rfl) (AllP.nil) ?_
          intro a w h
          refine wp_seq <| wp_if h (b := (decide ((v725 : Int) < (List.length v618 : Int)))) (by kernel_rfl) (fun hb => ?_) (fun hb => ?_)
          · replace hF := of_t hb hF
            refine wp_skip ?_
            refine wp_seq <| wp_block ?_
            obtain ⟨hc731, hF⟩ := of_if hF
            refine wp_reg_seq tok (orc := orcL []) (fz := []) (l := [9, 10, 12, 13, 15, 44, 45, 46, 50, 51, 52]) (c := _) (.inr fun i h => h) h (by kernel_rfl) (AllP.cons hc731 AllP.nil) ?_
            intro a w h
            obtain ⟨r729, hr730, hF⟩ := of_bind hF
            refine wp_reg tok (orc := orcL [(60, [⟨.bool, r729⟩])]) (fz := []) (l := [9, 10, 12, 13, 44, 45, 46, 50, 51, 52]) (c := _) (.inr fun i h => h) h (by kernel_rfl) (AllP.cons (fun (hg : (v724 = true)) => c75 k (List.getD (sortR (α := (Int × ((Int × Int) × (Int × (Int × Int))))) pdqR (Sh.dflt sh2) (ofLess (fun (ys : List (Int × ((Int × Int) × (Int × (Int × Int))))) (i j : Int) => f74 k i j (some v28) ys)) (([] : (List (Int × ((Int × Int) × (Int × (Int × Int)))))) ++ x0)) (Int.toNat v619) ((0 : Int), (((0 : Int), (0 : Int)), ((0 : Int), ((0 : Int), (0 : Int)))))) (List.getD v618 (Int.toNat v725) ((0 : Int), (((0 : Int), (0 : Int)), ((0 : Int), ((0 : Int), (0 : Int)))))) r729 (of_g hg hr730)) AllP.nil) ?_
            intro a w h
            refine wp_reg tok (orc := orcL []) (fz := []) (l := [9, 10, 12, 13, 44, 45, 46, 50, 51, 52]) (c := _) (.inr fun i h => h) h (by kernel_rfl) (AllP.nil) ?_
            intro a w h
            exact ⟨((bif v724 then (!r729) else false), (IntKind.i64.wrap (v725 + (1 : Int)))), hF, h.arrive (fz := []) (l := [9, 10, 12, 13, 44, 45, 46, 50, 51, 52]) (.inr fun i h => h) (by kernel_rfl)⟩
          · replace hF := of_f hb hF
            refine wp_exit ?_
            refine wp_reg_seq tok (orc := orcL []) (fz := []) (l := [9, 10, 12, 44, 45, 46, 64]) (c := _) (.inr fun i h => h) h (by kernel_rfl) (AllP.nil) ?_
            intro a w h
            refine wp_if h (b := v724) (by kernel_rfl) (fun hb => ?_) (fun hb => ?_)
            · replace hF := of_t hb hF
              obtain ⟨hc732, hF⟩ := of_if hF
              refine wp_reg tok (orc := orcL []) (fz := []) (l := [9, 10, 44, 45, 46]) (c := _) (.inr fun i h => h) h (by kernel_rfl) (AllP.cons hc732 AllP.nil) ?_
              intro a w h
              exact ⟨(v618 ++ [(List.getD (sortR (α := (Int × ((Int × Int) × (Int × (Int × Int))))) pdqR (Sh.dflt sh2) (ofLess (fun (ys : List (Int × ((Int × Int) × (Int × (Int × Int))))) (i j : Int) => f74 k i j (some v28) ys)) (([] : (List (Int × ((Int × Int) × (Int × (Int × Int)))))) ++ x0)) (Int.toNat v619) ((0 : Int), (((0 : Int), (0 : Int)), ((0 : Int), ((0 : Int), (0 : Int))))))]), hF, h.arrive (fz := []) (l := [9, 10, 44, 45, 46]) (.inr fun i h => h) (by kernel_rfl)⟩
            · replace hF := of_f hb hF
              refine wp_skip ?_
              exact ⟨v618, hF, h.arrive (fz := []) (l := [9, 10, 44, 45, 46]) (.inr fun i h => h) (by kernel_rfl)⟩
        · rintro a w ⟨v676, hF, h⟩
          rw [f15.j677] at hF
          refine wp_reg tok (orc := orcL []) (fz := []) (l := [9, 10, 44, 45, 46]) (c := _) (.inr fun i h => h) h (by kernel_rfl) (AllP.nil) ?_
          intro a w h
          exact ⟨(v676, (IntKind.i64.wrap (v619 + (1 : Int)))), hF, h.arrive (fz := []) (l := [9, 10, 44, 45, 46]) (.inr fun i h => h) (by kernel_rfl)⟩
      · replace hF := of_f hb hF
        refine wp_exit ?_
        refine wp_reg_seq tok (orc := orcL []) (fz := []) (l := [10, 16]) (c := _) (.inr fun i h => h) h (by kernel_rfl) (AllP.nil) ?_
        intro a w h
        refine wp_seq ?_
        refine wp_reg_seq tok (orc := orcL []) (fz := []) (l := [10, 16, 70, 71, 72]) (c := _) (.inr fun i h => h) h (by kernel_rfl) (AllP.nil) ?_
        intro a w h
        refine wp_block ?_
        refine wp_loop_fuel (f15.l755 k v618) (fun ((v770, v771) : ((List Int) × Int)) => [(10, .val sh3 v618), (16, .val sh12 (some v770)), (70, .copy 10 []), (71, .val (.int .i64) (List.length v618 : Int)), (72, .val (.int .i64) v771)]) (fun v h => by obtain ⟨v770, v771⟩ := v; rw [f15.l755] at h; cases h) ?_ hF (h.arrive (fz := []) (l := [10, 16, 70, 71, 72]) (.inr fun i h => h) (by kernel_rfl))
        intro m755 v a w hF h
        obtain ⟨v770, v771⟩ := v
        rw [f15.l755] at hF
        refine wp_reg_seq tok (orc := orcL []) (fz := []) (l := [10, 16, 70, 71, 72, 73]) (c := _) (.inr fun i h => h) h (by kernel_rfl) (AllP.nil) ?_
        intro a w h
        refine wp_seq <| wp_if h (b := (decide ((v771 : Int) < (List.length v618 : Int)))) (by kernel_rfl) (fun hb => ?_) (fun hb => ?_)
        · replace hF := of_t hb hF
          refine wp_skip ?_
          refine wp_seq <| wp_block ?_
          obtain ⟨hc775, hF⟩ := of_if hF
          refine wp_reg_seq tok (orc := orcL []) (fz := []) (l := [10, 16, 18, 70, 71, 72]) (c := _) (.inr fun i h => h) h (by kernel_rfl) (AllP.cons hc775 AllP.nil) ?_
          intro a w h
          obtain ⟨hc774, hF⟩ := of_if hF
          refine wp_reg tok (orc := orcL [(80, [⟨.pt false 4294967293 .unit, some ()⟩])]) (fz := []) (l := [10, 16, 70, 71, 72]) (c := _) (.inr fun i h => h) h (by kernel_rfl) (AllP.cons (PrefL.mk (l := [[.der]]) (p := [.der]) rfl) (AllP.cons hc774 (AllP.cons (show ([.der] : Path) = [.der] from rfl) AllP.nil))) ?_
          intro a w h
          refine wp_reg tok (orc := orcL []) (fz := []) (l := [10, 16, 70, 71, 72]) (c := _) (.inr fun i h => h) h (by kernel_rfl) (AllP.nil) ?_
          intro a w h
          exact ⟨((List.append v770 [(List.getD v618 (Int.toNat v771) ((0 : Int), (((0 : Int), (0 : Int)), ((0 : Int), ((0 : Int), (0 : Int)))))).1]), (IntKind.i64.wrap (v771 + (1 : Int)))), hF, h.arrive (fz := []) (l := [10, 16, 70, 71, 72]) (.inr fun i h => h) (by kernel_rfl)⟩
        · replace hF := of_f hb hF
          refine wp_exit ?_
          obtain ⟨hc776, hF⟩ := of_if hF
          refine wp_sort_seq tok (fs := 73) (te := 2) (g := 76) (e := (.int .i64)) (res := pdqR) (cap := #[.tmp 16]) (cl := [16]) (f := (fun (ys : List Int) (i j : Int) => f76 k i j ys)) Go.Proofs.Ytnpaokckkbhdjaa.S.sc73_23 h rfl rfl rfl rfl rfl rfl rfl rfl rfl rfl rfl rfl rfl rfl (by kernel_rfl) (by kernel_rfl) (by kernel_rfl) rfl (by kernel_rfl) (by kernel_rfl) hc776 ⟨_, Try.func73, rfl, rfl⟩ ⟨_, Try.func76, rfl, rfl⟩ (h76 k) (fun ys => ⟨[(16, [])], [⟨sh13, (some ys)⟩], by kernel_rfl, by kernel_rfl, fun i j r hr => c76 k i j ys r hr⟩) ?_
          intro a w h
          replace h := h.only [16] (by kernel_rfl)
          refine wp_reg_seq tok (orc := orcL []) (fz := []) (l := [4, 16]) (c := _) (.inr fun i h => h) h (by kernel_rfl) (AllP.nil) ?_
          intro a w h
          cases hF
          exact wp_ret (ret_okR tok h rfl (by kernel_rfl)).1

def f16.l18 (k : Nat) (x0 : (List Int)) (x1 : (List Int)) : Nat → Int → Option Bool
  | 0, _ => none
  | m18 + 1, v30 => if (decide ((v30 : Int) < (List.length x0 : Int))) then (if (0 ≤ v30 ∧ v30 < (List.length x0 : Int)) then (if (0 ≤ v30 ∧ v30 < (List.length x1 : Int)) then (if (((List.getD x0 (Int.toNat v30) (0 : Int)) : Int) != (List.getD x1 (Int.toNat v30) (0 : Int))) then (some false) else ((f16.l18 k x0 x1) m18 (IntKind.i64.wrap (v30 + (1 : Int))))) else none) else none) else (some true)
def f16 (k : Nat) (x0 : (List Int)) (x1 : (List Int)) : Option Bool := if (((List.length x0 : Int) : Int) != (List.length x1 : Int)) then (some false) else (f16.l18 k x0 x1 k (0 : Int))
set_option maxRecDepth 100000 in
/-- 'laws.eqInt64S'. -/
theorem c16 (k : Nat) (x0 : (List Int)) (x1 : (List Int)) (r : Bool) (hF : f16 k x0 x1 = some r) : PCall Try.prog 16 [⟨(.sl false 2 (.int .i64)), x0⟩, ⟨(.sl false 2 (.int .i64)), x1⟩] [⟨.bool, r⟩] := by
  refine pcall_intro Try.func16 rfl rfl (Nat.le_of_ble_eq_true rfl) ?_
  intro w0 Zi a w h
  rw [f16] at hF
  refine wp_reg_seq tok (orc := orcL []) (fz := []) (l := [0, 1]) (c := _) (.inr fun i h => h) h (by kernel_rfl) (AllP.nil) ?_
  intro a w h
  refine wp_seq ?_
  refine wp_reg_seq tok (orc := orcL []) (fz := []) (l := [0, 1, 10]) (c := _) (.inr fun i h => h) h (by kernel_rfl) (AllP.nil) ?_
  intro a w h
  refine wp_if h (b := (((List.length x0 : Int) : Int) != (List.length x1 : Int))) (by kernel_rfl) (fun hb => ?_) (fun hb => ?_)
  · replace hF := of_t hb hF
    refine wp_reg_seq tok (orc := orcL []) (fz := []) (l := [4]) (c := _) (.inr fun i h => h) h (by kernel_rfl) (AllP.nil) ?_
    intro a w h
    cases hF
    exact wp_ret (ret_okR tok h rfl (by kernel_rfl)).1
  · replace hF := of_f hb hF
    refine wp_skip ?_
    refine wp_seq ?_
    refine wp_reg_seq tok (orc := orcL []) (fz := []) (l := [0, 1, 5]) (c := _) (.inr fun i h => h) h (by kernel_rfl) (AllP.nil) ?_
    intro a w h
    refine wp_block ?_
    refine wp_loop_fuel (f16.l18 k x0 x1) (fun (v30 : Int) => [(0, .val (.sl false 2 (.int .i64)) x0), (1, .val (.sl false 2 (.int .i64)) x1), (5, .val (.int .i64) v30)]) (fun v h => by rw [f16.l18] at h; cases h) ?_ hF (h.arrive (fz := []) (l := [0, 1, 5]) (.inr fun i h => h) (by kernel_rfl))
    intro m18 v30 a w hF h
    rw [f16.l18] at hF
    refine wp_seq ?_
    refine wp_reg_seq tok (orc := orcL []) (fz := []) (l := [0, 1, 5, 14]) (c := _) (.inr fun i h => h) h (by kernel_rfl) (AllP.nil) ?_
    intro a w h
    refine wp_if h (b := (decide ((v30 : Int) < (List.length x0 : Int)))) (by kernel_rfl) (fun hb => ?_) (fun hb => ?_)
    · replace hF := of_t hb hF
      refine wp_skip ?_
      refine wp_seq <| wp_block ?_
      obtain ⟨hc33, hF⟩ := of_if hF
      obtain ⟨hc34, hF⟩ := of_if hF
      refine wp_regy_seq tok (orc := orcL []) (fz := []) (l := [0, 1, 5, 25]) (c := _) ([], [], [], []) 9 (.inr fun i h => h) h (by kernel_rfl) (by kernel_rfl) (AllP.cons hc33 (AllP.cons hc34 AllP.nil)) ?_
      intro a w h
      refine wp_if h (b := (((List.getD x0 (Int.toNat v30) (0 : Int)) : Int) != (List.getD x1 (Int.toNat v30) (0 : Int)))) (by kernel_rfl) (fun hb => ?_) (fun hb => ?_)
      · replace hF := of_t hb hF
        refine wp_reg_seq tok (orc := orcL []) (fz := []) (l := [4]) (c := _) (.inr fun i h => h) h (by kernel_rfl) (AllP.nil) ?_
        intro a w h
        cases hF
        exact wp_ret (ret_okR tok h rfl (by kernel_rfl)).1
      · replace hF := of_f hb hF
        refine wp_skip ?_
        refine wp_reg tok (orc := orcL []) (fz := []) (l := [0, 1, 5]) (c := _) (.inr fun i h => h) h (by kernel_rfl) (AllP.nil) ?_
        intro a w h
        exact ⟨(IntKind.i64.wrap (v30 + (1 : Int))), hF, h.arrive (fz := []) (l := [0, 1, 5]) (.inr fun i h => h) (by kernel_rfl)⟩
    · replace hF := of_f hb hF
      refine wp_exit ?_
      refine wp_reg_seq tok (orc := orcL []) (fz := []) (l := [4]) (c := _) (.inr fun i h => h) h (by kernel_rfl) (AllP.nil) ?_
      intro a w h
      cases hF
      exact wp_ret (ret_okR tok h rfl (by kernel_rfl)).1

def f143 (k : Nat) (x0 : (Int × Int)) (x1 : (Int × Int)) : Option Bool := if ((x0.1 : Int) != x1.1) then (some false) else (if ((x0.2 : Int) != x1.2) then (some false) else (some true))
set_option maxRecDepth 100000 in
/-- 'laws.eqPoint'. -/
theorem c143 (k : Nat) (x0 : (Int × Int)) (x1 : (Int × Int)) (r : Bool) (hF : f143 k x0 x1 = some r) : PCall Try.prog 143 [⟨sh1, x0⟩, ⟨sh1, x1⟩] [⟨.bool, r⟩] := by
  refine pcall_intro Try.func143 rfl rfl (Nat.le_of_ble_eq_true rfl) ?_
  intro w0 Zi a w h
  rw [f143] at hF
  refine wp_reg_seq tok (orc := orcL []) (fz := []) (l := [2, 3]) (c := _) (.inr fun i h => h) h (by kernel_rfl) (AllP.nil) ?_
  intro a w h
  refine wp_seq ?_
  refine wp_reg_seq tok (orc := orcL []) (fz := []) (l := [2, 3, 9]) (c := _) (.inr fun i h => h) h (by kernel_rfl) (AllP.nil) ?_
  intro a w h
  refine wp_if h (b := ((x0.1 : Int) != x1.1)) (by kernel_rfl) (fun hb => ?_) (fun hb => ?_)
  · replace hF := of_t hb hF
    refine wp_reg_seq tok (orc := orcL []) (fz := []) (l := [4]) (c := _) (.inr fun i h => h) h (by kernel_rfl) (AllP.nil) ?_
    intro a w h
    cases hF
    exact wp_ret (ret_okR tok h rfl (by kernel_rfl)).1
  · replace hF := of_f hb hF
    refine wp_skip ?_
    refine wp_seq ?_
    refine wp_reg_seq tok (orc := orcL []) (fz := []) (l := [14]) (c := _) (.inr fun i h => h) h (by kernel_rfl) (AllP.nil) ?_
    intro a w h
    refine wp_if h (b := ((x0.2 : Int) != x1.2)) (by kernel_rfl) (fun hb => ?_) (fun hb => ?_)
    · replace hF := of_t hb hF
      refine wp_reg_seq tok (orc := orcL []) (fz := []) (l := [4]) (c := _) (.inr fun i h => h) h (by kernel_rfl) (AllP.nil) ?_
      intro a w h
      cases hF
      exact wp_ret (ret_okR tok h rfl (by kernel_rfl)).1
    · replace hF := of_f hb hF
      refine wp_skip ?_
      refine wp_reg_seq tok (orc := orcL []) (fz := []) (l := [4]) (c := _) (.inr fun i h => h) h (by kernel_rfl) (AllP.nil) ?_
      intro a w h
      cases hF
      exact wp_ret (ret_okR tok h rfl (by kernel_rfl)).1

def f77 (k : Nat) (x0 : (Int × ((Int × Int) × (Int × (Int × Int))))) (x1 : (Int × ((Int × Int) × (Int × (Int × Int))))) : Option Bool := if ((x0.1 : Int) != x1.1) then (some false) else ((f143 k x0.2.1 x1.2.1).bind fun r1 => (if (!r1) then (some false) else (if ((x0.2.2.1 : Int) != x1.2.2.1) then (some false) else (if ((x0.2.2.2.1 : Int) != x1.2.2.2.1) then (some false) else (if ((x0.2.2.2.2 : Int) != x1.2.2.2.2) then (some false) else (some true))))))
set_option maxRecDepth 100000 in
/-- 'laws.eqLabel'. -/
theorem c77 (k : Nat) (x0 : (Int × ((Int × Int) × (Int × (Int × Int))))) (x1 : (Int × ((Int × Int) × (Int × (Int × Int))))) (r : Bool) (hF : f77 k x0 x1 = some r) : PCall Try.prog 77 [⟨sh2, x0⟩, ⟨sh2, x1⟩] [⟨.bool, r⟩] := by
  refine pcall_intro Try.func77 rfl rfl (Nat.le_of_ble_eq_true rfl) ?_
  intro w0 Zi a w h
  rw [f77] at hF
  refine wp_reg_seq tok (orc := orcL []) (fz := []) (l := [2, 3]) (c := _) (.inr fun i h => h) h (by kernel_rfl) (AllP.nil) ?_
  intro a w h
  refine wp_seq ?_
  refine wp_reg_seq tok (orc := orcL []) (fz := []) (l := [2, 3, 9]) (c := _) (.inr fun i h => h) h (by kernel_rfl) (AllP.nil) ?_
  intro a w h
  refine wp_if h (b := ((x0.1 : Int) != x1.1)) (by kernel_rfl) (fun hb => ?_) (fun hb => ?_)
  · replace hF := of_t hb hF
    refine wp_reg_seq tok (orc := orcL []) (fz := []) (l := [4]) (c := _) (.inr fun i h => h) h (by kernel_rfl) (AllP.nil) ?_
    intro a w h
    cases hF
    exact wp_ret (ret_okR tok h rfl (by kernel_rfl)).1
  · replace hF := of_f hb hF
    refine wp_skip ?_
    refine wp_seq ?_
    obtain ⟨r1, hr2, hF⟩ := of_bind hF
    refine wp_reg_seq tok (orc := orcL [(14, [⟨.bool, r1⟩])]) (fz := []) (l := [2, 3, 15]) (c := _) (.inr fun i h => h) h (by kernel_rfl) (AllP.cons (c143 k x0.2.1 x1.2.1 r1 hr2) AllP.nil) ?_
    intro a w h
    refine wp_if h (b := (!r1)) (by kernel_rfl) (fun hb => ?_) (fun hb => ?_)
    · replace hF := of_t hb hF
      refine wp_reg_seq tok (orc := orcL []) (fz := []) (l := [4]) (c := _) (.inr fun i h => h) h (by kernel_rfl) (AllP.nil) ?_
      intro a w h
      cases hF
      exact wp_ret (ret_okR tok h rfl (by kernel_rfl)).1
    · replace hF := of_f hb hF
      refine wp_skip ?_
      refine wp_seq ?_
      refine wp_reg_seq tok (orc := orcL []) (fz := []) (l := [2, 3, 20]) (c := _) (.inr fun i h => h) h (by kernel_rfl) (AllP.nil) ?_
      intro a w h
      refine wp_if h (b := ((x0.2.2.1 : Int) != x1.2.2.1)) (by kernel_rfl) (fun hb => ?_) (fun hb => ?_)
      · replace hF := of_t hb hF
        refine wp_reg_seq tok (orc := orcL []) (fz := []) (l := [4]) (c := _) (.inr fun i h => h) h (by kernel_rfl) (AllP.nil) ?_
        intro a w h
        cases hF
        exact wp_ret (ret_okR tok h rfl (by kernel_rfl)).1
      · replace hF := of_f hb hF
        refine wp_skip ?_
        refine wp_seq ?_
        refine wp_reg_seq tok (orc := orcL []) (fz := []) (l := [2, 3, 25]) (c := _) (.inr fun i h => h) h (by kernel_rfl) (AllP.nil) ?_
        intro a w h
        refine wp_if h (b := ((x0.2.2.2.1 : Int) != x1.2.2.2.1)) (by kernel_rfl) (fun hb => ?_) (fun hb => ?_)
        · replace hF := of_t hb hF
          refine wp_reg_seq tok (orc := orcL []) (fz := []) (l := [4]) (c := _) (.inr fun i h => h) h (by kernel_rfl) (AllP.nil) ?_
          intro a w h
          cases hF
          exact wp_ret (ret_okR tok h rfl (by kernel_rfl)).1
        · replace hF := of_f hb hF
          refine wp_skip ?_
          refine wp_seq ?_
          refine wp_reg_seq tok (orc := orcL []) (fz := []) (l := [30]) (c := _) (.inr fun i h => h) h (by kernel_rfl) (AllP.nil) ?_
          intro a w h
          refine wp_if h (b := ((x0.2.2.2.2 : Int) != x1.2.2.2.2)) (by kernel_rfl) (fun hb => ?_) (fun hb => ?_)
          · replace hF := of_t hb hF
            refine wp_reg_seq tok (orc := orcL []) (fz := []) (l := [4]) (c := _) (.inr fun i h => h) h (by kernel_rfl) (AllP.nil) ?_
            intro a w h
            cases hF
            exact wp_ret (ret_okR tok h rfl (by kernel_rfl)).1
          · replace hF := of_f hb hF
            refine wp_skip ?_
            refine wp_reg_seq tok (orc := orcL []) (fz := []) (l := [4]) (c := _) (.inr fun i h => h) h (by kernel_rfl) (AllP.nil) ?_
            intro a w h
            cases hF
            exact wp_ret (ret_okR tok h rfl (by kernel_rfl)).1

def f17.l30 (k : Nat) (x0 : (List (Int × ((Int × Int) × (Int × (Int × Int)))))) (x1 : (List (Int × ((Int × Int) × (Int × (Int × Int)))))) : Nat → Int → Option Bool
  | 0, _ => none
  | m30 + 1, v50 => if (decide ((v50 : Int) < (List.length x0 : Int))) then (if (0 ≤ v50 ∧ v50 < (List.length x0 : Int)) then (if (0 ≤ v50 ∧ v50 < (List.length x1 : Int)) then ((f77 k (List.getD x0 (Int.toNat v50) ((0 : Int), (((0 : Int), (0 : Int)), ((0 : Int), ((0 : Int), (0 : Int)))))) (List.getD x1 (Int.toNat v50) ((0 : Int), (((0 : Int), (0 : Int)), ((0 : Int), ((0 : Int), (0 : Int))))))).bind fun r55 => (if (!r55) then (some false) else ((f17.l30 k x0 x1) m30 (IntKind.i64.wrap (v50 + (1 : Int)))))) else none) else none) else (some true)
def f17 (k : Nat) (x0 : (List (Int × ((Int × Int) × (Int × (Int × Int)))))) (x1 : (List (Int × ((Int × Int) × (Int × (Int × Int)))))) : Option Bool := if (((List.length x0 : Int) : Int) != (List.length x1 : Int)) then (some false) else (f17.l30 k x0 x1 k (0 : Int))
set_option maxRecDepth 100000 in
/-- 'laws.eqLabelS'. -/
theorem c17 (k : Nat) (x0 : (List (Int × ((Int × Int) × (Int × (Int × Int)))))) (x1 : (List (Int × ((Int × Int) × (Int × (Int × Int)))))) (r : Bool) (hF : f17 k x0 x1 = some r) : PCall Try.prog 17 [⟨sh4, x0⟩, ⟨sh4, x1⟩] [⟨.bool, r⟩] := by
  refine pcall_intro Try.func17 rfl rfl (Nat.le_of_ble_eq_true rfl) ?_
  intro w0 Zi a w h
  rw [f17] at hF
  refine wp_reg_seq tok (orc := orcL []) (fz := []) (l := [0, 1]) (c := _) (.inr fun i h => h) h (by kernel_rfl) (AllP.nil) ?_
  intro a w h
  refine wp_seq ?_
  refine wp_reg_seq tok (orc := orcL []) (fz := []) (l := [0, 1, 10]) (c := _) (.inr fun i h => h) h (by kernel_rfl) (AllP.nil) ?_
  intro a w h
  refine wp_if h (b := (((List.length x0 : Int) : Int) != (List.length x1 : Int))) (by kernel_rfl) (fun hb => ?_) (fun hb => ?_)
  · replace hF := of_t hb hF
    refine wp_reg_seq tok (orc := orcL []) (fz := []) (l := [4]) (c := _) (.inr fun i h => h) h (by kernel_rfl) (AllP.nil) ?_
    intro a w h
    cases hF
    exact wp_ret (ret_okR tok h rfl (by kernel_rfl)).1
  · replace hF := of_f hb hF
    refine wp_skip ?_
    refine wp_seq ?_
    refine wp_reg_seq tok (orc := orcL []) (fz := []) (l := [0, 1, 5]) (c := _) (.inr fun i h => h) h (by kernel_rfl) (AllP.nil) ?_
    intro a w h
    refine wp_block ?_
    refine wp_loop_fuel (f17.l30 k x0 x1) (fun (v50 : Int) => [(0, .val sh4 x0), (1, .val sh4 x1), (5, .val (.int .i64) v50)]) (fun v h => by rw [f17.l30] at h; cases h) ?_ hF (h.arrive (fz := []) (l := [0, 1, 5]) (.inr fun i h => h) (by kernel_rfl))
    intro m30 v50 a w hF h
    rw [f17.l30] at hF
    refine wp_seq ?_
    refine wp_reg_seq tok (orc := orcL []) (fz := []) (l := [0, 1, 5, 14]) (c := _) (.inr fun i h => h) h (by kernel_rfl) (AllP.nil) ?_
    intro a w h
    refine wp_if h (b := (decide ((v50 : Int) < (List.length x0 : Int)))) (by kernel_rfl) (fun hb => ?_) (fun hb => ?_)
    · replace hF := of_t hb hF
      refine wp_skip ?_
      refine wp_seq <| wp_block ?_
      obtain ⟨hc56, hF⟩ := of_if hF
      obtain ⟨hc57, hF⟩ := of_if hF
      obtain ⟨r55, hr58, hF⟩ := of_bind hF
      refine wp_regy_seq tok (orc := orcL [(25, [⟨.bool, r55⟩])]) (fz := []) (l := [0, 1, 5, 26]) (c := _) ([], [], [], []) 10 (.inr fun i h => h) h (by kernel_rfl) (by kernel_rfl) (AllP.cons hc56 (AllP.cons hc57 (AllP.cons (c77 k (List.getD x0 (Int.toNat v50) ((0 : Int), (((0 : Int), (0 : Int)), ((0 : Int), ((0 : Int), (0 : Int)))))) (List.getD x1 (Int.toNat v50) ((0 : Int), (((0 : Int), (0 : Int)), ((0 : Int), ((0 : Int), (0 : Int)))))) r55 hr58) AllP.nil))) ?_
      intro a w h
      refine wp_if h (b := (!r55)) (by kernel_rfl) (fun hb => ?_) (fun hb => ?_)
      · replace hF := of_t hb hF
        refine wp_reg_seq tok (orc := orcL []) (fz := []) (l := [4]) (c := _) (.inr fun i h => h) h (by kernel_rfl) (AllP.nil) ?_
        intro a w h
        cases hF
        exact wp_ret (ret_okR tok h rfl (by kernel_rfl)).1
      · replace hF := of_f hb hF
        refine wp_skip ?_
        refine wp_reg tok (orc := orcL []) (fz := []) (l := [0, 1, 5]) (c := _) (.inr fun i h => h) h (by kernel_rfl) (AllP.nil) ?_
        intro a w h
        exact ⟨(IntKind.i64.wrap (v50 + (1 : Int))), hF, h.arrive (fz := []) (l := [0, 1, 5]) (.inr fun i h => h) (by kernel_rfl)⟩
    · replace hF := of_f hb hF
      refine wp_exit ?_
      refine wp_reg_seq tok (orc := orcL []) (fz := []) (l := [4]) (c := _) (.inr fun i h => h) h (by kernel_rfl) (AllP.nil) ?_
      intro a w h
      cases hF
      exact wp_ret (ret_okR tok h rfl (by kernel_rfl)).1

def f18.l98 (k : Nat) : Nat → ((List (Int × ((Int × Int) × (Int × (Int × Int))))) × Int × Int) → Option (Int × (List (Int × ((Int × Int) × (Int × (Int × Int))))))
  | 0, _ => none
  | m98 + 1, (v164, v165, v166) => if (decide ((v166 : Int) < (List.length v164 : Int))) then (if (0 ≤ v166 ∧ v166 < (List.length v164 : Int)) then (if (0 ≤ v166 ∧ v166 < (List.length (List.set v164 (Int.toNat v166) (v165, (List.getD v164 (Int.toNat v166) ((0 : Int), (((0 : Int), (0 : Int)), ((0 : Int), ((0 : Int), (0 : Int)))))).2)) : Int)) then ((some ((List.set (List.set v164 (Int.toNat v166) (v165, (List.getD v164 (Int.toNat v166) ((0 : Int), (((0 : Int), (0 : Int)), ((0 : Int), ((0 : Int), (0 : Int)))))).2)) (Int.toNat v166) ((List.getD (List.set v164 (Int.toNat v166) (v165, (List.getD v164 (Int.toNat v166) ((0 : Int), (((0 : Int), (0 : Int)), ((0 : Int), ((0 : Int), (0 : Int)))))).2)) (Int.toNat v166) ((0 : Int), (((0 : Int), (0 : Int)), ((0 : Int), ((0 : Int), (0 : Int)))))).1, (((IntKind.i64.wrap (v165 + (1 : Int))), (List.getD (List.set v164 (Int.toNat v166) (v165, (List.getD v164 (Int.toNat v166) ((0 : Int), (((0 : Int), (0 : Int)), ((0 : Int), ((0 : Int), (0 : Int)))))).2)) (Int.toNat v166) ((0 : Int), (((0 : Int), (0 : Int)), ((0 : Int), ((0 : Int), (0 : Int)))))).2.1.2), (List.getD (List.set v164 (Int.toNat v166) (v165, (List.getD v164 (Int.toNat v166) ((0 : Int), (((0 : Int), (0 : Int)), ((0 : Int), ((0 : Int), (0 : Int)))))).2)) (Int.toNat v166) ((0 : Int), (((0 : Int), (0 : Int)), ((0 : Int), ((0 : Int), (0 : Int)))))).2.2))) : (List (Int × ((Int × Int) × (Int × (Int × Int))))))).bind fun v181 => (if (0 ≤ v166 ∧ v166 < (List.length v181 : Int)) then (if (0 ≤ v166 ∧ v166 < (List.length (List.set v181 (Int.toNat v166) ((List.getD v181 (Int.toNat v166) ((0 : Int), (((0 : Int), (0 : Int)), ((0 : Int), ((0 : Int), (0 : Int)))))).1, (((List.getD v181 (Int.toNat v166) ((0 : Int), (((0 : Int), (0 : Int)), ((0 : Int), ((0 : Int), (0 : Int)))))).2.1.1, (IntKind.i64.wrap ((IntKind.i64.wrap (v165 + (1 : Int))) + (1 : Int)))), (List.getD v181 (Int.toNat v166) ((0 : Int), (((0 : Int), (0 : Int)), ((0 : Int), ((0 : Int), (0 : Int)))))).2.2))) : Int)) then ((some ((List.set (List.set v181 (Int.toNat v166) ((List.getD v181 (Int.toNat v166) ((0 : Int), (((0 : Int), (0 : Int)), ((0 : Int), ((0 : Int), (0 : Int)))))).1, (((List.getD v181 (Int.toNat v166) ((0 : Int), (((0 : Int), (0 : Int)), ((0 : Int), ((0 : Int), (0 : Int)))))).2.1.1, (IntKind.i64.wrap ((IntKind.i64.wrap (v165 + (1 : Int))) + (1 : Int)))), (List.getD v181 (Int.toNat v166) ((0 : Int), (((0 : Int), (0 : Int)), ((0 : Int), ((0 : Int), (0 : Int)))))).2.2))) (Int.toNat v166) ((List.getD (List.set v181 (Int.toNat v166) ((List.getD v181 (Int.toNat v166) ((0 : Int), (((0 : Int), (0 : Int)), ((0 : Int), ((0 : Int), (0 : Int)))))).1, (((List.getD v181 (Int.toNat v166) ((0 : Int), (((0 : Int), (0 : Int)), ((0 : Int), ((0 : Int), (0 : Int)))))).2.1.1, (IntKind.i64.wrap ((IntKind.i64.wrap (v165 + (1 : Int))) + (1 : Int)))), (List.getD v181 (Int.toNat v166) ((0 : Int), (((0 : Int), (0 : Int)), ((0 : Int), ((0 : Int), (0 : Int)))))).2.2))) (Int.toNat v166) ((0 : Int), (((0 : Int), (0 : Int)), ((0 : Int), ((0 : Int), (0 : Int)))))).1, ((List.getD (List.set v181 (Int.toNat v166) ((List.getD v181 (Int.toNat v166) ((0 : Int), (((0 : Int), (0 : Int)), ((0 : Int), ((0 : Int), (0 : Int)))))).1, (((List.getD v181 (Int.toNat v166) ((0 : Int), (((0 : Int), (0 : Int)), ((0 : Int), ((0 : Int), (0 : Int)))))).2.1.1, (IntKind.i64.wrap ((IntKind.i64.wrap (v165 + (1 : Int))) + (1 : Int)))), (List.getD v181 (Int.toNat v166) ((0 : Int), (((0 : Int), (0 : Int)), ((0 : Int), ((0 : Int), (0 : Int)))))).2.2))) (Int.toNat v166) ((0 : Int), (((0 : Int), (0 : Int)), ((0 : Int), ((0 : Int), (0 : Int)))))).2.1, ((IntKind.i64.wrap ((IntKind.i64.wrap ((IntKind.i64.wrap (v165 + (1 : Int))) + (1 : Int))) + (1 : Int))), (List.getD (List.set v181 (Int.toNat v166) ((List.getD v181 (Int.toNat v166) ((0 : Int), (((0 : Int), (0 : Int)), ((0 : Int), ((0 : Int), (0 : Int)))))).1, (((List.getD v181 (Int.toNat v166) ((0 : Int), (((0 : Int), (0 : Int)), ((0 : Int), ((0 : Int), (0 : Int)))))).2.1.1, (IntKind.i64.wrap ((IntKind.i64.wrap (v165 + (1 : Int))) + (1 : Int)))), (List.getD v181 (Int.toNat v166) ((0 : Int), (((0 : Int), (0 : Int)), ((0 : Int), ((0 : Int), (0 : Int)))))).2.2))) (Int.toNat v166) ((0 : Int), (((0 : Int), (0 : Int)), ((0 : Int), ((0 : Int), (0 : Int)))))).2.2.2)))) : (List (Int × ((Int × Int) × (Int × (Int × Int))))))).bind fun v182 => (if (0 ≤ v166 ∧ v166 < (List.length v182 : Int)) then ((some ((List.set v182 (Int.toNat v166) ((List.getD v182 (Int.toNat v166) ((0 : Int), (((0 : Int), (0 : Int)), ((0 : Int), ((0 : Int), (0 : Int)))))).1, ((List.getD v182 (Int.toNat v166) ((0 : Int), (((0 : Int), (0 : Int)), ((0 : Int), ((0 : Int), (0 : Int)))))).2.1, ((List.getD v182 (Int.toNat v166) ((0 : Int), (((0 : Int), (0 : Int)), ((0 : Int), ((0 : Int), (0 : Int)))))).2.2.1, ((IntKind.i64.wrap ((IntKind.i64.wrap ((IntKind.i64.wrap ((IntKind.i64.wrap (v165 + (1 : Int))) + (1 : Int))) + (1 : Int))) + (1 : Int))), (List.getD v182 (Int.toNat v166) ((0 : Int), (((0 : Int), (0 : Int)), ((0 : Int), ((0 : Int), (0 : Int)))))).2.2.2.2))))) : (List (Int × ((Int × Int) × (Int × (Int × Int))))))).bind fun v183 => (if (0 ≤ v166 ∧ v166 < (List.length v183 : Int)) then ((some ((List.set v183 (Int.toNat v166) ((List.getD v183 (Int.toNat v166) ((0 : Int), (((0 : Int), (0 : Int)), ((0 : Int), ((0 : Int), (0 : Int)))))).1, ((List.getD v183 (Int.toNat v166) ((0 : Int), (((0 : Int), (0 : Int)), ((0 : Int), ((0 : Int), (0 : Int)))))).2.1, ((List.getD v183 (Int.toNat v166) ((0 : Int), (((0 : Int), (0 : Int)), ((0 : Int), ((0 : Int), (0 : Int)))))).2.2.1, ((List.getD v183 (Int.toNat v166) ((0 : Int), (((0 : Int), (0 : Int)), ((0 : Int), ((0 : Int), (0 : Int)))))).2.2.2.1, (IntKind.i64.wrap ((IntKind.i64.wrap ((IntKind.i64.wrap ((IntKind.i64.wrap ((IntKind.i64.wrap (v165 + (1 : Int))) + (1 : Int))) + (1 : Int))) + (1 : Int))) + (1 : Int)))))))) : (List (Int × ((Int × Int) × (Int × (Int × Int))))))).bind fun v184 => ((f18.l98 k) m98 (v184, (IntKind.i64.wrap ((IntKind.i64.wrap ((IntKind.i64.wrap ((IntKind.i64.wrap ((IntKind.i64.wrap ((IntKind.i64.wrap (v165 + (1 : Int))) + (1 : Int))) + (1 : Int))) + (1 : Int))) + (1 : Int))) + (1 : Int))), (IntKind.i64.wrap (v166 + (1 : Int)))))) else none)) else none)) else none) else none)) else none) else none) else (some (v165, v164))
def f18 (k : Nat) (x0 : (List (Int × ((Int × Int) × (Int × (Int × Int)))))) (x1 : Int) : Option (Int × (List (Int × ((Int × Int) × (Int × (Int × Int)))))) := f18.l98 k k (x0, x1, (0 : Int))
set_option maxRecDepth 100000 in
/-- 'laws.markLabelS'. -/
theorem c18 (k : Nat) (x0 : (List (Int × ((Int × Int) × (Int × (Int × Int)))))) (x1 : Int) (r : (Int × (List (Int × ((Int × Int) × (Int × (Int × Int))))))) (hF : f18 k x0 x1 = some r) : PMut Try.prog 18 [⟨sh3, x0⟩, ⟨(.int .i64), x1⟩] [⟨(.int .i64), r.1⟩] (List.set [⟨sh3, x0⟩, ⟨(.int .i64), x1⟩] 0 ⟨sh3, r.2⟩) := by
  refine pmut_intro (j := 0) (fin := ⟨sh3, r.2⟩) Try.func18 rfl rfl (Nat.le_of_ble_eq_true rfl) (Nat.le_of_ble_eq_true rfl) (by kernel_rfl) ?_
  intro w0 Zi f0 v0 a w h
  rw [f18] at hF
  refine wp_reg_seq tok (orc := orcL []) (fz := []) (l := [0, 1]) (c := _) (.inl rfl) h (by kernel_rfl) (AllP.nil) ?_
  intro a w h
  refine wp_seq ?_
  refine wp_reg_seq tok (orc := orcL []) (fz := []) (l := [0, 1, 5]) (c := _) (.inl rfl) h (by kernel_rfl) (AllP.nil) ?_
  intro a w h
  refine wp_block ?_
  refine wp_loop_fuel (f18.l98 k) (fun ((v164, v165, v166) : ((List (Int × ((Int × Int) × (Int × (Int × Int))))) × Int × Int)) => [(0, .val sh3 v164), (1, .val (.int .i64) v165), (5, .val (.int .i64) v166)]) (fun v h => by obtain ⟨v164, v165, v166⟩ := v; rw [f18.l98] at h; cases h) ?_ hF (h.arrive (fz := []) (l := [0, 1, 5]) (.inl rfl) (by kernel_rfl))
  intro m98 v a w hF h
  obtain ⟨v164, v165, v166⟩ := v
  rw [f18.l98] at hF
  refine wp_seq ?_
  refine wp_reg_seq tok (orc := orcL []) (fz := []) (l := [0, 1, 5, 9]) (c := _) (.inl rfl) h (by kernel_rfl) (AllP.nil) ?_
  intro a w h
  refine wp_if h (b := (decide ((v166 : Int) < (List.length v164 : Int)))) (by kernel_rfl) (fun hb => ?_) (fun hb => ?_)
  · replace hF := of_t hb hF
    refine wp_skip ?_
    refine wp_seq <| wp_block ?_
    obtain ⟨hc194, hF⟩ := of_if hF
    refine wp_reg_seq tok (orc := orcL []) (fz := []) (l := [0, 1, 5]) (c := _) (.inl rfl) h (by kernel_rfl) (AllP.cons hc194 AllP.nil) ?_
    intro a w h
    refine wp_reg_seq tok (orc := orcL []) (fz := []) (l := [0, 1, 5]) (c := _) (.inl rfl) h (by kernel_rfl) (AllP.nil) ?_
    intro a w h
    obtain ⟨hc193, hF⟩ := of_if hF
    refine wp_reg_seq tok (orc := orcL []) (fz := []) (l := [0, 1, 5]) (c := _) (.inl rfl) h (by kernel_rfl) (AllP.cons hc193 AllP.nil) ?_
    intro a w h
    obtain ⟨v181, hv192, hF⟩ := of_bind hF
    replace h := h.cast (S' := [(0, .val sh3 v181), (1, .val (.int .i64) (IntKind.i64.wrap (v165 + (1 : Int)))), (5, .val (.int .i64) v166)]) (by cases hv192; kernel_rfl)
    refine wp_reg_seq tok (orc := orcL []) (fz := []) (l := [0, 1, 5]) (c := _) (.inl rfl) h (by kernel_rfl) (AllP.nil) ?_
    intro a w h
    obtain ⟨hc191, hF⟩ := of_if hF
    refine wp_reg_seq tok (orc := orcL []) (fz := []) (l := [0, 1, 5]) (c := _) (.inl rfl) h (by kernel_rfl) (AllP.cons hc191 AllP.nil) ?_
    intro a w h
    refine wp_reg_seq tok (orc := orcL []) (fz := []) (l := [0, 1, 5]) (c := _) (.inl rfl) h (by kernel_rfl) (AllP.nil) ?_
    intro a w h
    obtain ⟨hc190, hF⟩ := of_if hF
    refine wp_reg_seq tok (orc := orcL []) (fz := []) (l := [0, 1, 5]) (c := _) (.inl rfl) h (by kernel_rfl) (AllP.cons hc190 AllP.nil) ?_
    intro a w h
    obtain ⟨v182, hv189, hF⟩ := of_bind hF
    replace h := h.cast (S' := [(0, .val sh3 v182), (1, .val (.int .i64) (IntKind.i64.wrap ((IntKind.i64.wrap ((IntKind.i64.wrap (v165 + (1 : Int))) + (1 : Int))) + (1 : Int)))), (5, .val (.int .i64) v166)]) (by cases hv189; kernel_rfl)
    refine wp_reg_seq tok (orc := orcL []) (fz := []) (l := [0, 1, 5]) (c := _) (.inl rfl) h (by kernel_rfl) (AllP.nil) ?_
    intro a w h
    obtain ⟨hc188, hF⟩ := of_if hF
    refine wp_reg_seq tok (orc := orcL []) (fz := []) (l := [0, 1, 5]) (c := _) (.inl rfl) h (by kernel_rfl) (AllP.cons hc188 AllP.nil) ?_
    intro a w h
    obtain ⟨v183, hv187, hF⟩ := of_bind hF
    replace h := h.cast (S' := [(0, .val sh3 v183), (1, .val (.int .i64) (IntKind.i64.wrap ((IntKind.i64.wrap ((IntKind.i64.wrap ((IntKind.i64.wrap (v165 + (1 : Int))) + (1 : Int))) + (1 : Int))) + (1 : Int)))), (5, .val (.int .i64) v166)]) (by cases hv187; kernel_rfl)
    refine wp_reg_seq tok (orc := orcL []) (fz := []) (l := [0, 1, 5]) (c := _) (.inl rfl) h (by kernel_rfl) (AllP.nil) ?_
    intro a w h
    obtain ⟨hc186, hF⟩ := of_if hF
    refine wp_reg_seq tok (orc := orcL []) (fz := []) (l := [0, 1, 5]) (c := _) (.inl rfl) h (by kernel_rfl) (AllP.cons hc186 AllP.nil) ?_
    intro a w h
    obtain ⟨v184, hv185, hF⟩ := of_bind hF
    replace h := h.cast (S' := [(0, .val sh3 v184), (1, .val (.int .i64) (IntKind.i64.wrap ((IntKind.i64.wrap ((IntKind.i64.wrap ((IntKind.i64.wrap ((IntKind.i64.wrap (v165 + (1 : Int))) + (1 : Int))) + (1 : Int))) + (1 : Int))) + (1 : Int)))), (5, .val (.int .i64) v166)]) (by cases hv185; kernel_rfl)
    refine wp_reg tok (orc := orcL []) (fz := []) (l := [0, 1, 5]) (c := _) (.inl rfl) h (by kernel_rfl) (AllP.nil) ?_
    intro a w h
    refine wp_reg tok (orc := orcL []) (fz := []) (l := [0, 1, 5]) (c := _) (.inl rfl) h (by kernel_rfl) (AllP.nil) ?_
    intro a w h
    exact ⟨(v184, (IntKind.i64.wrap ((IntKind.i64.wrap ((IntKind.i64.wrap ((IntKind.i64.wrap ((IntKind.i64.wrap ((IntKind.i64.wrap (v165 + (1 : Int))) + (1 : Int))) + (1 : Int))) + (1 : Int))) + (1 : Int))) + (1 : Int))), (IntKind.i64.wrap (v166 + (1 : Int)))), hF, h.arrive (fz := []) (l := [0, 1, 5]) (.inl rfl) (by kernel_rfl)⟩
  · replace hF := of_f hb hF
    refine wp_exit ?_
    refine wp_reg_seq tok (orc := orcL []) (fz := []) (l := [0, 4]) (c := _) (.inl rfl) h (by kernel_rfl) (AllP.nil) ?_
    intro a w h
    cases hF
    exact wp_ret (retM_ok tok h rfl (by kernel_rfl) (by kernel_rfl)).1

def f19.l20 (k : Nat) : Nat → ((List Int) × Int × Int) → Option (Int × (List Int))
  | 0, _ => none
  | m20 + 1, (v34, v35, v36) => if (decide ((v36 : Int) < (List.length v34 : Int))) then (if (0 ≤ v36 ∧ v36 < (List.length v34 : Int)) then ((f19.l20 k) m20 ((List.set v34 (Int.toNat v36) v35), (IntKind.i64.wrap (v35 + (1 : Int))), (IntKind.i64.wrap (v36 + (1 : Int))))) else none) else (some (v35, v34))
def f19 (k : Nat) (x0 : (List Int)) (x1 : Int) : Option (Int × (List Int)) := f19.l20 k k (x0, x1, (0 : Int))
set_option maxRecDepth 100000 in
/-- 'laws.markInt64S'. -/
theorem c19 (k : Nat) (x0 : (List Int)) (x1 : Int) (r : (Int × (List Int))) (hF : f19 k x0 x1 = some r) : PMut Try.prog 19 [⟨(.sl true 2 (.int .i64)), x0⟩, ⟨(.int .i64), x1⟩] [⟨(.int .i64), r.1⟩] (List.set [⟨(.sl true 2 (.int .i64)), x0⟩, ⟨(.int .i64), x1⟩] 0 ⟨(.sl true 2 (.int .i64)), r.2⟩) := by
  refine pmut_intro (j := 0) (fin := ⟨(.sl true 2 (.int .i64)), r.2⟩) Try.func19 rfl rfl (Nat.le_of_ble_eq_true rfl) (Nat.le_of_ble_eq_true rfl) (by kernel_rfl) ?_
  intro w0 Zi f0 v0 a w h
  rw [f19] at hF
  refine wp_reg_seq tok (orc := orcL []) (fz := []) (l := [0, 1]) (c := _) (.inl rfl) h (by kernel_rfl) (AllP.nil) ?_
  intro a w h
  refine wp_seq ?_
  refine wp_reg_seq tok (orc := orcL []) (fz := []) (l := [0, 1, 5]) (c := _) (.inl rfl) h (by kernel_rfl) (AllP.nil) ?_
  intro a w h
  refine wp_block ?_
  refine wp_loop_fuel (f19.l20 k) (fun ((v34, v35, v36) : ((List Int) × Int × Int)) => [(0, .val (.sl true 2 (.int .i64)) v34), (1, .val (.int .i64) v35), (5, .val (.int .i64) v36)]) (fun v h => by obtain ⟨v34, v35, v36⟩ := v; rw [f19.l20] at h; cases h) ?_ hF (h.arrive (fz := []) (l := [0, 1, 5]) (.inl rfl) (by kernel_rfl))
  intro m20 v a w hF h
  obtain ⟨v34, v35, v36⟩ := v
  rw [f19.l20] at hF
  refine wp_seq ?_
  refine wp_reg_seq tok (orc := orcL []) (fz := []) (l := [0, 1, 5, 9]) (c := _) (.inl rfl) h (by kernel_rfl) (AllP.nil) ?_
  intro a w h
  refine wp_if h (b := (decide ((v36 : Int) < (List.length v34 : Int)))) (by kernel_rfl) (fun hb => ?_) (fun hb => ?_)
  · replace hF := of_t hb hF
    refine wp_skip ?_
    refine wp_seq <| wp_block ?_
    obtain ⟨hc38, hF⟩ := of_if hF
    refine wp_reg_seq tok (orc := orcL []) (fz := []) (l := [0, 1, 5]) (c := _) (.inl rfl) h (by kernel_rfl) (AllP.cons hc38 AllP.nil) ?_
    intro a w h
    refine wp_reg tok (orc := orcL []) (fz := []) (l := [0, 1, 5]) (c := _) (.inl rfl) h (by kernel_rfl) (AllP.nil) ?_
    intro a w h
    refine wp_reg tok (orc := orcL []) (fz := []) (l := [0, 1, 5]) (c := _) (.inl rfl) h (by kernel_rfl) (AllP.nil) ?_
    intro a w h
    exact ⟨((List.set v34 (Int.toNat v36) v35), (IntKind.i64.wrap (v35 + (1 : Int))), (IntKind.i64.wrap (v36 + (1 : Int)))), hF, h.arrive (fz := []) (l := [0, 1, 5]) (.inl rfl) (by kernel_rfl)⟩
  · replace hF := of_f hb hF
    refine wp_exit ?_
    refine wp_reg_seq tok (orc := orcL []) (fz := []) (l := [0, 4]) (c := _) (.inl rfl) h (by kernel_rfl) (AllP.nil) ?_
    intro a w h
    cases hF
    exact wp_ret (retM_ok tok h rfl (by kernel_rfl) (by kernel_rfl)).1

def f20.l16 (k : Nat) (x0 : (List Int)) : Nat → (Int × Int) → Option Int
  | 0, _ => none
  | m16 + 1, (v27, v28) => if (decide ((v28 : Int) < (List.length x0 : Int))) then (if (0 ≤ v28 ∧ v28 < (List.length x0 : Int)) then (if (((List.getD x0 (Int.toNat v28) (0 : Int)) : Int) != v27) then (some (-1 : Int)) else ((f20.l16 k x0) m16 ((IntKind.i64.wrap (v27 + (1 : Int))), (IntKind.i64.wrap (v28 + (1 : Int)))))) else none) else (some v27)
def f20 (k : Nat) (x0 : (List Int)) (x1 : Int) : Option Int := f20.l16 k x0 k (x1, (0 : Int))
set_option maxRecDepth 100000 in
/-- 'laws.heldInt64S'. -/
theorem c20 (k : Nat) (x0 : (List Int)) (x1 : Int) (r : Int) (hF : f20 k x0 x1 = some r) : PCall Try.prog 20 [⟨(.sl false 2 (.int .i64)), x0⟩, ⟨(.int .i64), x1⟩] [⟨(.int .i64), r⟩] := by
  refine pcall_intro Try.func20 rfl rfl (Nat.le_of_ble_eq_true rfl) ?_
  intro w0 Zi a w h
  rw [f20] at hF
  refine wp_reg_seq tok (orc := orcL []) (fz := []) (l := [0, 1]) (c := _) (.inr fun i h => h) h (by kernel_rfl) (AllP.nil) ?_
  intro a w h
  refine wp_seq ?_
  refine wp_reg_seq tok (orc := orcL []) (fz := []) (l := [0, 1, 5]) (c := _) (.inr fun i h => h) h (by kernel_rfl) (AllP.nil) ?_
  intro a w h
  refine wp_block ?_
  refine wp_loop_fuel (f20.l16 k x0) (fun ((v27, v28) : (Int × Int)) => [(0, .val (.sl false 2 (.int .i64)) x0), (1, .val (.int .i64) v27), (5, .val (.int .i64) v28)]) (fun v h => by obtain ⟨v27, v28⟩ := v; rw [f20.l16] at h; cases h) ?_ hF (h.arrive (fz := []) (l := [0, 1, 5]) (.inr fun i h => h) (by kernel_rfl))
  intro m16 v a w hF h
  obtain ⟨v27, v28⟩ := v
  rw [f20.l16] at hF
  refine wp_seq ?_
  refine wp_reg_seq tok (orc := orcL []) (fz := []) (l := [0, 1, 5, 9]) (c := _) (.inr fun i h => h) h (by kernel_rfl) (AllP.nil) ?_
  intro a w h
  refine wp_if h (b := (decide ((v28 : Int) < (List.length x0 : Int)))) (by kernel_rfl) (fun hb => ?_) (fun hb => ?_)
  · replace hF := of_t hb hF
    refine wp_skip ?_
    refine wp_seq <| wp_block ?_
    refine wp_seq ?_
    obtain ⟨hc30, hF⟩ := of_if hF
    refine wp_reg_seq tok (orc := orcL []) (fz := []) (l := [0, 1, 5, 17]) (c := _) (.inr fun i h => h) h (by kernel_rfl) (AllP.cons hc30 AllP.nil) ?_
    intro a w h
    refine wp_if h (b := (((List.getD x0 (Int.toNat v28) (0 : Int)) : Int) != v27)) (by kernel_rfl) (fun hb => ?_) (fun hb => ?_)
    · replace hF := of_t hb hF
      refine wp_reg_seq tok (orc := orcL []) (fz := []) (l := [4]) (c := _) (.inr fun i h => h) h (by kernel_rfl) (AllP.nil) ?_
      intro a w h
      cases hF
      exact wp_ret (ret_okR tok h rfl (by kernel_rfl)).1
    · replace hF := of_f hb hF
      refine wp_skip ?_
      refine wp_reg tok (orc := orcL []) (fz := []) (l := [0, 1, 5]) (c := _) (.inr fun i h => h) h (by kernel_rfl) (AllP.nil) ?_
      intro a w h
      refine wp_reg tok (orc := orcL []) (fz := []) (l := [0, 1, 5]) (c := _) (.inr fun i h => h) h (by kernel_rfl) (AllP.nil) ?_
      intro a w h
      exact ⟨((IntKind.i64.wrap (v27 + (1 : Int))), (IntKind.i64.wrap (v28 + (1 : Int)))), hF, h.arrive (fz := []) (l := [0, 1, 5]) (.inr fun i h => h) (by kernel_rfl)⟩
  · replace hF := of_f hb hF
    refine wp_exit ?_
    refine wp_reg_seq tok (orc := orcL []) (fz := []) (l := [4]) (c := _) (.inr fun i h => h) h (by kernel_rfl) (AllP.nil) ?_
    intro a w h
    cases hF
    exact wp_ret (ret_okR tok h rfl (by kernel_rfl)).1

def f3 (k : Nat) (x0 : (List (Int × ((Int × Int) × (Int × (Int × Int)))))) (x1 : (List Int)) : Option Bool := if (decide (((List.length x1 : Int) : Int) > (1048576 : Int))) then (some true) else ((f11 k x0 (1048576 : Int)).bind fun r1 => (if (decide ((r1 : Int) < (0 : Int))) then (some true) else ((f13 k x0).bind fun r2 => ((f14 k x1).bind fun r3 => ((f12 k r2 r3).bind fun r4 => ((f13 k x0).bind fun r5 => ((f14 k x1).bind fun r6 => ((f15 k r5 r6).bind fun r7 => ((f16 k r7 r4).bind fun r8 => (if (!r8) then (some false) else ((f13 k x0).bind fun r9 => ((f17 k r5 r9).bind fun r10 => (if (!r10) then (some false) else ((f14 k x1).bind fun r11 => ((f16 k r6 r11).bind fun r12 => (if (!r12) then (some false) else ((f18 k r5 (1 : Int)).bind fun r13 => ((f19 k r6 r13.1).bind fun r14 => ((if ((decide ((r14.1 : Int) < (0 : Int))) = false) then f16 k r7 r4 else some default).bind fun r15 => (if (bif (decide ((r14.1 : Int) < (0 : Int))) then true else (!r15)) then (some false) else ((f19 k r7 (1 : Int)).bind fun r16 => ((f20 k r16.2 (1 : Int)).bind fun r17 => (if (decide ((r17 : Int) < (0 : Int))) then (some false) else (if ((r17 : Int) != r16.1) then (some false) else ((f13 k x0).bind fun r18 => ((f14 k x1).bind fun r19 => ((f15 k r18 r19).bind fun r20 => ((f16 k r20 r4).bind fun r21 => (if (!r21) then (some false) else ((f20 k r16.2 (1 : Int)).bind fun r22 => (if (decide ((r22 : Int) < (0 : Int))) then (some false) else (if ((r22 : Int) != r16.1) then (some false) else (some true)))))))))))))))))))))))))))))))))
set_option maxRecDepth 100000 in
/-- 'laws.FnExactPlace'. -/
theorem c3 (k : Nat) (x0 : (List (Int × ((Int × Int) × (Int × (Int × Int)))))) (x1 : (List Int)) (h74 : H74) (h76 : H76) (r : Bool) (hF : f3 k x0 x1 = some r) : PCall Try.prog 3 [⟨sh0, x0⟩, ⟨(.sl false 2 (.int .i64)), x1⟩] [⟨.bool, r⟩] := by
  refine pcall_intro Try.func3 rfl rfl (Nat.le_of_ble_eq_true rfl) ?_
  intro w0 Zi a w h
  rw [f3] at hF
  refine wp_reg_seq tok (orc := orcL []) (fz := []) (l := [0, 1]) (c := _) (.inr fun i h => h) h (by kernel_rfl) (AllP.nil) ?_
  intro a w h
  refine wp_seq ?_
  refine wp_reg_seq tok (orc := orcL []) (fz := []) (l := [0, 1, 16]) (c := _) (.inr fun i h => h) h (by kernel_rfl) (AllP.nil) ?_
  intro a w h
  refine wp_if h (b := (decide (((List.length x1 : Int) : Int) > (1048576 : Int)))) (by kernel_rfl) (fun hb => ?_) (fun hb => ?_)
  · replace hF := of_t hb hF
    refine wp_reg_seq tok (orc := orcL []) (fz := []) (l := [4]) (c := _) (.inr fun i h => h) h (by kernel_rfl) (AllP.nil) ?_
    intro a w h
    cases hF
    exact wp_ret (ret_okR tok h rfl (by kernel_rfl)).1
  · replace hF := of_f hb hF
    refine wp_skip ?_
    refine wp_reg_seq tok (orc := orcL []) (fz := []) (l := [0, 1, 5]) (c := _) (.inr fun i h => h) h (by kernel_rfl) (AllP.nil) ?_
    intro a w h
    obtain ⟨r1, hr44, hF⟩ := of_bind hF
    refine wp_reg_seq tok (orc := orcL [(19, [⟨(.int .i64), r1⟩])]) (fz := []) (l := [0, 1, 5]) (c := _) (.inr fun i h => h) h (by kernel_rfl) (AllP.cons (c11 k x0 (1048576 : Int) r1 hr44) AllP.nil) ?_
    intro a w h
    refine wp_seq ?_
    refine wp_reg_seq tok (orc := orcL []) (fz := []) (l := [0, 1, 21]) (c := _) (.inr fun i h => h) h (by kernel_rfl) (AllP.nil) ?_
    intro a w h
    refine wp_if h (b := (decide ((r1 : Int) < (0 : Int)))) (by kernel_rfl) (fun hb => ?_) (fun hb => ?_)
    · replace hF := of_t hb hF
      refine wp_reg_seq tok (orc := orcL []) (fz := []) (l := [4]) (c := _) (.inr fun i h => h) h (by kernel_rfl) (AllP.nil) ?_
      intro a w h
      cases hF
      exact wp_ret (ret_okR tok h rfl (by kernel_rfl)).1
    · replace hF := of_f hb hF
      refine wp_skip ?_
      obtain ⟨r2, hr41, hF⟩ := of_bind hF
      obtain ⟨r3, hr42, hF⟩ := of_bind hF
      obtain ⟨r4, hr43, hF⟩ := of_bind hF
      refine wp_reg_seq tok (orc := orcL [(23, [⟨sh4, r2⟩]), (25, [⟨(.sl false 2 (.int .i64)), r3⟩]), (26, [⟨(.sl false 2 (.int .i64)), r4⟩])]) (fz := []) (l := [0, 1, 6]) (c := _) (.inr fun i h => h) h (by kernel_rfl) (AllP.cons (PCall.frozen (outs' := [⟨sh4, r2⟩]) (c13 k x0 r2 hr41) (by kernel_rfl)) (AllP.cons (PCall.frozen (outs' := [⟨(.sl false 2 (.int .i64)), r3⟩]) (c14 k x1 r3 hr42) (by kernel_rfl)) (AllP.cons (c12 k r2 r3 r4 hr43) AllP.nil))) ?_
      intro a w h
      obtain ⟨r5, hr40, hF⟩ := of_bind hF
      refine wp_reg_seq tok (orc := orcL [(28, [⟨sh3, r5⟩])]) (fz := []) (l := [0, 1, 6, 7]) (c := _) (.inr fun i h => h) h (by kernel_rfl) (AllP.cons (c13 k x0 r5 hr40) AllP.nil) ?_
      intro a w h
      obtain ⟨r6, hr39, hF⟩ := of_bind hF
      refine wp_reg_seq tok (orc := orcL [(30, [⟨(.sl true 2 (.int .i64)), r6⟩])]) (fz := []) (l := [0, 1, 6, 7, 8]) (c := _) (.inr fun i h => h) h (by kernel_rfl) (AllP.cons (c14 k x1 r6 hr39) AllP.nil) ?_
      intro a w h
      obtain ⟨r7, hr38, hF⟩ := of_bind hF
      refine wp_reg_seq tok (orc := orcL [(33, [⟨(.sl true 2 (.int .i64)), r7⟩])]) (fz := []) (l := [0, 1, 6, 7, 8, 9]) (c := _) (.inr fun i h => h) h (by kernel_rfl) (AllP.cons (c15 k r5 r6 h74 h76 r7 hr38) AllP.nil) ?_
      intro a w h
      refine wp_seq ?_
      obtain ⟨r8, hr37, hF⟩ := of_bind hF
      refine wp_reg_seq tok (orc := orcL [(36, [⟨.bool, r8⟩])]) (fz := []) (l := [0, 1, 6, 7, 8, 9, 37]) (c := _) (.inr fun i h => h) h (by kernel_rfl) (AllP.cons (c16 k r7 r4 r8 hr37) AllP.nil) ?_
      intro a w h
      refine wp_if h (b := (!r8)) (by kernel_rfl) (fun hb => ?_) (fun hb => ?_)
      · replace hF := of_t hb hF
        refine wp_reg_seq tok (orc := orcL []) (fz := []) (l := [4]) (c := _) (.inr fun i h => h) h (by kernel_rfl) (AllP.nil) ?_
        intro a w h
        cases hF
        exact wp_ret (ret_okR tok h rfl (by kernel_rfl)).1
      · replace hF := of_f hb hF
        refine wp_skip ?_
        refine wp_seq ?_
        obtain ⟨r9, hr35, hF⟩ := of_bind hF
        obtain ⟨r10, hr36, hF⟩ := of_bind hF
        refine wp_reg_seq tok (orc := orcL [(40, [⟨sh3, r9⟩]), (41, [⟨.bool, r10⟩])]) (fz := []) (l := [0, 1, 6, 7, 8, 9, 42]) (c := _) (.inr fun i h => h) h (by kernel_rfl) (AllP.cons (c13 k x0 r9 hr35) (AllP.cons (c17 k r5 r9 r10 hr36) AllP.nil)) ?_
        intro a w h
        refine wp_if h (b := (!r10)) (by kernel_rfl) (fun hb => ?_) (fun hb => ?_)
        · replace hF := of_t hb hF
          refine wp_reg_seq tok (orc := orcL []) (fz := []) (l := [4]) (c := _) (.inr fun i h => h) h (by kernel_rfl) (AllP.nil) ?_
          intro a w h
          cases hF
          exact wp_ret (ret_okR tok h rfl (by kernel_rfl)).1
        · replace hF := of_f hb hF
          refine wp_skip ?_
          refine wp_seq ?_
          obtain ⟨r11, hr33, hF⟩ := of_bind hF
          obtain ⟨r12, hr34, hF⟩ := of_bind hF
          refine wp_reg_seq tok (orc := orcL [(45, [⟨(.sl true 2 (.int .i64)), r11⟩]), (46, [⟨.bool, r12⟩])]) (fz := []) (l := [0, 1, 6, 7, 8, 9, 47]) (c := _) (.inr fun i h => h) h (by kernel_rfl) (AllP.cons (c14 k x1 r11 hr33) (AllP.cons (c16 k r6 r11 r12 hr34) AllP.nil)) ?_
          intro a w h
          refine wp_if h (b := (!r12)) (by kernel_rfl) (fun hb => ?_) (fun hb => ?_)
          · replace hF := of_t hb hF
            refine wp_reg_seq tok (orc := orcL []) (fz := []) (l := [4]) (c := _) (.inr fun i h => h) h (by kernel_rfl) (AllP.nil) ?_
            intro a w h
            cases hF
            exact wp_ret (ret_okR tok h rfl (by kernel_rfl)).1
          · replace hF := of_f hb hF
            refine wp_skip ?_
            refine wp_reg_seq tok (orc := orcL []) (fz := []) (l := [0, 1, 6, 7, 8, 9, 10]) (c := _) (.inr fun i h => h) h (by kernel_rfl) (AllP.nil) ?_
            intro a w h
            obtain ⟨r13, hr32, hF⟩ := of_bind hF
            refine wp_reg_seq tok (orc := orcL [(50, [⟨.pt false 4294967295 (.sl true 54 (.st (.pair (.int .i64) (.pair (.st (.pair (.int .i64) (.int .i64))) (.pair (.int .i64) (.pair (.int .i64) (.int .i64))))))), some r13.2⟩, ⟨(.int .i64), r13.1⟩])]) (fz := []) (l := [0, 1, 6, 8, 9, 10]) (c := _) (.inr fun i h => h) h (by kernel_rfl) (AllP.cons (c18 k r5 (1 : Int) r13 hr32) AllP.nil) ?_
            intro a w h
            obtain ⟨r14, hr31, hF⟩ := of_bind hF
            refine wp_reg_seq tok (orc := orcL [(53, [⟨.pt false 4294967295 (.sl true 2 (.int .i64)), some r14.2⟩, ⟨(.int .i64), r14.1⟩])]) (fz := []) (l := [0, 1, 6, 9, 10]) (c := _) (.inr fun i h => h) h (by kernel_rfl) (AllP.cons (c19 k r6 r13.1 r14 hr31) AllP.nil) ?_
            intro a w h
            refine wp_seq ?_
            obtain ⟨r15, hr30, hF⟩ := of_bind hF
            refine wp_reg_seq tok (orc := orcL [(59, [⟨.bool, r15⟩])]) (fz := []) (l := [0, 1, 6, 9, 61]) (c := _) (.inr fun i h => h) h (by kernel_rfl) (AllP.cons (fun (hg : ((decide ((r14.1 : Int) < (0 : Int))) = false)) => c16 k r7 r4 r15 (of_g hg hr30)) AllP.nil) ?_
            intro a w h
            refine wp_if h (b := (bif (decide ((r14.1 : Int) < (0 : Int))) then true else (!r15))) (by kernel_rfl) (fun hb => ?_) (fun hb => ?_)
            · replace hF := of_t hb hF
              refine wp_reg_seq tok (orc := orcL []) (fz := []) (l := [4]) (c := _) (.inr fun i h => h) h (by kernel_rfl) (AllP.nil) ?_
              intro a w h
              cases hF
              exact wp_ret (ret_okR tok h rfl (by kernel_rfl)).1
            · replace hF := of_f hb hF
              refine wp_skip ?_
              refine wp_reg_seq tok (orc := orcL []) (fz := []) (l := [0, 1, 6, 9, 11]) (c := _) (.inr fun i h => h) h (by kernel_rfl) (AllP.nil) ?_
              intro a w h
              obtain ⟨r16, hr29, hF⟩ := of_bind hF
              refine wp_reg_seq tok (orc := orcL [(64, [⟨.pt false 4294967295 (.sl true 2 (.int .i64)), some r16.2⟩, ⟨(.int .i64), r16.1⟩])]) (fz := []) (l := [0, 1, 6, 9, 11]) (c := _) (.inr fun i h => h) h (by kernel_rfl) (AllP.cons (c19 k r7 (1 : Int) r16 hr29) AllP.nil) ?_
              intro a w h
              refine wp_reg_seq tok (orc := orcL []) (fz := []) (l := [0, 1, 6, 9, 11, 12]) (c := _) (.inr fun i h => h) h (by kernel_rfl) (AllP.nil) ?_
              intro a w h
              obtain ⟨r17, hr28, hF⟩ := of_bind hF
              refine wp_reg_seq tok (orc := orcL [(67, [⟨(.int .i64), r17⟩])]) (fz := []) (l := [0, 1, 6, 9, 11, 12]) (c := _) (.inr fun i h => h) h (by kernel_rfl) (AllP.cons (c20 k r16.2 (1 : Int) r17 hr28) AllP.nil) ?_
              intro a w h
              refine wp_seq ?_
              refine wp_reg_seq tok (orc := orcL []) (fz := []) (l := [0, 1, 6, 9, 11, 12, 69]) (c := _) (.inr fun i h => h) h (by kernel_rfl) (AllP.nil) ?_
              intro a w h
              refine wp_if h (b := (decide ((r17 : Int) < (0 : Int)))) (by kernel_rfl) (fun hb => ?_) (fun hb => ?_)
              · replace hF := of_t hb hF
                refine wp_reg_seq tok (orc := orcL []) (fz := []) (l := [4]) (c := _) (.inr fun i h => h) h (by kernel_rfl) (AllP.nil) ?_
                intro a w h
                cases hF
                exact wp_ret (ret_okR tok h rfl (by kernel_rfl)).1
              · replace hF := of_f hb hF
                refine wp_skip ?_
                refine wp_seq ?_
                refine wp_reg_seq tok (orc := orcL []) (fz := []) (l := [0, 1, 6, 9, 11, 72]) (c := _) (.inr fun i h => h) h (by kernel_rfl) (AllP.nil) ?_
                intro a w h
                refine wp_if h (b := ((r17 : Int) != r16.1)) (by kernel_rfl) (fun hb => ?_) (fun hb => ?_)
                · replace hF := of_t hb hF
                  refine wp_reg_seq tok (orc := orcL []) (fz := []) (l := [4]) (c := _) (.inr fun i h => h) h (by kernel_rfl) (AllP.nil) ?_
                  intro a w h
                  cases hF
                  exact wp_ret (ret_okR tok h rfl (by kernel_rfl)).1
                · replace hF := of_f hb hF
                  refine wp_skip ?_
                  obtain ⟨r18, hr25, hF⟩ := of_bind hF
                  obtain ⟨r19, hr26, hF⟩ := of_bind hF
                  obtain ⟨r20, hr27, hF⟩ := of_bind hF
                  refine wp_reg_seq tok (orc := orcL [(74, [⟨sh3, r18⟩]), (76, [⟨(.sl true 2 (.int .i64)), r19⟩]), (77, [⟨(.sl true 2 (.int .i64)), r20⟩])]) (fz := []) (l := [6, 9, 11, 13]) (c := _) (.inr fun i h => h) h (by kernel_rfl) (AllP.cons (c13 k x0 r18 hr25) (AllP.cons (c14 k x1 r19 hr26) (AllP.cons (c15 k r18 r19 h74 h76 r20 hr27) AllP.nil))) ?_
                  intro a w h
                  refine wp_seq ?_
                  obtain ⟨r21, hr24, hF⟩ := of_bind hF
                  refine wp_reg_seq tok (orc := orcL [(80, [⟨.bool, r21⟩])]) (fz := []) (l := [9, 11, 81]) (c := _) (.inr fun i h => h) h (by kernel_rfl) (AllP.cons (c16 k r20 r4 r21 hr24) AllP.nil) ?_
                  intro a w h
                  refine wp_if h (b := (!r21)) (by kernel_rfl) (fun hb => ?_) (fun hb => ?_)
                  · replace hF := of_t hb hF
                    refine wp_reg_seq tok (orc := orcL []) (fz := []) (l := [4]) (c := _) (.inr fun i h => h) h (by kernel_rfl) (AllP.nil) ?_
                    intro a w h
                    cases hF
                    exact wp_ret (ret_okR tok h rfl (by kernel_rfl)).1
                  · replace hF := of_f hb hF
                    refine wp_skip ?_
                    refine wp_reg_seq tok (orc := orcL []) (fz := []) (l := [9, 11, 12]) (c := _) (.inr fun i h => h) h (by kernel_rfl) (AllP.nil) ?_
                    intro a w h
                    obtain ⟨r22, hr23, hF⟩ := of_bind hF
                    refine wp_reg_seq tok (orc := orcL [(84, [⟨(.int .i64), r22⟩])]) (fz := []) (l := [11, 12]) (c := _) (.inr fun i h => h) h (by kernel_rfl) (AllP.cons (c20 k r16.2 (1 : Int) r22 hr23) AllP.nil) ?_
                    intro a w h
                    refine wp_seq ?_
                    refine wp_reg_seq tok (orc := orcL []) (fz := []) (l := [11, 12, 86]) (c := _) (.inr fun i h => h) h (by kernel_rfl) (AllP.nil) ?_
                    intro a w h
                    refine wp_if h (b := (decide ((r22 : Int) < (0 : Int)))) (by kernel_rfl) (fun hb => ?_) (fun hb => ?_)
                    · replace hF := of_t hb hF
                      refine wp_reg_seq tok (orc := orcL []) (fz := []) (l := [4]) (c := _) (.inr fun i h => h) h (by kernel_rfl) (AllP.nil) ?_
                      intro a w h
                      cases hF
                      exact wp_ret (ret_okR tok h rfl (by kernel_rfl)).1
                    · replace hF := of_f hb hF
                      refine wp_skip ?_
                      refine wp_seq ?_
                      refine wp_reg_seq tok (orc := orcL []) (fz := []) (l := [89]) (c := _) (.inr fun i h => h) h (by kernel_rfl) (AllP.nil) ?_
                      intro a w h
                      refine wp_if h (b := ((r22 : Int) != r16.1)) (by kernel_rfl) (fun hb => ?_) (fun hb => ?_)
                      · replace hF := of_t hb hF
                        refine wp_reg_seq tok (orc := orcL []) (fz := []) (l := [4]) (c := _) (.inr fun i h => h) h (by kernel_rfl) (AllP.nil) ?_
                        intro a w h
                        cases hF
                        exact wp_ret (ret_okR tok h rfl (by kernel_rfl)).1
                      · replace hF := of_f hb hF
                        refine wp_skip ?_
                        refine wp_reg_seq tok (orc := orcL []) (fz := []) (l := [4]) (c := _) (.inr fun i h => h) h (by kernel_rfl) (AllP.nil) ?_
                        intro a w h
                        cases hF
                        exact wp_ret (ret_okR tok h rfl (by kernel_rfl)).1
end Go.Proofs.Ytnpaokckkbhdjaa.V
