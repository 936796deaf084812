/-
  THE CONTRACTS OF SOME FUNCTIONS OF THIS SEAT, PRINTED BY A PROGRAM OF THIS PROJECT (wip/gen/vgen.py).
-/
import Derived.Test.YtijlnlonlmcdoaaProg
import Derived.Test.YtijlnlonlmcdoaaVmW
import Derived.Test.YtijlnlonlmcdoaaVmZ
import Derived.KernelRfl
set_option linter.unusedVariables false
open Go Go.Vm Go.Proofs
namespace Go.Proofs.Ytijlnlonlmcdoaa.V
abbrev sh0 : Sh := (.st (.pair .str (.pair (.int .i64) .str)))
abbrev sh1 : Sh := (.sl false 194 (.st (.pair .str (.pair (.int .i64) .str))))
abbrev sh2 : Sh := (.st (.pair (.int .i64) (.pair (.int .i64) (.pair (.sl false 194 (.st (.pair .str (.pair (.int .i64) .str)))) (.pair .bool (.pair .str (.pair (.int .i64) (.int .i64))))))))
abbrev sh3 : Sh := (.sl false 77 (.st (.pair (.int .i64) (.pair (.int .i64) (.pair (.sl false 194 (.st (.pair .str (.pair (.int .i64) .str)))) (.pair .bool (.pair .str (.pair (.int .i64) (.int .i64)))))))))
abbrev sh4 : Sh := (.sl false 127 (.st (.pair .str .str)))
abbrev sh5 : Sh := (.sl true 154 (.st (.pair .str (.pair (.int .i64) .str))))
abbrev sh6 : Sh := (.st (.pair (.int .i64) (.pair (.int .i64) (.pair (.sl true 154 (.st (.pair .str (.pair (.int .i64) .str)))) (.pair .bool (.pair .str (.pair (.int .i64) (.int .i64))))))))
abbrev sh7 : Sh := (.sl true 82 (.st (.pair (.int .i64) (.pair (.int .i64) (.pair (.sl true 154 (.st (.pair .str (.pair (.int .i64) .str)))) (.pair .bool (.pair .str (.pair (.int .i64) (.int .i64)))))))))
abbrev sh8 : Sh := (.sl true 129 (.st (.pair .str .str)))
abbrev sh9 : Sh := (.sl false 129 (.st (.pair .str .str)))
abbrev sh10 : Sh := (.pt true 82 (.st (.pair (.int .i64) (.pair (.int .i64) (.pair (.sl false 154 (.st (.pair .str (.pair (.int .i64) .str)))) (.pair .bool (.pair .str (.pair (.int .i64) (.int .i64)))))))))
abbrev sh11 : Sh := (.pt true 154 (.st (.pair .str (.pair (.int .i64) .str))))
abbrev sh12 : Sh := (.st (.pair (.int .i64) (.pair (.int .i64) (.pair (.sl false 154 (.st (.pair .str (.pair (.int .i64) .str)))) (.pair .bool (.pair .str (.pair (.int .i64) (.int .i64))))))))
abbrev sh13 : Sh := (.sl false 82 (.st (.pair (.int .i64) (.pair (.int .i64) (.pair (.sl false 154 (.st (.pair .str (.pair (.int .i64) .str)))) (.pair .bool (.pair .str (.pair (.int .i64) (.int .i64)))))))))
abbrev sh14 : Sh := (.pt true 82 (.st (.pair (.int .i64) (.pair (.int .i64) (.pair (.sl true 154 (.st (.pair .str (.pair (.int .i64) .str)))) (.pair .bool (.pair .str (.pair (.int .i64) (.int .i64)))))))))
abbrev sh15 : Sh := (.sl false 154 (.st (.pair .str (.pair (.int .i64) .str))))
def tbl : Tbl := [⟨2, .int .i64, 1, 8, (.int .i64)⟩,
  ⟨3, .int .i64, 1, 8, (.int .i64)⟩,
  ⟨4, .bool, 1, 1, .bool⟩,
  ⟨5, .int .u8, 1, 1, (.int .u8)⟩,
  ⟨9, .string, 1, 16, .str⟩,
  ⟨32, .slice 127, 1, 24, (.sl true 127 (.st (.pair .str .str)))⟩,
  ⟨35, .slice 129, 1, 24, (.sl true 129 (.st (.pair .str .str)))⟩,
  ⟨63, .slice 5, 1, 24, (.sl true 5 (.int .u8))⟩,
  ⟨75, .slice 194, 1, 24, (.sl true 194 (.st (.pair .str (.pair (.int .i64) .str))))⟩,
  ⟨77, .struct [(2, 0), (2, 1), (75, 2), (4, 3), (9, 4), (2, 5), (2, 6)], 7, 80, (.st (.pair (.int .i64) (.pair (.int .i64) (.pair (.sl true 194 (.st (.pair .str (.pair (.int .i64) .str)))) (.pair .bool (.pair .str (.pair (.int .i64) (.int .i64))))))))⟩,
  ⟨80, .slice 154, 1, 24, (.sl true 154 (.st (.pair .str (.pair (.int .i64) .str))))⟩,
  ⟨82, .struct [(2, 0), (2, 1), (80, 2), (4, 3), (9, 4), (2, 5), (2, 6)], 7, 80, (.st (.pair (.int .i64) (.pair (.int .i64) (.pair (.sl true 154 (.st (.pair .str (.pair (.int .i64) .str)))) (.pair .bool (.pair .str (.pair (.int .i64) (.int .i64))))))))⟩,
  ⟨112, .slice 77, 1, 24, (.sl true 77 (.st (.pair (.int .i64) (.pair (.int .i64) (.pair (.sl true 194 (.st (.pair .str (.pair (.int .i64) .str)))) (.pair .bool (.pair .str (.pair (.int .i64) (.int .i64)))))))))⟩,
  ⟨116, .slice 82, 1, 24, (.sl true 82 (.st (.pair (.int .i64) (.pair (.int .i64) (.pair (.sl true 154 (.st (.pair .str (.pair (.int .i64) .str)))) (.pair .bool (.pair .str (.pair (.int .i64) (.int .i64)))))))))⟩,
  ⟨127, .struct [(9, 0), (9, 1)], 2, 32, (.st (.pair .str .str))⟩,
  ⟨129, .struct [(9, 0), (9, 1)], 2, 32, (.st (.pair .str .str))⟩,
  ⟨154, .struct [(9, 0), (2, 1), (9, 2)], 3, 40, (.st (.pair .str (.pair (.int .i64) .str)))⟩,
  ⟨194, .struct [(9, 0), (2, 1), (9, 2)], 3, 40, (.st (.pair .str (.pair (.int .i64) .str)))⟩]
theorem tok : TOk Try.prog tbl := by unfold TOk; kernel_rfl

def f138 (k : Nat) (x0 : (ByteArray × (Int × ByteArray))) (x1 : Int) : Option Int := if (decide (((IntKind.i64.wrap (x1 - (ByteArray.size x0.1 : Int))) : Int) < (0 : Int))) then (some (-1 : Int)) else (if (decide (((IntKind.i64.wrap ((IntKind.i64.wrap (x1 - (ByteArray.size x0.1 : Int))) - (ByteArray.size x0.2.2 : Int))) : Int) < (0 : Int))) then (some (-1 : Int)) else (some (IntKind.i64.wrap ((IntKind.i64.wrap (x1 - (ByteArray.size x0.1 : Int))) - (ByteArray.size x0.2.2 : Int)))))
set_option maxRecDepth 100000 in
/-- 'laws.szTest'. -/
theorem c138 (k : Nat) (x0 : (ByteArray × (Int × ByteArray))) (x1 : Int) (r : Int) (hF : f138 k x0 x1 = some r) : PCall Try.prog 138 [⟨sh0, x0⟩, ⟨(.int .i64), x1⟩] [⟨(.int .i64), r⟩] := by
  refine pcall_intro Try.func138 rfl rfl (Nat.le_of_ble_eq_true rfl) ?_
  intro w0 Zi a w h
  rw [f138] at hF
  refine wp_reg_seq tok (orc := orcL []) (fz := []) (l := [1, 2]) (c := _) (.inr fun i h => h) h (by kernel_rfl) (AllP.nil) ?_
  intro a w h
  refine wp_reg_seq tok (orc := orcL []) (fz := []) (l := [1, 2]) (c := _) (.inr fun i h => h) h (by kernel_rfl) (AllP.nil) ?_
  intro a w h
  refine wp_seq ?_
  refine wp_reg_seq tok (orc := orcL []) (fz := []) (l := [1, 2, 11]) (c := _) (.inr fun i h => h) h (by kernel_rfl) (AllP.nil) ?_
  intro a w h
  refine wp_if h (b := (decide (((IntKind.i64.wrap (x1 - (ByteArray.size x0.1 : Int))) : Int) < (0 : Int)))) (by kernel_rfl) (fun hb => ?_) (fun hb => ?_)
  · replace hF := of_t hb hF
    refine wp_reg_seq tok (orc := orcL []) (fz := []) (l := [4]) (c := _) (.inr fun i h => h) h (by kernel_rfl) (AllP.nil) ?_
    intro a w h
    cases hF
    exact wp_ret (ret_okR tok h rfl (by kernel_rfl)).1
  · replace hF := of_f hb hF
    refine wp_skip ?_
    refine wp_reg_seq tok (orc := orcL []) (fz := []) (l := [1]) (c := _) (.inr fun i h => h) h (by kernel_rfl) (AllP.nil) ?_
    intro a w h
    refine wp_seq ?_
    refine wp_reg_seq tok (orc := orcL []) (fz := []) (l := [1, 18]) (c := _) (.inr fun i h => h) h (by kernel_rfl) (AllP.nil) ?_
    intro a w h
    refine wp_if h (b := (decide (((IntKind.i64.wrap ((IntKind.i64.wrap (x1 - (ByteArray.size x0.1 : Int))) - (ByteArray.size x0.2.2 : Int))) : Int) < (0 : Int)))) (by kernel_rfl) (fun hb => ?_) (fun hb => ?_)
    · replace hF := of_t hb hF
      refine wp_reg_seq tok (orc := orcL []) (fz := []) (l := [4]) (c := _) (.inr fun i h => h) h (by kernel_rfl) (AllP.nil) ?_
      intro a w h
      cases hF
      exact wp_ret (ret_okR tok h rfl (by kernel_rfl)).1
    · replace hF := of_f hb hF
      refine wp_skip ?_
      refine wp_reg_seq tok (orc := orcL []) (fz := []) (l := [4]) (c := _) (.inr fun i h => h) h (by kernel_rfl) (AllP.nil) ?_
      intro a w h
      cases hF
      exact wp_ret (ret_okR tok h rfl (by kernel_rfl)).1

def f107.l28 (k : Nat) (x0 : (List (ByteArray × (Int × ByteArray)))) : Nat → (Int × Int) → Option Int
  | 0, _ => none
  | m28 + 1, (v47, v48) => if (decide ((v48 : Int) < (List.length x0 : Int))) then (if (0 ≤ v48 ∧ v48 < (List.length x0 : Int)) then ((f138 k (List.getD x0 (Int.toNat v48) ((⟨#[]⟩ : ByteArray), ((0 : Int), (⟨#[]⟩ : ByteArray)))) v47).bind fun r52 => (if (decide ((r52 : Int) < (0 : Int))) then (some (-1 : Int)) else ((f107.l28 k x0) m28 (r52, (IntKind.i64.wrap (v48 + (1 : Int))))))) else none) else (some v47)
def f107 (k : Nat) (x0 : (List (ByteArray × (Int × ByteArray)))) (x1 : Int) : Option Int := if (decide (((IntKind.i64.wrap (x1 - (List.length x0 : Int))) : Int) < (0 : Int))) then (some (-1 : Int)) else (f107.l28 k x0 k ((IntKind.i64.wrap (x1 - (List.length x0 : Int))), (0 : Int)))
set_option maxRecDepth 100000 in
/-- 'laws.szTestS'. -/
theorem c107 (k : Nat) (x0 : (List (ByteArray × (Int × ByteArray)))) (x1 : Int) (r : Int) (hF : f107 k x0 x1 = some r) : PCall Try.prog 107 [⟨sh1, x0⟩, ⟨(.int .i64), x1⟩] [⟨(.int .i64), r⟩] := by
  refine pcall_intro Try.func107 rfl rfl (Nat.le_of_ble_eq_true rfl) ?_
  intro w0 Zi a w h
  rw [f107] at hF
  refine wp_reg_seq tok (orc := orcL []) (fz := []) (l := [0, 1]) (c := _) (.inr fun i h => h) h (by kernel_rfl) (AllP.nil) ?_
  intro a w h
  refine wp_reg_seq tok (orc := orcL []) (fz := []) (l := [0, 1]) (c := _) (.inr fun i h => h) h (by kernel_rfl) (AllP.nil) ?_
  intro a w h
  refine wp_seq ?_
  refine wp_reg_seq tok (orc := orcL []) (fz := []) (l := [0, 1, 11]) (c := _) (.inr fun i h => h) h (by kernel_rfl) (AllP.nil) ?_
  intro a w h
  refine wp_if h (b := (decide (((IntKind.i64.wrap (x1 - (List.length x0 : Int))) : Int) < (0 : Int)))) (by kernel_rfl) (fun hb => ?_) (fun hb => ?_)
  · replace hF := of_t hb hF
    refine wp_reg_seq tok (orc := orcL []) (fz := []) (l := [4]) (c := _) (.inr fun i h => h) h (by kernel_rfl) (AllP.nil) ?_
    intro a w h
    cases hF
    exact wp_ret (ret_okR tok h rfl (by kernel_rfl)).1
  · replace hF := of_f hb hF
    refine wp_skip ?_
    refine wp_seq ?_
    refine wp_reg_seq tok (orc := orcL []) (fz := []) (l := [0, 1, 5]) (c := _) (.inr fun i h => h) h (by kernel_rfl) (AllP.nil) ?_
    intro a w h
    refine wp_block ?_
    refine wp_loop_fuel (f107.l28 k x0) (fun ((v47, v48) : (Int × Int)) => [(0, .val sh1 x0), (1, .val (.int .i64) v47), (5, .val (.int .i64) v48)]) (fun v h => by obtain ⟨v47, v48⟩ := v; rw [f107.l28] at h; cases h) ?_ hF (h.arrive (fz := []) (l := [0, 1, 5]) (.inr fun i h => h) (by kernel_rfl))
    intro m28 v a w hF h
    obtain ⟨v47, v48⟩ := v
    rw [f107.l28] at hF
    refine wp_seq ?_
    refine wp_reg_seq tok (orc := orcL []) (fz := []) (l := [0, 1, 5, 15]) (c := _) (.inr fun i h => h) h (by kernel_rfl) (AllP.nil) ?_
    intro a w h
    refine wp_if h (b := (decide ((v48 : Int) < (List.length x0 : Int)))) (by kernel_rfl) (fun hb => ?_) (fun hb => ?_)
    · replace hF := of_t hb hF
      refine wp_skip ?_
      refine wp_seq <| wp_block ?_
      obtain ⟨hc53, hF⟩ := of_if hF
      obtain ⟨r52, hr54, hF⟩ := of_bind hF
      refine wp_reg_seq tok (orc := orcL [(23, [⟨(.int .i64), r52⟩])]) (fz := []) (l := [0, 1, 5]) (c := _) (.inr fun i h => h) h (by kernel_rfl) (AllP.cons hc53 (AllP.cons (c138 k (List.getD x0 (Int.toNat v48) ((⟨#[]⟩ : ByteArray), ((0 : Int), (⟨#[]⟩ : ByteArray)))) v47 r52 hr54) AllP.nil)) ?_
      intro a w h
      refine wp_reg_seq tok (orc := orcL []) (fz := []) (l := [0, 1, 5, 25]) (c := _) (.inr fun i h => h) h (by kernel_rfl) (AllP.nil) ?_
      intro a w h
      refine wp_if h (b := (decide ((r52 : Int) < (0 : Int)))) (by kernel_rfl) (fun hb => ?_) (fun hb => ?_)
      · replace hF := of_t hb hF
        refine wp_reg_seq tok (orc := orcL []) (fz := []) (l := [4]) (c := _) (.inr fun i h => h) h (by kernel_rfl) (AllP.nil) ?_
        intro a w h
        cases hF
        exact wp_ret (ret_okR tok h rfl (by kernel_rfl)).1
      · replace hF := of_f hb hF
        refine wp_skip ?_
        refine wp_reg tok (orc := orcL []) (fz := []) (l := [0, 1, 5]) (c := _) (.inr fun i h => h) h (by kernel_rfl) (AllP.nil) ?_
        intro a w h
        exact ⟨(r52, (IntKind.i64.wrap (v48 + (1 : Int)))), hF, h.arrive (fz := []) (l := [0, 1, 5]) (.inr fun i h => h) (by kernel_rfl)⟩
    · replace hF := of_f hb hF
      refine wp_exit ?_
      refine wp_reg_seq tok (orc := orcL []) (fz := []) (l := [4]) (c := _) (.inr fun i h => h) h (by kernel_rfl) (AllP.nil) ?_
      intro a w h
      cases hF
      exact wp_ret (ret_okR tok h rfl (by kernel_rfl)).1

def f51 (k : Nat) (x0 : (Int × (Int × ((List (ByteArray × (Int × ByteArray))) × (Bool × (ByteArray × (Int × Int))))))) (x1 : Int) : Option Int := (f107 k x0.2.2.1 x1).bind fun r1 => (if (decide ((r1 : Int) < (0 : Int))) then (some (-1 : Int)) else (if (decide (((IntKind.i64.wrap (r1 - (ByteArray.size x0.2.2.2.2.1 : Int))) : Int) < (0 : Int))) then (some (-1 : Int)) else (some (IntKind.i64.wrap (r1 - (ByteArray.size x0.2.2.2.2.1 : Int))))))
set_option maxRecDepth 100000 in
/-- 'laws.szRule'. -/
theorem c51 (k : Nat) (x0 : (Int × (Int × ((List (ByteArray × (Int × ByteArray))) × (Bool × (ByteArray × (Int × Int))))))) (x1 : Int) (r : Int) (hF : f51 k x0 x1 = some r) : PCall Try.prog 51 [⟨sh2, x0⟩, ⟨(.int .i64), x1⟩] [⟨(.int .i64), r⟩] := by
  refine pcall_intro Try.func51 rfl rfl (Nat.le_of_ble_eq_true rfl) ?_
  intro w0 Zi a w h
  rw [f51] at hF
  refine wp_reg_seq tok (orc := orcL []) (fz := []) (l := [1, 2]) (c := _) (.inr fun i h => h) h (by kernel_rfl) (AllP.nil) ?_
  intro a w h
  obtain ⟨r1, hr2, hF⟩ := of_bind hF
  refine wp_reg_seq tok (orc := orcL [(8, [⟨(.int .i64), r1⟩])]) (fz := []) (l := [1, 2]) (c := _) (.inr fun i h => h) h (by kernel_rfl) (AllP.cons (c107 k x0.2.2.1 x1 r1 hr2) AllP.nil) ?_
  intro a w h
  refine wp_seq ?_
  refine wp_reg_seq tok (orc := orcL []) (fz := []) (l := [1, 2, 10]) (c := _) (.inr fun i h => h) h (by kernel_rfl) (AllP.nil) ?_
  intro a w h
  refine wp_if h (b := (decide ((r1 : Int) < (0 : Int)))) (by kernel_rfl) (fun hb => ?_) (fun hb => ?_)
  · replace hF := of_t hb hF
    refine wp_reg_seq tok (orc := orcL []) (fz := []) (l := [4]) (c := _) (.inr fun i h => h) h (by kernel_rfl) (AllP.nil) ?_
    intro a w h
    cases hF
    exact wp_ret (ret_okR tok h rfl (by kernel_rfl)).1
  · replace hF := of_f hb hF
    refine wp_skip ?_
    refine wp_reg_seq tok (orc := orcL []) (fz := []) (l := [1]) (c := _) (.inr fun i h => h) h (by kernel_rfl) (AllP.nil) ?_
    intro a w h
    refine wp_seq ?_
    refine wp_reg_seq tok (orc := orcL []) (fz := []) (l := [1, 17]) (c := _) (.inr fun i h => h) h (by kernel_rfl) (AllP.nil) ?_
    intro a w h
    refine wp_if h (b := (decide (((IntKind.i64.wrap (r1 - (ByteArray.size x0.2.2.2.2.1 : Int))) : Int) < (0 : Int)))) (by kernel_rfl) (fun hb => ?_) (fun hb => ?_)
    · replace hF := of_t hb hF
      refine wp_reg_seq tok (orc := orcL []) (fz := []) (l := [4]) (c := _) (.inr fun i h => h) h (by kernel_rfl) (AllP.nil) ?_
      intro a w h
      cases hF
      exact wp_ret (ret_okR tok h rfl (by kernel_rfl)).1
    · replace hF := of_f hb hF
      refine wp_skip ?_
      refine wp_reg_seq tok (orc := orcL []) (fz := []) (l := [4]) (c := _) (.inr fun i h => h) h (by kernel_rfl) (AllP.nil) ?_
      intro a w h
      cases hF
      exact wp_ret (ret_okR tok h rfl (by kernel_rfl)).1

def f66.l28 (k : Nat) (x0 : (List (Int × (Int × ((List (ByteArray × (Int × ByteArray))) × (Bool × (ByteArray × (Int × Int)))))))) : Nat → (Int × Int) → Option Int
  | 0, _ => none
  | m28 + 1, (v47, v48) => if (decide ((v48 : Int) < (List.length x0 : Int))) then (if (0 ≤ v48 ∧ v48 < (List.length x0 : Int)) then ((f51 k (List.getD x0 (Int.toNat v48) ((0 : Int), ((0 : Int), (([] : (List (ByteArray × (Int × ByteArray)))), (false, ((⟨#[]⟩ : ByteArray), ((0 : Int), (0 : Int)))))))) v47).bind fun r52 => (if (decide ((r52 : Int) < (0 : Int))) then (some (-1 : Int)) else ((f66.l28 k x0) m28 (r52, (IntKind.i64.wrap (v48 + (1 : Int))))))) else none) else (some v47)
def f66 (k : Nat) (x0 : (List (Int × (Int × ((List (ByteArray × (Int × ByteArray))) × (Bool × (ByteArray × (Int × Int)))))))) (x1 : Int) : Option Int := if (decide (((IntKind.i64.wrap (x1 - (List.length x0 : Int))) : Int) < (0 : Int))) then (some (-1 : Int)) else (f66.l28 k x0 k ((IntKind.i64.wrap (x1 - (List.length x0 : Int))), (0 : Int)))
set_option maxRecDepth 100000 in
/-- 'laws.szRuleS'. -/
theorem c66 (k : Nat) (x0 : (List (Int × (Int × ((List (ByteArray × (Int × ByteArray))) × (Bool × (ByteArray × (Int × Int)))))))) (x1 : Int) (r : Int) (hF : f66 k x0 x1 = some r) : PCall Try.prog 66 [⟨sh3, x0⟩, ⟨(.int .i64), x1⟩] [⟨(.int .i64), r⟩] := by
  refine pcall_intro Try.func66 rfl rfl (Nat.le_of_ble_eq_true rfl) ?_
  intro w0 Zi a w h
  rw [f66] at hF
  refine wp_reg_seq tok (orc := orcL []) (fz := []) (l := [0, 1]) (c := _) (.inr fun i h => h) h (by kernel_rfl) (AllP.nil) ?_
  intro a w h
  refine wp_reg_seq tok (orc := orcL []) (fz := []) (l := [0, 1]) (c := _) (.inr fun i h => h) h (by kernel_rfl) (AllP.nil) ?_
  intro a w h
  refine wp_seq ?_
  refine wp_reg_seq tok (orc := orcL []) (fz := []) (l := [0, 1, 11]) (c := _) (.inr fun i h => h) h (by kernel_rfl) (AllP.nil) ?_
  intro a w h
  refine wp_if h (b := (decide (((IntKind.i64.wrap (x1 - (List.length x0 : Int))) : Int) < (0 : Int)))) (by kernel_rfl) (fun hb => ?_) (fun hb => ?_)
  · replace hF := of_t hb hF
    refine wp_reg_seq tok (orc := orcL []) (fz := []) (l := [4]) (c := _) (.inr fun i h => h) h (by kernel_rfl) (AllP.nil) ?_
    intro a w h
    cases hF
    exact wp_ret (ret_okR tok h rfl (by kernel_rfl)).1
  · replace hF := of_f hb hF
    refine wp_skip ?_
    refine wp_seq ?_
    refine wp_reg_seq tok (orc := orcL []) (fz := []) (l := [0, 1, 5]) (c := _) (.inr fun i h => h) h (by kernel_rfl) (AllP.nil) ?_
    intro a w h
    refine wp_block ?_
    refine wp_loop_fuel (f66.l28 k x0) (fun ((v47, v48) : (Int × Int)) => [(0, .val sh3 x0), (1, .val (.int .i64) v47), (5, .val (.int .i64) v48)]) (fun v h => by obtain ⟨v47, v48⟩ := v; rw [f66.l28] at h; cases h) ?_ hF (h.arrive (fz := []) (l := [0, 1, 5]) (.inr fun i h => h) (by kernel_rfl))
    intro m28 v a w hF h
    obtain ⟨v47, v48⟩ := v
    rw [f66.l28] at hF
    refine wp_seq ?_
    refine wp_reg_seq tok (orc := orcL []) (fz := []) (l := [0, 1, 5, 15]) (c := _) (.inr fun i h => h) h (by kernel_rfl) (AllP.nil) ?_
    intro a w h
    refine wp_if h (b := (decide ((v48 : Int) < (List.length x0 : Int)))) (by kernel_rfl) (fun hb => ?_) (fun hb => ?_)
    · replace hF := of_t hb hF
      refine wp_skip ?_
      refine wp_seq <| wp_block ?_
      obtain ⟨hc53, hF⟩ := of_if hF
      obtain ⟨r52, hr54, hF⟩ := of_bind hF
      refine wp_reg_seq tok (orc := orcL [(23, [⟨(.int .i64), r52⟩])]) (fz := []) (l := [0, 1, 5]) (c := _) (.inr fun i h => h) h (by kernel_rfl) (AllP.cons hc53 (AllP.cons (c51 k (List.getD x0 (Int.toNat v48) ((0 : Int), ((0 : Int), (([] : (List (ByteArray × (Int × ByteArray)))), (false, ((⟨#[]⟩ : ByteArray), ((0 : Int), (0 : Int)))))))) v47 r52 hr54) AllP.nil)) ?_
      intro a w h
      refine wp_reg_seq tok (orc := orcL []) (fz := []) (l := [0, 1, 5, 25]) (c := _) (.inr fun i h => h) h (by kernel_rfl) (AllP.nil) ?_
      intro a w h
      refine wp_if h (b := (decide ((r52 : Int) < (0 : Int)))) (by kernel_rfl) (fun hb => ?_) (fun hb => ?_)
      · replace hF := of_t hb hF
        refine wp_reg_seq tok (orc := orcL []) (fz := []) (l := [4]) (c := _) (.inr fun i h => h) h (by kernel_rfl) (AllP.nil) ?_
        intro a w h
        cases hF
        exact wp_ret (ret_okR tok h rfl (by kernel_rfl)).1
      · replace hF := of_f hb hF
        refine wp_skip ?_
        refine wp_reg tok (orc := orcL []) (fz := []) (l := [0, 1, 5]) (c := _) (.inr fun i h => h) h (by kernel_rfl) (AllP.nil) ?_
        intro a w h
        exact ⟨(r52, (IntKind.i64.wrap (v48 + (1 : Int)))), hF, h.arrive (fz := []) (l := [0, 1, 5]) (.inr fun i h => h) (by kernel_rfl)⟩
    · replace hF := of_f hb hF
      refine wp_exit ?_
      refine wp_reg_seq tok (orc := orcL []) (fz := []) (l := [4]) (c := _) (.inr fun i h => h) h (by kernel_rfl) (AllP.nil) ?_
      intro a w h
      cases hF
      exact wp_ret (ret_okR tok h rfl (by kernel_rfl)).1

def f80 (k : Nat) (x0 : (ByteArray × ByteArray)) (x1 : Int) : Option Int := if (decide (((IntKind.i64.wrap (x1 - (ByteArray.size x0.1 : Int))) : Int) < (0 : Int))) then (some (-1 : Int)) else (if (decide (((IntKind.i64.wrap ((IntKind.i64.wrap (x1 - (ByteArray.size x0.1 : Int))) - (ByteArray.size x0.2 : Int))) : Int) < (0 : Int))) then (some (-1 : Int)) else (some (IntKind.i64.wrap ((IntKind.i64.wrap (x1 - (ByteArray.size x0.1 : Int))) - (ByteArray.size x0.2 : Int)))))
set_option maxRecDepth 100000 in
/-- 'laws.szTag'. -/
theorem c80 (k : Nat) (x0 : (ByteArray × ByteArray)) (x1 : Int) (r : Int) (hF : f80 k x0 x1 = some r) : PCall Try.prog 80 [⟨(.st (.pair .str .str)), x0⟩, ⟨(.int .i64), x1⟩] [⟨(.int .i64), r⟩] := by
  refine pcall_intro Try.func80 rfl rfl (Nat.le_of_ble_eq_true rfl) ?_
  intro w0 Zi a w h
  rw [f80] at hF
  refine wp_reg_seq tok (orc := orcL []) (fz := []) (l := [1, 2]) (c := _) (.inr fun i h => h) h (by kernel_rfl) (AllP.nil) ?_
  intro a w h
  refine wp_reg_seq tok (orc := orcL []) (fz := []) (l := [1, 2]) (c := _) (.inr fun i h => h) h (by kernel_rfl) (AllP.nil) ?_
  intro a w h
  refine wp_seq ?_
  refine wp_reg_seq tok (orc := orcL []) (fz := []) (l := [1, 2, 11]) (c := _) (.inr fun i h => h) h (by kernel_rfl) (AllP.nil) ?_
  intro a w h
  refine wp_if h (b := (decide (((IntKind.i64.wrap (x1 - (ByteArray.size x0.1 : Int))) : Int) < (0 : Int)))) (by kernel_rfl) (fun hb => ?_) (fun hb => ?_)
  · replace hF := of_t hb hF
    refine wp_reg_seq tok (orc := orcL []) (fz := []) (l := [4]) (c := _) (.inr fun i h => h) h (by kernel_rfl) (AllP.nil) ?_
    intro a w h
    cases hF
    exact wp_ret (ret_okR tok h rfl (by kernel_rfl)).1
  · replace hF := of_f hb hF
    refine wp_skip ?_
    refine wp_reg_seq tok (orc := orcL []) (fz := []) (l := [1]) (c := _) (.inr fun i h => h) h (by kernel_rfl) (AllP.nil) ?_
    intro a w h
    refine wp_seq ?_
    refine wp_reg_seq tok (orc := orcL []) (fz := []) (l := [1, 18]) (c := _) (.inr fun i h => h) h (by kernel_rfl) (AllP.nil) ?_
    intro a w h
    refine wp_if h (b := (decide (((IntKind.i64.wrap ((IntKind.i64.wrap (x1 - (ByteArray.size x0.1 : Int))) - (ByteArray.size x0.2 : Int))) : Int) < (0 : Int)))) (by kernel_rfl) (fun hb => ?_) (fun hb => ?_)
    · replace hF := of_t hb hF
      refine wp_reg_seq tok (orc := orcL []) (fz := []) (l := [4]) (c := _) (.inr fun i h => h) h (by kernel_rfl) (AllP.nil) ?_
      intro a w h
      cases hF
      exact wp_ret (ret_okR tok h rfl (by kernel_rfl)).1
    · replace hF := of_f hb hF
      refine wp_skip ?_
      refine wp_reg_seq tok (orc := orcL []) (fz := []) (l := [4]) (c := _) (.inr fun i h => h) h (by kernel_rfl) (AllP.nil) ?_
      intro a w h
      cases hF
      exact wp_ret (ret_okR tok h rfl (by kernel_rfl)).1

def f18.l28 (k : Nat) (x0 : (List (ByteArray × ByteArray))) : Nat → (Int × Int) → Option Int
  | 0, _ => none
  | m28 + 1, (v47, v48) => if (decide ((v48 : Int) < (List.length x0 : Int))) then (if (0 ≤ v48 ∧ v48 < (List.length x0 : Int)) then ((f80 k (List.getD x0 (Int.toNat v48) ((⟨#[]⟩ : ByteArray), (⟨#[]⟩ : ByteArray))) v47).bind fun r52 => (if (decide ((r52 : Int) < (0 : Int))) then (some (-1 : Int)) else ((f18.l28 k x0) m28 (r52, (IntKind.i64.wrap (v48 + (1 : Int))))))) else none) else (some v47)
def f18 (k : Nat) (x0 : (List (ByteArray × ByteArray))) (x1 : Int) : Option Int := if (decide (((IntKind.i64.wrap (x1 - (List.length x0 : Int))) : Int) < (0 : Int))) then (some (-1 : Int)) else (f18.l28 k x0 k ((IntKind.i64.wrap (x1 - (List.length x0 : Int))), (0 : Int)))
set_option maxRecDepth 100000 in
/-- 'laws.szTagS'. -/
theorem c18 (k : Nat) (x0 : (List (ByteArray × ByteArray))) (x1 : Int) (r : Int) (hF : f18 k x0 x1 = some r) : PCall Try.prog 18 [⟨sh4, x0⟩, ⟨(.int .i64), x1⟩] [⟨(.int .i64), r⟩] := by
  refine pcall_intro Try.func18 rfl rfl (Nat.le_of_ble_eq_true rfl) ?_
  intro w0 Zi a w h
  rw [f18] at hF
  refine wp_reg_seq tok (orc := orcL []) (fz := []) (l := [0, 1]) (c := _) (.inr fun i h => h) h (by kernel_rfl) (AllP.nil) ?_
  intro a w h
  refine wp_reg_seq tok (orc := orcL []) (fz := []) (l := [0, 1]) (c := _) (.inr fun i h => h) h (by kernel_rfl) (AllP.nil) ?_
  intro a w h
  refine wp_seq ?_
  refine wp_reg_seq tok (orc := orcL []) (fz := []) (l := [0, 1, 11]) (c := _) (.inr fun i h => h) h (by kernel_rfl) (AllP.nil) ?_
  intro a w h
  refine wp_if h (b := (decide (((IntKind.i64.wrap (x1 - (List.length x0 : Int))) : Int) < (0 : Int)))) (by kernel_rfl) (fun hb => ?_) (fun hb => ?_)
  · replace hF := of_t hb hF
    refine wp_reg_seq tok (orc := orcL []) (fz := []) (l := [4]) (c := _) (.inr fun i h => h) h (by kernel_rfl) (AllP.nil) ?_
    intro a w h
    cases hF
    exact wp_ret (ret_okR tok h rfl (by kernel_rfl)).1
  · replace hF := of_f hb hF
    refine wp_skip ?_
    refine wp_seq ?_
    refine wp_reg_seq tok (orc := orcL []) (fz := []) (l := [0, 1, 5]) (c := _) (.inr fun i h => h) h (by kernel_rfl) (AllP.nil) ?_
    intro a w h
    refine wp_block ?_
    refine wp_loop_fuel (f18.l28 k x0) (fun ((v47, v48) : (Int × Int)) => [(0, .val sh4 x0), (1, .val (.int .i64) v47), (5, .val (.int .i64) v48)]) (fun v h => by obtain ⟨v47, v48⟩ := v; rw [f18.l28] at h; cases h) ?_ hF (h.arrive (fz := []) (l := [0, 1, 5]) (.inr fun i h => h) (by kernel_rfl))
    intro m28 v a w hF h
    obtain ⟨v47, v48⟩ := v
    rw [f18.l28] at hF
    refine wp_seq ?_
    refine wp_reg_seq tok (orc := orcL []) (fz := []) (l := [0, 1, 5, 15]) (c := _) (.inr fun i h => h) h (by kernel_rfl) (AllP.nil) ?_
    intro a w h
    refine wp_if h (b := (decide ((v48 : Int) < (List.length x0 : Int)))) (by kernel_rfl) (fun hb => ?_) (fun hb => ?_)
    · replace hF := of_t hb hF
      refine wp_skip ?_
      refine wp_seq <| wp_block ?_
      obtain ⟨hc53, hF⟩ := of_if hF
      obtain ⟨r52, hr54, hF⟩ := of_bind hF
      refine wp_reg_seq tok (orc := orcL [(23, [⟨(.int .i64), r52⟩])]) (fz := []) (l := [0, 1, 5]) (c := _) (.inr fun i h => h) h (by kernel_rfl) (AllP.cons hc53 (AllP.cons (c80 k (List.getD x0 (Int.toNat v48) ((⟨#[]⟩ : ByteArray), (⟨#[]⟩ : ByteArray))) v47 r52 hr54) AllP.nil)) ?_
      intro a w h
      refine wp_reg_seq tok (orc := orcL []) (fz := []) (l := [0, 1, 5, 25]) (c := _) (.inr fun i h => h) h (by kernel_rfl) (AllP.nil) ?_
      intro a w h
      refine wp_if h (b := (decide ((r52 : Int) < (0 : Int)))) (by kernel_rfl) (fun hb => ?_) (fun hb => ?_)
      · replace hF := of_t hb hF
        refine wp_reg_seq tok (orc := orcL []) (fz := []) (l := [4]) (c := _) (.inr fun i h => h) h (by kernel_rfl) (AllP.nil) ?_
        intro a w h
        cases hF
        exact wp_ret (ret_okR tok h rfl (by kernel_rfl)).1
      · replace hF := of_f hb hF
        refine wp_skip ?_
        refine wp_reg tok (orc := orcL []) (fz := []) (l := [0, 1, 5]) (c := _) (.inr fun i h => h) h (by kernel_rfl) (AllP.nil) ?_
        intro a w h
        exact ⟨(r52, (IntKind.i64.wrap (v48 + (1 : Int)))), hF, h.arrive (fz := []) (l := [0, 1, 5]) (.inr fun i h => h) (by kernel_rfl)⟩
    · replace hF := of_f hb hF
      refine wp_exit ?_
      refine wp_reg_seq tok (orc := orcL []) (fz := []) (l := [4]) (c := _) (.inr fun i h => h) h (by kernel_rfl) (AllP.nil) ?_
      intro a w h
      cases hF
      exact wp_ret (ret_okR tok h rfl (by kernel_rfl)).1

def f139 (k : Nat) (x0 : (ByteArray × (Int × ByteArray))) : Option (ByteArray × (Int × ByteArray)) := some (x0.1, (x0.2.1, x0.2.2))
set_option maxRecDepth 100000 in
/-- 'laws.toTest'. -/
theorem c139 (k : Nat) (x0 : (ByteArray × (Int × ByteArray))) (r : (ByteArray × (Int × ByteArray))) (hF : f139 k x0 = some r) : PCall Try.prog 139 [⟨sh0, x0⟩] [⟨sh0, r⟩] := by
  refine pcall_intro Try.func139 rfl rfl (Nat.le_of_ble_eq_true rfl) ?_
  intro w0 Zi a w h
  rw [f139] at hF
  refine wp_reg_seq tok (orc := orcL []) (fz := []) (l := [1, 2]) (c := _) (.inr fun i h => h) h (by kernel_rfl) (AllP.nil) ?_
  intro a w h
  refine wp_reg_seq tok (orc := orcL []) (fz := []) (l := [1, 2, 3]) (c := _) (.inr fun i h => h) h (by kernel_rfl) (AllP.nil) ?_
  intro a w h
  refine wp_reg_seq tok (orc := orcL []) (fz := []) (l := [1, 2, 3]) (c := _) (.inr fun i h => h) h (by kernel_rfl) (AllP.nil) ?_
  intro a w h
  refine wp_reg_seq tok (orc := orcL []) (fz := []) (l := [1, 2, 3]) (c := _) (.inr fun i h => h) h (by kernel_rfl) (AllP.nil) ?_
  intro a w h
  refine wp_reg_seq tok (orc := orcL []) (fz := []) (l := [2, 3]) (c := _) (.inr fun i h => h) h (by kernel_rfl) (AllP.nil) ?_
  intro a w h
  refine wp_reg_seq tok (orc := orcL []) (fz := []) (l := [2]) (c := _) (.inr fun i h => h) h (by kernel_rfl) (AllP.nil) ?_
  intro a w h
  cases hF
  exact wp_ret (ret_okR tok h rfl (by kernel_rfl)).1

def f108.l34 (k : Nat) (x0 : (List (ByteArray × (Int × ByteArray)))) : Nat → ((List (ByteArray × (Int × ByteArray))) × Int) → Option (List (ByteArray × (Int × ByteArray)))
  | 0, _ => none
  | m34 + 1, (v57, v58) => if (decide ((v58 : Int) < (List.length x0 : Int))) then (if (0 ≤ v58 ∧ v58 < (List.length x0 : Int)) then ((f139 k (List.getD x0 (Int.toNat v58) ((⟨#[]⟩ : ByteArray), ((0 : Int), (⟨#[]⟩ : ByteArray))))).bind fun r63 => (if (0 ≤ v58 ∧ v58 < (List.length v57 : Int)) then ((f108.l34 k x0) m34 ((List.set v57 (Int.toNat v58) r63), (IntKind.i64.wrap (v58 + (1 : Int))))) else none)) else none) else (some v57)
def f108 (k : Nat) (x0 : (List (ByteArray × (Int × ByteArray)))) : Option (List (ByteArray × (Int × ByteArray))) := if (0 ≤ (List.length x0 : Int) ∧ Int.toNat (List.length x0 : Int) * 40 ≤ 140737488355328) then (f108.l34 k x0 k ((List.replicate (Int.toNat (List.length x0 : Int)) ((⟨#[]⟩ : ByteArray), ((0 : Int), (⟨#[]⟩ : ByteArray)))), (0 : Int))) else none
set_option maxRecDepth 100000 in
/-- 'laws.toTestS'. -/
theorem c108 (k : Nat) (x0 : (List (ByteArray × (Int × ByteArray)))) (r : (List (ByteArray × (Int × ByteArray)))) (hF : f108 k x0 = some r) : PCall Try.prog 108 [⟨sh1, x0⟩] [⟨sh5, r⟩] := by
  refine pcall_intro Try.func108 rfl rfl (Nat.le_of_ble_eq_true rfl) ?_
  intro w0 Zi a w h
  rw [f108] at hF
  refine wp_reg_seq tok (orc := orcL []) (fz := []) (l := [0]) (c := _) (.inr fun i h => h) h (by kernel_rfl) (AllP.nil) ?_
  intro a w h
  obtain ⟨hc67, hF⟩ := of_if hF
  refine wp_reg_seq tok (orc := orcL []) (fz := []) (l := [0, 3]) (c := _) (.inr fun i h => h) h (by kernel_rfl) (AllP.cons hc67 AllP.nil) ?_
  intro a w h
  refine wp_seq ?_
  refine wp_reg_seq tok (orc := orcL []) (fz := []) (l := [0, 3, 4]) (c := _) (.inr fun i h => h) h (by kernel_rfl) (AllP.nil) ?_
  intro a w h
  refine wp_block ?_
  refine wp_loop_fuel (f108.l34 k x0) (fun ((v57, v58) : ((List (ByteArray × (Int × ByteArray))) × Int)) => [(0, .val sh1 x0), (3, .val sh5 v57), (4, .val (.int .i64) v58)]) (fun v h => by obtain ⟨v57, v58⟩ := v; rw [f108.l34] at h; cases h) ?_ hF (h.arrive (fz := []) (l := [0, 3, 4]) (.inr fun i h => h) (by kernel_rfl))
  intro m34 v a w hF h
  obtain ⟨v57, v58⟩ := v
  rw [f108.l34] at hF
  refine wp_seq ?_
  refine wp_reg_seq tok (orc := orcL []) (fz := []) (l := [0, 3, 4, 11]) (c := _) (.inr fun i h => h) h (by kernel_rfl) (AllP.nil) ?_
  intro a w h
  refine wp_if h (b := (decide ((v58 : Int) < (List.length x0 : Int)))) (by kernel_rfl) (fun hb => ?_) (fun hb => ?_)
  · replace hF := of_t hb hF
    refine wp_skip ?_
    refine wp_seq <| wp_block ?_
    obtain ⟨hc64, hF⟩ := of_if hF
    obtain ⟨r63, hr65, hF⟩ := of_bind hF
    obtain ⟨hc66, hF⟩ := of_if hF
    refine wp_reg tok (orc := orcL [(20, [⟨sh0, r63⟩])]) (fz := []) (l := [0, 3, 4]) (c := _) (.inr fun i h => h) h (by kernel_rfl) (AllP.cons hc64 (AllP.cons (c139 k (List.getD x0 (Int.toNat v58) ((⟨#[]⟩ : ByteArray), ((0 : Int), (⟨#[]⟩ : ByteArray)))) r63 hr65) (AllP.cons hc66 AllP.nil))) ?_
    intro a w h
    refine wp_reg tok (orc := orcL []) (fz := []) (l := [0, 3, 4]) (c := _) (.inr fun i h => h) h (by kernel_rfl) (AllP.nil) ?_
    intro a w h
    exact ⟨((List.set v57 (Int.toNat v58) r63), (IntKind.i64.wrap (v58 + (1 : Int)))), hF, h.arrive (fz := []) (l := [0, 3, 4]) (.inr fun i h => h) (by kernel_rfl)⟩
  · replace hF := of_f hb hF
    refine wp_exit ?_
    refine wp_reg_seq tok (orc := orcL []) (fz := []) (l := [2, 3]) (c := _) (.inr fun i h => h) h (by kernel_rfl) (AllP.nil) ?_
    intro a w h
    cases hF
    exact wp_ret (ret_okR tok h rfl (by kernel_rfl)).1

def f53 (k : Nat) (x0 : (Int × (Int × ((List (ByteArray × (Int × ByteArray))) × (Bool × (ByteArray × (Int × Int))))))) : Option (Int × (Int × ((List (ByteArray × (Int × ByteArray))) × (Bool × (ByteArray × (Int × Int)))))) := (f108 k x0.2.2.1).bind fun r1 => (some (x0.1, (x0.2.1, (r1, (x0.2.2.2.1, (x0.2.2.2.2.1, (x0.2.2.2.2.2.1, x0.2.2.2.2.2.2)))))))
set_option maxRecDepth 100000 in
/-- 'laws.toRule'. -/
theorem c53 (k : Nat) (x0 : (Int × (Int × ((List (ByteArray × (Int × ByteArray))) × (Bool × (ByteArray × (Int × Int))))))) (r : (Int × (Int × ((List (ByteArray × (Int × ByteArray))) × (Bool × (ByteArray × (Int × Int))))))) (hF : f53 k x0 = some r) : PCall Try.prog 53 [⟨sh2, x0⟩] [⟨sh6, r⟩] := by
  refine pcall_intro Try.func53 rfl rfl (Nat.le_of_ble_eq_true rfl) ?_
  intro w0 Zi a w h
  rw [f53] at hF
  refine wp_reg_seq tok (orc := orcL []) (fz := []) (l := [1, 2]) (c := _) (.inr fun i h => h) h (by kernel_rfl) (AllP.nil) ?_
  intro a w h
  refine wp_reg_seq tok (orc := orcL []) (fz := []) (l := [1, 2, 3]) (c := _) (.inr fun i h => h) h (by kernel_rfl) (AllP.nil) ?_
  intro a w h
  refine wp_reg_seq tok (orc := orcL []) (fz := []) (l := [1, 2, 3]) (c := _) (.inr fun i h => h) h (by kernel_rfl) (AllP.nil) ?_
  intro a w h
  refine wp_reg_seq tok (orc := orcL []) (fz := []) (l := [1, 2, 3]) (c := _) (.inr fun i h => h) h (by kernel_rfl) (AllP.nil) ?_
  intro a w h
  obtain ⟨r1, hr2, hF⟩ := of_bind hF
  refine wp_reg_seq tok (orc := orcL [(12, [⟨sh5, r1⟩])]) (fz := []) (l := [1, 2, 3]) (c := _) (.inr fun i h => h) h (by kernel_rfl) (AllP.cons (c108 k x0.2.2.1 r1 hr2) AllP.nil) ?_
  intro a w h
  refine wp_reg_seq tok (orc := orcL []) (fz := []) (l := [1, 2, 3]) (c := _) (.inr fun i h => h) h (by kernel_rfl) (AllP.nil) ?_
  intro a w h
  refine wp_reg_seq tok (orc := orcL []) (fz := []) (l := [1, 2, 3]) (c := _) (.inr fun i h => h) h (by kernel_rfl) (AllP.nil) ?_
  intro a w h
  refine wp_reg_seq tok (orc := orcL []) (fz := []) (l := [1, 2, 3]) (c := _) (.inr fun i h => h) h (by kernel_rfl) (AllP.nil) ?_
  intro a w h
  refine wp_reg_seq tok (orc := orcL []) (fz := []) (l := [2, 3]) (c := _) (.inr fun i h => h) h (by kernel_rfl) (AllP.nil) ?_
  intro a w h
  refine wp_reg_seq tok (orc := orcL []) (fz := []) (l := [2]) (c := _) (.inr fun i h => h) h (by kernel_rfl) (AllP.nil) ?_
  intro a w h
  cases hF
  exact wp_ret (ret_okR tok h rfl (by kernel_rfl)).1

def f68.l34 (k : Nat) (x0 : (List (Int × (Int × ((List (ByteArray × (Int × ByteArray))) × (Bool × (ByteArray × (Int × Int)))))))) : Nat → ((List (Int × (Int × ((List (ByteArray × (Int × ByteArray))) × (Bool × (ByteArray × (Int × Int))))))) × Int) → Option (List (Int × (Int × ((List (ByteArray × (Int × ByteArray))) × (Bool × (ByteArray × (Int × Int)))))))
  | 0, _ => none
  | m34 + 1, (v57, v58) => if (decide ((v58 : Int) < (List.length x0 : Int))) then (if (0 ≤ v58 ∧ v58 < (List.length x0 : Int)) then ((f53 k (List.getD x0 (Int.toNat v58) ((0 : Int), ((0 : Int), (([] : (List (ByteArray × (Int × ByteArray)))), (false, ((⟨#[]⟩ : ByteArray), ((0 : Int), (0 : Int))))))))).bind fun r63 => (if (0 ≤ v58 ∧ v58 < (List.length v57 : Int)) then ((f68.l34 k x0) m34 ((List.set v57 (Int.toNat v58) r63), (IntKind.i64.wrap (v58 + (1 : Int))))) else none)) else none) else (some v57)
def f68 (k : Nat) (x0 : (List (Int × (Int × ((List (ByteArray × (Int × ByteArray))) × (Bool × (ByteArray × (Int × Int)))))))) : Option (List (Int × (Int × ((List (ByteArray × (Int × ByteArray))) × (Bool × (ByteArray × (Int × Int))))))) := if (0 ≤ (List.length x0 : Int) ∧ Int.toNat (List.length x0 : Int) * 80 ≤ 140737488355328) then (f68.l34 k x0 k ((List.replicate (Int.toNat (List.length x0 : Int)) ((0 : Int), ((0 : Int), (([] : (List (ByteArray × (Int × ByteArray)))), (false, ((⟨#[]⟩ : ByteArray), ((0 : Int), (0 : Int)))))))), (0 : Int))) else none
set_option maxRecDepth 100000 in
/-- 'laws.toRuleS'. -/
theorem c68 (k : Nat) (x0 : (List (Int × (Int × ((List (ByteArray × (Int × ByteArray))) × (Bool × (ByteArray × (Int × Int)))))))) (r : (List (Int × (Int × ((List (ByteArray × (Int × ByteArray))) × (Bool × (ByteArray × (Int × Int)))))))) (hF : f68 k x0 = some r) : PCall Try.prog 68 [⟨sh3, x0⟩] [⟨sh7, r⟩] := by
  refine pcall_intro Try.func68 rfl rfl (Nat.le_of_ble_eq_true rfl) ?_
  intro w0 Zi a w h
  rw [f68] at hF
  refine wp_reg_seq tok (orc := orcL []) (fz := []) (l := [0]) (c := _) (.inr fun i h => h) h (by kernel_rfl) (AllP.nil) ?_
  intro a w h
  obtain ⟨hc67, hF⟩ := of_if hF
  refine wp_reg_seq tok (orc := orcL []) (fz := []) (l := [0, 3]) (c := _) (.inr fun i h => h) h (by kernel_rfl) (AllP.cons hc67 AllP.nil) ?_
  intro a w h
  refine wp_seq ?_
  refine wp_reg_seq tok (orc := orcL []) (fz := []) (l := [0, 3, 4]) (c := _) (.inr fun i h => h) h (by kernel_rfl) (AllP.nil) ?_
  intro a w h
  refine wp_block ?_
  refine wp_loop_fuel (f68.l34 k x0) (fun ((v57, v58) : ((List (Int × (Int × ((List (ByteArray × (Int × ByteArray))) × (Bool × (ByteArray × (Int × Int))))))) × Int)) => [(0, .val sh3 x0), (3, .val sh7 v57), (4, .val (.int .i64) v58)]) (fun v h => by obtain ⟨v57, v58⟩ := v; rw [f68.l34] at h; cases h) ?_ hF (h.arrive (fz := []) (l := [0, 3, 4]) (.inr fun i h => h) (by kernel_rfl))
  intro m34 v a w hF h
  obtain ⟨v57, v58⟩ := v
  rw [f68.l34] at hF
  refine wp_seq ?_
  refine wp_reg_seq tok (orc := orcL []) (fz := []) (l := [0, 3, 4, 11]) (c := _) (.inr fun i h => h) h (by kernel_rfl) (AllP.nil) ?_
  intro a w h
  refine wp_if h (b := (decide ((v58 : Int) < (List.length x0 : Int)))) (by kernel_rfl) (fun hb => ?_) (fun hb => ?_)
  · replace hF := of_t hb hF
    refine wp_skip ?_
    refine wp_seq <| wp_block ?_
    obtain ⟨hc64, hF⟩ := of_if hF
    obtain ⟨r63, hr65, hF⟩ := of_bind hF
    obtain ⟨hc66, hF⟩ := of_if hF
    refine wp_reg tok (orc := orcL [(20, [⟨sh6, r63⟩])]) (fz := []) (l := [0, 3, 4]) (c := _) (.inr fun i h => h) h (by kernel_rfl) (AllP.cons hc64 (AllP.cons (c53 k (List.getD x0 (Int.toNat v58) ((0 : Int), ((0 : Int), (([] : (List (ByteArray × (Int × ByteArray)))), (false, ((⟨#[]⟩ : ByteArray), ((0 : Int), (0 : Int)))))))) r63 hr65) (AllP.cons hc66 AllP.nil))) ?_
    intro a w h
    refine wp_reg tok (orc := orcL []) (fz := []) (l := [0, 3, 4]) (c := _) (.inr fun i h => h) h (by kernel_rfl) (AllP.nil) ?_
    intro a w h
    exact ⟨((List.set v57 (Int.toNat v58) r63), (IntKind.i64.wrap (v58 + (1 : Int)))), hF, h.arrive (fz := []) (l := [0, 3, 4]) (.inr fun i h => h) (by kernel_rfl)⟩
  · replace hF := of_f hb hF
    refine wp_exit ?_
    refine wp_reg_seq tok (orc := orcL []) (fz := []) (l := [2, 3]) (c := _) (.inr fun i h => h) h (by kernel_rfl) (AllP.nil) ?_
    intro a w h
    cases hF
    exact wp_ret (ret_okR tok h rfl (by kernel_rfl)).1

def f82 (k : Nat) (x0 : (ByteArray × ByteArray)) : Option (ByteArray × ByteArray) := some (x0.1, x0.2)
set_option maxRecDepth 100000 in
/-- 'laws.toTag'. -/
theorem c82 (k : Nat) (x0 : (ByteArray × ByteArray)) (r : (ByteArray × ByteArray)) (hF : f82 k x0 = some r) : PCall Try.prog 82 [⟨(.st (.pair .str .str)), x0⟩] [⟨(.st (.pair .str .str)), r⟩] := by
  refine pcall_intro Try.func82 rfl rfl (Nat.le_of_ble_eq_true rfl) ?_
  intro w0 Zi a w h
  rw [f82] at hF
  refine wp_reg_seq tok (orc := orcL []) (fz := []) (l := [1, 2]) (c := _) (.inr fun i h => h) h (by kernel_rfl) (AllP.nil) ?_
  intro a w h
  refine wp_reg_seq tok (orc := orcL []) (fz := []) (l := [1, 2, 3]) (c := _) (.inr fun i h => h) h (by kernel_rfl) (AllP.nil) ?_
  intro a w h
  refine wp_reg_seq tok (orc := orcL []) (fz := []) (l := [1, 2, 3]) (c := _) (.inr fun i h => h) h (by kernel_rfl) (AllP.nil) ?_
  intro a w h
  refine wp_reg_seq tok (orc := orcL []) (fz := []) (l := [2, 3]) (c := _) (.inr fun i h => h) h (by kernel_rfl) (AllP.nil) ?_
  intro a w h
  refine wp_reg_seq tok (orc := orcL []) (fz := []) (l := [2]) (c := _) (.inr fun i h => h) h (by kernel_rfl) (AllP.nil) ?_
  intro a w h
  cases hF
  exact wp_ret (ret_okR tok h rfl (by kernel_rfl)).1

def f20.l34 (k : Nat) (x0 : (List (ByteArray × ByteArray))) : Nat → ((List (ByteArray × ByteArray)) × Int) → Option (List (ByteArray × ByteArray))
  | 0, _ => none
  | m34 + 1, (v57, v58) => if (decide ((v58 : Int) < (List.length x0 : Int))) then (if (0 ≤ v58 ∧ v58 < (List.length x0 : Int)) then ((f82 k (List.getD x0 (Int.toNat v58) ((⟨#[]⟩ : ByteArray), (⟨#[]⟩ : ByteArray)))).bind fun r63 => (if (0 ≤ v58 ∧ v58 < (List.length v57 : Int)) then ((f20.l34 k x0) m34 ((List.set v57 (Int.toNat v58) r63), (IntKind.i64.wrap (v58 + (1 : Int))))) else none)) else none) else (some v57)
def f20 (k : Nat) (x0 : (List (ByteArray × ByteArray))) : Option (List (ByteArray × ByteArray)) := if (0 ≤ (List.length x0 : Int) ∧ Int.toNat (List.length x0 : Int) * 32 ≤ 140737488355328) then (f20.l34 k x0 k ((List.replicate (Int.toNat (List.length x0 : Int)) ((⟨#[]⟩ : ByteArray), (⟨#[]⟩ : ByteArray))), (0 : Int))) else none
set_option maxRecDepth 100000 in
/-- 'laws.toTagS'. -/
theorem c20 (k : Nat) (x0 : (List (ByteArray × ByteArray))) (r : (List (ByteArray × ByteArray))) (hF : f20 k x0 = some r) : PCall Try.prog 20 [⟨sh4, x0⟩] [⟨sh8, r⟩] := by
  refine pcall_intro Try.func20 rfl rfl (Nat.le_of_ble_eq_true rfl) ?_
  intro w0 Zi a w h
  rw [f20] at hF
  refine wp_reg_seq tok (orc := orcL []) (fz := []) (l := [0]) (c := _) (.inr fun i h => h) h (by kernel_rfl) (AllP.nil) ?_
  intro a w h
  obtain ⟨hc67, hF⟩ := of_if hF
  refine wp_reg_seq tok (orc := orcL []) (fz := []) (l := [0, 3]) (c := _) (.inr fun i h => h) h (by kernel_rfl) (AllP.cons hc67 AllP.nil) ?_
  intro a w h
  refine wp_seq ?_
  refine wp_reg_seq tok (orc := orcL []) (fz := []) (l := [0, 3, 4]) (c := _) (.inr fun i h => h) h (by kernel_rfl) (AllP.nil) ?_
  intro a w h
  refine wp_block ?_
  refine wp_loop_fuel (f20.l34 k x0) (fun ((v57, v58) : ((List (ByteArray × ByteArray)) × Int)) => [(0, .val sh4 x0), (3, .val sh8 v57), (4, .val (.int .i64) v58)]) (fun v h => by obtain ⟨v57, v58⟩ := v; rw [f20.l34] at h; cases h) ?_ hF (h.arrive (fz := []) (l := [0, 3, 4]) (.inr fun i h => h) (by kernel_rfl))
  intro m34 v a w hF h
  obtain ⟨v57, v58⟩ := v
  rw [f20.l34] at hF
  refine wp_seq ?_
  refine wp_reg_seq tok (orc := orcL []) (fz := []) (l := [0, 3, 4, 11]) (c := _) (.inr fun i h => h) h (by kernel_rfl) (AllP.nil) ?_
  intro a w h
  refine wp_if h (b := (decide ((v58 : Int) < (List.length x0 : Int)))) (by kernel_rfl) (fun hb => ?_) (fun hb => ?_)
  · replace hF := of_t hb hF
    refine wp_skip ?_
    refine wp_seq <| wp_block ?_
    obtain ⟨hc64, hF⟩ := of_if hF
    obtain ⟨r63, hr65, hF⟩ := of_bind hF
    obtain ⟨hc66, hF⟩ := of_if hF
    refine wp_reg tok (orc := orcL [(20, [⟨(.st (.pair .str .str)), r63⟩])]) (fz := []) (l := [0, 3, 4]) (c := _) (.inr fun i h => h) h (by kernel_rfl) (AllP.cons hc64 (AllP.cons (c82 k (List.getD x0 (Int.toNat v58) ((⟨#[]⟩ : ByteArray), (⟨#[]⟩ : ByteArray))) r63 hr65) (AllP.cons hc66 AllP.nil))) ?_
    intro a w h
    refine wp_reg tok (orc := orcL []) (fz := []) (l := [0, 3, 4]) (c := _) (.inr fun i h => h) h (by kernel_rfl) (AllP.nil) ?_
    intro a w h
    exact ⟨((List.set v57 (Int.toNat v58) r63), (IntKind.i64.wrap (v58 + (1 : Int)))), hF, h.arrive (fz := []) (l := [0, 3, 4]) (.inr fun i h => h) (by kernel_rfl)⟩
  · replace hF := of_f hb hF
    refine wp_exit ?_
    refine wp_reg_seq tok (orc := orcL []) (fz := []) (l := [2, 3]) (c := _) (.inr fun i h => h) h (by kernel_rfl) (AllP.nil) ?_
    intro a w h
    cases hF
    exact wp_ret (ret_okR tok h rfl (by kernel_rfl)).1

def f81.l18 (k : Nat) (x0 : (List (ByteArray × ByteArray))) (x1 : ByteArray) : Nat → Int → Option ByteArray
  | 0, _ => none
  | m18 + 1, v30 => if (decide ((v30 : Int) < (List.length x0 : Int))) then (if (0 ≤ v30 ∧ v30 < (List.length x0 : Int)) then (if (ByteArray.toList (List.getD x0 (Int.toNat v30) ((⟨#[]⟩ : ByteArray), (⟨#[]⟩ : ByteArray))).1 == ByteArray.toList x1) then (if (0 ≤ v30 ∧ v30 < (List.length x0 : Int)) then (some (List.getD x0 (Int.toNat v30) ((⟨#[]⟩ : ByteArray), (⟨#[]⟩ : ByteArray))).2) else none) else ((f81.l18 k x0 x1) m18 (IntKind.i64.wrap (v30 + (1 : Int))))) else none) else (some (⟨#[]⟩ : ByteArray))
def f81 (k : Nat) (x0 : (List (ByteArray × ByteArray))) (x1 : ByteArray) : Option ByteArray := f81.l18 k x0 x1 k (0 : Int)
set_option maxRecDepth 100000 in
/-- 'spec.TagOf'. -/
theorem c81 (k : Nat) (x0 : (List (ByteArray × ByteArray))) (x1 : ByteArray) (r : ByteArray) (hF : f81 k x0 x1 = some r) : PCall Try.prog 81 [⟨sh9, x0⟩, ⟨.str, x1⟩] [⟨.str, r⟩] := by
  refine pcall_intro Try.func81 rfl rfl (Nat.le_of_ble_eq_true rfl) ?_
  intro w0 Zi a w h
  rw [f81] at hF
  refine wp_reg_seq tok (orc := orcL []) (fz := []) (l := [0, 1]) (c := _) (.inr fun i h => h) h (by kernel_rfl) (AllP.nil) ?_
  intro a w h
  refine wp_seq ?_
  refine wp_reg_seq tok (orc := orcL []) (fz := []) (l := [0, 1, 5]) (c := _) (.inr fun i h => h) h (by kernel_rfl) (AllP.nil) ?_
  intro a w h
  refine wp_block ?_
  refine wp_loop_fuel (f81.l18 k x0 x1) (fun (v30 : Int) => [(0, .val sh9 x0), (1, .val .str x1), (5, .val (.int .i64) v30)]) (fun v h => by rw [f81.l18] at h; cases h) ?_ hF (h.arrive (fz := []) (l := [0, 1, 5]) (.inr fun i h => h) (by kernel_rfl))
  intro m18 v30 a w hF h
  rw [f81.l18] at hF
  refine wp_seq ?_
  refine wp_reg_seq tok (orc := orcL []) (fz := []) (l := [0, 1, 5, 9]) (c := _) (.inr fun i h => h) h (by kernel_rfl) (AllP.nil) ?_
  intro a w h
  refine wp_if h (b := (decide ((v30 : Int) < (List.length x0 : Int)))) (by kernel_rfl) (fun hb => ?_) (fun hb => ?_)
  · replace hF := of_t hb hF
    refine wp_skip ?_
    refine wp_seq <| wp_block ?_
    obtain ⟨hc34, hF⟩ := of_if hF
    refine wp_reg_seq tok (orc := orcL []) (fz := []) (l := [0, 1, 5, 18]) (c := _) (.inr fun i h => h) h (by kernel_rfl) (AllP.cons hc34 AllP.nil) ?_
    intro a w h
    refine wp_if h (b := (ByteArray.toList (List.getD x0 (Int.toNat v30) ((⟨#[]⟩ : ByteArray), (⟨#[]⟩ : ByteArray))).1 == ByteArray.toList x1)) (by kernel_rfl) (fun hb => ?_) (fun hb => ?_)
    · replace hF := of_t hb hF
      obtain ⟨hc33, hF⟩ := of_if hF
      refine wp_reg_seq tok (orc := orcL []) (fz := []) (l := [4]) (c := _) (.inr fun i h => h) h (by kernel_rfl) (AllP.cons hc33 AllP.nil) ?_
      intro a w h
      cases hF
      exact wp_ret (ret_okR tok h rfl (by kernel_rfl)).1
    · replace hF := of_f hb hF
      refine wp_skip ?_
      refine wp_reg tok (orc := orcL []) (fz := []) (l := [0, 1, 5]) (c := _) (.inr fun i h => h) h (by kernel_rfl) (AllP.nil) ?_
      intro a w h
      exact ⟨(IntKind.i64.wrap (v30 + (1 : Int))), hF, h.arrive (fz := []) (l := [0, 1, 5]) (.inr fun i h => h) (by kernel_rfl)⟩
  · replace hF := of_f hb hF
    refine wp_exit ?_
    refine wp_reg_seq tok (orc := orcL []) (fz := []) (l := [4]) (c := _) (.inr fun i h => h) h (by kernel_rfl) (AllP.nil) ?_
    intro a w h
    cases hF
    exact wp_ret (ret_okR tok h rfl (by kernel_rfl)).1

def f52.j379 (k : Nat) (v345 : Int) (q207 : Int → Option Bool) : Unit → Option Bool
  | _ => q207 (IntKind.i64.wrap (v345 + (1 : Int)))
def f52.l396 (k : Nat) (x1 : (List (ByteArray × ByteArray))) (x0 : (Int × (Int × ((List (ByteArray × (Int × ByteArray))) × (Bool × (ByteArray × (Int × Int))))))) (v345 : Int) (r380 : ByteArray) (q379 : Unit → Option Bool) : Nat → (Bool × Int) → Option Bool
  | 0, _ => none
  | m396 + 1, (v407, v408) => if (decide ((v408 : Int) < (List.length x1 : Int))) then (if ((v407 = false) → (0 ≤ v408 ∧ v408 < (List.length x1 : Int))) then ((f52.l396 k x1 x0 v345 r380 q379) m396 ((bif v407 then true else (ByteArray.toList (List.getD x1 (Int.toNat v408) ((⟨#[]⟩ : ByteArray), (⟨#[]⟩ : ByteArray))).1 == ByteArray.toList (List.getD x0.2.2.1 (Int.toNat v345) ((⟨#[]⟩ : ByteArray), ((0 : Int), (⟨#[]⟩ : ByteArray)))).1)), (IntKind.i64.wrap (v408 + (1 : Int))))) else none) else (if (((List.getD x0.2.2.1 (Int.toNat v345) ((⟨#[]⟩ : ByteArray), ((0 : Int), (⟨#[]⟩ : ByteArray)))).2.1 : Int) == (1 : Int)) then (if (!(ByteArray.toList r380 == ByteArray.toList (List.getD x0.2.2.1 (Int.toNat v345) ((⟨#[]⟩ : ByteArray), ((0 : Int), (⟨#[]⟩ : ByteArray)))).2.2)) then (some false) else (q379 ())) else (if (((List.getD x0.2.2.1 (Int.toNat v345) ((⟨#[]⟩ : ByteArray), ((0 : Int), (⟨#[]⟩ : ByteArray)))).2.1 : Int) == (2 : Int)) then (if (ByteArray.toList r380 == ByteArray.toList (List.getD x0.2.2.1 (Int.toNat v345) ((⟨#[]⟩ : ByteArray), ((0 : Int), (⟨#[]⟩ : ByteArray)))).2.2) then (some false) else (q379 ())) else (if (((List.getD x0.2.2.1 (Int.toNat v345) ((⟨#[]⟩ : ByteArray), ((0 : Int), (⟨#[]⟩ : ByteArray)))).2.1 : Int) == (3 : Int)) then (if (!v407) then (some false) else (q379 ())) else (if (((List.getD x0.2.2.1 (Int.toNat v345) ((⟨#[]⟩ : ByteArray), ((0 : Int), (⟨#[]⟩ : ByteArray)))).2.1 : Int) == (4 : Int)) then (if v407 then (some false) else (q379 ())) else (some false)))))
def f52.l207 (k : Nat) (x0 : (Int × (Int × ((List (ByteArray × (Int × ByteArray))) × (Bool × (ByteArray × (Int × Int))))))) (x1 : (List (ByteArray × ByteArray))) : Nat → Int → Option Bool
  | 0, _ => none
  | m207 + 1, v345 => if (decide ((v345 : Int) < (List.length x0.2.2.1 : Int))) then (if (0 ≤ v345 ∧ v345 < (List.length x0.2.2.1 : Int)) then ((f81 k x1 (List.getD x0.2.2.1 (Int.toNat v345) ((⟨#[]⟩ : ByteArray), ((0 : Int), (⟨#[]⟩ : ByteArray)))).1).bind fun r380 => (f52.l396 k x1 x0 v345 r380 (f52.j379 k v345 ((f52.l207 k x0 x1) m207)) k (false, (0 : Int)))) else none) else (some true)
def f52 (k : Nat) (x0 : (Int × (Int × ((List (ByteArray × (Int × ByteArray))) × (Bool × (ByteArray × (Int × Int))))))) (x1 : (List (ByteArray × ByteArray))) (x2 : Int) : Option Bool := if (bif (decide ((x2 : Int) < x0.1)) then true else (decide ((x2 : Int) > x0.2.1))) then (some false) else (f52.l207 k x0 x1 k (0 : Int))
set_option maxRecDepth 100000 in
/-- 'spec.Applies'. -/
theorem c52 (k : Nat) (x0 : (Int × (Int × ((List (ByteArray × (Int × ByteArray))) × (Bool × (ByteArray × (Int × Int))))))) (x1 : (List (ByteArray × ByteArray))) (x2 : Int) (r : Bool) (hF : f52 k x0 x1 x2 = some r) : PCall Try.prog 52 [⟨sh12, x0⟩, ⟨sh9, x1⟩, ⟨(.int .i64), x2⟩] [⟨.bool, r⟩] := by
  refine pcall_intro Try.func52 rfl rfl (Nat.le_of_ble_eq_true rfl) ?_
  intro w0 Zi a w h
  rw [f52] at hF
  refine wp_reg_seq tok (orc := orcL []) (fz := []) (l := [1, 2, 3]) (c := _) (.inr fun i h => h) h (by kernel_rfl) (AllP.nil) ?_
  intro a w h
  refine wp_seq ?_
  refine wp_reg_seq tok (orc := orcL []) (fz := []) (l := [1, 3, 21]) (c := _) (.inr fun i h => h) h (by kernel_rfl) (AllP.nil) ?_
  intro a w h
  refine wp_if h (b := (bif (decide ((x2 : Int) < x0.1)) then true else (decide ((x2 : Int) > x0.2.1)))) (by kernel_rfl) (fun hb => ?_) (fun hb => ?_)
  · replace hF := of_t hb hF
    refine wp_reg_seq tok (orc := orcL []) (fz := []) (l := [6]) (c := _) (.inr fun i h => h) h (by kernel_rfl) (AllP.nil) ?_
    intro a w h
    cases hF
    exact wp_ret (ret_okR tok h rfl (by kernel_rfl)).1
  · replace hF := of_f hb hF
    refine wp_skip ?_
    refine wp_seq ?_
    refine wp_reg_seq tok (orc := orcL []) (fz := []) (l := [1, 3, 7]) (c := _) (.inr fun i h => h) h (by kernel_rfl) (AllP.nil) ?_
    intro a w h
    refine wp_block ?_
    refine wp_loop_fuel (f52.l207 k x0 x1) (fun (v345 : Int) => [(1, .val sh9 x1), (3, .val sh10 (some x0)), (7, .val (.int .i64) v345)]) (fun v h => by rw [f52.l207] at h; cases h) ?_ hF (h.arrive (fz := []) (l := [1, 3, 7]) (.inr fun i h => h) (by kernel_rfl))
    intro m207 v345 a w hF h
    rw [f52.l207] at hF
    refine wp_seq ?_
    refine wp_reg_seq tok (orc := orcL []) (fz := []) (l := [1, 3, 7, 26]) (c := _) (.inr fun i h => h) h (by kernel_rfl) (AllP.nil) ?_
    intro a w h
    refine wp_if h (b := (decide ((v345 : Int) < (List.length x0.2.2.1 : Int)))) (by kernel_rfl) (fun hb => ?_) (fun hb => ?_)
    · replace hF := of_t hb hF
      refine wp_skip ?_
      refine wp_mid (fun a w => ∃ v : Unit, f52.j379 k v345 ((f52.l207 k x0 x1) m207) v = some r ∧ Rel w0 (fun _ => False) Zi Try.f52.ntmps ((fun (_ : Unit) => ([(1, .val sh9 x1), (3, .val sh10 (some x0)), (7, .val (.int .i64) v345)] : SS)) v) a w) ?_ ?_
      ·
        refine wp_block ?_
        obtain ⟨hc412, hF⟩ := of_if hF
        refine wp_reg_seq tok (orc := orcL []) (fz := []) (l := [1, 3, 7, 8]) (c := _) (.inr fun i h => h) h (by kernel_rfl) (AllP.cons hc412 AllP.nil) ?_
        intro a w h
        obtain ⟨r380, hr411, hF⟩ := of_bind hF
        refine wp_reg_seq tok (orc := orcL [(37, [⟨.str, r380⟩])]) (fz := []) (l := [1, 3, 7, 8, 9]) (c := _) (.inr fun i h => h) h (by kernel_rfl) (AllP.cons (c81 k x1 (List.getD x0.2.2.1 (Int.toNat v345) ((⟨#[]⟩ : ByteArray), ((0 : Int), (⟨#[]⟩ : ByteArray)))).1 r380 hr411) AllP.nil) ?_
        intro a w h
        refine wp_reg_seq tok (orc := orcL []) (fz := []) (l := [1, 3, 7, 8, 9, 10]) (c := _) (.inr fun i h => h) h (by kernel_rfl) (AllP.nil) ?_
        intro a w h
        refine wp_seq ?_
        refine wp_reg_seq tok (orc := orcL []) (fz := []) (l := [1, 3, 7, 8, 9, 10, 11]) (c := _) (.inr fun i h => h) h (by kernel_rfl) (AllP.nil) ?_
        intro a w h
        refine wp_block ?_
        refine wp_loop_fuel (f52.l396 k x1 x0 v345 r380 (f52.j379 k v345 ((f52.l207 k x0 x1) m207))) (fun ((v407, v408) : (Bool × Int)) => [(1, .val sh9 x1), (3, .val sh10 (some x0)), (7, .val (.int .i64) v345), (8, .val sh11 (some (List.getD x0.2.2.1 (Int.toNat v345) ((⟨#[]⟩ : ByteArray), ((0 : Int), (⟨#[]⟩ : ByteArray)))))), (9, .val .str r380), (10, .val .bool v407), (11, .val (.int .i64) v408)]) (fun v h => by obtain ⟨v407, v408⟩ := v; rw [f52.l396] at h; cases h) ?_ hF (h.arrive (fz := []) (l := [1, 3, 7, 8, 9, 10, 11]) (.inr fun i h => h) (by kernel_rfl))
        intro m396 v a w hF h
        obtain ⟨v407, v408⟩ := v
        rw [f52.l396] at hF
        refine wp_seq ?_
        refine wp_reg_seq tok (orc := orcL []) (fz := []) (l := [1, 3, 7, 8, 9, 10, 11, 41]) (c := _) (.inr fun i h => h) h (by kernel_rfl) (AllP.nil) ?_
        intro a w h
        refine wp_if h (b := (decide ((v408 : Int) < (List.length x1 : Int)))) (by kernel_rfl) (fun hb => ?_) (fun hb => ?_)
        · replace hF := of_t hb hF
          refine wp_skip ?_
          refine wp_seq <| wp_block ?_
          obtain ⟨hc410, hF⟩ := of_if hF
          refine wp_regy tok (orc := orcL []) (fz := []) (l := [1, 3, 7, 8, 9, 10, 11]) (c := _) ([], [], [], []) 12 (.inr fun i h => h) h (by kernel_rfl) (by kernel_rfl) (AllP.cons hc410 AllP.nil) ?_
          intro a w h
          refine wp_reg tok (orc := orcL []) (fz := []) (l := [1, 3, 7, 8, 9, 10, 11]) (c := _) (.inr fun i h => h) h (by kernel_rfl) (AllP.nil) ?_
          intro a w h
          exact ⟨((bif v407 then true else (ByteArray.toList (List.getD x1 (Int.toNat v408) ((⟨#[]⟩ : ByteArray), (⟨#[]⟩ : ByteArray))).1 == ByteArray.toList (List.getD x0.2.2.1 (Int.toNat v345) ((⟨#[]⟩ : ByteArray), ((0 : Int), (⟨#[]⟩ : ByteArray)))).1)), (IntKind.i64.wrap (v408 + (1 : Int)))), hF, h.arrive (fz := []) (l := [1, 3, 7, 8, 9, 10, 11]) (.inr fun i h => h) (by kernel_rfl)⟩
        · replace hF := of_f hb hF
          refine wp_exit ?_
          refine wp_reg_seq tok (orc := orcL []) (fz := []) (l := [1, 3, 7, 8, 9, 10, 56]) (c := _) (.inr fun i h => h) h (by kernel_rfl) (AllP.nil) ?_
          intro a w h
          refine wp_block ?_
          refine wp_reg_seq tok (orc := orcL []) (fz := []) (l := [1, 3, 7, 8, 9, 10, 56, 57]) (c := _) (.inr fun i h => h) h (by kernel_rfl) (AllP.nil) ?_
          intro a w h
          refine wp_if h (b := (((List.getD x0.2.2.1 (Int.toNat v345) ((⟨#[]⟩ : ByteArray), ((0 : Int), (⟨#[]⟩ : ByteArray)))).2.1 : Int) == (1 : Int))) (by kernel_rfl) (fun hb => ?_) (fun hb => ?_)
          · replace hF := of_t hb hF
            refine wp_reg_seq tok (orc := orcL []) (fz := []) (l := [1, 3, 7, 62]) (c := _) (.inr fun i h => h) h (by kernel_rfl) (AllP.nil) ?_
            intro a w h
            refine wp_if h (b := (!(ByteArray.toList r380 == ByteArray.toList (List.getD x0.2.2.1 (Int.toNat v345) ((⟨#[]⟩ : ByteArray), ((0 : Int), (⟨#[]⟩ : ByteArray)))).2.2))) (by kernel_rfl) (fun hb => ?_) (fun hb => ?_)
            · replace hF := of_t hb hF
              refine wp_reg_seq tok (orc := orcL []) (fz := []) (l := [6]) (c := _) (.inr fun i h => h) h (by kernel_rfl) (AllP.nil) ?_
              intro a w h
              cases hF
              exact wp_ret (ret_okR tok h rfl (by kernel_rfl)).1
            · replace hF := of_f hb hF
              refine wp_skip ?_
              exact ⟨(), hF, h.arrive (fz := []) (l := [1, 3, 7]) (.inr fun i h => h) (by kernel_rfl)⟩
          · replace hF := of_f hb hF
            refine wp_reg_seq tok (orc := orcL []) (fz := []) (l := [1, 3, 7, 8, 9, 10, 56, 63]) (c := _) (.inr fun i h => h) h (by kernel_rfl) (AllP.nil) ?_
            intro a w h
            refine wp_if h (b := (((List.getD x0.2.2.1 (Int.toNat v345) ((⟨#[]⟩ : ByteArray), ((0 : Int), (⟨#[]⟩ : ByteArray)))).2.1 : Int) == (2 : Int))) (by kernel_rfl) (fun hb => ?_) (fun hb => ?_)
            · replace hF := of_t hb hF
              refine wp_reg_seq tok (orc := orcL []) (fz := []) (l := [1, 3, 7, 68]) (c := _) (.inr fun i h => h) h (by kernel_rfl) (AllP.nil) ?_
              intro a w h
              refine wp_if h (b := (ByteArray.toList r380 == ByteArray.toList (List.getD x0.2.2.1 (Int.toNat v345) ((⟨#[]⟩ : ByteArray), ((0 : Int), (⟨#[]⟩ : ByteArray)))).2.2)) (by kernel_rfl) (fun hb => ?_) (fun hb => ?_)
              · replace hF := of_t hb hF
                refine wp_reg_seq tok (orc := orcL []) (fz := []) (l := [6]) (c := _) (.inr fun i h => h) h (by kernel_rfl) (AllP.nil) ?_
                intro a w h
                cases hF
                exact wp_ret (ret_okR tok h rfl (by kernel_rfl)).1
              · replace hF := of_f hb hF
                refine wp_skip ?_
                exact ⟨(), hF, h.arrive (fz := []) (l := [1, 3, 7]) (.inr fun i h => h) (by kernel_rfl)⟩
            · replace hF := of_f hb hF
              refine wp_reg_seq tok (orc := orcL []) (fz := []) (l := [1, 3, 7, 10, 56, 69]) (c := _) (.inr fun i h => h) h (by kernel_rfl) (AllP.nil) ?_
              intro a w h
              refine wp_if h (b := (((List.getD x0.2.2.1 (Int.toNat v345) ((⟨#[]⟩ : ByteArray), ((0 : Int), (⟨#[]⟩ : ByteArray)))).2.1 : Int) == (3 : Int))) (by kernel_rfl) (fun hb => ?_) (fun hb => ?_)
              · replace hF := of_t hb hF
                refine wp_reg_seq tok (orc := orcL []) (fz := []) (l := [1, 3, 7, 72]) (c := _) (.inr fun i h => h) h (by kernel_rfl) (AllP.nil) ?_
                intro a w h
                refine wp_if h (b := (!v407)) (by kernel_rfl) (fun hb => ?_) (fun hb => ?_)
                · replace hF := of_t hb hF
                  refine wp_reg_seq tok (orc := orcL []) (fz := []) (l := [6]) (c := _) (.inr fun i h => h) h (by kernel_rfl) (AllP.nil) ?_
                  intro a w h
                  cases hF
                  exact wp_ret (ret_okR tok h rfl (by kernel_rfl)).1
                · replace hF := of_f hb hF
                  refine wp_skip ?_
                  exact ⟨(), hF, h.arrive (fz := []) (l := [1, 3, 7]) (.inr fun i h => h) (by kernel_rfl)⟩
              · replace hF := of_f hb hF
                refine wp_reg_seq tok (orc := orcL []) (fz := []) (l := [1, 3, 7, 10, 73]) (c := _) (.inr fun i h => h) h (by kernel_rfl) (AllP.nil) ?_
                intro a w h
                refine wp_if h (b := (((List.getD x0.2.2.1 (Int.toNat v345) ((⟨#[]⟩ : ByteArray), ((0 : Int), (⟨#[]⟩ : ByteArray)))).2.1 : Int) == (4 : Int))) (by kernel_rfl) (fun hb => ?_) (fun hb => ?_)
                · replace hF := of_t hb hF
                  refine wp_reg_seq tok (orc := orcL []) (fz := []) (l := [1, 3, 7, 75]) (c := _) (.inr fun i h => h) h (by kernel_rfl) (AllP.nil) ?_
                  intro a w h
                  refine wp_if h (b := v407) (by kernel_rfl) (fun hb => ?_) (fun hb => ?_)
                  · replace hF := of_t hb hF
                    refine wp_reg_seq tok (orc := orcL []) (fz := []) (l := [6]) (c := _) (.inr fun i h => h) h (by kernel_rfl) (AllP.nil) ?_
                    intro a w h
                    cases hF
                    exact wp_ret (ret_okR tok h rfl (by kernel_rfl)).1
                  · replace hF := of_f hb hF
                    refine wp_skip ?_
                    exact ⟨(), hF, h.arrive (fz := []) (l := [1, 3, 7]) (.inr fun i h => h) (by kernel_rfl)⟩
                · replace hF := of_f hb hF
                  refine wp_reg_seq tok (orc := orcL []) (fz := []) (l := [6]) (c := _) (.inr fun i h => h) h (by kernel_rfl) (AllP.nil) ?_
                  intro a w h
                  cases hF
                  exact wp_ret (ret_okR tok h rfl (by kernel_rfl)).1
      · rintro a w ⟨v, hF, h⟩
        obtain ⟨⟩ := v
        rw [f52.j379] at hF
        refine wp_reg tok (orc := orcL []) (fz := []) (l := [1, 3, 7]) (c := _) (.inr fun i h => h) h (by kernel_rfl) (AllP.nil) ?_
        intro a w h
        exact ⟨(IntKind.i64.wrap (v345 + (1 : Int))), hF, h.arrive (fz := []) (l := [1, 3, 7]) (.inr fun i h => h) (by kernel_rfl)⟩
    · replace hF := of_f hb hF
      refine wp_exit ?_
      refine wp_reg_seq tok (orc := orcL []) (fz := []) (l := [6]) (c := _) (.inr fun i h => h) h (by kernel_rfl) (AllP.nil) ?_
      intro a w h
      cases hF
      exact wp_ret (ret_okR tok h rfl (by kernel_rfl)).1

def f130 (k : Nat) (x0 : (Int × (Int × ((List (ByteArray × (Int × ByteArray))) × (Bool × (ByteArray × (Int × Int))))))) : Option (Int × (Int × ((List (ByteArray × (Int × ByteArray))) × (Bool × (ByteArray × (Int × Int)))))) := if ((List.length ([] : List (ByteArray × (Int × ByteArray))) + List.length x0.2.2.1) * 40 ≤ 140737488355328) then (some (x0.1, (x0.2.1, ((([] : List (ByteArray × (Int × ByteArray))) ++ x0.2.2.1), x0.2.2.2)))) else none
set_option maxRecDepth 100000 in
/-- 'spec.l7Copy'. -/
theorem c130 (k : Nat) (x0 : (Int × (Int × ((List (ByteArray × (Int × ByteArray))) × (Bool × (ByteArray × (Int × Int))))))) (r : (Int × (Int × ((List (ByteArray × (Int × ByteArray))) × (Bool × (ByteArray × (Int × Int))))))) (hF : f130 k x0 = some r) : PCall Try.prog 130 [⟨sh12, x0⟩] [⟨sh6, r⟩] := by
  refine pcall_intro Try.func130 rfl rfl (Nat.le_of_ble_eq_true rfl) ?_
  intro w0 Zi a w h
  rw [f130] at hF
  refine wp_reg_seq tok (orc := orcL []) (fz := []) (l := [1, 2]) (c := _) (.inr fun i h => h) h (by kernel_rfl) (AllP.nil) ?_
  intro a w h
  obtain ⟨hc1, hF⟩ := of_if hF
  refine wp_reg_seq tok (orc := orcL []) (fz := []) (l := [1, 2]) (c := _) (.inr fun i h => h) h (by kernel_rfl) (AllP.cons hc1 AllP.nil) ?_
  intro a w h
  refine wp_reg_seq tok (orc := orcL []) (fz := []) (l := [2]) (c := _) (.inr fun i h => h) h (by kernel_rfl) (AllP.nil) ?_
  intro a w h
  cases hF
  exact wp_ret (ret_okR tok h rfl (by kernel_rfl)).1

def f67.l48 (k : Nat) (x0 : (List (Int × (Int × ((List (ByteArray × (Int × ByteArray))) × (Bool × (ByteArray × (Int × Int)))))))) (x1 : (List (ByteArray × ByteArray))) (x2 : Int) : Nat → Int → Option ((Int × (Int × ((List (ByteArray × (Int × ByteArray))) × (Bool × (ByteArray × (Int × Int)))))) × Bool)
  | 0, _ => none
  | m48 + 1, v80 => if (decide ((v80 : Int) ≥ (0 : Int))) then (if (0 ≤ v80 ∧ v80 < (List.length x0 : Int)) then ((f52 k (List.getD x0 (Int.toNat v80) ((0 : Int), ((0 : Int), (([] : (List (ByteArray × (Int × ByteArray)))), (false, ((⟨#[]⟩ : ByteArray), ((0 : Int), (0 : Int)))))))) x1 x2).bind fun r88 => (if r88 then (if (0 ≤ v80 ∧ v80 < (List.length x0 : Int)) then (if (List.getD x0 (Int.toNat v80) ((0 : Int), ((0 : Int), (([] : (List (ByteArray × (Int × ByteArray)))), (false, ((⟨#[]⟩ : ByteArray), ((0 : Int), (0 : Int)))))))).2.2.2.1 then (some (((0 : Int), ((0 : Int), (([] : (List (ByteArray × (Int × ByteArray)))), (false, ((⟨#[]⟩ : ByteArray), ((0 : Int), (0 : Int))))))), false)) else (if (0 ≤ v80 ∧ v80 < (List.length x0 : Int)) then ((f130 k (List.getD x0 (Int.toNat v80) ((0 : Int), ((0 : Int), (([] : (List (ByteArray × (Int × ByteArray)))), (false, ((⟨#[]⟩ : ByteArray), ((0 : Int), (0 : Int))))))))).bind fun r89 => (some (r89, true))) else none)) else none) else ((f67.l48 k x0 x1 x2) m48 (IntKind.i64.wrap (v80 - (1 : Int)))))) else none) else (some (((0 : Int), ((0 : Int), (([] : (List (ByteArray × (Int × ByteArray)))), (false, ((⟨#[]⟩ : ByteArray), ((0 : Int), (0 : Int))))))), false))
def f67 (k : Nat) (x0 : (List (Int × (Int × ((List (ByteArray × (Int × ByteArray))) × (Bool × (ByteArray × (Int × Int)))))))) (x1 : (List (ByteArray × ByteArray))) (x2 : Int) : Option ((Int × (Int × ((List (ByteArray × (Int × ByteArray))) × (Bool × (ByteArray × (Int × Int)))))) × Bool) := if (decide (((List.length x0 : Int) : Int) > (100 : Int))) then (some (((0 : Int), ((0 : Int), (([] : (List (ByteArray × (Int × ByteArray)))), (false, ((⟨#[]⟩ : ByteArray), ((0 : Int), (0 : Int))))))), false)) else (f67.l48 k x0 x1 x2 k (IntKind.i64.wrap ((List.length x0 : Int) - (1 : Int))))
set_option maxRecDepth 100000 in
/-- 'spec.Paint'. -/
theorem c67 (k : Nat) (x0 : (List (Int × (Int × ((List (ByteArray × (Int × ByteArray))) × (Bool × (ByteArray × (Int × Int)))))))) (x1 : (List (ByteArray × ByteArray))) (x2 : Int) (r : ((Int × (Int × ((List (ByteArray × (Int × ByteArray))) × (Bool × (ByteArray × (Int × Int)))))) × Bool)) (hF : f67 k x0 x1 x2 = some r) : PCall Try.prog 67 [⟨sh13, x0⟩, ⟨sh9, x1⟩, ⟨(.int .i64), x2⟩] [⟨sh6, r.1⟩, ⟨.bool, r.2⟩] := by
  refine pcall_intro Try.func67 rfl rfl (Nat.le_of_ble_eq_true rfl) ?_
  intro w0 Zi a w h
  rw [f67] at hF
  refine wp_reg_seq tok (orc := orcL []) (fz := []) (l := [0, 1, 2, 6]) (c := _) (.inr fun i h => h) h (by kernel_rfl) (AllP.nil) ?_
  intro a w h
  refine wp_seq ?_
  refine wp_reg_seq tok (orc := orcL []) (fz := []) (l := [0, 1, 2, 6, 11]) (c := _) (.inr fun i h => h) h (by kernel_rfl) (AllP.nil) ?_
  intro a w h
  refine wp_if h (b := (decide (((List.length x0 : Int) : Int) > (100 : Int)))) (by kernel_rfl) (fun hb => ?_) (fun hb => ?_)
  · replace hF := of_t hb hF
    refine wp_reg_seq tok (orc := orcL []) (fz := []) (l := [6, 7]) (c := _) (.inr fun i h => h) h (by kernel_rfl) (AllP.nil) ?_
    intro a w h
    cases hF
    exact wp_ret (ret_okR tok h rfl (by kernel_rfl)).1
  · replace hF := of_f hb hF
    refine wp_skip ?_
    refine wp_seq ?_
    refine wp_reg_seq tok (orc := orcL []) (fz := []) (l := [0, 1, 2, 6, 8]) (c := _) (.inr fun i h => h) h (by kernel_rfl) (AllP.nil) ?_
    intro a w h
    refine wp_block ?_
    refine wp_loop_fuel (f67.l48 k x0 x1 x2) (fun (v80 : Int) => [(0, .val sh13 x0), (1, .val sh9 x1), (2, .val (.int .i64) x2), (6, .val sh14 (some ((0 : Int), ((0 : Int), (([] : (List (ByteArray × (Int × ByteArray)))), (false, ((⟨#[]⟩ : ByteArray), ((0 : Int), (0 : Int))))))))), (8, .val (.int .i64) v80)]) (fun v h => by rw [f67.l48] at h; cases h) ?_ hF (h.arrive (fz := []) (l := [0, 1, 2, 6, 8]) (.inr fun i h => h) (by kernel_rfl))
    intro m48 v80 a w hF h
    rw [f67.l48] at hF
    refine wp_seq ?_
    refine wp_reg_seq tok (orc := orcL []) (fz := []) (l := [0, 1, 2, 6, 8, 17]) (c := _) (.inr fun i h => h) h (by kernel_rfl) (AllP.nil) ?_
    intro a w h
    refine wp_if h (b := (decide ((v80 : Int) ≥ (0 : Int)))) (by kernel_rfl) (fun hb => ?_) (fun hb => ?_)
    · replace hF := of_t hb hF
      refine wp_skip ?_
      refine wp_seq <| wp_block ?_
      obtain ⟨hc93, hF⟩ := of_if hF
      obtain ⟨r88, hr94, hF⟩ := of_bind hF
      refine wp_reg_seq tok (orc := orcL [(26, [⟨.bool, r88⟩])]) (fz := []) (l := [0, 1, 2, 6, 8, 26]) (c := _) (.inr fun i h => h) h (by kernel_rfl) (AllP.cons hc93 (AllP.cons (c52 k (List.getD x0 (Int.toNat v80) ((0 : Int), ((0 : Int), (([] : (List (ByteArray × (Int × ByteArray)))), (false, ((⟨#[]⟩ : ByteArray), ((0 : Int), (0 : Int)))))))) x1 x2 r88 hr94) AllP.nil)) ?_
      intro a w h
      refine wp_if h (b := r88) (by kernel_rfl) (fun hb => ?_) (fun hb => ?_)
      · replace hF := of_t hb hF
        refine wp_seq ?_
        obtain ⟨hc92, hF⟩ := of_if hF
        refine wp_reg_seq tok (orc := orcL []) (fz := []) (l := [0, 6, 8, 31]) (c := _) (.inr fun i h => h) h (by kernel_rfl) (AllP.cons hc92 AllP.nil) ?_
        intro a w h
        refine wp_if h (b := (List.getD x0 (Int.toNat v80) ((0 : Int), ((0 : Int), (([] : (List (ByteArray × (Int × ByteArray)))), (false, ((⟨#[]⟩ : ByteArray), ((0 : Int), (0 : Int)))))))).2.2.2.1) (by kernel_rfl) (fun hb => ?_) (fun hb => ?_)
        · replace hF := of_t hb hF
          refine wp_reg_seq tok (orc := orcL []) (fz := []) (l := [6, 7]) (c := _) (.inr fun i h => h) h (by kernel_rfl) (AllP.nil) ?_
          intro a w h
          cases hF
          exact wp_ret (ret_okR tok h rfl (by kernel_rfl)).1
        · replace hF := of_f hb hF
          refine wp_skip ?_
          obtain ⟨hc90, hF⟩ := of_if hF
          obtain ⟨r89, hr91, hF⟩ := of_bind hF
          refine wp_reg_seq tok (orc := orcL [(37, [⟨sh6, r89⟩])]) (fz := []) (l := [6, 7]) (c := _) (.inr fun i h => h) h (by kernel_rfl) (AllP.cons hc90 (AllP.cons (c130 k (List.getD x0 (Int.toNat v80) ((0 : Int), ((0 : Int), (([] : (List (ByteArray × (Int × ByteArray)))), (false, ((⟨#[]⟩ : ByteArray), ((0 : Int), (0 : Int)))))))) r89 hr91) AllP.nil)) ?_
          intro a w h
          cases hF
          exact wp_ret (ret_okR tok h rfl (by kernel_rfl)).1
      · replace hF := of_f hb hF
        refine wp_skip ?_
        refine wp_reg tok (orc := orcL []) (fz := []) (l := [0, 1, 2, 6, 8]) (c := _) (.inr fun i h => h) h (by kernel_rfl) (AllP.nil) ?_
        intro a w h
        exact ⟨(IntKind.i64.wrap (v80 - (1 : Int))), hF, h.arrive (fz := []) (l := [0, 1, 2, 6, 8]) (.inr fun i h => h) (by kernel_rfl)⟩
    · replace hF := of_f hb hF
      refine wp_exit ?_
      refine wp_reg_seq tok (orc := orcL []) (fz := []) (l := [6, 7]) (c := _) (.inr fun i h => h) h (by kernel_rfl) (AllP.nil) ?_
      intro a w h
      cases hF
      exact wp_ret (ret_okR tok h rfl (by kernel_rfl)).1

def f109.l12 (k : Nat) (x0 : (List (ByteArray × ByteArray))) (x1 : ByteArray) : Nat → Int → Option Int
  | 0, _ => none
  | m12 + 1, v20 => if (decide ((v20 : Int) < (List.length x0 : Int))) then (if (0 ≤ v20 ∧ v20 < (List.length x0 : Int)) then (if (ByteArray.toList (List.getD x0 (Int.toNat v20) ((⟨#[]⟩ : ByteArray), (⟨#[]⟩ : ByteArray))).1 == ByteArray.toList x1) then (some v20) else ((f109.l12 k x0 x1) m12 (IntKind.i64.wrap (v20 + (1 : Int))))) else none) else (some (-1 : Int))
def f109 (k : Nat) (x0 : (List (ByteArray × ByteArray))) (x1 : ByteArray) : Option Int := f109.l12 k x0 x1 k (0 : Int)
set_option maxRecDepth 100000 in
/-- 'impl.tagAt'. -/
theorem c109 (k : Nat) (x0 : (List (ByteArray × ByteArray))) (x1 : ByteArray) (r : Int) (hF : f109 k x0 x1 = some r) : PCall Try.prog 109 [⟨sh9, x0⟩, ⟨.str, x1⟩] [⟨(.int .i64), r⟩] := by
  refine pcall_intro Try.func109 rfl rfl (Nat.le_of_ble_eq_true rfl) ?_
  intro w0 Zi a w h
  rw [f109] at hF
  refine wp_reg_seq tok (orc := orcL []) (fz := []) (l := [0, 1]) (c := _) (.inr fun i h => h) h (by kernel_rfl) (AllP.nil) ?_
  intro a w h
  refine wp_seq ?_
  refine wp_reg_seq tok (orc := orcL []) (fz := []) (l := [1, 7, 8, 9]) (c := _) (.inr fun i h => h) h (by kernel_rfl) (AllP.nil) ?_
  intro a w h
  refine wp_block ?_
  refine wp_loop_fuel (f109.l12 k x0 x1) (fun (v20 : Int) => [(1, .val .str x1), (7, .val sh9 x0), (8, .val (.int .i64) (List.length x0 : Int)), (9, .val (.int .i64) v20)]) (fun v h => by rw [f109.l12] at h; cases h) ?_ hF (h.arrive (fz := []) (l := [1, 7, 8, 9]) (.inr fun i h => h) (by kernel_rfl))
  intro m12 v20 a w hF h
  rw [f109.l12] at hF
  refine wp_reg_seq tok (orc := orcL []) (fz := []) (l := [1, 7, 8, 9, 10]) (c := _) (.inr fun i h => h) h (by kernel_rfl) (AllP.nil) ?_
  intro a w h
  refine wp_seq <| wp_if h (b := (decide ((v20 : Int) < (List.length x0 : Int)))) (by kernel_rfl) (fun hb => ?_) (fun hb => ?_)
  · replace hF := of_t hb hF
    refine wp_skip ?_
    refine wp_seq <| wp_block ?_
    obtain ⟨hc22, hF⟩ := of_if hF
    refine wp_reg_seq tok (orc := orcL []) (fz := []) (l := [1, 5, 6, 7, 8, 9]) (c := _) (.inr fun i h => h) h (by kernel_rfl) (AllP.cons hc22 AllP.nil) ?_
    intro a w h
    refine wp_reg_seq tok (orc := orcL []) (fz := []) (l := [1, 5, 7, 8, 9, 17]) (c := _) (.inr fun i h => h) h (by kernel_rfl) (AllP.nil) ?_
    intro a w h
    refine wp_if h (b := (ByteArray.toList (List.getD x0 (Int.toNat v20) ((⟨#[]⟩ : ByteArray), (⟨#[]⟩ : ByteArray))).1 == ByteArray.toList x1)) (by kernel_rfl) (fun hb => ?_) (fun hb => ?_)
    · replace hF := of_t hb hF
      refine wp_reg_seq tok (orc := orcL []) (fz := []) (l := [4]) (c := _) (.inr fun i h => h) h (by kernel_rfl) (AllP.nil) ?_
      intro a w h
      cases hF
      exact wp_ret (ret_okR tok h rfl (by kernel_rfl)).1
    · replace hF := of_f hb hF
      refine wp_skip ?_
      refine wp_reg tok (orc := orcL []) (fz := []) (l := [1, 7, 8, 9]) (c := _) (.inr fun i h => h) h (by kernel_rfl) (AllP.nil) ?_
      intro a w h
      exact ⟨(IntKind.i64.wrap (v20 + (1 : Int))), hF, h.arrive (fz := []) (l := [1, 7, 8, 9]) (.inr fun i h => h) (by kernel_rfl)⟩
  · replace hF := of_f hb hF
    refine wp_exit ?_
    refine wp_reg_seq tok (orc := orcL []) (fz := []) (l := [4]) (c := _) (.inr fun i h => h) h (by kernel_rfl) (AllP.nil) ?_
    intro a w h
    cases hF
    exact wp_ret (ret_okR tok h rfl (by kernel_rfl)).1

def f83 (k : Nat) (x0 : (List (ByteArray × ByteArray))) (x1 : ByteArray) : Option ByteArray := (f109 k x0 x1).bind fun r1 => (if (decide ((r1 : Int) ≥ (0 : Int))) then (if (0 ≤ r1 ∧ r1 < (List.length x0 : Int)) then (some (List.getD x0 (Int.toNat r1) ((⟨#[]⟩ : ByteArray), (⟨#[]⟩ : ByteArray))).2) else none) else (some (⟨#[]⟩ : ByteArray)))
set_option maxRecDepth 100000 in
/-- 'impl.TagOf'. -/
theorem c83 (k : Nat) (x0 : (List (ByteArray × ByteArray))) (x1 : ByteArray) (r : ByteArray) (hF : f83 k x0 x1 = some r) : PCall Try.prog 83 [⟨sh9, x0⟩, ⟨.str, x1⟩] [⟨.str, r⟩] := by
  refine pcall_intro Try.func83 rfl rfl (Nat.le_of_ble_eq_true rfl) ?_
  intro w0 Zi a w h
  rw [f83] at hF
  refine wp_reg_seq tok (orc := orcL []) (fz := []) (l := [0, 1]) (c := _) (.inr fun i h => h) h (by kernel_rfl) (AllP.nil) ?_
  intro a w h
  refine wp_seq ?_
  obtain ⟨r1, hr4, hF⟩ := of_bind hF
  refine wp_reg_seq tok (orc := orcL [(8, [⟨(.int .i64), r1⟩])]) (fz := []) (l := [0, 5]) (c := _) (.inr fun i h => h) h (by kernel_rfl) (AllP.cons (c109 k x0 x1 r1 hr4) AllP.nil) ?_
  intro a w h
  refine wp_reg_seq tok (orc := orcL []) (fz := []) (l := [0, 5, 10]) (c := _) (.inr fun i h => h) h (by kernel_rfl) (AllP.nil) ?_
  intro a w h
  refine wp_if h (b := (decide ((r1 : Int) ≥ (0 : Int)))) (by kernel_rfl) (fun hb => ?_) (fun hb => ?_)
  · replace hF := of_t hb hF
    obtain ⟨hc3, hF⟩ := of_if hF
    refine wp_reg_seq tok (orc := orcL []) (fz := []) (l := [4]) (c := _) (.inr fun i h => h) h (by kernel_rfl) (AllP.cons hc3 AllP.nil) ?_
    intro a w h
    cases hF
    exact wp_ret (ret_okR tok h rfl (by kernel_rfl)).1
  · replace hF := of_f hb hF
    refine wp_skip ?_
    refine wp_reg_seq tok (orc := orcL []) (fz := []) (l := [4]) (c := _) (.inr fun i h => h) h (by kernel_rfl) (AllP.nil) ?_
    intro a w h
    cases hF
    exact wp_ret (ret_okR tok h rfl (by kernel_rfl)).1

def f54.j229 (k : Nat) (v200 : Int) (q120 : Int → Option Bool) : Bool → Option Bool
  | v228 => if (!v228) then (some false) else (q120 (IntKind.i64.wrap (v200 + (1 : Int))))
def f54.l120 (k : Nat) (x0 : (Int × (Int × ((List (ByteArray × (Int × ByteArray))) × (Bool × (ByteArray × (Int × Int))))))) (x1 : (List (ByteArray × ByteArray))) : Nat → Int → Option Bool
  | 0, _ => none
  | m120 + 1, v200 => if (decide ((v200 : Int) < (List.length x0.2.2.1 : Int))) then (if (0 ≤ v200 ∧ v200 < (List.length x0.2.2.1 : Int)) then (if (((List.getD x0.2.2.1 (Int.toNat v200) ((⟨#[]⟩ : ByteArray), ((0 : Int), (⟨#[]⟩ : ByteArray)))).2.1 : Int) == (1 : Int)) then ((f83 k x1 (List.getD x0.2.2.1 (Int.toNat v200) ((⟨#[]⟩ : ByteArray), ((0 : Int), (⟨#[]⟩ : ByteArray)))).1).bind fun r230 => (f54.j229 k v200 ((f54.l120 k x0 x1) m120) (ByteArray.toList r230 == ByteArray.toList (List.getD x0.2.2.1 (Int.toNat v200) ((⟨#[]⟩ : ByteArray), ((0 : Int), (⟨#[]⟩ : ByteArray)))).2.2))) else (if (((List.getD x0.2.2.1 (Int.toNat v200) ((⟨#[]⟩ : ByteArray), ((0 : Int), (⟨#[]⟩ : ByteArray)))).2.1 : Int) == (2 : Int)) then ((f83 k x1 (List.getD x0.2.2.1 (Int.toNat v200) ((⟨#[]⟩ : ByteArray), ((0 : Int), (⟨#[]⟩ : ByteArray)))).1).bind fun r232 => (f54.j229 k v200 ((f54.l120 k x0 x1) m120) (!(ByteArray.toList r232 == ByteArray.toList (List.getD x0.2.2.1 (Int.toNat v200) ((⟨#[]⟩ : ByteArray), ((0 : Int), (⟨#[]⟩ : ByteArray)))).2.2)))) else (if (((List.getD x0.2.2.1 (Int.toNat v200) ((⟨#[]⟩ : ByteArray), ((0 : Int), (⟨#[]⟩ : ByteArray)))).2.1 : Int) == (3 : Int)) then ((f109 k x1 (List.getD x0.2.2.1 (Int.toNat v200) ((⟨#[]⟩ : ByteArray), ((0 : Int), (⟨#[]⟩ : ByteArray)))).1).bind fun r234 => (f54.j229 k v200 ((f54.l120 k x0 x1) m120) (decide ((r234 : Int) ≥ (0 : Int))))) else (if (((List.getD x0.2.2.1 (Int.toNat v200) ((⟨#[]⟩ : ByteArray), ((0 : Int), (⟨#[]⟩ : ByteArray)))).2.1 : Int) == (4 : Int)) then ((f109 k x1 (List.getD x0.2.2.1 (Int.toNat v200) ((⟨#[]⟩ : ByteArray), ((0 : Int), (⟨#[]⟩ : ByteArray)))).1).bind fun r236 => (f54.j229 k v200 ((f54.l120 k x0 x1) m120) (decide ((r236 : Int) < (0 : Int))))) else (f54.j229 k v200 ((f54.l120 k x0 x1) m120) false))))) else none) else (some true)
def f54 (k : Nat) (x0 : (Int × (Int × ((List (ByteArray × (Int × ByteArray))) × (Bool × (ByteArray × (Int × Int))))))) (x1 : (List (ByteArray × ByteArray))) (x2 : Int) : Option Bool := if (bif (decide ((x2 : Int) < x0.1)) then true else (decide ((x2 : Int) > x0.2.1))) then (some false) else (f54.l120 k x0 x1 k (0 : Int))
set_option maxRecDepth 100000 in
/-- 'impl.Applies'. -/
theorem c54 (k : Nat) (x0 : (Int × (Int × ((List (ByteArray × (Int × ByteArray))) × (Bool × (ByteArray × (Int × Int))))))) (x1 : (List (ByteArray × ByteArray))) (x2 : Int) (r : Bool) (hF : f54 k x0 x1 x2 = some r) : PCall Try.prog 54 [⟨sh12, x0⟩, ⟨sh9, x1⟩, ⟨(.int .i64), x2⟩] [⟨.bool, r⟩] := by
  refine pcall_intro Try.func54 rfl rfl (Nat.le_of_ble_eq_true rfl) ?_
  intro w0 Zi a w h
  rw [f54] at hF
  refine wp_reg_seq tok (orc := orcL []) (fz := []) (l := [1, 2, 3]) (c := _) (.inr fun i h => h) h (by kernel_rfl) (AllP.nil) ?_
  intro a w h
  refine wp_seq ?_
  refine wp_reg_seq tok (orc := orcL []) (fz := []) (l := [1, 3, 19]) (c := _) (.inr fun i h => h) h (by kernel_rfl) (AllP.nil) ?_
  intro a w h
  refine wp_if h (b := (bif (decide ((x2 : Int) < x0.1)) then true else (decide ((x2 : Int) > x0.2.1)))) (by kernel_rfl) (fun hb => ?_) (fun hb => ?_)
  · replace hF := of_t hb hF
    refine wp_reg_seq tok (orc := orcL []) (fz := []) (l := [6]) (c := _) (.inr fun i h => h) h (by kernel_rfl) (AllP.nil) ?_
    intro a w h
    cases hF
    exact wp_ret (ret_okR tok h rfl (by kernel_rfl)).1
  · replace hF := of_f hb hF
    refine wp_skip ?_
    refine wp_seq ?_
    refine wp_reg_seq tok (orc := orcL []) (fz := []) (l := [1, 21, 22, 23]) (c := _) (.inr fun i h => h) h (by kernel_rfl) (AllP.nil) ?_
    intro a w h
    refine wp_block ?_
    refine wp_loop_fuel (f54.l120 k x0 x1) (fun (v200 : Int) => [(1, .val sh9 x1), (21, .val sh15 x0.2.2.1), (22, .val (.int .i64) (List.length x0.2.2.1 : Int)), (23, .val (.int .i64) v200)]) (fun v h => by rw [f54.l120] at h; cases h) ?_ hF (h.arrive (fz := []) (l := [1, 21, 22, 23]) (.inr fun i h => h) (by kernel_rfl))
    intro m120 v200 a w hF h
    rw [f54.l120] at hF
    refine wp_reg_seq tok (orc := orcL []) (fz := []) (l := [1, 21, 22, 23, 24]) (c := _) (.inr fun i h => h) h (by kernel_rfl) (AllP.nil) ?_
    intro a w h
    refine wp_seq <| wp_if h (b := (decide ((v200 : Int) < (List.length x0.2.2.1 : Int)))) (by kernel_rfl) (fun hb => ?_) (fun hb => ?_)
    · replace hF := of_t hb hF
      refine wp_skip ?_
      refine wp_seq <| wp_block ?_
      obtain ⟨hc238, hF⟩ := of_if hF
      refine wp_reg_seq tok (orc := orcL []) (fz := []) (l := [1, 8, 21, 22, 23]) (c := _) (.inr fun i h => h) h (by kernel_rfl) (AllP.cons hc238 AllP.nil) ?_
      intro a w h
      refine wp_reg_seq tok (orc := orcL []) (fz := []) (l := [1, 8, 9, 21, 22, 23]) (c := _) (.inr fun i h => h) h (by kernel_rfl) (AllP.nil) ?_
      intro a w h
      refine wp_seq ?_
      refine wp_reg_seq tok (orc := orcL []) (fz := []) (l := [1, 8, 9, 21, 22, 23, 28]) (c := _) (.inr fun i h => h) h (by kernel_rfl) (AllP.nil) ?_
      intro a w h
      refine wp_midT (fun a w => ∃ v : Bool, f54.j229 k v200 ((f54.l120 k x0 x1) m120) v = some r ∧ Rel w0 (fun _ => False) Zi Try.f54.ntmps ((fun (v228 : Bool) => ([(1, .val sh9 x1), (9, .val .bool v228), (21, .val sh15 x0.2.2.1), (22, .val (.int .i64) (List.length x0.2.2.1 : Int)), (23, .val (.int .i64) v200)] : SS)) v) a w) ?_ ?_
      ·
        refine wp_block ?_
        refine wp_reg_seq tok (orc := orcL []) (fz := []) (l := [1, 8, 9, 21, 22, 23, 28, 29]) (c := _) (.inr fun i h => h) h (by kernel_rfl) (AllP.nil) ?_
        intro a w h
        refine wp_if h (b := (((List.getD x0.2.2.1 (Int.toNat v200) ((⟨#[]⟩ : ByteArray), ((0 : Int), (⟨#[]⟩ : ByteArray)))).2.1 : Int) == (1 : Int))) (by kernel_rfl) (fun hb => ?_) (fun hb => ?_)
        · replace hF := of_t hb hF
          obtain ⟨r230, hr231, hF⟩ := of_bind hF
          refine wp_regy tok (orc := orcL [(34, [⟨.str, r230⟩])]) (fz := []) (l := [1, 9, 21, 22, 23]) (c := _) ([], [], [], []) 8 (.inr fun i h => h) h (by kernel_rfl) (by kernel_rfl) (AllP.cons (c83 k x1 (List.getD x0.2.2.1 (Int.toNat v200) ((⟨#[]⟩ : ByteArray), ((0 : Int), (⟨#[]⟩ : ByteArray)))).1 r230 hr231) AllP.nil) ?_
          intro a w h
          exact ⟨(ByteArray.toList r230 == ByteArray.toList (List.getD x0.2.2.1 (Int.toNat v200) ((⟨#[]⟩ : ByteArray), ((0 : Int), (⟨#[]⟩ : ByteArray)))).2.2), hF, h.arrive (fz := []) (l := [1, 9, 21, 22, 23]) (.inr fun i h => h) (by kernel_rfl)⟩
        · replace hF := of_f hb hF
          refine wp_reg_seq tok (orc := orcL []) (fz := []) (l := [1, 8, 9, 21, 22, 23, 28, 38]) (c := _) (.inr fun i h => h) h (by kernel_rfl) (AllP.nil) ?_
          intro a w h
          refine wp_if h (b := (((List.getD x0.2.2.1 (Int.toNat v200) ((⟨#[]⟩ : ByteArray), ((0 : Int), (⟨#[]⟩ : ByteArray)))).2.1 : Int) == (2 : Int))) (by kernel_rfl) (fun hb => ?_) (fun hb => ?_)
          · replace hF := of_t hb hF
            obtain ⟨r232, hr233, hF⟩ := of_bind hF
            refine wp_regy tok (orc := orcL [(43, [⟨.str, r232⟩])]) (fz := []) (l := [1, 9, 21, 22, 23]) (c := _) ([], [], [], []) 8 (.inr fun i h => h) h (by kernel_rfl) (by kernel_rfl) (AllP.cons (c83 k x1 (List.getD x0.2.2.1 (Int.toNat v200) ((⟨#[]⟩ : ByteArray), ((0 : Int), (⟨#[]⟩ : ByteArray)))).1 r232 hr233) AllP.nil) ?_
            intro a w h
            exact ⟨(!(ByteArray.toList r232 == ByteArray.toList (List.getD x0.2.2.1 (Int.toNat v200) ((⟨#[]⟩ : ByteArray), ((0 : Int), (⟨#[]⟩ : ByteArray)))).2.2)), hF, h.arrive (fz := []) (l := [1, 9, 21, 22, 23]) (.inr fun i h => h) (by kernel_rfl)⟩
          · replace hF := of_f hb hF
            refine wp_reg_seq tok (orc := orcL []) (fz := []) (l := [1, 8, 9, 21, 22, 23, 28, 47]) (c := _) (.inr fun i h => h) h (by kernel_rfl) (AllP.nil) ?_
            intro a w h
            refine wp_if h (b := (((List.getD x0.2.2.1 (Int.toNat v200) ((⟨#[]⟩ : ByteArray), ((0 : Int), (⟨#[]⟩ : ByteArray)))).2.1 : Int) == (3 : Int))) (by kernel_rfl) (fun hb => ?_) (fun hb => ?_)
            · replace hF := of_t hb hF
              obtain ⟨r234, hr235, hF⟩ := of_bind hF
              refine wp_reg tok (orc := orcL [(52, [⟨(.int .i64), r234⟩])]) (fz := []) (l := [1, 9, 21, 22, 23]) (c := _) (.inr fun i h => h) h (by kernel_rfl) (AllP.cons (c109 k x1 (List.getD x0.2.2.1 (Int.toNat v200) ((⟨#[]⟩ : ByteArray), ((0 : Int), (⟨#[]⟩ : ByteArray)))).1 r234 hr235) AllP.nil) ?_
              intro a w h
              exact ⟨(decide ((r234 : Int) ≥ (0 : Int))), hF, h.arrive (fz := []) (l := [1, 9, 21, 22, 23]) (.inr fun i h => h) (by kernel_rfl)⟩
            · replace hF := of_f hb hF
              refine wp_reg_seq tok (orc := orcL []) (fz := []) (l := [1, 8, 9, 21, 22, 23, 54]) (c := _) (.inr fun i h => h) h (by kernel_rfl) (AllP.nil) ?_
              intro a w h
              refine wp_if h (b := (((List.getD x0.2.2.1 (Int.toNat v200) ((⟨#[]⟩ : ByteArray), ((0 : Int), (⟨#[]⟩ : ByteArray)))).2.1 : Int) == (4 : Int))) (by kernel_rfl) (fun hb => ?_) (fun hb => ?_)
              · replace hF := of_t hb hF
                obtain ⟨r236, hr237, hF⟩ := of_bind hF
                refine wp_reg tok (orc := orcL [(59, [⟨(.int .i64), r236⟩])]) (fz := []) (l := [1, 9, 21, 22, 23]) (c := _) (.inr fun i h => h) h (by kernel_rfl) (AllP.cons (c109 k x1 (List.getD x0.2.2.1 (Int.toNat v200) ((⟨#[]⟩ : ByteArray), ((0 : Int), (⟨#[]⟩ : ByteArray)))).1 r236 hr237) AllP.nil) ?_
                intro a w h
                exact ⟨(decide ((r236 : Int) < (0 : Int))), hF, h.arrive (fz := []) (l := [1, 9, 21, 22, 23]) (.inr fun i h => h) (by kernel_rfl)⟩
              · replace hF := of_f hb hF
                refine wp_skip ?_
                exact ⟨false, hF, h.arrive (fz := []) (l := [1, 9, 21, 22, 23]) (.inr fun i h => h) (by kernel_rfl)⟩
      · rintro a w ⟨v228, hF, h⟩
        rw [f54.j229] at hF
        refine wp_reg_seq tok (orc := orcL []) (fz := []) (l := [1, 21, 22, 23, 62]) (c := _) (.inr fun i h => h) h (by kernel_rfl) (AllP.nil) ?_
        intro a w h
        refine wp_if h (b := (!v228)) (by kernel_rfl) (fun hb => ?_) (fun hb => ?_)
        · replace hF := of_t hb hF
          refine wp_reg_seq tok (orc := orcL []) (fz := []) (l := [6]) (c := _) (.inr fun i h => h) h (by kernel_rfl) (AllP.nil) ?_
          intro a w h
          cases hF
          exact wp_ret (ret_okR tok h rfl (by kernel_rfl)).1
        · replace hF := of_f hb hF
          refine wp_skip ?_
          refine wp_reg tok (orc := orcL []) (fz := []) (l := [1, 21, 22, 23]) (c := _) (.inr fun i h => h) h (by kernel_rfl) (AllP.nil) ?_
          intro a w h
          exact ⟨(IntKind.i64.wrap (v200 + (1 : Int))), hF, h.arrive (fz := []) (l := [1, 21, 22, 23]) (.inr fun i h => h) (by kernel_rfl)⟩
    · replace hF := of_f hb hF
      refine wp_exit ?_
      refine wp_reg_seq tok (orc := orcL []) (fz := []) (l := [6]) (c := _) (.inr fun i h => h) h (by kernel_rfl) (AllP.nil) ?_
      intro a w h
      cases hF
      exact wp_ret (ret_okR tok h rfl (by kernel_rfl)).1

def f69.l42 (k : Nat) (x0 : (List (Int × (Int × ((List (ByteArray × (Int × ByteArray))) × (Bool × (ByteArray × (Int × Int)))))))) (x1 : (List (ByteArray × ByteArray))) (x2 : Int) : Nat → Int → Option ((Int × (Int × ((List (ByteArray × (Int × ByteArray))) × (Bool × (ByteArray × (Int × Int)))))) × Bool)
  | 0, _ => none
  | m42 + 1, v70 => if (decide ((v70 : Int) ≥ (0 : Int))) then (if (0 ≤ v70 ∧ v70 < (List.length x0 : Int)) then ((f54 k (List.getD x0 (Int.toNat v70) ((0 : Int), ((0 : Int), (([] : (List (ByteArray × (Int × ByteArray)))), (false, ((⟨#[]⟩ : ByteArray), ((0 : Int), (0 : Int)))))))) x1 x2).bind fun r77 => (if r77 then (if (0 ≤ v70 ∧ v70 < (List.length x0 : Int)) then (if (List.getD x0 (Int.toNat v70) ((0 : Int), ((0 : Int), (([] : (List (ByteArray × (Int × ByteArray)))), (false, ((⟨#[]⟩ : ByteArray), ((0 : Int), (0 : Int)))))))).2.2.2.1 then (some (((0 : Int), ((0 : Int), (([] : (List (ByteArray × (Int × ByteArray)))), (false, ((⟨#[]⟩ : ByteArray), ((0 : Int), (0 : Int))))))), false)) else (if (0 ≤ v70 ∧ v70 < (List.length x0 : Int)) then (if ((List.length ([] : (List (ByteArray × (Int × ByteArray)))) + List.length (List.getD x0 (Int.toNat v70) ((0 : Int), ((0 : Int), (([] : (List (ByteArray × (Int × ByteArray)))), (false, ((⟨#[]⟩ : ByteArray), ((0 : Int), (0 : Int)))))))).2.2.1) * 40 ≤ 140737488355328) then (some (((List.getD x0 (Int.toNat v70) ((0 : Int), ((0 : Int), (([] : (List (ByteArray × (Int × ByteArray)))), (false, ((⟨#[]⟩ : ByteArray), ((0 : Int), (0 : Int)))))))).1, ((List.getD x0 (Int.toNat v70) ((0 : Int), ((0 : Int), (([] : (List (ByteArray × (Int × ByteArray)))), (false, ((⟨#[]⟩ : ByteArray), ((0 : Int), (0 : Int)))))))).2.1, ((([] : (List (ByteArray × (Int × ByteArray)))) ++ (List.getD x0 (Int.toNat v70) ((0 : Int), ((0 : Int), (([] : (List (ByteArray × (Int × ByteArray)))), (false, ((⟨#[]⟩ : ByteArray), ((0 : Int), (0 : Int)))))))).2.2.1), (List.getD x0 (Int.toNat v70) ((0 : Int), ((0 : Int), (([] : (List (ByteArray × (Int × ByteArray)))), (false, ((⟨#[]⟩ : ByteArray), ((0 : Int), (0 : Int)))))))).2.2.2))), true)) else none) else none)) else none) else ((f69.l42 k x0 x1 x2) m42 (IntKind.i64.wrap (v70 - (1 : Int)))))) else none) else (some (((0 : Int), ((0 : Int), (([] : (List (ByteArray × (Int × ByteArray)))), (false, ((⟨#[]⟩ : ByteArray), ((0 : Int), (0 : Int))))))), false))
def f69 (k : Nat) (x0 : (List (Int × (Int × ((List (ByteArray × (Int × ByteArray))) × (Bool × (ByteArray × (Int × Int)))))))) (x1 : (List (ByteArray × ByteArray))) (x2 : Int) : Option ((Int × (Int × ((List (ByteArray × (Int × ByteArray))) × (Bool × (ByteArray × (Int × Int)))))) × Bool) := if (decide (((List.length x0 : Int) : Int) > (100 : Int))) then (some (((0 : Int), ((0 : Int), (([] : (List (ByteArray × (Int × ByteArray)))), (false, ((⟨#[]⟩ : ByteArray), ((0 : Int), (0 : Int))))))), false)) else (f69.l42 k x0 x1 x2 k (IntKind.i64.wrap ((List.length x0 : Int) - (1 : Int))))
set_option maxRecDepth 100000 in
/-- 'impl.Paint'. -/
theorem c69 (k : Nat) (x0 : (List (Int × (Int × ((List (ByteArray × (Int × ByteArray))) × (Bool × (ByteArray × (Int × Int)))))))) (x1 : (List (ByteArray × ByteArray))) (x2 : Int) (r : ((Int × (Int × ((List (ByteArray × (Int × ByteArray))) × (Bool × (ByteArray × (Int × Int)))))) × Bool)) (hF : f69 k x0 x1 x2 = some r) : PCall Try.prog 69 [⟨sh13, x0⟩, ⟨sh9, x1⟩, ⟨(.int .i64), x2⟩] [⟨sh6, r.1⟩, ⟨.bool, r.2⟩] := by
  refine pcall_intro Try.func69 rfl rfl (Nat.le_of_ble_eq_true rfl) ?_
  intro w0 Zi a w h
  rw [f69] at hF
  refine wp_reg_seq tok (orc := orcL []) (fz := []) (l := [0, 1, 2, 6]) (c := _) (.inr fun i h => h) h (by kernel_rfl) (AllP.nil) ?_
  intro a w h
  refine wp_seq ?_
  refine wp_reg_seq tok (orc := orcL []) (fz := []) (l := [0, 1, 2, 6, 12]) (c := _) (.inr fun i h => h) h (by kernel_rfl) (AllP.nil) ?_
  intro a w h
  refine wp_if h (b := (decide (((List.length x0 : Int) : Int) > (100 : Int)))) (by kernel_rfl) (fun hb => ?_) (fun hb => ?_)
  · replace hF := of_t hb hF
    refine wp_reg_seq tok (orc := orcL []) (fz := []) (l := [6, 7]) (c := _) (.inr fun i h => h) h (by kernel_rfl) (AllP.nil) ?_
    intro a w h
    cases hF
    exact wp_ret (ret_okR tok h rfl (by kernel_rfl)).1
  · replace hF := of_f hb hF
    refine wp_skip ?_
    refine wp_seq ?_
    refine wp_reg_seq tok (orc := orcL []) (fz := []) (l := [0, 1, 2, 6, 8]) (c := _) (.inr fun i h => h) h (by kernel_rfl) (AllP.nil) ?_
    intro a w h
    refine wp_block ?_
    refine wp_loop_fuel (f69.l42 k x0 x1 x2) (fun (v70 : Int) => [(0, .val sh13 x0), (1, .val sh9 x1), (2, .val (.int .i64) x2), (6, .val sh14 (some ((0 : Int), ((0 : Int), (([] : (List (ByteArray × (Int × ByteArray)))), (false, ((⟨#[]⟩ : ByteArray), ((0 : Int), (0 : Int))))))))), (8, .val (.int .i64) v70)]) (fun v h => by rw [f69.l42] at h; cases h) ?_ hF (h.arrive (fz := []) (l := [0, 1, 2, 6, 8]) (.inr fun i h => h) (by kernel_rfl))
    intro m42 v70 a w hF h
    rw [f69.l42] at hF
    refine wp_seq ?_
    refine wp_reg_seq tok (orc := orcL []) (fz := []) (l := [0, 1, 2, 6, 8, 18]) (c := _) (.inr fun i h => h) h (by kernel_rfl) (AllP.nil) ?_
    intro a w h
    refine wp_if h (b := (decide ((v70 : Int) ≥ (0 : Int)))) (by kernel_rfl) (fun hb => ?_) (fun hb => ?_)
    · replace hF := of_t hb hF
      refine wp_skip ?_
      refine wp_seq <| wp_block ?_
      obtain ⟨hc81, hF⟩ := of_if hF
      obtain ⟨r77, hr82, hF⟩ := of_bind hF
      refine wp_reg_seq tok (orc := orcL [(27, [⟨.bool, r77⟩])]) (fz := []) (l := [0, 1, 2, 6, 8, 27]) (c := _) (.inr fun i h => h) h (by kernel_rfl) (AllP.cons hc81 (AllP.cons (c54 k (List.getD x0 (Int.toNat v70) ((0 : Int), ((0 : Int), (([] : (List (ByteArray × (Int × ByteArray)))), (false, ((⟨#[]⟩ : ByteArray), ((0 : Int), (0 : Int)))))))) x1 x2 r77 hr82) AllP.nil)) ?_
      intro a w h
      refine wp_if h (b := r77) (by kernel_rfl) (fun hb => ?_) (fun hb => ?_)
      · replace hF := of_t hb hF
        refine wp_seq ?_
        obtain ⟨hc80, hF⟩ := of_if hF
        refine wp_reg_seq tok (orc := orcL []) (fz := []) (l := [0, 6, 8, 32]) (c := _) (.inr fun i h => h) h (by kernel_rfl) (AllP.cons hc80 AllP.nil) ?_
        intro a w h
        refine wp_if h (b := (List.getD x0 (Int.toNat v70) ((0 : Int), ((0 : Int), (([] : (List (ByteArray × (Int × ByteArray)))), (false, ((⟨#[]⟩ : ByteArray), ((0 : Int), (0 : Int)))))))).2.2.2.1) (by kernel_rfl) (fun hb => ?_) (fun hb => ?_)
        · replace hF := of_t hb hF
          refine wp_reg_seq tok (orc := orcL []) (fz := []) (l := [6, 7]) (c := _) (.inr fun i h => h) h (by kernel_rfl) (AllP.nil) ?_
          intro a w h
          cases hF
          exact wp_ret (ret_okR tok h rfl (by kernel_rfl)).1
        · replace hF := of_f hb hF
          refine wp_skip ?_
          obtain ⟨hc79, hF⟩ := of_if hF
          refine wp_reg_seq tok (orc := orcL []) (fz := []) (l := [6, 9]) (c := _) (.inr fun i h => h) h (by kernel_rfl) (AllP.cons hc79 AllP.nil) ?_
          intro a w h
          obtain ⟨hc78, hF⟩ := of_if hF
          refine wp_reg_seq tok (orc := orcL []) (fz := []) (l := [6, 9]) (c := _) (.inr fun i h => h) h (by kernel_rfl) (AllP.cons hc78 AllP.nil) ?_
          intro a w h
          refine wp_reg_seq tok (orc := orcL []) (fz := []) (l := [6, 7]) (c := _) (.inr fun i h => h) h (by kernel_rfl) (AllP.nil) ?_
          intro a w h
          cases hF
          exact wp_ret (ret_okR tok h rfl (by kernel_rfl)).1
      · replace hF := of_f hb hF
        refine wp_skip ?_
        refine wp_reg tok (orc := orcL []) (fz := []) (l := [0, 1, 2, 6, 8]) (c := _) (.inr fun i h => h) h (by kernel_rfl) (AllP.nil) ?_
        intro a w h
        exact ⟨(IntKind.i64.wrap (v70 - (1 : Int))), hF, h.arrive (fz := []) (l := [0, 1, 2, 6, 8]) (.inr fun i h => h) (by kernel_rfl)⟩
    · replace hF := of_f hb hF
      refine wp_exit ?_
      refine wp_reg_seq tok (orc := orcL []) (fz := []) (l := [6, 7]) (c := _) (.inr fun i h => h) h (by kernel_rfl) (AllP.nil) ?_
      intro a w h
      cases hF
      exact wp_ret (ret_okR tok h rfl (by kernel_rfl)).1

def f140 (k : Nat) (x0 : (ByteArray × (Int × ByteArray))) (x1 : (ByteArray × (Int × ByteArray))) : Option Bool := if (!(ByteArray.toList x0.1 == ByteArray.toList x1.1)) then (some false) else (if ((x0.2.1 : Int) != x1.2.1) then (some false) else (if (!(ByteArray.toList x0.2.2 == ByteArray.toList x1.2.2)) then (some false) else (some true)))
set_option maxRecDepth 100000 in
/-- 'laws.eqTest'. -/
theorem c140 (k : Nat) (x0 : (ByteArray × (Int × ByteArray))) (x1 : (ByteArray × (Int × ByteArray))) (r : Bool) (hF : f140 k x0 x1 = some r) : PCall Try.prog 140 [⟨sh0, x0⟩, ⟨sh0, x1⟩] [⟨.bool, r⟩] := by
  refine pcall_intro Try.func140 rfl rfl (Nat.le_of_ble_eq_true rfl) ?_
  intro w0 Zi a w h
  rw [f140] at hF
  refine wp_reg_seq tok (orc := orcL []) (fz := []) (l := [2, 3]) (c := _) (.inr fun i h => h) h (by kernel_rfl) (AllP.nil) ?_
  intro a w h
  refine wp_seq ?_
  refine wp_reg_seq tok (orc := orcL []) (fz := []) (l := [2, 3, 9]) (c := _) (.inr fun i h => h) h (by kernel_rfl) (AllP.nil) ?_
  intro a w h
  refine wp_if h (b := (!(ByteArray.toList x0.1 == ByteArray.toList x1.1))) (by kernel_rfl) (fun hb => ?_) (fun hb => ?_)
  · replace hF := of_t hb hF
    refine wp_reg_seq tok (orc := orcL []) (fz := []) (l := [4]) (c := _) (.inr fun i h => h) h (by kernel_rfl) (AllP.nil) ?_
    intro a w h
    cases hF
    exact wp_ret (ret_okR tok h rfl (by kernel_rfl)).1
  · replace hF := of_f hb hF
    refine wp_skip ?_
    refine wp_seq ?_
    refine wp_reg_seq tok (orc := orcL []) (fz := []) (l := [2, 3, 14]) (c := _) (.inr fun i h => h) h (by kernel_rfl) (AllP.nil) ?_
    intro a w h
    refine wp_if h (b := ((x0.2.1 : Int) != x1.2.1)) (by kernel_rfl) (fun hb => ?_) (fun hb => ?_)
    · replace hF := of_t hb hF
      refine wp_reg_seq tok (orc := orcL []) (fz := []) (l := [4]) (c := _) (.inr fun i h => h) h (by kernel_rfl) (AllP.nil) ?_
      intro a w h
      cases hF
      exact wp_ret (ret_okR tok h rfl (by kernel_rfl)).1
    · replace hF := of_f hb hF
      refine wp_skip ?_
      refine wp_seq ?_
      refine wp_reg_seq tok (orc := orcL []) (fz := []) (l := [19]) (c := _) (.inr fun i h => h) h (by kernel_rfl) (AllP.nil) ?_
      intro a w h
      refine wp_if h (b := (!(ByteArray.toList x0.2.2 == ByteArray.toList x1.2.2))) (by kernel_rfl) (fun hb => ?_) (fun hb => ?_)
      · replace hF := of_t hb hF
        refine wp_reg_seq tok (orc := orcL []) (fz := []) (l := [4]) (c := _) (.inr fun i h => h) h (by kernel_rfl) (AllP.nil) ?_
        intro a w h
        cases hF
        exact wp_ret (ret_okR tok h rfl (by kernel_rfl)).1
      · replace hF := of_f hb hF
        refine wp_skip ?_
        refine wp_reg_seq tok (orc := orcL []) (fz := []) (l := [4]) (c := _) (.inr fun i h => h) h (by kernel_rfl) (AllP.nil) ?_
        intro a w h
        cases hF
        exact wp_ret (ret_okR tok h rfl (by kernel_rfl)).1

def f110.l30 (k : Nat) (x0 : (List (ByteArray × (Int × ByteArray)))) (x1 : (List (ByteArray × (Int × ByteArray)))) : Nat → Int → Option Bool
  | 0, _ => none
  | m30 + 1, v50 => if (decide ((v50 : Int) < (List.length x0 : Int))) then (if (0 ≤ v50 ∧ v50 < (List.length x0 : Int)) then (if (0 ≤ v50 ∧ v50 < (List.length x1 : Int)) then ((f140 k (List.getD x0 (Int.toNat v50) ((⟨#[]⟩ : ByteArray), ((0 : Int), (⟨#[]⟩ : ByteArray)))) (List.getD x1 (Int.toNat v50) ((⟨#[]⟩ : ByteArray), ((0 : Int), (⟨#[]⟩ : ByteArray))))).bind fun r55 => (if (!r55) then (some false) else ((f110.l30 k x0 x1) m30 (IntKind.i64.wrap (v50 + (1 : Int)))))) else none) else none) else (some true)
def f110 (k : Nat) (x0 : (List (ByteArray × (Int × ByteArray)))) (x1 : (List (ByteArray × (Int × ByteArray)))) : Option Bool := if (((List.length x0 : Int) : Int) != (List.length x1 : Int)) then (some false) else (f110.l30 k x0 x1 k (0 : Int))
set_option maxRecDepth 100000 in
/-- 'laws.eqTestS'. -/
theorem c110 (k : Nat) (x0 : (List (ByteArray × (Int × ByteArray)))) (x1 : (List (ByteArray × (Int × ByteArray)))) (r : Bool) (hF : f110 k x0 x1 = some r) : PCall Try.prog 110 [⟨sh15, x0⟩, ⟨sh15, x1⟩] [⟨.bool, r⟩] := by
  refine pcall_intro Try.func110 rfl rfl (Nat.le_of_ble_eq_true rfl) ?_
  intro w0 Zi a w h
  rw [f110] at hF
  refine wp_reg_seq tok (orc := orcL []) (fz := []) (l := [0, 1]) (c := _) (.inr fun i h => h) h (by kernel_rfl) (AllP.nil) ?_
  intro a w h
  refine wp_seq ?_
  refine wp_reg_seq tok (orc := orcL []) (fz := []) (l := [0, 1, 10]) (c := _) (.inr fun i h => h) h (by kernel_rfl) (AllP.nil) ?_
  intro a w h
  refine wp_if h (b := (((List.length x0 : Int) : Int) != (List.length x1 : Int))) (by kernel_rfl) (fun hb => ?_) (fun hb => ?_)
  · replace hF := of_t hb hF
    refine wp_reg_seq tok (orc := orcL []) (fz := []) (l := [4]) (c := _) (.inr fun i h => h) h (by kernel_rfl) (AllP.nil) ?_
    intro a w h
    cases hF
    exact wp_ret (ret_okR tok h rfl (by kernel_rfl)).1
  · replace hF := of_f hb hF
    refine wp_skip ?_
    refine wp_seq ?_
    refine wp_reg_seq tok (orc := orcL []) (fz := []) (l := [0, 1, 5]) (c := _) (.inr fun i h => h) h (by kernel_rfl) (AllP.nil) ?_
    intro a w h
    refine wp_block ?_
    refine wp_loop_fuel (f110.l30 k x0 x1) (fun (v50 : Int) => [(0, .val sh15 x0), (1, .val sh15 x1), (5, .val (.int .i64) v50)]) (fun v h => by rw [f110.l30] at h; cases h) ?_ hF (h.arrive (fz := []) (l := [0, 1, 5]) (.inr fun i h => h) (by kernel_rfl))
    intro m30 v50 a w hF h
    rw [f110.l30] at hF
    refine wp_seq ?_
    refine wp_reg_seq tok (orc := orcL []) (fz := []) (l := [0, 1, 5, 14]) (c := _) (.inr fun i h => h) h (by kernel_rfl) (AllP.nil) ?_
    intro a w h
    refine wp_if h (b := (decide ((v50 : Int) < (List.length x0 : Int)))) (by kernel_rfl) (fun hb => ?_) (fun hb => ?_)
    · replace hF := of_t hb hF
      refine wp_skip ?_
      refine wp_seq <| wp_block ?_
      obtain ⟨hc56, hF⟩ := of_if hF
      obtain ⟨hc57, hF⟩ := of_if hF
      obtain ⟨r55, hr58, hF⟩ := of_bind hF
      refine wp_regy_seq tok (orc := orcL [(25, [⟨.bool, r55⟩])]) (fz := []) (l := [0, 1, 5, 26]) (c := _) ([], [], [], []) 10 (.inr fun i h => h) h (by kernel_rfl) (by kernel_rfl) (AllP.cons hc56 (AllP.cons hc57 (AllP.cons (c140 k (List.getD x0 (Int.toNat v50) ((⟨#[]⟩ : ByteArray), ((0 : Int), (⟨#[]⟩ : ByteArray)))) (List.getD x1 (Int.toNat v50) ((⟨#[]⟩ : ByteArray), ((0 : Int), (⟨#[]⟩ : ByteArray)))) r55 hr58) AllP.nil))) ?_
      intro a w h
      refine wp_if h (b := (!r55)) (by kernel_rfl) (fun hb => ?_) (fun hb => ?_)
      · replace hF := of_t hb hF
        refine wp_reg_seq tok (orc := orcL []) (fz := []) (l := [4]) (c := _) (.inr fun i h => h) h (by kernel_rfl) (AllP.nil) ?_
        intro a w h
        cases hF
        exact wp_ret (ret_okR tok h rfl (by kernel_rfl)).1
      · replace hF := of_f hb hF
        refine wp_skip ?_
        refine wp_reg tok (orc := orcL []) (fz := []) (l := [0, 1, 5]) (c := _) (.inr fun i h => h) h (by kernel_rfl) (AllP.nil) ?_
        intro a w h
        exact ⟨(IntKind.i64.wrap (v50 + (1 : Int))), hF, h.arrive (fz := []) (l := [0, 1, 5]) (.inr fun i h => h) (by kernel_rfl)⟩
    · replace hF := of_f hb hF
      refine wp_exit ?_
      refine wp_reg_seq tok (orc := orcL []) (fz := []) (l := [4]) (c := _) (.inr fun i h => h) h (by kernel_rfl) (AllP.nil) ?_
      intro a w h
      cases hF
      exact wp_ret (ret_okR tok h rfl (by kernel_rfl)).1

def f55 (k : Nat) (x0 : (Int × (Int × ((List (ByteArray × (Int × ByteArray))) × (Bool × (ByteArray × (Int × Int))))))) (x1 : (Int × (Int × ((List (ByteArray × (Int × ByteArray))) × (Bool × (ByteArray × (Int × Int))))))) : Option Bool := if ((x0.1 : Int) != x1.1) then (some false) else (if ((x0.2.1 : Int) != x1.2.1) then (some false) else ((f110 k x0.2.2.1 x1.2.2.1).bind fun r1 => (if (!r1) then (some false) else (if (!((x0.2.2.2.1 : Bool) == x1.2.2.2.1)) then (some false) else (if (!(ByteArray.toList x0.2.2.2.2.1 == ByteArray.toList x1.2.2.2.2.1)) then (some false) else (if ((x0.2.2.2.2.2.1 : Int) != x1.2.2.2.2.2.1) then (some false) else (if ((x0.2.2.2.2.2.2 : Int) != x1.2.2.2.2.2.2) then (some false) else (some true))))))))
set_option maxRecDepth 100000 in
/-- 'laws.eqRule'. -/
theorem c55 (k : Nat) (x0 : (Int × (Int × ((List (ByteArray × (Int × ByteArray))) × (Bool × (ByteArray × (Int × Int))))))) (x1 : (Int × (Int × ((List (ByteArray × (Int × ByteArray))) × (Bool × (ByteArray × (Int × Int))))))) (r : Bool) (hF : f55 k x0 x1 = some r) : PCall Try.prog 55 [⟨sh12, x0⟩, ⟨sh12, x1⟩] [⟨.bool, r⟩] := by
  refine pcall_intro Try.func55 rfl rfl (Nat.le_of_ble_eq_true rfl) ?_
  intro w0 Zi a w h
  rw [f55] at hF
  refine wp_reg_seq tok (orc := orcL []) (fz := []) (l := [2, 3]) (c := _) (.inr fun i h => h) h (by kernel_rfl) (AllP.nil) ?_
  intro a w h
  refine wp_seq ?_
  refine wp_reg_seq tok (orc := orcL []) (fz := []) (l := [2, 3, 9]) (c := _) (.inr fun i h => h) h (by kernel_rfl) (AllP.nil) ?_
  intro a w h
  refine wp_if h (b := ((x0.1 : Int) != x1.1)) (by kernel_rfl) (fun hb => ?_) (fun hb => ?_)
  · replace hF := of_t hb hF
    refine wp_reg_seq tok (orc := orcL []) (fz := []) (l := [4]) (c := _) (.inr fun i h => h) h (by kernel_rfl) (AllP.nil) ?_
    intro a w h
    cases hF
    exact wp_ret (ret_okR tok h rfl (by kernel_rfl)).1
  · replace hF := of_f hb hF
    refine wp_skip ?_
    refine wp_seq ?_
    refine wp_reg_seq tok (orc := orcL []) (fz := []) (l := [2, 3, 14]) (c := _) (.inr fun i h => h) h (by kernel_rfl) (AllP.nil) ?_
    intro a w h
    refine wp_if h (b := ((x0.2.1 : Int) != x1.2.1)) (by kernel_rfl) (fun hb => ?_) (fun hb => ?_)
    · replace hF := of_t hb hF
      refine wp_reg_seq tok (orc := orcL []) (fz := []) (l := [4]) (c := _) (.inr fun i h => h) h (by kernel_rfl) (AllP.nil) ?_
      intro a w h
      cases hF
      exact wp_ret (ret_okR tok h rfl (by kernel_rfl)).1
    · replace hF := of_f hb hF
      refine wp_skip ?_
      refine wp_seq ?_
      obtain ⟨r1, hr2, hF⟩ := of_bind hF
      refine wp_reg_seq tok (orc := orcL [(19, [⟨.bool, r1⟩])]) (fz := []) (l := [2, 3, 20]) (c := _) (.inr fun i h => h) h (by kernel_rfl) (AllP.cons (c110 k x0.2.2.1 x1.2.2.1 r1 hr2) AllP.nil) ?_
      intro a w h
      refine wp_if h (b := (!r1)) (by kernel_rfl) (fun hb => ?_) (fun hb => ?_)
      · replace hF := of_t hb hF
        refine wp_reg_seq tok (orc := orcL []) (fz := []) (l := [4]) (c := _) (.inr fun i h => h) h (by kernel_rfl) (AllP.nil) ?_
        intro a w h
        cases hF
        exact wp_ret (ret_okR tok h rfl (by kernel_rfl)).1
      · replace hF := of_f hb hF
        refine wp_skip ?_
        refine wp_seq ?_
        refine wp_reg_seq tok (orc := orcL []) (fz := []) (l := [2, 3, 25]) (c := _) (.inr fun i h => h) h (by kernel_rfl) (AllP.nil) ?_
        intro a w h
        refine wp_if h (b := (!((x0.2.2.2.1 : Bool) == x1.2.2.2.1))) (by kernel_rfl) (fun hb => ?_) (fun hb => ?_)
        · replace hF := of_t hb hF
          refine wp_reg_seq tok (orc := orcL []) (fz := []) (l := [4]) (c := _) (.inr fun i h => h) h (by kernel_rfl) (AllP.nil) ?_
          intro a w h
          cases hF
          exact wp_ret (ret_okR tok h rfl (by kernel_rfl)).1
        · replace hF := of_f hb hF
          refine wp_skip ?_
          refine wp_seq ?_
          refine wp_reg_seq tok (orc := orcL []) (fz := []) (l := [2, 3, 30]) (c := _) (.inr fun i h => h) h (by kernel_rfl) (AllP.nil) ?_
          intro a w h
          refine wp_if h (b := (!(ByteArray.toList x0.2.2.2.2.1 == ByteArray.toList x1.2.2.2.2.1))) (by kernel_rfl) (fun hb => ?_) (fun hb => ?_)
          · replace hF := of_t hb hF
            refine wp_reg_seq tok (orc := orcL []) (fz := []) (l := [4]) (c := _) (.inr fun i h => h) h (by kernel_rfl) (AllP.nil) ?_
            intro a w h
            cases hF
            exact wp_ret (ret_okR tok h rfl (by kernel_rfl)).1
          · replace hF := of_f hb hF
            refine wp_skip ?_
            refine wp_seq ?_
            refine wp_reg_seq tok (orc := orcL []) (fz := []) (l := [2, 3, 35]) (c := _) (.inr fun i h => h) h (by kernel_rfl) (AllP.nil) ?_
            intro a w h
            refine wp_if h (b := ((x0.2.2.2.2.2.1 : Int) != x1.2.2.2.2.2.1)) (by kernel_rfl) (fun hb => ?_) (fun hb => ?_)
            · replace hF := of_t hb hF
              refine wp_reg_seq tok (orc := orcL []) (fz := []) (l := [4]) (c := _) (.inr fun i h => h) h (by kernel_rfl) (AllP.nil) ?_
              intro a w h
              cases hF
              exact wp_ret (ret_okR tok h rfl (by kernel_rfl)).1
            · replace hF := of_f hb hF
              refine wp_skip ?_
              refine wp_seq ?_
              refine wp_reg_seq tok (orc := orcL []) (fz := []) (l := [40]) (c := _) (.inr fun i h => h) h (by kernel_rfl) (AllP.nil) ?_
              intro a w h
              refine wp_if h (b := ((x0.2.2.2.2.2.2 : Int) != x1.2.2.2.2.2.2)) (by kernel_rfl) (fun hb => ?_) (fun hb => ?_)
              · replace hF := of_t hb hF
                refine wp_reg_seq tok (orc := orcL []) (fz := []) (l := [4]) (c := _) (.inr fun i h => h) h (by kernel_rfl) (AllP.nil) ?_
                intro a w h
                cases hF
                exact wp_ret (ret_okR tok h rfl (by kernel_rfl)).1
              · replace hF := of_f hb hF
                refine wp_skip ?_
                refine wp_reg_seq tok (orc := orcL []) (fz := []) (l := [4]) (c := _) (.inr fun i h => h) h (by kernel_rfl) (AllP.nil) ?_
                intro a w h
                cases hF
                exact wp_ret (ret_okR tok h rfl (by kernel_rfl)).1

def f70.l30 (k : Nat) (x0 : (List (Int × (Int × ((List (ByteArray × (Int × ByteArray))) × (Bool × (ByteArray × (Int × Int)))))))) (x1 : (List (Int × (Int × ((List (ByteArray × (Int × ByteArray))) × (Bool × (ByteArray × (Int × Int)))))))) : Nat → Int → Option Bool
  | 0, _ => none
  | m30 + 1, v50 => if (decide ((v50 : Int) < (List.length x0 : Int))) then (if (0 ≤ v50 ∧ v50 < (List.length x0 : Int)) then (if (0 ≤ v50 ∧ v50 < (List.length x1 : Int)) then ((f55 k (List.getD x0 (Int.toNat v50) ((0 : Int), ((0 : Int), (([] : (List (ByteArray × (Int × ByteArray)))), (false, ((⟨#[]⟩ : ByteArray), ((0 : Int), (0 : Int)))))))) (List.getD x1 (Int.toNat v50) ((0 : Int), ((0 : Int), (([] : (List (ByteArray × (Int × ByteArray)))), (false, ((⟨#[]⟩ : ByteArray), ((0 : Int), (0 : Int))))))))).bind fun r55 => (if (!r55) then (some false) else ((f70.l30 k x0 x1) m30 (IntKind.i64.wrap (v50 + (1 : Int)))))) else none) else none) else (some true)
def f70 (k : Nat) (x0 : (List (Int × (Int × ((List (ByteArray × (Int × ByteArray))) × (Bool × (ByteArray × (Int × Int)))))))) (x1 : (List (Int × (Int × ((List (ByteArray × (Int × ByteArray))) × (Bool × (ByteArray × (Int × Int)))))))) : Option Bool := if (((List.length x0 : Int) : Int) != (List.length x1 : Int)) then (some false) else (f70.l30 k x0 x1 k (0 : Int))
set_option maxRecDepth 100000 in
/-- 'laws.eqRuleS'. -/
theorem c70 (k : Nat) (x0 : (List (Int × (Int × ((List (ByteArray × (Int × ByteArray))) × (Bool × (ByteArray × (Int × Int)))))))) (x1 : (List (Int × (Int × ((List (ByteArray × (Int × ByteArray))) × (Bool × (ByteArray × (Int × Int)))))))) (r : Bool) (hF : f70 k x0 x1 = some r) : PCall Try.prog 70 [⟨sh13, x0⟩, ⟨sh13, x1⟩] [⟨.bool, r⟩] := by
  refine pcall_intro Try.func70 rfl rfl (Nat.le_of_ble_eq_true rfl) ?_
  intro w0 Zi a w h
  rw [f70] at hF
  refine wp_reg_seq tok (orc := orcL []) (fz := []) (l := [0, 1]) (c := _) (.inr fun i h => h) h (by kernel_rfl) (AllP.nil) ?_
  intro a w h
  refine wp_seq ?_
  refine wp_reg_seq tok (orc := orcL []) (fz := []) (l := [0, 1, 10]) (c := _) (.inr fun i h => h) h (by kernel_rfl) (AllP.nil) ?_
  intro a w h
  refine wp_if h (b := (((List.length x0 : Int) : Int) != (List.length x1 : Int))) (by kernel_rfl) (fun hb => ?_) (fun hb => ?_)
  · replace hF := of_t hb hF
    refine wp_reg_seq tok (orc := orcL []) (fz := []) (l := [4]) (c := _) (.inr fun i h => h) h (by kernel_rfl) (AllP.nil) ?_
    intro a w h
    cases hF
    exact wp_ret (ret_okR tok h rfl (by kernel_rfl)).1
  · replace hF := of_f hb hF
    refine wp_skip ?_
    refine wp_seq ?_
    refine wp_reg_seq tok (orc := orcL []) (fz := []) (l := [0, 1, 5]) (c := _) (.inr fun i h => h) h (by kernel_rfl) (AllP.nil) ?_
    intro a w h
    refine wp_block ?_
    refine wp_loop_fuel (f70.l30 k x0 x1) (fun (v50 : Int) => [(0, .val sh13 x0), (1, .val sh13 x1), (5, .val (.int .i64) v50)]) (fun v h => by rw [f70.l30] at h; cases h) ?_ hF (h.arrive (fz := []) (l := [0, 1, 5]) (.inr fun i h => h) (by kernel_rfl))
    intro m30 v50 a w hF h
    rw [f70.l30] at hF
    refine wp_seq ?_
    refine wp_reg_seq tok (orc := orcL []) (fz := []) (l := [0, 1, 5, 14]) (c := _) (.inr fun i h => h) h (by kernel_rfl) (AllP.nil) ?_
    intro a w h
    refine wp_if h (b := (decide ((v50 : Int) < (List.length x0 : Int)))) (by kernel_rfl) (fun hb => ?_) (fun hb => ?_)
    · replace hF := of_t hb hF
      refine wp_skip ?_
      refine wp_seq <| wp_block ?_
      obtain ⟨hc56, hF⟩ := of_if hF
      obtain ⟨hc57, hF⟩ := of_if hF
      obtain ⟨r55, hr58, hF⟩ := of_bind hF
      refine wp_regy_seq tok (orc := orcL [(25, [⟨.bool, r55⟩])]) (fz := []) (l := [0, 1, 5, 26]) (c := _) ([], [], [], []) 10 (.inr fun i h => h) h (by kernel_rfl) (by kernel_rfl) (AllP.cons hc56 (AllP.cons hc57 (AllP.cons (c55 k (List.getD x0 (Int.toNat v50) ((0 : Int), ((0 : Int), (([] : (List (ByteArray × (Int × ByteArray)))), (false, ((⟨#[]⟩ : ByteArray), ((0 : Int), (0 : Int)))))))) (List.getD x1 (Int.toNat v50) ((0 : Int), ((0 : Int), (([] : (List (ByteArray × (Int × ByteArray)))), (false, ((⟨#[]⟩ : ByteArray), ((0 : Int), (0 : Int)))))))) r55 hr58) AllP.nil))) ?_
      intro a w h
      refine wp_if h (b := (!r55)) (by kernel_rfl) (fun hb => ?_) (fun hb => ?_)
      · replace hF := of_t hb hF
        refine wp_reg_seq tok (orc := orcL []) (fz := []) (l := [4]) (c := _) (.inr fun i h => h) h (by kernel_rfl) (AllP.nil) ?_
        intro a w h
        cases hF
        exact wp_ret (ret_okR tok h rfl (by kernel_rfl)).1
      · replace hF := of_f hb hF
        refine wp_skip ?_
        refine wp_reg tok (orc := orcL []) (fz := []) (l := [0, 1, 5]) (c := _) (.inr fun i h => h) h (by kernel_rfl) (AllP.nil) ?_
        intro a w h
        exact ⟨(IntKind.i64.wrap (v50 + (1 : Int))), hF, h.arrive (fz := []) (l := [0, 1, 5]) (.inr fun i h => h) (by kernel_rfl)⟩
    · replace hF := of_f hb hF
      refine wp_exit ?_
      refine wp_reg_seq tok (orc := orcL []) (fz := []) (l := [4]) (c := _) (.inr fun i h => h) h (by kernel_rfl) (AllP.nil) ?_
      intro a w h
      cases hF
      exact wp_ret (ret_okR tok h rfl (by kernel_rfl)).1

def f84 (k : Nat) (x0 : (ByteArray × ByteArray)) (x1 : (ByteArray × ByteArray)) : Option Bool := if (!(ByteArray.toList x0.1 == ByteArray.toList x1.1)) then (some false) else (if (!(ByteArray.toList x0.2 == ByteArray.toList x1.2)) then (some false) else (some true))
set_option maxRecDepth 100000 in
/-- 'laws.eqTag'. -/
theorem c84 (k : Nat) (x0 : (ByteArray × ByteArray)) (x1 : (ByteArray × ByteArray)) (r : Bool) (hF : f84 k x0 x1 = some r) : PCall Try.prog 84 [⟨(.st (.pair .str .str)), x0⟩, ⟨(.st (.pair .str .str)), x1⟩] [⟨.bool, r⟩] := by
  refine pcall_intro Try.func84 rfl rfl (Nat.le_of_ble_eq_true rfl) ?_
  intro w0 Zi a w h
  rw [f84] at hF
  refine wp_reg_seq tok (orc := orcL []) (fz := []) (l := [2, 3]) (c := _) (.inr fun i h => h) h (by kernel_rfl) (AllP.nil) ?_
  intro a w h
  refine wp_seq ?_
  refine wp_reg_seq tok (orc := orcL []) (fz := []) (l := [2, 3, 9]) (c := _) (.inr fun i h => h) h (by kernel_rfl) (AllP.nil) ?_
  intro a w h
  refine wp_if h (b := (!(ByteArray.toList x0.1 == ByteArray.toList x1.1))) (by kernel_rfl) (fun hb => ?_) (fun hb => ?_)
  · replace hF := of_t hb hF
    refine wp_reg_seq tok (orc := orcL []) (fz := []) (l := [4]) (c := _) (.inr fun i h => h) h (by kernel_rfl) (AllP.nil) ?_
    intro a w h
    cases hF
    exact wp_ret (ret_okR tok h rfl (by kernel_rfl)).1
  · replace hF := of_f hb hF
    refine wp_skip ?_
    refine wp_seq ?_
    refine wp_reg_seq tok (orc := orcL []) (fz := []) (l := [14]) (c := _) (.inr fun i h => h) h (by kernel_rfl) (AllP.nil) ?_
    intro a w h
    refine wp_if h (b := (!(ByteArray.toList x0.2 == ByteArray.toList x1.2))) (by kernel_rfl) (fun hb => ?_) (fun hb => ?_)
    · replace hF := of_t hb hF
      refine wp_reg_seq tok (orc := orcL []) (fz := []) (l := [4]) (c := _) (.inr fun i h => h) h (by kernel_rfl) (AllP.nil) ?_
      intro a w h
      cases hF
      exact wp_ret (ret_okR tok h rfl (by kernel_rfl)).1
    · replace hF := of_f hb hF
      refine wp_skip ?_
      refine wp_reg_seq tok (orc := orcL []) (fz := []) (l := [4]) (c := _) (.inr fun i h => h) h (by kernel_rfl) (AllP.nil) ?_
      intro a w h
      cases hF
      exact wp_ret (ret_okR tok h rfl (by kernel_rfl)).1

def f22.l30 (k : Nat) (x0 : (List (ByteArray × ByteArray))) (x1 : (List (ByteArray × ByteArray))) : Nat → Int → Option Bool
  | 0, _ => none
  | m30 + 1, v50 => if (decide ((v50 : Int) < (List.length x0 : Int))) then (if (0 ≤ v50 ∧ v50 < (List.length x0 : Int)) then (if (0 ≤ v50 ∧ v50 < (List.length x1 : Int)) then ((f84 k (List.getD x0 (Int.toNat v50) ((⟨#[]⟩ : ByteArray), (⟨#[]⟩ : ByteArray))) (List.getD x1 (Int.toNat v50) ((⟨#[]⟩ : ByteArray), (⟨#[]⟩ : ByteArray)))).bind fun r55 => (if (!r55) then (some false) else ((f22.l30 k x0 x1) m30 (IntKind.i64.wrap (v50 + (1 : Int)))))) else none) else none) else (some true)
def f22 (k : Nat) (x0 : (List (ByteArray × ByteArray))) (x1 : (List (ByteArray × ByteArray))) : Option Bool := if (((List.length x0 : Int) : Int) != (List.length x1 : Int)) then (some false) else (f22.l30 k x0 x1 k (0 : Int))
set_option maxRecDepth 100000 in
/-- 'laws.eqTagS'. -/
theorem c22 (k : Nat) (x0 : (List (ByteArray × ByteArray))) (x1 : (List (ByteArray × ByteArray))) (r : Bool) (hF : f22 k x0 x1 = some r) : PCall Try.prog 22 [⟨sh9, x0⟩, ⟨sh9, x1⟩] [⟨.bool, r⟩] := by
  refine pcall_intro Try.func22 rfl rfl (Nat.le_of_ble_eq_true rfl) ?_
  intro w0 Zi a w h
  rw [f22] at hF
  refine wp_reg_seq tok (orc := orcL []) (fz := []) (l := [0, 1]) (c := _) (.inr fun i h => h) h (by kernel_rfl) (AllP.nil) ?_
  intro a w h
  refine wp_seq ?_
  refine wp_reg_seq tok (orc := orcL []) (fz := []) (l := [0, 1, 10]) (c := _) (.inr fun i h => h) h (by kernel_rfl) (AllP.nil) ?_
  intro a w h
  refine wp_if h (b := (((List.length x0 : Int) : Int) != (List.length x1 : Int))) (by kernel_rfl) (fun hb => ?_) (fun hb => ?_)
  · replace hF := of_t hb hF
    refine wp_reg_seq tok (orc := orcL []) (fz := []) (l := [4]) (c := _) (.inr fun i h => h) h (by kernel_rfl) (AllP.nil) ?_
    intro a w h
    cases hF
    exact wp_ret (ret_okR tok h rfl (by kernel_rfl)).1
  · replace hF := of_f hb hF
    refine wp_skip ?_
    refine wp_seq ?_
    refine wp_reg_seq tok (orc := orcL []) (fz := []) (l := [0, 1, 5]) (c := _) (.inr fun i h => h) h (by kernel_rfl) (AllP.nil) ?_
    intro a w h
    refine wp_block ?_
    refine wp_loop_fuel (f22.l30 k x0 x1) (fun (v50 : Int) => [(0, .val sh9 x0), (1, .val sh9 x1), (5, .val (.int .i64) v50)]) (fun v h => by rw [f22.l30] at h; cases h) ?_ hF (h.arrive (fz := []) (l := [0, 1, 5]) (.inr fun i h => h) (by kernel_rfl))
    intro m30 v50 a w hF h
    rw [f22.l30] at hF
    refine wp_seq ?_
    refine wp_reg_seq tok (orc := orcL []) (fz := []) (l := [0, 1, 5, 14]) (c := _) (.inr fun i h => h) h (by kernel_rfl) (AllP.nil) ?_
    intro a w h
    refine wp_if h (b := (decide ((v50 : Int) < (List.length x0 : Int)))) (by kernel_rfl) (fun hb => ?_) (fun hb => ?_)
    · replace hF := of_t hb hF
      refine wp_skip ?_
      refine wp_seq <| wp_block ?_
      obtain ⟨hc56, hF⟩ := of_if hF
      obtain ⟨hc57, hF⟩ := of_if hF
      obtain ⟨r55, hr58, hF⟩ := of_bind hF
      refine wp_regy_seq tok (orc := orcL [(25, [⟨.bool, r55⟩])]) (fz := []) (l := [0, 1, 5, 26]) (c := _) ([], [], [], []) 10 (.inr fun i h => h) h (by kernel_rfl) (by kernel_rfl) (AllP.cons hc56 (AllP.cons hc57 (AllP.cons (c84 k (List.getD x0 (Int.toNat v50) ((⟨#[]⟩ : ByteArray), (⟨#[]⟩ : ByteArray))) (List.getD x1 (Int.toNat v50) ((⟨#[]⟩ : ByteArray), (⟨#[]⟩ : ByteArray))) r55 hr58) AllP.nil))) ?_
      intro a w h
      refine wp_if h (b := (!r55)) (by kernel_rfl) (fun hb => ?_) (fun hb => ?_)
      · replace hF := of_t hb hF
        refine wp_reg_seq tok (orc := orcL []) (fz := []) (l := [4]) (c := _) (.inr fun i h => h) h (by kernel_rfl) (AllP.nil) ?_
        intro a w h
        cases hF
        exact wp_ret (ret_okR tok h rfl (by kernel_rfl)).1
      · replace hF := of_f hb hF
        refine wp_skip ?_
        refine wp_reg tok (orc := orcL []) (fz := []) (l := [0, 1, 5]) (c := _) (.inr fun i h => h) h (by kernel_rfl) (AllP.nil) ?_
        intro a w h
        exact ⟨(IntKind.i64.wrap (v50 + (1 : Int))), hF, h.arrive (fz := []) (l := [0, 1, 5]) (.inr fun i h => h) (by kernel_rfl)⟩
    · replace hF := of_f hb hF
      refine wp_exit ?_
      refine wp_reg_seq tok (orc := orcL []) (fz := []) (l := [4]) (c := _) (.inr fun i h => h) h (by kernel_rfl) (AllP.nil) ?_
      intro a w h
      cases hF
      exact wp_ret (ret_okR tok h rfl (by kernel_rfl)).1

def f132.l19 (k : Nat) : Nat → (Int × ByteArray) → Option ByteArray
  | 0, _ => none
  | m19 + 1, (v32, v33) => if (decide ((v32 : Int) > (0 : Int))) then (if (((10 : Int) : Int) ≠ 0) then (if (ByteArray.size (strOfNums [(IntKind.u8.wrap (IntKind.i64.wrap ((48 : Int) + (Int.tmod v32 (10 : Int)))))]) + ByteArray.size v33 ≤ 9223372036854775807) then (if (((10 : Int) : Int) ≠ 0) then ((f132.l19 k) m19 ((IntKind.i64.wrap (Int.tdiv v32 (10 : Int))), ((strOfNums [(IntKind.u8.wrap (IntKind.i64.wrap ((48 : Int) + (Int.tmod v32 (10 : Int)))))]) ++ v33))) else none) else none) else none) else (if (ByteArray.size (⟨#[109]⟩ : ByteArray) + ByteArray.size v33 ≤ 9223372036854775807) then (some ((⟨#[109]⟩ : ByteArray) ++ v33)) else none)
def f132 (k : Nat) (x0 : Int) : Option ByteArray := if (decide ((x0 : Int) ≤ (0 : Int))) then (some (⟨#[109, 48]⟩ : ByteArray)) else (f132.l19 k k (x0, (⟨#[]⟩ : ByteArray)))
set_option maxRecDepth 100000 in
/-- 'laws.markText'. -/
theorem c132 (k : Nat) (x0 : Int) (r : ByteArray) (hF : f132 k x0 = some r) : PCall Try.prog 132 [⟨(.int .i64), x0⟩] [⟨.str, r⟩] := by
  refine pcall_intro Try.func132 rfl rfl (Nat.le_of_ble_eq_true rfl) ?_
  intro w0 Zi a w h
  rw [f132] at hF
  refine wp_reg_seq tok (orc := orcL []) (fz := []) (l := [0]) (c := _) (.inr fun i h => h) h (by kernel_rfl) (AllP.nil) ?_
  intro a w h
  refine wp_seq ?_
  refine wp_reg_seq tok (orc := orcL []) (fz := []) (l := [0, 5]) (c := _) (.inr fun i h => h) h (by kernel_rfl) (AllP.nil) ?_
  intro a w h
  refine wp_if h (b := (decide ((x0 : Int) ≤ (0 : Int)))) (by kernel_rfl) (fun hb => ?_) (fun hb => ?_)
  · replace hF := of_t hb hF
    refine wp_reg_seq tok (orc := orcL []) (fz := []) (l := [2]) (c := _) (.inr fun i h => h) h (by kernel_rfl) (AllP.nil) ?_
    intro a w h
    cases hF
    exact wp_ret (ret_okR tok h rfl (by kernel_rfl)).1
  · replace hF := of_f hb hF
    refine wp_skip ?_
    refine wp_reg_seq tok (orc := orcL []) (fz := []) (l := [0, 3]) (c := _) (.inr fun i h => h) h (by kernel_rfl) (AllP.nil) ?_
    intro a w h
    refine wp_seq <| wp_block ?_
    refine wp_loop_fuel (f132.l19 k) (fun ((v32, v33) : (Int × ByteArray)) => [(0, .val (.int .i64) v32), (3, .val .str v33)]) (fun v h => by obtain ⟨v32, v33⟩ := v; rw [f132.l19] at h; cases h) ?_ hF (h.arrive (fz := []) (l := [0, 3]) (.inr fun i h => h) (by kernel_rfl))
    intro m19 v a w hF h
    obtain ⟨v32, v33⟩ := v
    rw [f132.l19] at hF
    refine wp_seq ?_
    refine wp_reg_seq tok (orc := orcL []) (fz := []) (l := [0, 3, 7]) (c := _) (.inr fun i h => h) h (by kernel_rfl) (AllP.nil) ?_
    intro a w h
    refine wp_if h (b := (decide ((v32 : Int) > (0 : Int)))) (by kernel_rfl) (fun hb => ?_) (fun hb => ?_)
    · replace hF := of_t hb hF
      refine wp_skip ?_
      refine wp_block ?_
      obtain ⟨hc35, hF⟩ := of_if hF
      obtain ⟨hc36, hF⟩ := of_if hF
      refine wp_reg_seq tok (orc := orcL []) (fz := []) (l := [0, 3]) (c := _) (.inr fun i h => h) h (by kernel_rfl) (AllP.cons hc35 (AllP.cons hc36 AllP.nil)) ?_
      intro a w h
      obtain ⟨hc34, hF⟩ := of_if hF
      refine wp_reg tok (orc := orcL []) (fz := []) (l := [0, 3]) (c := _) (.inr fun i h => h) h (by kernel_rfl) (AllP.cons hc34 AllP.nil) ?_
      intro a w h
      exact ⟨((IntKind.i64.wrap (Int.tdiv v32 (10 : Int))), ((strOfNums [(IntKind.u8.wrap (IntKind.i64.wrap ((48 : Int) + (Int.tmod v32 (10 : Int)))))]) ++ v33)), hF, h.arrive (fz := []) (l := [0, 3]) (.inr fun i h => h) (by kernel_rfl)⟩
    · replace hF := of_f hb hF
      refine wp_exit ?_
      obtain ⟨hc37, hF⟩ := of_if hF
      refine wp_reg_seq tok (orc := orcL []) (fz := []) (l := [2]) (c := _) (.inr fun i h => h) h (by kernel_rfl) (AllP.cons hc37 AllP.nil) ?_
      intro a w h
      cases hF
      exact wp_ret (ret_okR tok h rfl (by kernel_rfl)).1

def f131.l68 (k : Nat) : Nat → ((List (ByteArray × (Int × ByteArray))) × Int × Int) → Option (Int × (List (ByteArray × (Int × ByteArray))))
  | 0, _ => none
  | m68 + 1, (v114, v115, v116) => if (decide ((v116 : Int) < (List.length v114 : Int))) then ((f132 k v115).bind fun r126 => (if (0 ≤ v116 ∧ v116 < (List.length v114 : Int)) then (if (0 ≤ v116 ∧ v116 < (List.length (List.set v114 (Int.toNat v116) (r126, (List.getD v114 (Int.toNat v116) ((⟨#[]⟩ : ByteArray), ((0 : Int), (⟨#[]⟩ : ByteArray)))).2)) : Int)) then ((some ((List.set (List.set v114 (Int.toNat v116) (r126, (List.getD v114 (Int.toNat v116) ((⟨#[]⟩ : ByteArray), ((0 : Int), (⟨#[]⟩ : ByteArray)))).2)) (Int.toNat v116) ((List.getD (List.set v114 (Int.toNat v116) (r126, (List.getD v114 (Int.toNat v116) ((⟨#[]⟩ : ByteArray), ((0 : Int), (⟨#[]⟩ : ByteArray)))).2)) (Int.toNat v116) ((⟨#[]⟩ : ByteArray), ((0 : Int), (⟨#[]⟩ : ByteArray)))).1, ((IntKind.i64.wrap (v115 + (1 : Int))), (List.getD (List.set v114 (Int.toNat v116) (r126, (List.getD v114 (Int.toNat v116) ((⟨#[]⟩ : ByteArray), ((0 : Int), (⟨#[]⟩ : ByteArray)))).2)) (Int.toNat v116) ((⟨#[]⟩ : ByteArray), ((0 : Int), (⟨#[]⟩ : ByteArray)))).2.2))) : (List (ByteArray × (Int × ByteArray))))).bind fun v127 => ((f132 k (IntKind.i64.wrap ((IntKind.i64.wrap (v115 + (1 : Int))) + (1 : Int)))).bind fun r128 => (if (0 ≤ v116 ∧ v116 < (List.length v127 : Int)) then ((f131.l68 k) m68 ((List.set v127 (Int.toNat v116) ((List.getD v127 (Int.toNat v116) ((⟨#[]⟩ : ByteArray), ((0 : Int), (⟨#[]⟩ : ByteArray)))).1, ((List.getD v127 (Int.toNat v116) ((⟨#[]⟩ : ByteArray), ((0 : Int), (⟨#[]⟩ : ByteArray)))).2.1, r128))), (IntKind.i64.wrap ((IntKind.i64.wrap ((IntKind.i64.wrap (v115 + (1 : Int))) + (1 : Int))) + (1 : Int))), (IntKind.i64.wrap (v116 + (1 : Int))))) else none))) else none) else none)) else (some (v115, v114))
def f131 (k : Nat) (x0 : (List (ByteArray × (Int × ByteArray)))) (x1 : Int) : Option (Int × (List (ByteArray × (Int × ByteArray)))) := f131.l68 k k (x0, x1, (0 : Int))
set_option maxRecDepth 100000 in
/-- 'laws.markTestS'. -/
theorem c131 (k : Nat) (x0 : (List (ByteArray × (Int × ByteArray)))) (x1 : Int) (r : (Int × (List (ByteArray × (Int × ByteArray))))) (hF : f131 k x0 x1 = some r) : PMut Try.prog 131 [⟨sh5, x0⟩, ⟨(.int .i64), x1⟩] [⟨(.int .i64), r.1⟩] (List.set [⟨sh5, x0⟩, ⟨(.int .i64), x1⟩] 0 ⟨sh5, r.2⟩) := by
  refine pmut_intro (j := 0) (fin := ⟨sh5, r.2⟩) Try.func131 rfl rfl (Nat.le_of_ble_eq_true rfl) (Nat.le_of_ble_eq_true rfl) (by kernel_rfl) ?_
  intro w0 Zi f0 v0 a w h
  rw [f131] at hF
  refine wp_reg_seq tok (orc := orcL []) (fz := []) (l := [0, 1]) (c := _) (.inl rfl) h (by kernel_rfl) (AllP.nil) ?_
  intro a w h
  refine wp_seq ?_
  refine wp_reg_seq tok (orc := orcL []) (fz := []) (l := [0, 1, 5]) (c := _) (.inl rfl) h (by kernel_rfl) (AllP.nil) ?_
  intro a w h
  refine wp_block ?_
  refine wp_loop_fuel (f131.l68 k) (fun ((v114, v115, v116) : ((List (ByteArray × (Int × ByteArray))) × Int × Int)) => [(0, .val sh5 v114), (1, .val (.int .i64) v115), (5, .val (.int .i64) v116)]) (fun v h => by obtain ⟨v114, v115, v116⟩ := v; rw [f131.l68] at h; cases h) ?_ hF (h.arrive (fz := []) (l := [0, 1, 5]) (.inl rfl) (by kernel_rfl))
  intro m68 v a w hF h
  obtain ⟨v114, v115, v116⟩ := v
  rw [f131.l68] at hF
  refine wp_seq ?_
  refine wp_reg_seq tok (orc := orcL []) (fz := []) (l := [0, 1, 5, 9]) (c := _) (.inl rfl) h (by kernel_rfl) (AllP.nil) ?_
  intro a w h
  refine wp_if h (b := (decide ((v116 : Int) < (List.length v114 : Int)))) (by kernel_rfl) (fun hb => ?_) (fun hb => ?_)
  · replace hF := of_t hb hF
    refine wp_skip ?_
    refine wp_seq <| wp_block ?_
    obtain ⟨r126, hr133, hF⟩ := of_bind hF
    obtain ⟨hc134, hF⟩ := of_if hF
    refine wp_reg_seq tok (orc := orcL [(15, [⟨.str, r126⟩])]) (fz := []) (l := [0, 1, 5]) (c := _) (.inl rfl) h (by kernel_rfl) (AllP.cons (c132 k v115 r126 hr133) (AllP.cons hc134 AllP.nil)) ?_
    intro a w h
    refine wp_reg_seq tok (orc := orcL []) (fz := []) (l := [0, 1, 5]) (c := _) (.inl rfl) h (by kernel_rfl) (AllP.nil) ?_
    intro a w h
    obtain ⟨hc132, hF⟩ := of_if hF
    refine wp_reg_seq tok (orc := orcL []) (fz := []) (l := [0, 1, 5]) (c := _) (.inl rfl) h (by kernel_rfl) (AllP.cons hc132 AllP.nil) ?_
    intro a w h
    obtain ⟨v127, hv131, hF⟩ := of_bind hF
    replace h := h.cast (S' := [(0, .val sh5 v127), (1, .val (.int .i64) (IntKind.i64.wrap (v115 + (1 : Int)))), (5, .val (.int .i64) v116)]) (by cases hv131; kernel_rfl)
    refine wp_reg_seq tok (orc := orcL []) (fz := []) (l := [0, 1, 5]) (c := _) (.inl rfl) h (by kernel_rfl) (AllP.nil) ?_
    intro a w h
    obtain ⟨r128, hr129, hF⟩ := of_bind hF
    obtain ⟨hc130, hF⟩ := of_if hF
    refine wp_reg_seq tok (orc := orcL [(30, [⟨.str, r128⟩])]) (fz := []) (l := [0, 1, 5]) (c := _) (.inl rfl) h (by kernel_rfl) (AllP.cons (c132 k (IntKind.i64.wrap ((IntKind.i64.wrap (v115 + (1 : Int))) + (1 : Int))) r128 hr129) (AllP.cons hc130 AllP.nil)) ?_
    intro a w h
    refine wp_reg tok (orc := orcL []) (fz := []) (l := [0, 1, 5]) (c := _) (.inl rfl) h (by kernel_rfl) (AllP.nil) ?_
    intro a w h
    refine wp_reg tok (orc := orcL []) (fz := []) (l := [0, 1, 5]) (c := _) (.inl rfl) h (by kernel_rfl) (AllP.nil) ?_
    intro a w h
    exact ⟨((List.set v127 (Int.toNat v116) ((List.getD v127 (Int.toNat v116) ((⟨#[]⟩ : ByteArray), ((0 : Int), (⟨#[]⟩ : ByteArray)))).1, ((List.getD v127 (Int.toNat v116) ((⟨#[]⟩ : ByteArray), ((0 : Int), (⟨#[]⟩ : ByteArray)))).2.1, r128))), (IntKind.i64.wrap ((IntKind.i64.wrap ((IntKind.i64.wrap (v115 + (1 : Int))) + (1 : Int))) + (1 : Int))), (IntKind.i64.wrap (v116 + (1 : Int)))), hF, h.arrive (fz := []) (l := [0, 1, 5]) (.inl rfl) (by kernel_rfl)⟩
  · replace hF := of_f hb hF
    refine wp_exit ?_
    refine wp_reg_seq tok (orc := orcL []) (fz := []) (l := [0, 4]) (c := _) (.inl rfl) h (by kernel_rfl) (AllP.nil) ?_
    intro a w h
    cases hF
    exact wp_ret (retM_ok tok h rfl (by kernel_rfl) (by kernel_rfl)).1

def f71.l158 (k : Nat) : Nat → ((List (Int × (Int × ((List (ByteArray × (Int × ByteArray))) × (Bool × (ByteArray × (Int × Int))))))) × Int × Int) → Option (Int × (List (Int × (Int × ((List (ByteArray × (Int × ByteArray))) × (Bool × (ByteArray × (Int × Int))))))))
  | 0, _ => none
  | m158 + 1, (v264, v265, v266) => if (decide ((v266 : Int) < (List.length v264 : Int))) then (if (0 ≤ v266 ∧ v266 < (List.length v264 : Int)) then (if (0 ≤ v266 ∧ v266 < (List.length (List.set v264 (Int.toNat v266) (v265, (List.getD v264 (Int.toNat v266) ((0 : Int), ((0 : Int), (([] : (List (ByteArray × (Int × ByteArray)))), (false, ((⟨#[]⟩ : ByteArray), ((0 : Int), (0 : Int)))))))).2)) : Int)) then ((some ((List.set (List.set v264 (Int.toNat v266) (v265, (List.getD v264 (Int.toNat v266) ((0 : Int), ((0 : Int), (([] : (List (ByteArray × (Int × ByteArray)))), (false, ((⟨#[]⟩ : ByteArray), ((0 : Int), (0 : Int)))))))).2)) (Int.toNat v266) ((List.getD (List.set v264 (Int.toNat v266) (v265, (List.getD v264 (Int.toNat v266) ((0 : Int), ((0 : Int), (([] : (List (ByteArray × (Int × ByteArray)))), (false, ((⟨#[]⟩ : ByteArray), ((0 : Int), (0 : Int)))))))).2)) (Int.toNat v266) ((0 : Int), ((0 : Int), (([] : (List (ByteArray × (Int × ByteArray)))), (false, ((⟨#[]⟩ : ByteArray), ((0 : Int), (0 : Int)))))))).1, ((IntKind.i64.wrap (v265 + (1 : Int))), (List.getD (List.set v264 (Int.toNat v266) (v265, (List.getD v264 (Int.toNat v266) ((0 : Int), ((0 : Int), (([] : (List (ByteArray × (Int × ByteArray)))), (false, ((⟨#[]⟩ : ByteArray), ((0 : Int), (0 : Int)))))))).2)) (Int.toNat v266) ((0 : Int), ((0 : Int), (([] : (List (ByteArray × (Int × ByteArray)))), (false, ((⟨#[]⟩ : ByteArray), ((0 : Int), (0 : Int)))))))).2.2))) : (List (Int × (Int × ((List (ByteArray × (Int × ByteArray))) × (Bool × (ByteArray × (Int × Int))))))))).bind fun v291 => (if (0 ≤ v266 ∧ v266 < (List.length v291 : Int)) then ((f131 k (List.getD v291 (Int.toNat v266) ((0 : Int), ((0 : Int), (([] : (List (ByteArray × (Int × ByteArray)))), (false, ((⟨#[]⟩ : ByteArray), ((0 : Int), (0 : Int)))))))).2.2.1 (IntKind.i64.wrap ((IntKind.i64.wrap (v265 + (1 : Int))) + (1 : Int)))).bind fun r292 => ((some ((List.set v291 (Int.toNat v266) ((List.getD v291 (Int.toNat v266) ((0 : Int), ((0 : Int), (([] : (List (ByteArray × (Int × ByteArray)))), (false, ((⟨#[]⟩ : ByteArray), ((0 : Int), (0 : Int)))))))).1, ((List.getD v291 (Int.toNat v266) ((0 : Int), ((0 : Int), (([] : (List (ByteArray × (Int × ByteArray)))), (false, ((⟨#[]⟩ : ByteArray), ((0 : Int), (0 : Int)))))))).2.1, (r292.2, (List.getD v291 (Int.toNat v266) ((0 : Int), ((0 : Int), (([] : (List (ByteArray × (Int × ByteArray)))), (false, ((⟨#[]⟩ : ByteArray), ((0 : Int), (0 : Int)))))))).2.2.2)))) : (List (Int × (Int × ((List (ByteArray × (Int × ByteArray))) × (Bool × (ByteArray × (Int × Int))))))))).bind fun v293 => (if (((3 : Int) : Int) ≠ 0) then (if (0 ≤ v266 ∧ v266 < (List.length v293 : Int)) then ((some ((List.set v293 (Int.toNat v266) ((List.getD v293 (Int.toNat v266) ((0 : Int), ((0 : Int), (([] : (List (ByteArray × (Int × ByteArray)))), (false, ((⟨#[]⟩ : ByteArray), ((0 : Int), (0 : Int)))))))).1, ((List.getD v293 (Int.toNat v266) ((0 : Int), ((0 : Int), (([] : (List (ByteArray × (Int × ByteArray)))), (false, ((⟨#[]⟩ : ByteArray), ((0 : Int), (0 : Int)))))))).2.1, ((List.getD v293 (Int.toNat v266) ((0 : Int), ((0 : Int), (([] : (List (ByteArray × (Int × ByteArray)))), (false, ((⟨#[]⟩ : ByteArray), ((0 : Int), (0 : Int)))))))).2.2.1, ((((Int.tmod r292.1 (3 : Int)) : Int) == (0 : Int)), (List.getD v293 (Int.toNat v266) ((0 : Int), ((0 : Int), (([] : (List (ByteArray × (Int × ByteArray)))), (false, ((⟨#[]⟩ : ByteArray), ((0 : Int), (0 : Int)))))))).2.2.2.2))))) : (List (Int × (Int × ((List (ByteArray × (Int × ByteArray))) × (Bool × (ByteArray × (Int × Int))))))))).bind fun v294 => ((f132 k (IntKind.i64.wrap (r292.1 + (1 : Int)))).bind fun r295 => (if (0 ≤ v266 ∧ v266 < (List.length v294 : Int)) then ((some ((List.set v294 (Int.toNat v266) ((List.getD v294 (Int.toNat v266) ((0 : Int), ((0 : Int), (([] : (List (ByteArray × (Int × ByteArray)))), (false, ((⟨#[]⟩ : ByteArray), ((0 : Int), (0 : Int)))))))).1, ((List.getD v294 (Int.toNat v266) ((0 : Int), ((0 : Int), (([] : (List (ByteArray × (Int × ByteArray)))), (false, ((⟨#[]⟩ : ByteArray), ((0 : Int), (0 : Int)))))))).2.1, ((List.getD v294 (Int.toNat v266) ((0 : Int), ((0 : Int), (([] : (List (ByteArray × (Int × ByteArray)))), (false, ((⟨#[]⟩ : ByteArray), ((0 : Int), (0 : Int)))))))).2.2.1, ((List.getD v294 (Int.toNat v266) ((0 : Int), ((0 : Int), (([] : (List (ByteArray × (Int × ByteArray)))), (false, ((⟨#[]⟩ : ByteArray), ((0 : Int), (0 : Int)))))))).2.2.2.1, (r295, (List.getD v294 (Int.toNat v266) ((0 : Int), ((0 : Int), (([] : (List (ByteArray × (Int × ByteArray)))), (false, ((⟨#[]⟩ : ByteArray), ((0 : Int), (0 : Int)))))))).2.2.2.2.2)))))) : (List (Int × (Int × ((List (ByteArray × (Int × ByteArray))) × (Bool × (ByteArray × (Int × Int))))))))).bind fun v296 => (if (0 ≤ v266 ∧ v266 < (List.length v296 : Int)) then ((some ((List.set v296 (Int.toNat v266) ((List.getD v296 (Int.toNat v266) ((0 : Int), ((0 : Int), (([] : (List (ByteArray × (Int × ByteArray)))), (false, ((⟨#[]⟩ : ByteArray), ((0 : Int), (0 : Int)))))))).1, ((List.getD v296 (Int.toNat v266) ((0 : Int), ((0 : Int), (([] : (List (ByteArray × (Int × ByteArray)))), (false, ((⟨#[]⟩ : ByteArray), ((0 : Int), (0 : Int)))))))).2.1, ((List.getD v296 (Int.toNat v266) ((0 : Int), ((0 : Int), (([] : (List (ByteArray × (Int × ByteArray)))), (false, ((⟨#[]⟩ : ByteArray), ((0 : Int), (0 : Int)))))))).2.2.1, ((List.getD v296 (Int.toNat v266) ((0 : Int), ((0 : Int), (([] : (List (ByteArray × (Int × ByteArray)))), (false, ((⟨#[]⟩ : ByteArray), ((0 : Int), (0 : Int)))))))).2.2.2.1, ((List.getD v296 (Int.toNat v266) ((0 : Int), ((0 : Int), (([] : (List (ByteArray × (Int × ByteArray)))), (false, ((⟨#[]⟩ : ByteArray), ((0 : Int), (0 : Int)))))))).2.2.2.2.1, ((IntKind.i64.wrap ((IntKind.i64.wrap (r292.1 + (1 : Int))) + (1 : Int))), (List.getD v296 (Int.toNat v266) ((0 : Int), ((0 : Int), (([] : (List (ByteArray × (Int × ByteArray)))), (false, ((⟨#[]⟩ : ByteArray), ((0 : Int), (0 : Int)))))))).2.2.2.2.2.2))))))) : (List (Int × (Int × ((List (ByteArray × (Int × ByteArray))) × (Bool × (ByteArray × (Int × Int))))))))).bind fun v297 => (if (0 ≤ v266 ∧ v266 < (List.length v297 : Int)) then ((some ((List.set v297 (Int.toNat v266) ((List.getD v297 (Int.toNat v266) ((0 : Int), ((0 : Int), (([] : (List (ByteArray × (Int × ByteArray)))), (false, ((⟨#[]⟩ : ByteArray), ((0 : Int), (0 : Int)))))))).1, ((List.getD v297 (Int.toNat v266) ((0 : Int), ((0 : Int), (([] : (List (ByteArray × (Int × ByteArray)))), (false, ((⟨#[]⟩ : ByteArray), ((0 : Int), (0 : Int)))))))).2.1, ((List.getD v297 (Int.toNat v266) ((0 : Int), ((0 : Int), (([] : (List (ByteArray × (Int × ByteArray)))), (false, ((⟨#[]⟩ : ByteArray), ((0 : Int), (0 : Int)))))))).2.2.1, ((List.getD v297 (Int.toNat v266) ((0 : Int), ((0 : Int), (([] : (List (ByteArray × (Int × ByteArray)))), (false, ((⟨#[]⟩ : ByteArray), ((0 : Int), (0 : Int)))))))).2.2.2.1, ((List.getD v297 (Int.toNat v266) ((0 : Int), ((0 : Int), (([] : (List (ByteArray × (Int × ByteArray)))), (false, ((⟨#[]⟩ : ByteArray), ((0 : Int), (0 : Int)))))))).2.2.2.2.1, ((List.getD v297 (Int.toNat v266) ((0 : Int), ((0 : Int), (([] : (List (ByteArray × (Int × ByteArray)))), (false, ((⟨#[]⟩ : ByteArray), ((0 : Int), (0 : Int)))))))).2.2.2.2.2.1, (IntKind.i64.wrap ((IntKind.i64.wrap ((IntKind.i64.wrap (r292.1 + (1 : Int))) + (1 : Int))) + (1 : Int)))))))))) : (List (Int × (Int × ((List (ByteArray × (Int × ByteArray))) × (Bool × (ByteArray × (Int × Int))))))))).bind fun v298 => ((f71.l158 k) m158 (v298, (IntKind.i64.wrap ((IntKind.i64.wrap ((IntKind.i64.wrap ((IntKind.i64.wrap (r292.1 + (1 : Int))) + (1 : Int))) + (1 : Int))) + (1 : Int))), (IntKind.i64.wrap (v266 + (1 : Int)))))) else none)) else none)) else none))) else none) else none))) else none)) else none) else none) else (some (v265, v264))
def f71 (k : Nat) (x0 : (List (Int × (Int × ((List (ByteArray × (Int × ByteArray))) × (Bool × (ByteArray × (Int × Int)))))))) (x1 : Int) : Option (Int × (List (Int × (Int × ((List (ByteArray × (Int × ByteArray))) × (Bool × (ByteArray × (Int × Int)))))))) := f71.l158 k k (x0, x1, (0 : Int))
set_option maxRecDepth 100000 in
/-- 'laws.markRuleS'. -/
theorem c71 (k : Nat) (x0 : (List (Int × (Int × ((List (ByteArray × (Int × ByteArray))) × (Bool × (ByteArray × (Int × Int)))))))) (x1 : Int) (r : (Int × (List (Int × (Int × ((List (ByteArray × (Int × ByteArray))) × (Bool × (ByteArray × (Int × Int))))))))) (hF : f71 k x0 x1 = some r) : PMut Try.prog 71 [⟨sh7, x0⟩, ⟨(.int .i64), x1⟩] [⟨(.int .i64), r.1⟩] (List.set [⟨sh7, x0⟩, ⟨(.int .i64), x1⟩] 0 ⟨sh7, r.2⟩) := by
  refine pmut_intro (j := 0) (fin := ⟨sh7, r.2⟩) Try.func71 rfl rfl (Nat.le_of_ble_eq_true rfl) (Nat.le_of_ble_eq_true rfl) (by kernel_rfl) ?_
  intro w0 Zi f0 v0 a w h
  rw [f71] at hF
  refine wp_reg_seq tok (orc := orcL []) (fz := []) (l := [0, 1]) (c := _) (.inl rfl) h (by kernel_rfl) (AllP.nil) ?_
  intro a w h
  refine wp_seq ?_
  refine wp_reg_seq tok (orc := orcL []) (fz := []) (l := [0, 1, 5]) (c := _) (.inl rfl) h (by kernel_rfl) (AllP.nil) ?_
  intro a w h
  refine wp_block ?_
  refine wp_loop_fuel (f71.l158 k) (fun ((v264, v265, v266) : ((List (Int × (Int × ((List (ByteArray × (Int × ByteArray))) × (Bool × (ByteArray × (Int × Int))))))) × Int × Int)) => [(0, .val sh7 v264), (1, .val (.int .i64) v265), (5, .val (.int .i64) v266)]) (fun v h => by obtain ⟨v264, v265, v266⟩ := v; rw [f71.l158] at h; cases h) ?_ hF (h.arrive (fz := []) (l := [0, 1, 5]) (.inl rfl) (by kernel_rfl))
  intro m158 v a w hF h
  obtain ⟨v264, v265, v266⟩ := v
  rw [f71.l158] at hF
  refine wp_seq ?_
  refine wp_reg_seq tok (orc := orcL []) (fz := []) (l := [0, 1, 5, 9]) (c := _) (.inl rfl) h (by kernel_rfl) (AllP.nil) ?_
  intro a w h
  refine wp_if h (b := (decide ((v266 : Int) < (List.length v264 : Int)))) (by kernel_rfl) (fun hb => ?_) (fun hb => ?_)
  · replace hF := of_t hb hF
    refine wp_skip ?_
    refine wp_seq <| wp_block ?_
    obtain ⟨hc314, hF⟩ := of_if hF
    refine wp_reg_seq tok (orc := orcL []) (fz := []) (l := [0, 1, 5]) (c := _) (.inl rfl) h (by kernel_rfl) (AllP.cons hc314 AllP.nil) ?_
    intro a w h
    refine wp_reg_seq tok (orc := orcL []) (fz := []) (l := [0, 1, 5]) (c := _) (.inl rfl) h (by kernel_rfl) (AllP.nil) ?_
    intro a w h
    obtain ⟨hc313, hF⟩ := of_if hF
    refine wp_reg_seq tok (orc := orcL []) (fz := []) (l := [0, 1, 5]) (c := _) (.inl rfl) h (by kernel_rfl) (AllP.cons hc313 AllP.nil) ?_
    intro a w h
    obtain ⟨v291, hv312, hF⟩ := of_bind hF
    replace h := h.cast (S' := [(0, .val sh7 v291), (1, .val (.int .i64) (IntKind.i64.wrap (v265 + (1 : Int)))), (5, .val (.int .i64) v266)]) (by cases hv312; kernel_rfl)
    refine wp_reg_seq tok (orc := orcL []) (fz := []) (l := [0, 1, 5]) (c := _) (.inl rfl) h (by kernel_rfl) (AllP.nil) ?_
    intro a w h
    obtain ⟨hc310, hF⟩ := of_if hF
    obtain ⟨r292, hr311, hF⟩ := of_bind hF
    refine wp_reg_seq tok (orc := orcL [(32, [⟨.pt false 4294967295 (.sl true 154 (.st (.pair .str (.pair (.int .i64) .str)))), some r292.2⟩, ⟨(.int .i64), r292.1⟩])]) (fz := []) (l := [0, 1, 5]) (c := _) (.inl rfl) h (by kernel_rfl) (AllP.cons hc310 (AllP.cons (c131 k (List.getD v291 (Int.toNat v266) ((0 : Int), ((0 : Int), (([] : (List (ByteArray × (Int × ByteArray)))), (false, ((⟨#[]⟩ : ByteArray), ((0 : Int), (0 : Int)))))))).2.2.1 (IntKind.i64.wrap ((IntKind.i64.wrap (v265 + (1 : Int))) + (1 : Int))) r292 hr311) AllP.nil)) ?_
    intro a w h
    obtain ⟨v293, hv309, hF⟩ := of_bind hF
    replace h := h.cast (S' := [(0, .val sh7 v293), (1, .val (.int .i64) r292.1), (5, .val (.int .i64) v266)]) (by cases hv309; kernel_rfl)
    obtain ⟨hc307, hF⟩ := of_if hF
    obtain ⟨hc308, hF⟩ := of_if hF
    refine wp_reg_seq tok (orc := orcL []) (fz := []) (l := [0, 1, 5]) (c := _) (.inl rfl) h (by kernel_rfl) (AllP.cons hc307 (AllP.cons hc308 AllP.nil)) ?_
    intro a w h
    obtain ⟨v294, hv306, hF⟩ := of_bind hF
    replace h := h.cast (S' := [(0, .val sh7 v294), (1, .val (.int .i64) r292.1), (5, .val (.int .i64) v266)]) (by cases hv306; kernel_rfl)
    refine wp_reg_seq tok (orc := orcL []) (fz := []) (l := [0, 1, 5]) (c := _) (.inl rfl) h (by kernel_rfl) (AllP.nil) ?_
    intro a w h
    obtain ⟨r295, hr304, hF⟩ := of_bind hF
    obtain ⟨hc305, hF⟩ := of_if hF
    refine wp_reg_seq tok (orc := orcL [(45, [⟨.str, r295⟩])]) (fz := []) (l := [0, 1, 5]) (c := _) (.inl rfl) h (by kernel_rfl) (AllP.cons (c132 k (IntKind.i64.wrap (r292.1 + (1 : Int))) r295 hr304) (AllP.cons hc305 AllP.nil)) ?_
    intro a w h
    obtain ⟨v296, hv303, hF⟩ := of_bind hF
    replace h := h.cast (S' := [(0, .val sh7 v296), (1, .val (.int .i64) (IntKind.i64.wrap (r292.1 + (1 : Int)))), (5, .val (.int .i64) v266)]) (by cases hv303; kernel_rfl)
    refine wp_reg_seq tok (orc := orcL []) (fz := []) (l := [0, 1, 5]) (c := _) (.inl rfl) h (by kernel_rfl) (AllP.nil) ?_
    intro a w h
    obtain ⟨hc302, hF⟩ := of_if hF
    refine wp_reg_seq tok (orc := orcL []) (fz := []) (l := [0, 1, 5]) (c := _) (.inl rfl) h (by kernel_rfl) (AllP.cons hc302 AllP.nil) ?_
    intro a w h
    obtain ⟨v297, hv301, hF⟩ := of_bind hF
    replace h := h.cast (S' := [(0, .val sh7 v297), (1, .val (.int .i64) (IntKind.i64.wrap ((IntKind.i64.wrap (r292.1 + (1 : Int))) + (1 : Int)))), (5, .val (.int .i64) v266)]) (by cases hv301; kernel_rfl)
    refine wp_reg_seq tok (orc := orcL []) (fz := []) (l := [0, 1, 5]) (c := _) (.inl rfl) h (by kernel_rfl) (AllP.nil) ?_
    intro a w h
    obtain ⟨hc300, hF⟩ := of_if hF
    refine wp_reg_seq tok (orc := orcL []) (fz := []) (l := [0, 1, 5]) (c := _) (.inl rfl) h (by kernel_rfl) (AllP.cons hc300 AllP.nil) ?_
    intro a w h
    obtain ⟨v298, hv299, hF⟩ := of_bind hF
    replace h := h.cast (S' := [(0, .val sh7 v298), (1, .val (.int .i64) (IntKind.i64.wrap ((IntKind.i64.wrap ((IntKind.i64.wrap (r292.1 + (1 : Int))) + (1 : Int))) + (1 : Int)))), (5, .val (.int .i64) v266)]) (by cases hv299; kernel_rfl)
    refine wp_reg tok (orc := orcL []) (fz := []) (l := [0, 1, 5]) (c := _) (.inl rfl) h (by kernel_rfl) (AllP.nil) ?_
    intro a w h
    refine wp_reg tok (orc := orcL []) (fz := []) (l := [0, 1, 5]) (c := _) (.inl rfl) h (by kernel_rfl) (AllP.nil) ?_
    intro a w h
    exact ⟨(v298, (IntKind.i64.wrap ((IntKind.i64.wrap ((IntKind.i64.wrap ((IntKind.i64.wrap (r292.1 + (1 : Int))) + (1 : Int))) + (1 : Int))) + (1 : Int))), (IntKind.i64.wrap (v266 + (1 : Int)))), hF, h.arrive (fz := []) (l := [0, 1, 5]) (.inl rfl) (by kernel_rfl)⟩
  · replace hF := of_f hb hF
    refine wp_exit ?_
    refine wp_reg_seq tok (orc := orcL []) (fz := []) (l := [0, 4]) (c := _) (.inl rfl) h (by kernel_rfl) (AllP.nil) ?_
    intro a w h
    cases hF
    exact wp_ret (retM_ok tok h rfl (by kernel_rfl) (by kernel_rfl)).1

def f72.l50 (k : Nat) : Nat → ((List (ByteArray × ByteArray)) × Int × Int) → Option (Int × (List (ByteArray × ByteArray)))
  | 0, _ => none
  | m50 + 1, (v84, v85, v86) => if (decide ((v86 : Int) < (List.length v84 : Int))) then ((f132 k v85).bind fun r93 => (if (0 ≤ v86 ∧ v86 < (List.length v84 : Int)) then ((f132 k (IntKind.i64.wrap (v85 + (1 : Int)))).bind fun r94 => (if (0 ≤ v86 ∧ v86 < (List.length (List.set v84 (Int.toNat v86) (r93, (List.getD v84 (Int.toNat v86) ((⟨#[]⟩ : ByteArray), (⟨#[]⟩ : ByteArray))).2)) : Int)) then ((f72.l50 k) m50 ((List.set (List.set v84 (Int.toNat v86) (r93, (List.getD v84 (Int.toNat v86) ((⟨#[]⟩ : ByteArray), (⟨#[]⟩ : ByteArray))).2)) (Int.toNat v86) ((List.getD (List.set v84 (Int.toNat v86) (r93, (List.getD v84 (Int.toNat v86) ((⟨#[]⟩ : ByteArray), (⟨#[]⟩ : ByteArray))).2)) (Int.toNat v86) ((⟨#[]⟩ : ByteArray), (⟨#[]⟩ : ByteArray))).1, r94)), (IntKind.i64.wrap ((IntKind.i64.wrap (v85 + (1 : Int))) + (1 : Int))), (IntKind.i64.wrap (v86 + (1 : Int))))) else none)) else none)) else (some (v85, v84))
def f72 (k : Nat) (x0 : (List (ByteArray × ByteArray))) (x1 : Int) : Option (Int × (List (ByteArray × ByteArray))) := f72.l50 k k (x0, x1, (0 : Int))
set_option maxRecDepth 100000 in
/-- 'laws.markTagS'. -/
theorem c72 (k : Nat) (x0 : (List (ByteArray × ByteArray))) (x1 : Int) (r : (Int × (List (ByteArray × ByteArray)))) (hF : f72 k x0 x1 = some r) : PMut Try.prog 72 [⟨sh8, x0⟩, ⟨(.int .i64), x1⟩] [⟨(.int .i64), r.1⟩] (List.set [⟨sh8, x0⟩, ⟨(.int .i64), x1⟩] 0 ⟨sh8, r.2⟩) := by
  refine pmut_intro (j := 0) (fin := ⟨sh8, r.2⟩) Try.func72 rfl rfl (Nat.le_of_ble_eq_true rfl) (Nat.le_of_ble_eq_true rfl) (by kernel_rfl) ?_
  intro w0 Zi f0 v0 a w h
  rw [f72] at hF
  refine wp_reg_seq tok (orc := orcL []) (fz := []) (l := [0, 1]) (c := _) (.inl rfl) h (by kernel_rfl) (AllP.nil) ?_
  intro a w h
  refine wp_seq ?_
  refine wp_reg_seq tok (orc := orcL []) (fz := []) (l := [0, 1, 5]) (c := _) (.inl rfl) h (by kernel_rfl) (AllP.nil) ?_
  intro a w h
  refine wp_block ?_
  refine wp_loop_fuel (f72.l50 k) (fun ((v84, v85, v86) : ((List (ByteArray × ByteArray)) × Int × Int)) => [(0, .val sh8 v84), (1, .val (.int .i64) v85), (5, .val (.int .i64) v86)]) (fun v h => by obtain ⟨v84, v85, v86⟩ := v; rw [f72.l50] at h; cases h) ?_ hF (h.arrive (fz := []) (l := [0, 1, 5]) (.inl rfl) (by kernel_rfl))
  intro m50 v a w hF h
  obtain ⟨v84, v85, v86⟩ := v
  rw [f72.l50] at hF
  refine wp_seq ?_
  refine wp_reg_seq tok (orc := orcL []) (fz := []) (l := [0, 1, 5, 9]) (c := _) (.inl rfl) h (by kernel_rfl) (AllP.nil) ?_
  intro a w h
  refine wp_if h (b := (decide ((v86 : Int) < (List.length v84 : Int)))) (by kernel_rfl) (fun hb => ?_) (fun hb => ?_)
  · replace hF := of_t hb hF
    refine wp_skip ?_
    refine wp_seq <| wp_block ?_
    obtain ⟨r93, hr97, hF⟩ := of_bind hF
    obtain ⟨hc98, hF⟩ := of_if hF
    refine wp_reg_seq tok (orc := orcL [(15, [⟨.str, r93⟩])]) (fz := []) (l := [0, 1, 5]) (c := _) (.inl rfl) h (by kernel_rfl) (AllP.cons (c132 k v85 r93 hr97) (AllP.cons hc98 AllP.nil)) ?_
    intro a w h
    refine wp_reg_seq tok (orc := orcL []) (fz := []) (l := [0, 1, 5]) (c := _) (.inl rfl) h (by kernel_rfl) (AllP.nil) ?_
    intro a w h
    obtain ⟨r94, hr95, hF⟩ := of_bind hF
    obtain ⟨hc96, hF⟩ := of_if hF
    refine wp_reg_seq tok (orc := orcL [(23, [⟨.str, r94⟩])]) (fz := []) (l := [0, 1, 5]) (c := _) (.inl rfl) h (by kernel_rfl) (AllP.cons (c132 k (IntKind.i64.wrap (v85 + (1 : Int))) r94 hr95) (AllP.cons hc96 AllP.nil)) ?_
    intro a w h
    refine wp_reg tok (orc := orcL []) (fz := []) (l := [0, 1, 5]) (c := _) (.inl rfl) h (by kernel_rfl) (AllP.nil) ?_
    intro a w h
    refine wp_reg tok (orc := orcL []) (fz := []) (l := [0, 1, 5]) (c := _) (.inl rfl) h (by kernel_rfl) (AllP.nil) ?_
    intro a w h
    exact ⟨((List.set (List.set v84 (Int.toNat v86) (r93, (List.getD v84 (Int.toNat v86) ((⟨#[]⟩ : ByteArray), (⟨#[]⟩ : ByteArray))).2)) (Int.toNat v86) ((List.getD (List.set v84 (Int.toNat v86) (r93, (List.getD v84 (Int.toNat v86) ((⟨#[]⟩ : ByteArray), (⟨#[]⟩ : ByteArray))).2)) (Int.toNat v86) ((⟨#[]⟩ : ByteArray), (⟨#[]⟩ : ByteArray))).1, r94)), (IntKind.i64.wrap ((IntKind.i64.wrap (v85 + (1 : Int))) + (1 : Int))), (IntKind.i64.wrap (v86 + (1 : Int)))), hF, h.arrive (fz := []) (l := [0, 1, 5]) (.inl rfl) (by kernel_rfl)⟩
  · replace hF := of_f hb hF
    refine wp_exit ?_
    refine wp_reg_seq tok (orc := orcL []) (fz := []) (l := [0, 4]) (c := _) (.inl rfl) h (by kernel_rfl) (AllP.nil) ?_
    intro a w h
    cases hF
    exact wp_ret (retM_ok tok h rfl (by kernel_rfl) (by kernel_rfl)).1

def f73 (k : Nat) (x0 : (Int × (Int × ((List (ByteArray × (Int × ByteArray))) × (Bool × (ByteArray × (Int × Int))))))) (x1 : Int) : Option (Int × (Int × (Int × ((List (ByteArray × (Int × ByteArray))) × (Bool × (ByteArray × (Int × Int))))))) := (f131 k x0.2.2.1 x1).bind fun r1 => (some (r1.1, (x0.1, (x0.2.1, (r1.2, x0.2.2.2)))))
set_option maxRecDepth 100000 in
/-- 'laws.markRule'. -/
theorem c73 (k : Nat) (x0 : (Int × (Int × ((List (ByteArray × (Int × ByteArray))) × (Bool × (ByteArray × (Int × Int))))))) (x1 : Int) (r : (Int × (Int × (Int × ((List (ByteArray × (Int × ByteArray))) × (Bool × (ByteArray × (Int × Int)))))))) (hF : f73 k x0 x1 = some r) : PMut Try.prog 73 [⟨sh6, x0⟩, ⟨(.int .i64), x1⟩] [⟨(.int .i64), r.1⟩] (List.set [⟨sh6, x0⟩, ⟨(.int .i64), x1⟩] 0 ⟨sh6, r.2⟩) := by
  refine pmut_intro (j := 0) (fin := ⟨sh6, r.2⟩) Try.func73 rfl rfl (Nat.le_of_ble_eq_true rfl) (Nat.le_of_ble_eq_true rfl) (by kernel_rfl) ?_
  intro w0 Zi f0 v0 a w h
  rw [f73] at hF
  refine wp_reg_seq tok (orc := orcL []) (fz := []) (l := [0, 1, 2]) (c := _) (.inl rfl) h (by kernel_rfl) (AllP.nil) ?_
  intro a w h
  obtain ⟨r1, hr2, hF⟩ := of_bind hF
  refine wp_reg_seq tok (orc := orcL [(8, [⟨.pt false 4294967295 (.sl true 154 (.st (.pair .str (.pair (.int .i64) .str)))), some r1.2⟩, ⟨(.int .i64), r1.1⟩])]) (fz := []) (l := [0, 1, 2]) (c := _) (.inl rfl) h (by kernel_rfl) (AllP.cons (c131 k x0.2.2.1 x1 r1 hr2) AllP.nil) ?_
  intro a w h
  refine wp_reg_seq tok (orc := orcL []) (fz := []) (l := [0, 2, 4]) (c := _) (.inl rfl) h (by kernel_rfl) (AllP.nil) ?_
  intro a w h
  cases hF
  exact wp_ret (retMS_ok (d := 2) (t := 82) tok h rfl (by kernel_rfl) (by kernel_rfl)).1

def f133.l52 (k : Nat) (x0 : (List (ByteArray × (Int × ByteArray)))) : Nat → (Int × Int) → Option Int
  | 0, _ => none
  | m52 + 1, (v87, v88) => if (decide ((v88 : Int) < (List.length x0 : Int))) then (if (0 ≤ v88 ∧ v88 < (List.length x0 : Int)) then ((f132 k v87).bind fun r96 => (if (!(ByteArray.toList (List.getD x0 (Int.toNat v88) ((⟨#[]⟩ : ByteArray), ((0 : Int), (⟨#[]⟩ : ByteArray)))).1 == ByteArray.toList r96)) then (some (-1 : Int)) else (if (0 ≤ v88 ∧ v88 < (List.length x0 : Int)) then (if (((List.getD x0 (Int.toNat v88) ((⟨#[]⟩ : ByteArray), ((0 : Int), (⟨#[]⟩ : ByteArray)))).2.1 : Int) != (IntKind.i64.wrap (v87 + (1 : Int)))) then (some (-1 : Int)) else (if (0 ≤ v88 ∧ v88 < (List.length x0 : Int)) then ((f132 k (IntKind.i64.wrap ((IntKind.i64.wrap (v87 + (1 : Int))) + (1 : Int)))).bind fun r97 => (if (!(ByteArray.toList (List.getD x0 (Int.toNat v88) ((⟨#[]⟩ : ByteArray), ((0 : Int), (⟨#[]⟩ : ByteArray)))).2.2 == ByteArray.toList r97)) then (some (-1 : Int)) else ((f133.l52 k x0) m52 ((IntKind.i64.wrap ((IntKind.i64.wrap ((IntKind.i64.wrap (v87 + (1 : Int))) + (1 : Int))) + (1 : Int))), (IntKind.i64.wrap (v88 + (1 : Int))))))) else none)) else none))) else none) else (some v87)
def f133 (k : Nat) (x0 : (List (ByteArray × (Int × ByteArray)))) (x1 : Int) : Option Int := f133.l52 k x0 k (x1, (0 : Int))
set_option maxRecDepth 100000 in
/-- 'laws.heldTestS'. -/
theorem c133 (k : Nat) (x0 : (List (ByteArray × (Int × ByteArray)))) (x1 : Int) (r : Int) (hF : f133 k x0 x1 = some r) : PCall Try.prog 133 [⟨sh15, x0⟩, ⟨(.int .i64), x1⟩] [⟨(.int .i64), r⟩] := by
  refine pcall_intro Try.func133 rfl rfl (Nat.le_of_ble_eq_true rfl) ?_
  intro w0 Zi a w h
  rw [f133] at hF
  refine wp_reg_seq tok (orc := orcL []) (fz := []) (l := [0, 1]) (c := _) (.inr fun i h => h) h (by kernel_rfl) (AllP.nil) ?_
  intro a w h
  refine wp_seq ?_
  refine wp_reg_seq tok (orc := orcL []) (fz := []) (l := [0, 1, 5]) (c := _) (.inr fun i h => h) h (by kernel_rfl) (AllP.nil) ?_
  intro a w h
  refine wp_block ?_
  refine wp_loop_fuel (f133.l52 k x0) (fun ((v87, v88) : (Int × Int)) => [(0, .val sh15 x0), (1, .val (.int .i64) v87), (5, .val (.int .i64) v88)]) (fun v h => by obtain ⟨v87, v88⟩ := v; rw [f133.l52] at h; cases h) ?_ hF (h.arrive (fz := []) (l := [0, 1, 5]) (.inr fun i h => h) (by kernel_rfl))
  intro m52 v a w hF h
  obtain ⟨v87, v88⟩ := v
  rw [f133.l52] at hF
  refine wp_seq ?_
  refine wp_reg_seq tok (orc := orcL []) (fz := []) (l := [0, 1, 5, 9]) (c := _) (.inr fun i h => h) h (by kernel_rfl) (AllP.nil) ?_
  intro a w h
  refine wp_if h (b := (decide ((v88 : Int) < (List.length x0 : Int)))) (by kernel_rfl) (fun hb => ?_) (fun hb => ?_)
  · replace hF := of_t hb hF
    refine wp_skip ?_
    refine wp_seq <| wp_block ?_
    refine wp_seq ?_
    obtain ⟨hc101, hF⟩ := of_if hF
    obtain ⟨r96, hr102, hF⟩ := of_bind hF
    refine wp_regy_seq tok (orc := orcL [(18, [⟨.str, r96⟩])]) (fz := []) (l := [0, 1, 5, 19]) (c := _) ([], [], [], []) 8 (.inr fun i h => h) h (by kernel_rfl) (by kernel_rfl) (AllP.cons hc101 (AllP.cons (c132 k v87 r96 hr102) AllP.nil)) ?_
    intro a w h
    refine wp_if h (b := (!(ByteArray.toList (List.getD x0 (Int.toNat v88) ((⟨#[]⟩ : ByteArray), ((0 : Int), (⟨#[]⟩ : ByteArray)))).1 == ByteArray.toList r96))) (by kernel_rfl) (fun hb => ?_) (fun hb => ?_)
    · replace hF := of_t hb hF
      refine wp_reg_seq tok (orc := orcL []) (fz := []) (l := [4]) (c := _) (.inr fun i h => h) h (by kernel_rfl) (AllP.nil) ?_
      intro a w h
      cases hF
      exact wp_ret (ret_okR tok h rfl (by kernel_rfl)).1
    · replace hF := of_f hb hF
      refine wp_skip ?_
      refine wp_reg_seq tok (orc := orcL []) (fz := []) (l := [0, 1, 5]) (c := _) (.inr fun i h => h) h (by kernel_rfl) (AllP.nil) ?_
      intro a w h
      refine wp_seq ?_
      obtain ⟨hc100, hF⟩ := of_if hF
      refine wp_reg_seq tok (orc := orcL []) (fz := []) (l := [0, 1, 5, 28]) (c := _) (.inr fun i h => h) h (by kernel_rfl) (AllP.cons hc100 AllP.nil) ?_
      intro a w h
      refine wp_if h (b := (((List.getD x0 (Int.toNat v88) ((⟨#[]⟩ : ByteArray), ((0 : Int), (⟨#[]⟩ : ByteArray)))).2.1 : Int) != (IntKind.i64.wrap (v87 + (1 : Int))))) (by kernel_rfl) (fun hb => ?_) (fun hb => ?_)
      · replace hF := of_t hb hF
        refine wp_reg_seq tok (orc := orcL []) (fz := []) (l := [4]) (c := _) (.inr fun i h => h) h (by kernel_rfl) (AllP.nil) ?_
        intro a w h
        cases hF
        exact wp_ret (ret_okR tok h rfl (by kernel_rfl)).1
      · replace hF := of_f hb hF
        refine wp_skip ?_
        refine wp_reg_seq tok (orc := orcL []) (fz := []) (l := [0, 1, 5]) (c := _) (.inr fun i h => h) h (by kernel_rfl) (AllP.nil) ?_
        intro a w h
        refine wp_seq ?_
        obtain ⟨hc98, hF⟩ := of_if hF
        obtain ⟨r97, hr99, hF⟩ := of_bind hF
        refine wp_regy_seq tok (orc := orcL [(37, [⟨.str, r97⟩])]) (fz := []) (l := [0, 1, 5, 38]) (c := _) ([], [], [], []) 8 (.inr fun i h => h) h (by kernel_rfl) (by kernel_rfl) (AllP.cons hc98 (AllP.cons (c132 k (IntKind.i64.wrap ((IntKind.i64.wrap (v87 + (1 : Int))) + (1 : Int))) r97 hr99) AllP.nil)) ?_
        intro a w h
        refine wp_if h (b := (!(ByteArray.toList (List.getD x0 (Int.toNat v88) ((⟨#[]⟩ : ByteArray), ((0 : Int), (⟨#[]⟩ : ByteArray)))).2.2 == ByteArray.toList r97))) (by kernel_rfl) (fun hb => ?_) (fun hb => ?_)
        · replace hF := of_t hb hF
          refine wp_reg_seq tok (orc := orcL []) (fz := []) (l := [4]) (c := _) (.inr fun i h => h) h (by kernel_rfl) (AllP.nil) ?_
          intro a w h
          cases hF
          exact wp_ret (ret_okR tok h rfl (by kernel_rfl)).1
        · replace hF := of_f hb hF
          refine wp_skip ?_
          refine wp_reg tok (orc := orcL []) (fz := []) (l := [0, 1, 5]) (c := _) (.inr fun i h => h) h (by kernel_rfl) (AllP.nil) ?_
          intro a w h
          refine wp_reg tok (orc := orcL []) (fz := []) (l := [0, 1, 5]) (c := _) (.inr fun i h => h) h (by kernel_rfl) (AllP.nil) ?_
          intro a w h
          exact ⟨((IntKind.i64.wrap ((IntKind.i64.wrap ((IntKind.i64.wrap (v87 + (1 : Int))) + (1 : Int))) + (1 : Int))), (IntKind.i64.wrap (v88 + (1 : Int)))), hF, h.arrive (fz := []) (l := [0, 1, 5]) (.inr fun i h => h) (by kernel_rfl)⟩
  · replace hF := of_f hb hF
    refine wp_exit ?_
    refine wp_reg_seq tok (orc := orcL []) (fz := []) (l := [4]) (c := _) (.inr fun i h => h) h (by kernel_rfl) (AllP.nil) ?_
    intro a w h
    cases hF
    exact wp_ret (ret_okR tok h rfl (by kernel_rfl)).1

def f74 (k : Nat) (x0 : (Int × (Int × ((List (ByteArray × (Int × ByteArray))) × (Bool × (ByteArray × (Int × Int))))))) (x1 : Int) : Option Int := (f133 k x0.2.2.1 x1).bind fun r1 => (if (decide ((r1 : Int) < (0 : Int))) then (some (-1 : Int)) else (some r1))
set_option maxRecDepth 100000 in
/-- 'laws.heldRule'. -/
theorem c74 (k : Nat) (x0 : (Int × (Int × ((List (ByteArray × (Int × ByteArray))) × (Bool × (ByteArray × (Int × Int))))))) (x1 : Int) (r : Int) (hF : f74 k x0 x1 = some r) : PCall Try.prog 74 [⟨sh12, x0⟩, ⟨(.int .i64), x1⟩] [⟨(.int .i64), r⟩] := by
  refine pcall_intro Try.func74 rfl rfl (Nat.le_of_ble_eq_true rfl) ?_
  intro w0 Zi a w h
  rw [f74] at hF
  refine wp_reg_seq tok (orc := orcL []) (fz := []) (l := [1, 2]) (c := _) (.inr fun i h => h) h (by kernel_rfl) (AllP.nil) ?_
  intro a w h
  obtain ⟨r1, hr2, hF⟩ := of_bind hF
  refine wp_reg_seq tok (orc := orcL [(8, [⟨(.int .i64), r1⟩])]) (fz := []) (l := [1]) (c := _) (.inr fun i h => h) h (by kernel_rfl) (AllP.cons (c133 k x0.2.2.1 x1 r1 hr2) AllP.nil) ?_
  intro a w h
  refine wp_seq ?_
  refine wp_reg_seq tok (orc := orcL []) (fz := []) (l := [1, 10]) (c := _) (.inr fun i h => h) h (by kernel_rfl) (AllP.nil) ?_
  intro a w h
  refine wp_if h (b := (decide ((r1 : Int) < (0 : Int)))) (by kernel_rfl) (fun hb => ?_) (fun hb => ?_)
  · replace hF := of_t hb hF
    refine wp_reg_seq tok (orc := orcL []) (fz := []) (l := [4]) (c := _) (.inr fun i h => h) h (by kernel_rfl) (AllP.nil) ?_
    intro a w h
    cases hF
    exact wp_ret (ret_okR tok h rfl (by kernel_rfl)).1
  · replace hF := of_f hb hF
    refine wp_skip ?_
    refine wp_reg_seq tok (orc := orcL []) (fz := []) (l := [4]) (c := _) (.inr fun i h => h) h (by kernel_rfl) (AllP.nil) ?_
    intro a w h
    cases hF
    exact wp_ret (ret_okR tok h rfl (by kernel_rfl)).1

def f14 (k : Nat) (x0 : (List (Int × (Int × ((List (ByteArray × (Int × ByteArray))) × (Bool × (ByteArray × (Int × Int)))))))) (x1 : (List (ByteArray × ByteArray))) (x2 : Int) : Option Bool := (f66 k x0 (1048576 : Int)).bind fun r1 => (if (decide ((r1 : Int) < (0 : Int))) then (some true) else ((f18 k x1 r1).bind fun r2 => (if (decide ((r2 : Int) < (0 : Int))) then (some true) else ((f68 k x0).bind fun r3 => ((f20 k x1).bind fun r4 => ((f67 k r3 r4 x2).bind fun r5 => ((f68 k x0).bind fun r6 => ((f20 k x1).bind fun r7 => ((f69 k r6 r7 x2).bind fun r8 => ((f55 k r8.1 r5.1).bind fun r9 => (if (bif (!r9) then true else (!((r8.2 : Bool) == r5.2))) then (some false) else ((f68 k x0).bind fun r10 => ((f70 k r6 r10).bind fun r11 => (if (!r11) then (some false) else ((f20 k x1).bind fun r12 => ((f22 k r7 r12).bind fun r13 => (if (!r13) then (some false) else ((f71 k r6 (1 : Int)).bind fun r14 => ((f72 k r7 r14.1).bind fun r15 => ((if ((decide ((r15.1 : Int) < (0 : Int))) = false) then f55 k r8.1 r5.1 else some default).bind fun r16 => (if (bif (bif (decide ((r15.1 : Int) < (0 : Int))) then true else (!r16)) then true else (!((r8.2 : Bool) == r5.2))) then (some false) else ((f73 k r8.1 (1 : Int)).bind fun r17 => ((f74 k r17.2 (1 : Int)).bind fun r18 => (if (decide ((r18 : Int) < (0 : Int))) then (some false) else (if ((r18 : Int) != r17.1) then (some false) else ((f68 k x0).bind fun r19 => ((f20 k x1).bind fun r20 => ((f69 k r19 r20 x2).bind fun r21 => ((f55 k r21.1 r5.1).bind fun r22 => (if (bif (!r22) then true else (!((r21.2 : Bool) == r5.2))) then (some false) else ((f74 k r17.2 (1 : Int)).bind fun r23 => (if (decide ((r23 : Int) < (0 : Int))) then (some false) else (if ((r23 : Int) != r17.1) then (some false) else (some true))))))))))))))))))))))))))))))))))
set_option maxRecDepth 100000 in
/-- 'laws.FnExactPaint'. -/
theorem c14 (k : Nat) (x0 : (List (Int × (Int × ((List (ByteArray × (Int × ByteArray))) × (Bool × (ByteArray × (Int × Int)))))))) (x1 : (List (ByteArray × ByteArray))) (x2 : Int) (r : Bool) (hF : f14 k x0 x1 x2 = some r) : PCall Try.prog 14 [⟨sh3, x0⟩, ⟨sh4, x1⟩, ⟨(.int .i64), x2⟩] [⟨.bool, r⟩] := by
  refine pcall_intro Try.func14 rfl rfl (Nat.le_of_ble_eq_true rfl) ?_
  intro w0 Zi a w h
  rw [f14] at hF
  refine wp_reg_seq tok (orc := orcL []) (fz := []) (l := [0, 1, 2]) (c := _) (.inr fun i h => h) h (by kernel_rfl) (AllP.nil) ?_
  intro a w h
  refine wp_reg_seq tok (orc := orcL []) (fz := []) (l := [0, 1, 2, 7]) (c := _) (.inr fun i h => h) h (by kernel_rfl) (AllP.nil) ?_
  intro a w h
  obtain ⟨r1, hr46, hF⟩ := of_bind hF
  refine wp_reg_seq tok (orc := orcL [(21, [⟨(.int .i64), r1⟩])]) (fz := []) (l := [0, 1, 2, 7]) (c := _) (.inr fun i h => h) h (by kernel_rfl) (AllP.cons (c66 k x0 (1048576 : Int) r1 hr46) AllP.nil) ?_
  intro a w h
  refine wp_seq ?_
  refine wp_reg_seq tok (orc := orcL []) (fz := []) (l := [0, 1, 2, 7, 23]) (c := _) (.inr fun i h => h) h (by kernel_rfl) (AllP.nil) ?_
  intro a w h
  refine wp_if h (b := (decide ((r1 : Int) < (0 : Int)))) (by kernel_rfl) (fun hb => ?_) (fun hb => ?_)
  · replace hF := of_t hb hF
    refine wp_reg_seq tok (orc := orcL []) (fz := []) (l := [6]) (c := _) (.inr fun i h => h) h (by kernel_rfl) (AllP.nil) ?_
    intro a w h
    cases hF
    exact wp_ret (ret_okR tok h rfl (by kernel_rfl)).1
  · replace hF := of_f hb hF
    refine wp_skip ?_
    obtain ⟨r2, hr45, hF⟩ := of_bind hF
    refine wp_reg_seq tok (orc := orcL [(26, [⟨(.int .i64), r2⟩])]) (fz := []) (l := [0, 1, 2, 7]) (c := _) (.inr fun i h => h) h (by kernel_rfl) (AllP.cons (c18 k x1 r1 r2 hr45) AllP.nil) ?_
    intro a w h
    refine wp_seq ?_
    refine wp_reg_seq tok (orc := orcL []) (fz := []) (l := [0, 1, 2, 28]) (c := _) (.inr fun i h => h) h (by kernel_rfl) (AllP.nil) ?_
    intro a w h
    refine wp_if h (b := (decide ((r2 : Int) < (0 : Int)))) (by kernel_rfl) (fun hb => ?_) (fun hb => ?_)
    · replace hF := of_t hb hF
      refine wp_reg_seq tok (orc := orcL []) (fz := []) (l := [6]) (c := _) (.inr fun i h => h) h (by kernel_rfl) (AllP.nil) ?_
      intro a w h
      cases hF
      exact wp_ret (ret_okR tok h rfl (by kernel_rfl)).1
    · replace hF := of_f hb hF
      refine wp_skip ?_
      obtain ⟨r3, hr42, hF⟩ := of_bind hF
      obtain ⟨r4, hr43, hF⟩ := of_bind hF
      obtain ⟨r5, hr44, hF⟩ := of_bind hF
      refine wp_reg_seq tok (orc := orcL [(31, [⟨sh7, r3⟩]), (33, [⟨sh8, r4⟩]), (35, [⟨sh6, r5.1⟩, ⟨.bool, r5.2⟩]), (29, [⟨.pt false 4294967292 .unit, some ()⟩])]) (fz := []) (l := [0, 1, 2, 8, 9]) (c := _) (.inr fun i h => h) h (by kernel_rfl) (AllP.cons (c68 k x0 r3 hr42) (AllP.cons (c20 k x1 r4 hr43) (AllP.cons (c67 k r3 r4 x2 r5 hr44) AllP.nil))) ?_
      intro a w h
      obtain ⟨r6, hr41, hF⟩ := of_bind hF
      refine wp_reg_seq tok (orc := orcL [(39, [⟨sh7, r6⟩])]) (fz := []) (l := [0, 1, 2, 8, 9, 10]) (c := _) (.inr fun i h => h) h (by kernel_rfl) (AllP.cons (c68 k x0 r6 hr41) AllP.nil) ?_
      intro a w h
      obtain ⟨r7, hr40, hF⟩ := of_bind hF
      refine wp_reg_seq tok (orc := orcL [(41, [⟨sh8, r7⟩])]) (fz := []) (l := [0, 1, 2, 8, 9, 10, 11]) (c := _) (.inr fun i h => h) h (by kernel_rfl) (AllP.cons (c20 k x1 r7 hr40) AllP.nil) ?_
      intro a w h
      obtain ⟨r8, hr39, hF⟩ := of_bind hF
      refine wp_reg_seq tok (orc := orcL [(46, [⟨sh6, r8.1⟩, ⟨.bool, r8.2⟩]), (42, [⟨.pt false 4294967292 .unit, some ()⟩])]) (fz := []) (l := [0, 1, 2, 8, 9, 10, 11, 12, 13]) (c := _) (.inr fun i h => h) h (by kernel_rfl) (AllP.cons (c69 k r6 r7 x2 r8 hr39) AllP.nil) ?_
      intro a w h
      refine wp_seq ?_
      obtain ⟨r9, hr38, hF⟩ := of_bind hF
      refine wp_reg_seq tok (orc := orcL [(51, [⟨.bool, r9⟩])]) (fz := []) (l := [0, 1, 2, 8, 9, 10, 11, 12, 13, 57]) (c := _) (.inr fun i h => h) h (by kernel_rfl) (AllP.cons (c55 k r8.1 r5.1 r9 hr38) AllP.nil) ?_
      intro a w h
      refine wp_if h (b := (bif (!r9) then true else (!((r8.2 : Bool) == r5.2)))) (by kernel_rfl) (fun hb => ?_) (fun hb => ?_)
      · replace hF := of_t hb hF
        refine wp_reg_seq tok (orc := orcL []) (fz := []) (l := [6]) (c := _) (.inr fun i h => h) h (by kernel_rfl) (AllP.nil) ?_
        intro a w h
        cases hF
        exact wp_ret (ret_okR tok h rfl (by kernel_rfl)).1
      · replace hF := of_f hb hF
        refine wp_skip ?_
        refine wp_seq ?_
        obtain ⟨r10, hr36, hF⟩ := of_bind hF
        obtain ⟨r11, hr37, hF⟩ := of_bind hF
        refine wp_reg_seq tok (orc := orcL [(60, [⟨sh7, r10⟩]), (61, [⟨.bool, r11⟩])]) (fz := []) (l := [0, 1, 2, 8, 9, 10, 11, 12, 13, 62]) (c := _) (.inr fun i h => h) h (by kernel_rfl) (AllP.cons (c68 k x0 r10 hr36) (AllP.cons (c70 k r6 r10 r11 hr37) AllP.nil)) ?_
        intro a w h
        refine wp_if h (b := (!r11)) (by kernel_rfl) (fun hb => ?_) (fun hb => ?_)
        · replace hF := of_t hb hF
          refine wp_reg_seq tok (orc := orcL []) (fz := []) (l := [6]) (c := _) (.inr fun i h => h) h (by kernel_rfl) (AllP.nil) ?_
          intro a w h
          cases hF
          exact wp_ret (ret_okR tok h rfl (by kernel_rfl)).1
        · replace hF := of_f hb hF
          refine wp_skip ?_
          refine wp_seq ?_
          obtain ⟨r12, hr34, hF⟩ := of_bind hF
          obtain ⟨r13, hr35, hF⟩ := of_bind hF
          refine wp_reg_seq tok (orc := orcL [(65, [⟨sh8, r12⟩]), (66, [⟨.bool, r13⟩])]) (fz := []) (l := [0, 1, 2, 8, 9, 10, 11, 12, 13, 67]) (c := _) (.inr fun i h => h) h (by kernel_rfl) (AllP.cons (c20 k x1 r12 hr34) (AllP.cons (c22 k r7 r12 r13 hr35) AllP.nil)) ?_
          intro a w h
          refine wp_if h (b := (!r13)) (by kernel_rfl) (fun hb => ?_) (fun hb => ?_)
          · replace hF := of_t hb hF
            refine wp_reg_seq tok (orc := orcL []) (fz := []) (l := [6]) (c := _) (.inr fun i h => h) h (by kernel_rfl) (AllP.nil) ?_
            intro a w h
            cases hF
            exact wp_ret (ret_okR tok h rfl (by kernel_rfl)).1
          · replace hF := of_f hb hF
            refine wp_skip ?_
            refine wp_reg_seq tok (orc := orcL []) (fz := []) (l := [0, 1, 2, 8, 9, 10, 11, 12, 13, 14]) (c := _) (.inr fun i h => h) h (by kernel_rfl) (AllP.nil) ?_
            intro a w h
            obtain ⟨r14, hr33, hF⟩ := of_bind hF
            refine wp_reg_seq tok (orc := orcL [(70, [⟨.pt false 4294967295 (.sl true 82 (.st (.pair (.int .i64) (.pair (.int .i64) (.pair (.sl true 154 (.st (.pair .str (.pair (.int .i64) .str)))) (.pair .bool (.pair .str (.pair (.int .i64) (.int .i64))))))))), some r14.2⟩, ⟨(.int .i64), r14.1⟩])]) (fz := []) (l := [0, 1, 2, 8, 9, 11, 12, 13, 14]) (c := _) (.inr fun i h => h) h (by kernel_rfl) (AllP.cons (c71 k r6 (1 : Int) r14 hr33) AllP.nil) ?_
            intro a w h
            obtain ⟨r15, hr32, hF⟩ := of_bind hF
            refine wp_reg_seq tok (orc := orcL [(73, [⟨.pt false 4294967295 (.sl true 129 (.st (.pair .str .str))), some r15.2⟩, ⟨(.int .i64), r15.1⟩])]) (fz := []) (l := [0, 1, 2, 8, 9, 12, 13, 14]) (c := _) (.inr fun i h => h) h (by kernel_rfl) (AllP.cons (c72 k r7 r14.1 r15 hr32) AllP.nil) ?_
            intro a w h
            refine wp_seq ?_
            obtain ⟨r16, hr31, hF⟩ := of_bind hF
            refine wp_reg_seq tok (orc := orcL [(79, [⟨.bool, r16⟩])]) (fz := []) (l := [0, 1, 2, 8, 9, 12, 86]) (c := _) (.inr fun i h => h) h (by kernel_rfl) (AllP.cons (fun (hg : ((decide ((r15.1 : Int) < (0 : Int))) = false)) => c55 k r8.1 r5.1 r16 (of_g hg hr31)) AllP.nil) ?_
            intro a w h
            refine wp_if h (b := (bif (bif (decide ((r15.1 : Int) < (0 : Int))) then true else (!r16)) then true else (!((r8.2 : Bool) == r5.2)))) (by kernel_rfl) (fun hb => ?_) (fun hb => ?_)
            · replace hF := of_t hb hF
              refine wp_reg_seq tok (orc := orcL []) (fz := []) (l := [6]) (c := _) (.inr fun i h => h) h (by kernel_rfl) (AllP.nil) ?_
              intro a w h
              cases hF
              exact wp_ret (ret_okR tok h rfl (by kernel_rfl)).1
            · replace hF := of_f hb hF
              refine wp_skip ?_
              refine wp_reg_seq tok (orc := orcL []) (fz := []) (l := [0, 1, 2, 8, 9, 12, 15]) (c := _) (.inr fun i h => h) h (by kernel_rfl) (AllP.nil) ?_
              intro a w h
              obtain ⟨r17, hr30, hF⟩ := of_bind hF
              refine wp_reg_seq tok (orc := orcL [(89, [⟨.pt false 4294967295 (.st (.pair (.int .i64) (.pair (.int .i64) (.pair (.sl true 154 (.st (.pair .str (.pair (.int .i64) .str)))) (.pair .bool (.pair .str (.pair (.int .i64) (.int .i64)))))))), some r17.2⟩, ⟨(.int .i64), r17.1⟩])]) (fz := []) (l := [0, 1, 2, 8, 9, 12, 15]) (c := _) (.inr fun i h => h) h (by kernel_rfl) (AllP.cons (c73 k r8.1 (1 : Int) r17 hr30) AllP.nil) ?_
              intro a w h
              refine wp_reg_seq tok (orc := orcL []) (fz := []) (l := [0, 1, 2, 8, 9, 12, 15, 16]) (c := _) (.inr fun i h => h) h (by kernel_rfl) (AllP.nil) ?_
              intro a w h
              obtain ⟨r18, hr29, hF⟩ := of_bind hF
              refine wp_reg_seq tok (orc := orcL [(92, [⟨(.int .i64), r18⟩])]) (fz := []) (l := [0, 1, 2, 8, 9, 12, 15, 16]) (c := _) (.inr fun i h => h) h (by kernel_rfl) (AllP.cons (c74 k r17.2 (1 : Int) r18 hr29) AllP.nil) ?_
              intro a w h
              refine wp_seq ?_
              refine wp_reg_seq tok (orc := orcL []) (fz := []) (l := [0, 1, 2, 8, 9, 12, 15, 16, 94]) (c := _) (.inr fun i h => h) h (by kernel_rfl) (AllP.nil) ?_
              intro a w h
              refine wp_if h (b := (decide ((r18 : Int) < (0 : Int)))) (by kernel_rfl) (fun hb => ?_) (fun hb => ?_)
              · replace hF := of_t hb hF
                refine wp_reg_seq tok (orc := orcL []) (fz := []) (l := [6]) (c := _) (.inr fun i h => h) h (by kernel_rfl) (AllP.nil) ?_
                intro a w h
                cases hF
                exact wp_ret (ret_okR tok h rfl (by kernel_rfl)).1
              · replace hF := of_f hb hF
                refine wp_skip ?_
                refine wp_seq ?_
                refine wp_reg_seq tok (orc := orcL []) (fz := []) (l := [0, 1, 2, 8, 9, 12, 15, 97]) (c := _) (.inr fun i h => h) h (by kernel_rfl) (AllP.nil) ?_
                intro a w h
                refine wp_if h (b := ((r18 : Int) != r17.1)) (by kernel_rfl) (fun hb => ?_) (fun hb => ?_)
                · replace hF := of_t hb hF
                  refine wp_reg_seq tok (orc := orcL []) (fz := []) (l := [6]) (c := _) (.inr fun i h => h) h (by kernel_rfl) (AllP.nil) ?_
                  intro a w h
                  cases hF
                  exact wp_ret (ret_okR tok h rfl (by kernel_rfl)).1
                · replace hF := of_f hb hF
                  refine wp_skip ?_
                  obtain ⟨r19, hr26, hF⟩ := of_bind hF
                  obtain ⟨r20, hr27, hF⟩ := of_bind hF
                  obtain ⟨r21, hr28, hF⟩ := of_bind hF
                  refine wp_reg_seq tok (orc := orcL [(100, [⟨sh7, r19⟩]), (102, [⟨sh8, r20⟩]), (104, [⟨sh6, r21.1⟩, ⟨.bool, r21.2⟩]), (98, [⟨.pt false 4294967292 .unit, some ()⟩])]) (fz := []) (l := [8, 9, 12, 15, 17, 18]) (c := _) (.inr fun i h => h) h (by kernel_rfl) (AllP.cons (c68 k x0 r19 hr26) (AllP.cons (c20 k x1 r20 hr27) (AllP.cons (c69 k r19 r20 x2 r21 hr28) AllP.nil))) ?_
                  intro a w h
                  refine wp_seq ?_
                  obtain ⟨r22, hr25, hF⟩ := of_bind hF
                  refine wp_reg_seq tok (orc := orcL [(109, [⟨.bool, r22⟩])]) (fz := []) (l := [12, 15, 115]) (c := _) (.inr fun i h => h) h (by kernel_rfl) (AllP.cons (c55 k r21.1 r5.1 r22 hr25) AllP.nil) ?_
                  intro a w h
                  refine wp_if h (b := (bif (!r22) then true else (!((r21.2 : Bool) == r5.2)))) (by kernel_rfl) (fun hb => ?_) (fun hb => ?_)
                  · replace hF := of_t hb hF
                    refine wp_reg_seq tok (orc := orcL []) (fz := []) (l := [6]) (c := _) (.inr fun i h => h) h (by kernel_rfl) (AllP.nil) ?_
                    intro a w h
                    cases hF
                    exact wp_ret (ret_okR tok h rfl (by kernel_rfl)).1
                  · replace hF := of_f hb hF
                    refine wp_skip ?_
                    refine wp_reg_seq tok (orc := orcL []) (fz := []) (l := [12, 15, 16]) (c := _) (.inr fun i h => h) h (by kernel_rfl) (AllP.nil) ?_
                    intro a w h
                    obtain ⟨r23, hr24, hF⟩ := of_bind hF
                    refine wp_reg_seq tok (orc := orcL [(118, [⟨(.int .i64), r23⟩])]) (fz := []) (l := [15, 16]) (c := _) (.inr fun i h => h) h (by kernel_rfl) (AllP.cons (c74 k r17.2 (1 : Int) r23 hr24) AllP.nil) ?_
                    intro a w h
                    refine wp_seq ?_
                    refine wp_reg_seq tok (orc := orcL []) (fz := []) (l := [15, 16, 120]) (c := _) (.inr fun i h => h) h (by kernel_rfl) (AllP.nil) ?_
                    intro a w h
                    refine wp_if h (b := (decide ((r23 : Int) < (0 : Int)))) (by kernel_rfl) (fun hb => ?_) (fun hb => ?_)
                    · replace hF := of_t hb hF
                      refine wp_reg_seq tok (orc := orcL []) (fz := []) (l := [6]) (c := _) (.inr fun i h => h) h (by kernel_rfl) (AllP.nil) ?_
                      intro a w h
                      cases hF
                      exact wp_ret (ret_okR tok h rfl (by kernel_rfl)).1
                    · replace hF := of_f hb hF
                      refine wp_skip ?_
                      refine wp_seq ?_
                      refine wp_reg_seq tok (orc := orcL []) (fz := []) (l := [123]) (c := _) (.inr fun i h => h) h (by kernel_rfl) (AllP.nil) ?_
                      intro a w h
                      refine wp_if h (b := ((r23 : Int) != r17.1)) (by kernel_rfl) (fun hb => ?_) (fun hb => ?_)
                      · replace hF := of_t hb hF
                        refine wp_reg_seq tok (orc := orcL []) (fz := []) (l := [6]) (c := _) (.inr fun i h => h) h (by kernel_rfl) (AllP.nil) ?_
                        intro a w h
                        cases hF
                        exact wp_ret (ret_okR tok h rfl (by kernel_rfl)).1
                      · replace hF := of_f hb hF
                        refine wp_skip ?_
                        refine wp_reg_seq tok (orc := orcL []) (fz := []) (l := [6]) (c := _) (.inr fun i h => h) h (by kernel_rfl) (AllP.nil) ?_
                        intro a w h
                        cases hF
                        exact wp_ret (ret_okR tok h rfl (by kernel_rfl)).1
end Go.Proofs.Ytijlnlonlmcdoaa.V
