/-
  THE CONTRACTS OF SOME FUNCTIONS OF THIS SEAT, PRINTED BY A PROGRAM OF THIS PROJECT (wip/gen/vgen.py).
-/
import Derived.Test.YtijlnlonlmcdoaaProg
import Derived.Test.YtijlnlonlmcdoaaVmW
import Derived.KernelRfl
set_option linter.unusedVariables false
open Go Go.Vm Go.Proofs
namespace Go.Proofs.Ytijlnlonlmcdoaa.V
abbrev sh0 : Sh := (.sl false 127 (.st (.pair .str .str)))
abbrev sh1 : Sh := (.sl true 129 (.st (.pair .str .str)))
abbrev sh2 : Sh := (.sl false 129 (.st (.pair .str .str)))
abbrev sh3 : Sh := (.st (.pair .str (.pair (.int .i64) .str)))
abbrev sh4 : Sh := (.sl false 194 (.st (.pair .str (.pair (.int .i64) .str))))
abbrev sh5 : Sh := (.st (.pair (.int .i64) (.pair (.int .i64) (.pair (.sl false 194 (.st (.pair .str (.pair (.int .i64) .str)))) (.pair .bool (.pair .str (.pair (.int .i64) (.int .i64))))))))
abbrev sh6 : Sh := (.sl true 154 (.st (.pair .str (.pair (.int .i64) .str))))
abbrev sh7 : Sh := (.st (.pair (.int .i64) (.pair (.int .i64) (.pair (.sl true 154 (.st (.pair .str (.pair (.int .i64) .str)))) (.pair .bool (.pair .str (.pair (.int .i64) (.int .i64))))))))
abbrev sh8 : Sh := (.pt true 82 (.st (.pair (.int .i64) (.pair (.int .i64) (.pair (.sl false 154 (.st (.pair .str (.pair (.int .i64) .str)))) (.pair .bool (.pair .str (.pair (.int .i64) (.int .i64)))))))))
abbrev sh9 : Sh := (.pt true 154 (.st (.pair .str (.pair (.int .i64) .str))))
abbrev sh10 : Sh := (.st (.pair (.int .i64) (.pair (.int .i64) (.pair (.sl false 154 (.st (.pair .str (.pair (.int .i64) .str)))) (.pair .bool (.pair .str (.pair (.int .i64) (.int .i64))))))))
abbrev sh11 : Sh := (.sl false 154 (.st (.pair .str (.pair (.int .i64) .str))))
def tbl : Tbl := [⟨2, .int .i64, 1, 8, (.int .i64)⟩,
  ⟨3, .int .i64, 1, 8, (.int .i64)⟩,
  ⟨4, .bool, 1, 1, .bool⟩,
  ⟨5, .int .u8, 1, 1, (.int .u8)⟩,
  ⟨9, .string, 1, 16, .str⟩,
  ⟨32, .slice 127, 1, 24, (.sl true 127 (.st (.pair .str .str)))⟩,
  ⟨35, .slice 129, 1, 24, (.sl true 129 (.st (.pair .str .str)))⟩,
  ⟨75, .slice 194, 1, 24, (.sl true 194 (.st (.pair .str (.pair (.int .i64) .str))))⟩,
  ⟨77, .struct [(2, 0), (2, 1), (75, 2), (4, 3), (9, 4), (2, 5), (2, 6)], 7, 80, (.st (.pair (.int .i64) (.pair (.int .i64) (.pair (.sl true 194 (.st (.pair .str (.pair (.int .i64) .str)))) (.pair .bool (.pair .str (.pair (.int .i64) (.int .i64))))))))⟩,
  ⟨80, .slice 154, 1, 24, (.sl true 154 (.st (.pair .str (.pair (.int .i64) .str))))⟩,
  ⟨82, .struct [(2, 0), (2, 1), (80, 2), (4, 3), (9, 4), (2, 5), (2, 6)], 7, 80, (.st (.pair (.int .i64) (.pair (.int .i64) (.pair (.sl true 154 (.st (.pair .str (.pair (.int .i64) .str)))) (.pair .bool (.pair .str (.pair (.int .i64) (.int .i64))))))))⟩,
  ⟨127, .struct [(9, 0), (9, 1)], 2, 32, (.st (.pair .str .str))⟩,
  ⟨129, .struct [(9, 0), (9, 1)], 2, 32, (.st (.pair .str .str))⟩,
  ⟨154, .struct [(9, 0), (2, 1), (9, 2)], 3, 40, (.st (.pair .str (.pair (.int .i64) .str)))⟩,
  ⟨194, .struct [(9, 0), (2, 1), (9, 2)], 3, 40, (.st (.pair .str (.pair (.int .i64) .str)))⟩]
theorem tok : TOk Try.prog tbl := by unfold TOk; kernel_rfl

def f80 (k : Nat) (x0 : (ByteArray × ByteArray)) (x1 : Int) : Option Int := if (decide (((IntKind.i64.wrap (x1 - (ByteArray.size x0.1 : Int))) : Int) < (0 : Int))) then (some (-1 : Int)) else (if (decide (((IntKind.i64.wrap ((IntKind.i64.wrap (x1 - (ByteArray.size x0.1 : Int))) - (ByteArray.size x0.2 : Int))) : Int) < (0 : Int))) then (some (-1 : Int)) else (some (IntKind.i64.wrap ((IntKind.i64.wrap (x1 - (ByteArray.size x0.1 : Int))) - (ByteArray.size x0.2 : Int)))))
set_option maxRecDepth 100000 in
/-- 'laws.szTag'. -/
theorem c80 (k : Nat) (x0 : (ByteArray × ByteArray)) (x1 : Int) (r : Int) (hF : f80 k x0 x1 = some r) : PCall Try.prog 80 [⟨(.st (.pair .str .str)), x0⟩, ⟨(.int .i64), x1⟩] [⟨(.int .i64), r⟩] := by
  refine pcall_intro Try.func80 rfl rfl (Nat.le_of_ble_eq_true rfl) ?_
  intro w0 Zi a w h
  rw [f80] at hF
  refine wp_reg_seq tok (orc := orcL []) (fz := []) (l := [1, 2]) (c := _) (fun i h => h) h (by kernel_rfl) (AllP.nil) ?_
  intro a w h
  refine wp_reg_seq tok (orc := orcL []) (fz := []) (l := [1, 2]) (c := _) (fun i h => h) h (by kernel_rfl) (AllP.nil) ?_
  intro a w h
  refine wp_seq ?_
  refine wp_reg_seq tok (orc := orcL []) (fz := []) (l := [1, 2, 11]) (c := _) (fun i h => h) h (by kernel_rfl) (AllP.nil) ?_
  intro a w h
  refine wp_if h (b := (decide (((IntKind.i64.wrap (x1 - (ByteArray.size x0.1 : Int))) : Int) < (0 : Int)))) (by kernel_rfl) (fun hb => ?_) (fun hb => ?_)
  · replace hF := of_t hb hF
    refine wp_reg_seq tok (orc := orcL []) (fz := []) (l := [4]) (c := _) (fun i h => h) h (by kernel_rfl) (AllP.nil) ?_
    intro a w h
    cases hF
    exact wp_ret (ret_okR tok h rfl (by kernel_rfl)).1
  · replace hF := of_f hb hF
    refine wp_skip ?_
    refine wp_reg_seq tok (orc := orcL []) (fz := []) (l := [1]) (c := _) (fun i h => h) h (by kernel_rfl) (AllP.nil) ?_
    intro a w h
    refine wp_seq ?_
    refine wp_reg_seq tok (orc := orcL []) (fz := []) (l := [1, 18]) (c := _) (fun i h => h) h (by kernel_rfl) (AllP.nil) ?_
    intro a w h
    refine wp_if h (b := (decide (((IntKind.i64.wrap ((IntKind.i64.wrap (x1 - (ByteArray.size x0.1 : Int))) - (ByteArray.size x0.2 : Int))) : Int) < (0 : Int)))) (by kernel_rfl) (fun hb => ?_) (fun hb => ?_)
    · replace hF := of_t hb hF
      refine wp_reg_seq tok (orc := orcL []) (fz := []) (l := [4]) (c := _) (fun i h => h) h (by kernel_rfl) (AllP.nil) ?_
      intro a w h
      cases hF
      exact wp_ret (ret_okR tok h rfl (by kernel_rfl)).1
    · replace hF := of_f hb hF
      refine wp_skip ?_
      refine wp_reg_seq tok (orc := orcL []) (fz := []) (l := [4]) (c := _) (fun i h => h) h (by kernel_rfl) (AllP.nil) ?_
      intro a w h
      cases hF
      exact wp_ret (ret_okR tok h rfl (by kernel_rfl)).1

def f18.l28 (k : Nat) (x0 : (List (ByteArray × ByteArray))) : Nat → (Int × Int) → Option Int
  | 0, _ => none
  | m28 + 1, (v47, v48) => if (decide ((v48 : Int) < (List.length x0 : Int))) then (if (0 ≤ v48 ∧ v48 < (List.length x0 : Int)) then ((f80 k (List.getD x0 (Int.toNat v48) ((⟨#[]⟩ : ByteArray), (⟨#[]⟩ : ByteArray))) v47).bind fun r52 => (if (decide ((r52 : Int) < (0 : Int))) then (some (-1 : Int)) else ((f18.l28 k x0) m28 (r52, (IntKind.i64.wrap (v48 + (1 : Int))))))) else none) else (some v47)
def f18 (k : Nat) (x0 : (List (ByteArray × ByteArray))) (x1 : Int) : Option Int := if (decide (((IntKind.i64.wrap (x1 - (List.length x0 : Int))) : Int) < (0 : Int))) then (some (-1 : Int)) else (f18.l28 k x0 k ((IntKind.i64.wrap (x1 - (List.length x0 : Int))), (0 : Int)))
set_option maxRecDepth 100000 in
/-- 'laws.szTagS'. -/
theorem c18 (k : Nat) (x0 : (List (ByteArray × ByteArray))) (x1 : Int) (r : Int) (hF : f18 k x0 x1 = some r) : PCall Try.prog 18 [⟨sh0, x0⟩, ⟨(.int .i64), x1⟩] [⟨(.int .i64), r⟩] := by
  refine pcall_intro Try.func18 rfl rfl (Nat.le_of_ble_eq_true rfl) ?_
  intro w0 Zi a w h
  rw [f18] at hF
  refine wp_reg_seq tok (orc := orcL []) (fz := []) (l := [0, 1]) (c := _) (fun i h => h) h (by kernel_rfl) (AllP.nil) ?_
  intro a w h
  refine wp_reg_seq tok (orc := orcL []) (fz := []) (l := [0, 1]) (c := _) (fun i h => h) h (by kernel_rfl) (AllP.nil) ?_
  intro a w h
  refine wp_seq ?_
  refine wp_reg_seq tok (orc := orcL []) (fz := []) (l := [0, 1, 11]) (c := _) (fun i h => h) h (by kernel_rfl) (AllP.nil) ?_
  intro a w h
  refine wp_if h (b := (decide (((IntKind.i64.wrap (x1 - (List.length x0 : Int))) : Int) < (0 : Int)))) (by kernel_rfl) (fun hb => ?_) (fun hb => ?_)
  · replace hF := of_t hb hF
    refine wp_reg_seq tok (orc := orcL []) (fz := []) (l := [4]) (c := _) (fun i h => h) h (by kernel_rfl) (AllP.nil) ?_
    intro a w h
    cases hF
    exact wp_ret (ret_okR tok h rfl (by kernel_rfl)).1
  · replace hF := of_f hb hF
    refine wp_skip ?_
    refine wp_seq ?_
    refine wp_reg_seq tok (orc := orcL []) (fz := []) (l := [0, 1, 5]) (c := _) (fun i h => h) h (by kernel_rfl) (AllP.nil) ?_
    intro a w h
    refine wp_block ?_
    refine wp_loop_fuel (f18.l28 k x0) (fun ((v47, v48) : (Int × Int)) => [(0, .val sh0 x0), (1, .val (.int .i64) v47), (5, .val (.int .i64) v48)]) (fun v h => by obtain ⟨v47, v48⟩ := v; rw [f18.l28] at h; cases h) ?_ hF (h.arrive (fz := []) (l := [0, 1, 5]) (fun i h => h) (by kernel_rfl))
    intro m28 v a w hF h
    obtain ⟨v47, v48⟩ := v
    rw [f18.l28] at hF
    refine wp_seq ?_
    refine wp_reg_seq tok (orc := orcL []) (fz := []) (l := [0, 1, 5, 15]) (c := _) (fun i h => h) h (by kernel_rfl) (AllP.nil) ?_
    intro a w h
    refine wp_if h (b := (decide ((v48 : Int) < (List.length x0 : Int)))) (by kernel_rfl) (fun hb => ?_) (fun hb => ?_)
    · replace hF := of_t hb hF
      refine wp_skip ?_
      refine wp_seq <| wp_block ?_
      obtain ⟨hc53, hF⟩ := of_if hF
      obtain ⟨r52, hr54, hF⟩ := of_bind hF
      refine wp_reg_seq tok (orc := orcL [(23, [⟨(.int .i64), r52⟩])]) (fz := []) (l := [0, 1, 5]) (c := _) (fun i h => h) h (by kernel_rfl) (AllP.cons hc53 (AllP.cons (c80 k (List.getD x0 (Int.toNat v48) ((⟨#[]⟩ : ByteArray), (⟨#[]⟩ : ByteArray))) v47 r52 hr54) AllP.nil)) ?_
      intro a w h
      refine wp_reg_seq tok (orc := orcL []) (fz := []) (l := [0, 1, 5, 25]) (c := _) (fun i h => h) h (by kernel_rfl) (AllP.nil) ?_
      intro a w h
      refine wp_if h (b := (decide ((r52 : Int) < (0 : Int)))) (by kernel_rfl) (fun hb => ?_) (fun hb => ?_)
      · replace hF := of_t hb hF
        refine wp_reg_seq tok (orc := orcL []) (fz := []) (l := [4]) (c := _) (fun i h => h) h (by kernel_rfl) (AllP.nil) ?_
        intro a w h
        cases hF
        exact wp_ret (ret_okR tok h rfl (by kernel_rfl)).1
      · replace hF := of_f hb hF
        refine wp_skip ?_
        refine wp_reg tok (orc := orcL []) (fz := []) (l := [0, 1, 5]) (c := _) (fun i h => h) h (by kernel_rfl) (AllP.nil) ?_
        intro a w h
        exact ⟨(r52, (IntKind.i64.wrap (v48 + (1 : Int)))), hF, h.arrive (fz := []) (l := [0, 1, 5]) (fun i h => h) (by kernel_rfl)⟩
    · replace hF := of_f hb hF
      refine wp_exit ?_
      refine wp_reg_seq tok (orc := orcL []) (fz := []) (l := [4]) (c := _) (fun i h => h) h (by kernel_rfl) (AllP.nil) ?_
      intro a w h
      cases hF
      exact wp_ret (ret_okR tok h rfl (by kernel_rfl)).1

def f82 (k : Nat) (x0 : (ByteArray × ByteArray)) : Option (ByteArray × ByteArray) := some (x0.1, x0.2)
set_option maxRecDepth 100000 in
/-- 'laws.toTag'. -/
theorem c82 (k : Nat) (x0 : (ByteArray × ByteArray)) (r : (ByteArray × ByteArray)) (hF : f82 k x0 = some r) : PCall Try.prog 82 [⟨(.st (.pair .str .str)), x0⟩] [⟨(.st (.pair .str .str)), r⟩] := by
  refine pcall_intro Try.func82 rfl rfl (Nat.le_of_ble_eq_true rfl) ?_
  intro w0 Zi a w h
  rw [f82] at hF
  refine wp_reg_seq tok (orc := orcL []) (fz := []) (l := [1, 2]) (c := _) (fun i h => h) h (by kernel_rfl) (AllP.nil) ?_
  intro a w h
  refine wp_reg_seq tok (orc := orcL []) (fz := []) (l := [1, 2, 3]) (c := _) (fun i h => h) h (by kernel_rfl) (AllP.nil) ?_
  intro a w h
  refine wp_reg_seq tok (orc := orcL []) (fz := []) (l := [1, 2, 3]) (c := _) (fun i h => h) h (by kernel_rfl) (AllP.nil) ?_
  intro a w h
  refine wp_reg_seq tok (orc := orcL []) (fz := []) (l := [2, 3]) (c := _) (fun i h => h) h (by kernel_rfl) (AllP.nil) ?_
  intro a w h
  refine wp_reg_seq tok (orc := orcL []) (fz := []) (l := [2]) (c := _) (fun i h => h) h (by kernel_rfl) (AllP.nil) ?_
  intro a w h
  cases hF
  exact wp_ret (ret_okR tok h rfl (by kernel_rfl)).1

def f20.l34 (k : Nat) (x0 : (List (ByteArray × ByteArray))) : Nat → ((List (ByteArray × ByteArray)) × Int) → Option (List (ByteArray × ByteArray))
  | 0, _ => none
  | m34 + 1, (v57, v58) => if (decide ((v58 : Int) < (List.length x0 : Int))) then (if (0 ≤ v58 ∧ v58 < (List.length x0 : Int)) then ((f82 k (List.getD x0 (Int.toNat v58) ((⟨#[]⟩ : ByteArray), (⟨#[]⟩ : ByteArray)))).bind fun r63 => (if (0 ≤ v58 ∧ v58 < (List.length v57 : Int)) then ((f20.l34 k x0) m34 ((List.set v57 (Int.toNat v58) r63), (IntKind.i64.wrap (v58 + (1 : Int))))) else none)) else none) else (some v57)
def f20 (k : Nat) (x0 : (List (ByteArray × ByteArray))) : Option (List (ByteArray × ByteArray)) := if (0 ≤ (List.length x0 : Int) ∧ Int.toNat (List.length x0 : Int) * 32 ≤ 140737488355328) then (f20.l34 k x0 k ((List.replicate (Int.toNat (List.length x0 : Int)) ((⟨#[]⟩ : ByteArray), (⟨#[]⟩ : ByteArray))), (0 : Int))) else none
set_option maxRecDepth 100000 in
/-- 'laws.toTagS'. -/
theorem c20 (k : Nat) (x0 : (List (ByteArray × ByteArray))) (r : (List (ByteArray × ByteArray))) (hF : f20 k x0 = some r) : PCall Try.prog 20 [⟨sh0, x0⟩] [⟨sh1, r⟩] := by
  refine pcall_intro Try.func20 rfl rfl (Nat.le_of_ble_eq_true rfl) ?_
  intro w0 Zi a w h
  rw [f20] at hF
  refine wp_reg_seq tok (orc := orcL []) (fz := []) (l := [0]) (c := _) (fun i h => h) h (by kernel_rfl) (AllP.nil) ?_
  intro a w h
  obtain ⟨hc67, hF⟩ := of_if hF
  refine wp_reg_seq tok (orc := orcL []) (fz := []) (l := [0, 3]) (c := _) (fun i h => h) h (by kernel_rfl) (AllP.cons hc67 AllP.nil) ?_
  intro a w h
  refine wp_seq ?_
  refine wp_reg_seq tok (orc := orcL []) (fz := []) (l := [0, 3, 4]) (c := _) (fun i h => h) h (by kernel_rfl) (AllP.nil) ?_
  intro a w h
  refine wp_block ?_
  refine wp_loop_fuel (f20.l34 k x0) (fun ((v57, v58) : ((List (ByteArray × ByteArray)) × Int)) => [(0, .val sh0 x0), (3, .val sh1 v57), (4, .val (.int .i64) v58)]) (fun v h => by obtain ⟨v57, v58⟩ := v; rw [f20.l34] at h; cases h) ?_ hF (h.arrive (fz := []) (l := [0, 3, 4]) (fun i h => h) (by kernel_rfl))
  intro m34 v a w hF h
  obtain ⟨v57, v58⟩ := v
  rw [f20.l34] at hF
  refine wp_seq ?_
  refine wp_reg_seq tok (orc := orcL []) (fz := []) (l := [0, 3, 4, 11]) (c := _) (fun i h => h) h (by kernel_rfl) (AllP.nil) ?_
  intro a w h
  refine wp_if h (b := (decide ((v58 : Int) < (List.length x0 : Int)))) (by kernel_rfl) (fun hb => ?_) (fun hb => ?_)
  · replace hF := of_t hb hF
    refine wp_skip ?_
    refine wp_seq <| wp_block ?_
    obtain ⟨hc64, hF⟩ := of_if hF
    obtain ⟨r63, hr65, hF⟩ := of_bind hF
    obtain ⟨hc66, hF⟩ := of_if hF
    refine wp_reg tok (orc := orcL [(20, [⟨(.st (.pair .str .str)), r63⟩])]) (fz := []) (l := [0, 3, 4]) (c := _) (fun i h => h) h (by kernel_rfl) (AllP.cons hc64 (AllP.cons (c82 k (List.getD x0 (Int.toNat v58) ((⟨#[]⟩ : ByteArray), (⟨#[]⟩ : ByteArray))) r63 hr65) (AllP.cons hc66 AllP.nil))) ?_
    intro a w h
    refine wp_reg tok (orc := orcL []) (fz := []) (l := [0, 3, 4]) (c := _) (fun i h => h) h (by kernel_rfl) (AllP.nil) ?_
    intro a w h
    exact ⟨((List.set v57 (Int.toNat v58) r63), (IntKind.i64.wrap (v58 + (1 : Int)))), hF, h.arrive (fz := []) (l := [0, 3, 4]) (fun i h => h) (by kernel_rfl)⟩
  · replace hF := of_f hb hF
    refine wp_exit ?_
    refine wp_reg_seq tok (orc := orcL []) (fz := []) (l := [2, 3]) (c := _) (fun i h => h) h (by kernel_rfl) (AllP.nil) ?_
    intro a w h
    cases hF
    exact wp_ret (ret_okR tok h rfl (by kernel_rfl)).1

def f81.l18 (k : Nat) (x0 : (List (ByteArray × ByteArray))) (x1 : ByteArray) : Nat → Int → Option ByteArray
  | 0, _ => none
  | m18 + 1, v30 => if (decide ((v30 : Int) < (List.length x0 : Int))) then (if (0 ≤ v30 ∧ v30 < (List.length x0 : Int)) then (if (ByteArray.toList (List.getD x0 (Int.toNat v30) ((⟨#[]⟩ : ByteArray), (⟨#[]⟩ : ByteArray))).1 == ByteArray.toList x1) then (if (0 ≤ v30 ∧ v30 < (List.length x0 : Int)) then (some (List.getD x0 (Int.toNat v30) ((⟨#[]⟩ : ByteArray), (⟨#[]⟩ : ByteArray))).2) else none) else ((f81.l18 k x0 x1) m18 (IntKind.i64.wrap (v30 + (1 : Int))))) else none) else (some (⟨#[]⟩ : ByteArray))
def f81 (k : Nat) (x0 : (List (ByteArray × ByteArray))) (x1 : ByteArray) : Option ByteArray := f81.l18 k x0 x1 k (0 : Int)
set_option maxRecDepth 100000 in
/-- 'spec.TagOf'. -/
theorem c81 (k : Nat) (x0 : (List (ByteArray × ByteArray))) (x1 : ByteArray) (r : ByteArray) (hF : f81 k x0 x1 = some r) : PCall Try.prog 81 [⟨sh2, x0⟩, ⟨.str, x1⟩] [⟨.str, r⟩] := by
  refine pcall_intro Try.func81 rfl rfl (Nat.le_of_ble_eq_true rfl) ?_
  intro w0 Zi a w h
  rw [f81] at hF
  refine wp_reg_seq tok (orc := orcL []) (fz := []) (l := [0, 1]) (c := _) (fun i h => h) h (by kernel_rfl) (AllP.nil) ?_
  intro a w h
  refine wp_seq ?_
  refine wp_reg_seq tok (orc := orcL []) (fz := []) (l := [0, 1, 5]) (c := _) (fun i h => h) h (by kernel_rfl) (AllP.nil) ?_
  intro a w h
  refine wp_block ?_
  refine wp_loop_fuel (f81.l18 k x0 x1) (fun (v30 : Int) => [(0, .val sh2 x0), (1, .val .str x1), (5, .val (.int .i64) v30)]) (fun v h => by rw [f81.l18] at h; cases h) ?_ hF (h.arrive (fz := []) (l := [0, 1, 5]) (fun i h => h) (by kernel_rfl))
  intro m18 v30 a w hF h
  rw [f81.l18] at hF
  refine wp_seq ?_
  refine wp_reg_seq tok (orc := orcL []) (fz := []) (l := [0, 1, 5, 9]) (c := _) (fun i h => h) h (by kernel_rfl) (AllP.nil) ?_
  intro a w h
  refine wp_if h (b := (decide ((v30 : Int) < (List.length x0 : Int)))) (by kernel_rfl) (fun hb => ?_) (fun hb => ?_)
  · replace hF := of_t hb hF
    refine wp_skip ?_
    refine wp_seq <| wp_block ?_
    obtain ⟨hc34, hF⟩ := of_if hF
    refine wp_reg_seq tok (orc := orcL []) (fz := []) (l := [0, 1, 5, 18]) (c := _) (fun i h => h) h (by kernel_rfl) (AllP.cons hc34 AllP.nil) ?_
    intro a w h
    refine wp_if h (b := (ByteArray.toList (List.getD x0 (Int.toNat v30) ((⟨#[]⟩ : ByteArray), (⟨#[]⟩ : ByteArray))).1 == ByteArray.toList x1)) (by kernel_rfl) (fun hb => ?_) (fun hb => ?_)
    · replace hF := of_t hb hF
      obtain ⟨hc33, hF⟩ := of_if hF
      refine wp_reg_seq tok (orc := orcL []) (fz := []) (l := [4]) (c := _) (fun i h => h) h (by kernel_rfl) (AllP.cons hc33 AllP.nil) ?_
      intro a w h
      cases hF
      exact wp_ret (ret_okR tok h rfl (by kernel_rfl)).1
    · replace hF := of_f hb hF
      refine wp_skip ?_
      refine wp_reg tok (orc := orcL []) (fz := []) (l := [0, 1, 5]) (c := _) (fun i h => h) h (by kernel_rfl) (AllP.nil) ?_
      intro a w h
      exact ⟨(IntKind.i64.wrap (v30 + (1 : Int))), hF, h.arrive (fz := []) (l := [0, 1, 5]) (fun i h => h) (by kernel_rfl)⟩
  · replace hF := of_f hb hF
    refine wp_exit ?_
    refine wp_reg_seq tok (orc := orcL []) (fz := []) (l := [4]) (c := _) (fun i h => h) h (by kernel_rfl) (AllP.nil) ?_
    intro a w h
    cases hF
    exact wp_ret (ret_okR tok h rfl (by kernel_rfl)).1

def f87.l28 (k : Nat) (x0 : ByteArray) (x1 : Int) : Nat → (Int × Int) → Option Int
  | 0, _ => none
  | m28 + 1, (v47, v48) => if (decide ((v48 : Int) < (ByteArray.size x0 : Int))) then (if ((0 : Int) ≤ v48 ∧ (v48 : Int) < (ByteArray.size x0 : Int)) then (if (((decide (((byteAt x0 v48) : Int) < (48 : Int))) = false) → ((0 : Int) ≤ v48 ∧ (v48 : Int) < (ByteArray.size x0 : Int))) then (if (bif (decide (((byteAt x0 v48) : Int) < (48 : Int))) then true else (decide (((byteAt x0 v48) : Int) > (57 : Int)))) then (some (-1 : Int)) else (if ((0 : Int) ≤ v48 ∧ (v48 : Int) < (ByteArray.size x0 : Int)) then ((f87.l28 k x0 x1) m28 ((IntKind.i64.wrap ((IntKind.i64.wrap (v47 * (10 : Int))) + (IntKind.i64.wrap (IntKind.u8.wrap ((byteAt x0 v48) - (48 : Int)))))), (IntKind.i64.wrap (v48 + (1 : Int))))) else none)) else none) else none) else (if (decide ((v47 : Int) > x1)) then (some (-1 : Int)) else (some v47))
def f87 (k : Nat) (x0 : ByteArray) (x1 : Int) : Option Int := if (bif (((ByteArray.size x0 : Int) : Int) == (0 : Int)) then true else (decide (((ByteArray.size x0 : Int) : Int) > (10 : Int)))) then (some (-1 : Int)) else (f87.l28 k x0 x1 k ((0 : Int), (0 : Int)))
set_option maxRecDepth 100000 in
/-- 'spec.l7Number'. -/
theorem c87 (k : Nat) (x0 : ByteArray) (x1 : Int) (r : Int) (hF : f87 k x0 x1 = some r) : PCall Try.prog 87 [⟨.str, x0⟩, ⟨(.int .i64), x1⟩] [⟨(.int .i64), r⟩] := by
  refine pcall_intro Try.func87 rfl rfl (Nat.le_of_ble_eq_true rfl) ?_
  intro w0 Zi a w h
  rw [f87] at hF
  refine wp_reg_seq tok (orc := orcL []) (fz := []) (l := [0, 1]) (c := _) (fun i h => h) h (by kernel_rfl) (AllP.nil) ?_
  intro a w h
  refine wp_reg_seq tok (orc := orcL []) (fz := []) (l := [0, 1, 5]) (c := _) (fun i h => h) h (by kernel_rfl) (AllP.nil) ?_
  intro a w h
  refine wp_seq ?_
  refine wp_reg_seq tok (orc := orcL []) (fz := []) (l := [0, 1, 5, 14]) (c := _) (fun i h => h) h (by kernel_rfl) (AllP.nil) ?_
  intro a w h
  refine wp_if h (b := (bif (((ByteArray.size x0 : Int) : Int) == (0 : Int)) then true else (decide (((ByteArray.size x0 : Int) : Int) > (10 : Int))))) (by kernel_rfl) (fun hb => ?_) (fun hb => ?_)
  · replace hF := of_t hb hF
    refine wp_reg_seq tok (orc := orcL []) (fz := []) (l := [4]) (c := _) (fun i h => h) h (by kernel_rfl) (AllP.nil) ?_
    intro a w h
    cases hF
    exact wp_ret (ret_okR tok h rfl (by kernel_rfl)).1
  · replace hF := of_f hb hF
    refine wp_skip ?_
    refine wp_seq ?_
    refine wp_reg_seq tok (orc := orcL []) (fz := []) (l := [0, 1, 5, 6]) (c := _) (fun i h => h) h (by kernel_rfl) (AllP.nil) ?_
    intro a w h
    refine wp_block ?_
    refine wp_loop_fuel (f87.l28 k x0 x1) (fun ((v47, v48) : (Int × Int)) => [(0, .val .str x0), (1, .val (.int .i64) x1), (5, .val (.int .i64) v47), (6, .val (.int .i64) v48)]) (fun v h => by obtain ⟨v47, v48⟩ := v; rw [f87.l28] at h; cases h) ?_ hF (h.arrive (fz := []) (l := [0, 1, 5, 6]) (fun i h => h) (by kernel_rfl))
    intro m28 v a w hF h
    obtain ⟨v47, v48⟩ := v
    rw [f87.l28] at hF
    refine wp_seq ?_
    refine wp_reg_seq tok (orc := orcL []) (fz := []) (l := [0, 1, 5, 6, 18]) (c := _) (fun i h => h) h (by kernel_rfl) (AllP.nil) ?_
    intro a w h
    refine wp_if h (b := (decide ((v48 : Int) < (ByteArray.size x0 : Int)))) (by kernel_rfl) (fun hb => ?_) (fun hb => ?_)
    · replace hF := of_t hb hF
      refine wp_skip ?_
      refine wp_seq <| wp_block ?_
      refine wp_seq ?_
      obtain ⟨hc53, hF⟩ := of_if hF
      obtain ⟨hc54, hF⟩ := of_if hF
      refine wp_reg_seq tok (orc := orcL []) (fz := []) (l := [0, 1, 5, 6, 30]) (c := _) (fun i h => h) h (by kernel_rfl) (AllP.cons hc53 (AllP.cons hc54 AllP.nil)) ?_
      intro a w h
      refine wp_if h (b := (bif (decide (((byteAt x0 v48) : Int) < (48 : Int))) then true else (decide (((byteAt x0 v48) : Int) > (57 : Int))))) (by kernel_rfl) (fun hb => ?_) (fun hb => ?_)
      · replace hF := of_t hb hF
        refine wp_reg_seq tok (orc := orcL []) (fz := []) (l := [4]) (c := _) (fun i h => h) h (by kernel_rfl) (AllP.nil) ?_
        intro a w h
        cases hF
        exact wp_ret (ret_okR tok h rfl (by kernel_rfl)).1
      · replace hF := of_f hb hF
        refine wp_skip ?_
        obtain ⟨hc52, hF⟩ := of_if hF
        refine wp_reg tok (orc := orcL []) (fz := []) (l := [0, 1, 5, 6]) (c := _) (fun i h => h) h (by kernel_rfl) (AllP.cons hc52 AllP.nil) ?_
        intro a w h
        refine wp_reg tok (orc := orcL []) (fz := []) (l := [0, 1, 5, 6]) (c := _) (fun i h => h) h (by kernel_rfl) (AllP.nil) ?_
        intro a w h
        exact ⟨((IntKind.i64.wrap ((IntKind.i64.wrap (v47 * (10 : Int))) + (IntKind.i64.wrap (IntKind.u8.wrap ((byteAt x0 v48) - (48 : Int)))))), (IntKind.i64.wrap (v48 + (1 : Int)))), hF, h.arrive (fz := []) (l := [0, 1, 5, 6]) (fun i h => h) (by kernel_rfl)⟩
    · replace hF := of_f hb hF
      refine wp_exit ?_
      refine wp_seq ?_
      refine wp_reg_seq tok (orc := orcL []) (fz := []) (l := [5, 41]) (c := _) (fun i h => h) h (by kernel_rfl) (AllP.nil) ?_
      intro a w h
      refine wp_if h (b := (decide ((v47 : Int) > x1))) (by kernel_rfl) (fun hb => ?_) (fun hb => ?_)
      · replace hF := of_t hb hF
        refine wp_reg_seq tok (orc := orcL []) (fz := []) (l := [4]) (c := _) (fun i h => h) h (by kernel_rfl) (AllP.nil) ?_
        intro a w h
        cases hF
        exact wp_ret (ret_okR tok h rfl (by kernel_rfl)).1
      · replace hF := of_f hb hF
        refine wp_skip ?_
        refine wp_reg_seq tok (orc := orcL []) (fz := []) (l := [4]) (c := _) (fun i h => h) h (by kernel_rfl) (AllP.nil) ?_
        intro a w h
        cases hF
        exact wp_ret (ret_okR tok h rfl (by kernel_rfl)).1

def f28.j8 (k : Nat) : Int → Option Int
  | v7 => some v7
def f28.j4 (k : Nat) (x0 : (List (ByteArray × ByteArray))) : Int → Option Int
  | v3 => (f81 k x0 (⟨#[109, 97, 120, 115, 112, 101, 101, 100]⟩ : ByteArray)).bind fun r5 => ((f87 k r5 (30 : Int)).bind fun r6 => (if (bif (decide ((r6 : Int) ≥ (1 : Int))) then (decide ((r6 : Int) < v3)) else false) then (f28.j8 k r6) else (f28.j8 k v3)))
def f28 (k : Nat) (x0 : (List (ByteArray × ByteArray))) (x1 : Int) : Option Int := (f81 k x0 (⟨#[104, 105, 103, 104, 119, 97, 121]⟩ : ByteArray)).bind fun r1 => ((f81 k x0 (⟨#[97, 99, 99, 101, 115, 115]⟩ : ByteArray)).bind fun r2 => (if (bif (bif (ByteArray.toList r1 == ByteArray.toList (⟨#[]⟩ : ByteArray)) then true else (ByteArray.toList r2 == ByteArray.toList (⟨#[110, 111]⟩ : ByteArray))) then true else (ByteArray.toList r2 == ByteArray.toList (⟨#[112, 114, 105, 118, 97, 116, 101]⟩ : ByteArray))) then (some (0 : Int)) else (if ((x1 : Int) == (2 : Int)) then (if (ByteArray.toList r1 == ByteArray.toList (⟨#[109, 111, 116, 111, 114, 119, 97, 121]⟩ : ByteArray)) then (some (0 : Int)) else (some (1 : Int))) else (if ((x1 : Int) != (1 : Int)) then (some (0 : Int)) else (if (ByteArray.toList r1 == ByteArray.toList (⟨#[109, 111, 116, 111, 114, 119, 97, 121]⟩ : ByteArray)) then (f28.j4 k x0 (30 : Int)) else (if (ByteArray.toList r1 == ByteArray.toList (⟨#[109, 97, 105, 110]⟩ : ByteArray)) then (f28.j4 k x0 (20 : Int)) else (if (ByteArray.toList r1 == ByteArray.toList (⟨#[115, 116, 114, 101, 101, 116]⟩ : ByteArray)) then (f28.j4 k x0 (10 : Int)) else (f28.j4 k x0 (0 : Int)))))))))
set_option maxRecDepth 100000 in
/-- 'spec.SpeedOf'. -/
theorem c28 (k : Nat) (x0 : (List (ByteArray × ByteArray))) (x1 : Int) (r : Int) (hF : f28 k x0 x1 = some r) : PCall Try.prog 28 [⟨sh2, x0⟩, ⟨(.int .i64), x1⟩] [⟨(.int .i64), r⟩] := by
  refine pcall_intro Try.func28 rfl rfl (Nat.le_of_ble_eq_true rfl) ?_
  intro w0 Zi a w h
  rw [f28] at hF
  refine wp_reg_seq tok (orc := orcL []) (fz := []) (l := [0, 1]) (c := _) (fun i h => h) h (by kernel_rfl) (AllP.nil) ?_
  intro a w h
  obtain ⟨r1, hr12, hF⟩ := of_bind hF
  refine wp_reg_seq tok (orc := orcL [(10, [⟨.str, r1⟩])]) (fz := []) (l := [0, 1, 5]) (c := _) (fun i h => h) h (by kernel_rfl) (AllP.cons (c81 k x0 (⟨#[104, 105, 103, 104, 119, 97, 121]⟩ : ByteArray) r1 hr12) AllP.nil) ?_
  intro a w h
  obtain ⟨r2, hr11, hF⟩ := of_bind hF
  refine wp_reg_seq tok (orc := orcL [(12, [⟨.str, r2⟩])]) (fz := []) (l := [0, 1, 5, 6]) (c := _) (fun i h => h) h (by kernel_rfl) (AllP.cons (c81 k x0 (⟨#[97, 99, 99, 101, 115, 115]⟩ : ByteArray) r2 hr11) AllP.nil) ?_
  intro a w h
  refine wp_seq ?_
  refine wp_reg_seq tok (orc := orcL []) (fz := []) (l := [0, 1, 5, 22]) (c := _) (fun i h => h) h (by kernel_rfl) (AllP.nil) ?_
  intro a w h
  refine wp_if h (b := (bif (bif (ByteArray.toList r1 == ByteArray.toList (⟨#[]⟩ : ByteArray)) then true else (ByteArray.toList r2 == ByteArray.toList (⟨#[110, 111]⟩ : ByteArray))) then true else (ByteArray.toList r2 == ByteArray.toList (⟨#[112, 114, 105, 118, 97, 116, 101]⟩ : ByteArray)))) (by kernel_rfl) (fun hb => ?_) (fun hb => ?_)
  · replace hF := of_t hb hF
    refine wp_reg_seq tok (orc := orcL []) (fz := []) (l := [4]) (c := _) (fun i h => h) h (by kernel_rfl) (AllP.nil) ?_
    intro a w h
    cases hF
    exact wp_ret (ret_okR tok h rfl (by kernel_rfl)).1
  · replace hF := of_f hb hF
    refine wp_skip ?_
    refine wp_seq ?_
    refine wp_reg_seq tok (orc := orcL []) (fz := []) (l := [0, 1, 5, 24]) (c := _) (fun i h => h) h (by kernel_rfl) (AllP.nil) ?_
    intro a w h
    refine wp_if h (b := ((x1 : Int) == (2 : Int))) (by kernel_rfl) (fun hb => ?_) (fun hb => ?_)
    · replace hF := of_t hb hF
      refine wp_seq ?_
      refine wp_reg_seq tok (orc := orcL []) (fz := []) (l := [26]) (c := _) (fun i h => h) h (by kernel_rfl) (AllP.nil) ?_
      intro a w h
      refine wp_if h (b := (ByteArray.toList r1 == ByteArray.toList (⟨#[109, 111, 116, 111, 114, 119, 97, 121]⟩ : ByteArray))) (by kernel_rfl) (fun hb => ?_) (fun hb => ?_)
      · replace hF := of_t hb hF
        refine wp_reg_seq tok (orc := orcL []) (fz := []) (l := [4]) (c := _) (fun i h => h) h (by kernel_rfl) (AllP.nil) ?_
        intro a w h
        cases hF
        exact wp_ret (ret_okR tok h rfl (by kernel_rfl)).1
      · replace hF := of_f hb hF
        refine wp_skip ?_
        refine wp_reg_seq tok (orc := orcL []) (fz := []) (l := [4]) (c := _) (fun i h => h) h (by kernel_rfl) (AllP.nil) ?_
        intro a w h
        cases hF
        exact wp_ret (ret_okR tok h rfl (by kernel_rfl)).1
    · replace hF := of_f hb hF
      refine wp_skip ?_
      refine wp_seq ?_
      refine wp_reg_seq tok (orc := orcL []) (fz := []) (l := [0, 5, 28]) (c := _) (fun i h => h) h (by kernel_rfl) (AllP.nil) ?_
      intro a w h
      refine wp_if h (b := ((x1 : Int) != (1 : Int))) (by kernel_rfl) (fun hb => ?_) (fun hb => ?_)
      · replace hF := of_t hb hF
        refine wp_reg_seq tok (orc := orcL []) (fz := []) (l := [4]) (c := _) (fun i h => h) h (by kernel_rfl) (AllP.nil) ?_
        intro a w h
        cases hF
        exact wp_ret (ret_okR tok h rfl (by kernel_rfl)).1
      · replace hF := of_f hb hF
        refine wp_skip ?_
        refine wp_reg_seq tok (orc := orcL []) (fz := []) (l := [0, 5, 7]) (c := _) (fun i h => h) h (by kernel_rfl) (AllP.nil) ?_
        intro a w h
        refine wp_seq ?_
        refine wp_reg_seq tok (orc := orcL []) (fz := []) (l := [0, 7, 29]) (c := _) (fun i h => h) h (by kernel_rfl) (AllP.nil) ?_
        intro a w h
        refine wp_midT (fun a w => ∃ v : Int, f28.j4 k x0 v = some r ∧ Rel w0 (fun _ => False) Zi Try.f28.ntmps ((fun (v3 : Int) => ([(0, .val sh2 x0), (7, .val (.int .i64) v3)] : SS)) v) a w) ?_ ?_
        ·
          refine wp_block ?_
          refine wp_reg_seq tok (orc := orcL []) (fz := []) (l := [0, 7, 29, 30]) (c := _) (fun i h => h) h (by kernel_rfl) (AllP.nil) ?_
          intro a w h
          refine wp_if h (b := (ByteArray.toList r1 == ByteArray.toList (⟨#[109, 111, 116, 111, 114, 119, 97, 121]⟩ : ByteArray))) (by kernel_rfl) (fun hb => ?_) (fun hb => ?_)
          · replace hF := of_t hb hF
            refine wp_reg tok (orc := orcL []) (fz := []) (l := [0, 7]) (c := _) (fun i h => h) h (by kernel_rfl) (AllP.nil) ?_
            intro a w h
            exact ⟨(30 : Int), hF, h.arrive (fz := []) (l := [0, 7]) (fun i h => h) (by kernel_rfl)⟩
          · replace hF := of_f hb hF
            refine wp_reg_seq tok (orc := orcL []) (fz := []) (l := [0, 7, 29, 32]) (c := _) (fun i h => h) h (by kernel_rfl) (AllP.nil) ?_
            intro a w h
            refine wp_if h (b := (ByteArray.toList r1 == ByteArray.toList (⟨#[109, 97, 105, 110]⟩ : ByteArray))) (by kernel_rfl) (fun hb => ?_) (fun hb => ?_)
            · replace hF := of_t hb hF
              refine wp_reg tok (orc := orcL []) (fz := []) (l := [0, 7]) (c := _) (fun i h => h) h (by kernel_rfl) (AllP.nil) ?_
              intro a w h
              exact ⟨(20 : Int), hF, h.arrive (fz := []) (l := [0, 7]) (fun i h => h) (by kernel_rfl)⟩
            · replace hF := of_f hb hF
              refine wp_reg_seq tok (orc := orcL []) (fz := []) (l := [0, 7, 34]) (c := _) (fun i h => h) h (by kernel_rfl) (AllP.nil) ?_
              intro a w h
              refine wp_if h (b := (ByteArray.toList r1 == ByteArray.toList (⟨#[115, 116, 114, 101, 101, 116]⟩ : ByteArray))) (by kernel_rfl) (fun hb => ?_) (fun hb => ?_)
              · replace hF := of_t hb hF
                refine wp_reg tok (orc := orcL []) (fz := []) (l := [0, 7]) (c := _) (fun i h => h) h (by kernel_rfl) (AllP.nil) ?_
                intro a w h
                exact ⟨(10 : Int), hF, h.arrive (fz := []) (l := [0, 7]) (fun i h => h) (by kernel_rfl)⟩
              · replace hF := of_f hb hF
                refine wp_skip ?_
                exact ⟨(0 : Int), hF, h.arrive (fz := []) (l := [0, 7]) (fun i h => h) (by kernel_rfl)⟩
        · rintro a w ⟨v3, hF, h⟩
          rw [f28.j4] at hF
          obtain ⟨r5, hr9, hF⟩ := of_bind hF
          obtain ⟨r6, hr10, hF⟩ := of_bind hF
          refine wp_reg_seq tok (orc := orcL [(37, [⟨.str, r5⟩]), (38, [⟨(.int .i64), r6⟩])]) (fz := []) (l := [7, 8]) (c := _) (fun i h => h) h (by kernel_rfl) (AllP.cons (c81 k x0 (⟨#[109, 97, 120, 115, 112, 101, 101, 100]⟩ : ByteArray) r5 hr9) (AllP.cons (c87 k r5 (30 : Int) r6 hr10) AllP.nil)) ?_
          intro a w h
          refine wp_seq ?_
          refine wp_reg_seq tok (orc := orcL []) (fz := []) (l := [7, 8, 45]) (c := _) (fun i h => h) h (by kernel_rfl) (AllP.nil) ?_
          intro a w h
          refine wp_midT (fun a w => ∃ v : Int, f28.j8 k v = some r ∧ Rel w0 (fun _ => False) Zi Try.f28.ntmps ((fun (v7 : Int) => ([(7, .val (.int .i64) v7)] : SS)) v) a w) ?_ ?_
          ·
            refine wp_if h (b := (bif (decide ((r6 : Int) ≥ (1 : Int))) then (decide ((r6 : Int) < v3)) else false)) (by kernel_rfl) (fun hb => ?_) (fun hb => ?_)
            · replace hF := of_t hb hF
              refine wp_reg tok (orc := orcL []) (fz := []) (l := [7]) (c := _) (fun i h => h) h (by kernel_rfl) (AllP.nil) ?_
              intro a w h
              exact ⟨r6, hF, h.arrive (fz := []) (l := [7]) (fun i h => h) (by kernel_rfl)⟩
            · replace hF := of_f hb hF
              refine wp_skip ?_
              exact ⟨v3, hF, h.arrive (fz := []) (l := [7]) (fun i h => h) (by kernel_rfl)⟩
          · rintro a w ⟨v7, hF, h⟩
            rw [f28.j8] at hF
            refine wp_reg_seq tok (orc := orcL []) (fz := []) (l := [4]) (c := _) (fun i h => h) h (by kernel_rfl) (AllP.nil) ?_
            intro a w h
            cases hF
            exact wp_ret (ret_okR tok h rfl (by kernel_rfl)).1

def f109.l12 (k : Nat) (x0 : (List (ByteArray × ByteArray))) (x1 : ByteArray) : Nat → Int → Option Int
  | 0, _ => none
  | m12 + 1, v20 => if (decide ((v20 : Int) < (List.length x0 : Int))) then (if (0 ≤ v20 ∧ v20 < (List.length x0 : Int)) then (if (ByteArray.toList (List.getD x0 (Int.toNat v20) ((⟨#[]⟩ : ByteArray), (⟨#[]⟩ : ByteArray))).1 == ByteArray.toList x1) then (some v20) else ((f109.l12 k x0 x1) m12 (IntKind.i64.wrap (v20 + (1 : Int))))) else none) else (some (-1 : Int))
def f109 (k : Nat) (x0 : (List (ByteArray × ByteArray))) (x1 : ByteArray) : Option Int := f109.l12 k x0 x1 k (0 : Int)
set_option maxRecDepth 100000 in
/-- 'impl.tagAt'. -/
theorem c109 (k : Nat) (x0 : (List (ByteArray × ByteArray))) (x1 : ByteArray) (r : Int) (hF : f109 k x0 x1 = some r) : PCall Try.prog 109 [⟨sh2, x0⟩, ⟨.str, x1⟩] [⟨(.int .i64), r⟩] := by
  refine pcall_intro Try.func109 rfl rfl (Nat.le_of_ble_eq_true rfl) ?_
  intro w0 Zi a w h
  rw [f109] at hF
  refine wp_reg_seq tok (orc := orcL []) (fz := []) (l := [0, 1]) (c := _) (fun i h => h) h (by kernel_rfl) (AllP.nil) ?_
  intro a w h
  refine wp_seq ?_
  refine wp_reg_seq tok (orc := orcL []) (fz := []) (l := [1, 7, 8, 9]) (c := _) (fun i h => h) h (by kernel_rfl) (AllP.nil) ?_
  intro a w h
  refine wp_block ?_
  refine wp_loop_fuel (f109.l12 k x0 x1) (fun (v20 : Int) => [(1, .val .str x1), (7, .val sh2 x0), (8, .val (.int .i64) (List.length x0 : Int)), (9, .val (.int .i64) v20)]) (fun v h => by rw [f109.l12] at h; cases h) ?_ hF (h.arrive (fz := []) (l := [1, 7, 8, 9]) (fun i h => h) (by kernel_rfl))
  intro m12 v20 a w hF h
  rw [f109.l12] at hF
  refine wp_reg_seq tok (orc := orcL []) (fz := []) (l := [1, 7, 8, 9, 10]) (c := _) (fun i h => h) h (by kernel_rfl) (AllP.nil) ?_
  intro a w h
  refine wp_seq <| wp_if h (b := (decide ((v20 : Int) < (List.length x0 : Int)))) (by kernel_rfl) (fun hb => ?_) (fun hb => ?_)
  · replace hF := of_t hb hF
    refine wp_skip ?_
    refine wp_seq <| wp_block ?_
    obtain ⟨hc22, hF⟩ := of_if hF
    refine wp_reg_seq tok (orc := orcL []) (fz := []) (l := [1, 5, 6, 7, 8, 9]) (c := _) (fun i h => h) h (by kernel_rfl) (AllP.cons hc22 AllP.nil) ?_
    intro a w h
    refine wp_reg_seq tok (orc := orcL []) (fz := []) (l := [1, 5, 7, 8, 9, 17]) (c := _) (fun i h => h) h (by kernel_rfl) (AllP.nil) ?_
    intro a w h
    refine wp_if h (b := (ByteArray.toList (List.getD x0 (Int.toNat v20) ((⟨#[]⟩ : ByteArray), (⟨#[]⟩ : ByteArray))).1 == ByteArray.toList x1)) (by kernel_rfl) (fun hb => ?_) (fun hb => ?_)
    · replace hF := of_t hb hF
      refine wp_reg_seq tok (orc := orcL []) (fz := []) (l := [4]) (c := _) (fun i h => h) h (by kernel_rfl) (AllP.nil) ?_
      intro a w h
      cases hF
      exact wp_ret (ret_okR tok h rfl (by kernel_rfl)).1
    · replace hF := of_f hb hF
      refine wp_skip ?_
      refine wp_reg tok (orc := orcL []) (fz := []) (l := [1, 7, 8, 9]) (c := _) (fun i h => h) h (by kernel_rfl) (AllP.nil) ?_
      intro a w h
      exact ⟨(IntKind.i64.wrap (v20 + (1 : Int))), hF, h.arrive (fz := []) (l := [1, 7, 8, 9]) (fun i h => h) (by kernel_rfl)⟩
  · replace hF := of_f hb hF
    refine wp_exit ?_
    refine wp_reg_seq tok (orc := orcL []) (fz := []) (l := [4]) (c := _) (fun i h => h) h (by kernel_rfl) (AllP.nil) ?_
    intro a w h
    cases hF
    exact wp_ret (ret_okR tok h rfl (by kernel_rfl)).1

def f83 (k : Nat) (x0 : (List (ByteArray × ByteArray))) (x1 : ByteArray) : Option ByteArray := (f109 k x0 x1).bind fun r1 => (if (decide ((r1 : Int) ≥ (0 : Int))) then (if (0 ≤ r1 ∧ r1 < (List.length x0 : Int)) then (some (List.getD x0 (Int.toNat r1) ((⟨#[]⟩ : ByteArray), (⟨#[]⟩ : ByteArray))).2) else none) else (some (⟨#[]⟩ : ByteArray)))
set_option maxRecDepth 100000 in
/-- 'impl.TagOf'. -/
theorem c83 (k : Nat) (x0 : (List (ByteArray × ByteArray))) (x1 : ByteArray) (r : ByteArray) (hF : f83 k x0 x1 = some r) : PCall Try.prog 83 [⟨sh2, x0⟩, ⟨.str, x1⟩] [⟨.str, r⟩] := by
  refine pcall_intro Try.func83 rfl rfl (Nat.le_of_ble_eq_true rfl) ?_
  intro w0 Zi a w h
  rw [f83] at hF
  refine wp_reg_seq tok (orc := orcL []) (fz := []) (l := [0, 1]) (c := _) (fun i h => h) h (by kernel_rfl) (AllP.nil) ?_
  intro a w h
  refine wp_seq ?_
  obtain ⟨r1, hr4, hF⟩ := of_bind hF
  refine wp_reg_seq tok (orc := orcL [(8, [⟨(.int .i64), r1⟩])]) (fz := []) (l := [0, 5]) (c := _) (fun i h => h) h (by kernel_rfl) (AllP.cons (c109 k x0 x1 r1 hr4) AllP.nil) ?_
  intro a w h
  refine wp_reg_seq tok (orc := orcL []) (fz := []) (l := [0, 5, 10]) (c := _) (fun i h => h) h (by kernel_rfl) (AllP.nil) ?_
  intro a w h
  refine wp_if h (b := (decide ((r1 : Int) ≥ (0 : Int)))) (by kernel_rfl) (fun hb => ?_) (fun hb => ?_)
  · replace hF := of_t hb hF
    obtain ⟨hc3, hF⟩ := of_if hF
    refine wp_reg_seq tok (orc := orcL []) (fz := []) (l := [4]) (c := _) (fun i h => h) h (by kernel_rfl) (AllP.cons hc3 AllP.nil) ?_
    intro a w h
    cases hF
    exact wp_ret (ret_okR tok h rfl (by kernel_rfl)).1
  · replace hF := of_f hb hF
    refine wp_skip ?_
    refine wp_reg_seq tok (orc := orcL []) (fz := []) (l := [4]) (c := _) (fun i h => h) h (by kernel_rfl) (AllP.nil) ?_
    intro a w h
    cases hF
    exact wp_ret (ret_okR tok h rfl (by kernel_rfl)).1

def f88.l28 (k : Nat) (x0 : ByteArray) (x1 : Int) : Nat → (Int × Int) → Option (Int × Bool)
  | 0, _ => none
  | m28 + 1, (v47, v48) => if (decide ((v48 : Int) < (ByteArray.size x0 : Int))) then (if ((0 : Int) ≤ v48 ∧ (v48 : Int) < (ByteArray.size x0 : Int)) then (if (((decide (((byteAt x0 v48) : Int) < (48 : Int))) = false) → ((0 : Int) ≤ v48 ∧ (v48 : Int) < (ByteArray.size x0 : Int))) then (if (bif (decide (((byteAt x0 v48) : Int) < (48 : Int))) then true else (decide (((byteAt x0 v48) : Int) > (57 : Int)))) then (some ((0 : Int), false)) else (if ((0 : Int) ≤ v48 ∧ (v48 : Int) < (ByteArray.size x0 : Int)) then (if (decide (((IntKind.i64.wrap ((IntKind.i64.wrap (v47 * (10 : Int))) + (IntKind.i64.wrap (IntKind.u8.wrap ((byteAt x0 v48) - (48 : Int)))))) : Int) > x1)) then (some ((0 : Int), false)) else ((f88.l28 k x0 x1) m28 ((IntKind.i64.wrap ((IntKind.i64.wrap (v47 * (10 : Int))) + (IntKind.i64.wrap (IntKind.u8.wrap ((byteAt x0 v48) - (48 : Int)))))), (IntKind.i64.wrap (v48 + (1 : Int)))))) else none)) else none) else none) else (some (v47, true))
def f88 (k : Nat) (x0 : ByteArray) (x1 : Int) : Option (Int × Bool) := if (bif (ByteArray.toList x0 == ByteArray.toList (⟨#[]⟩ : ByteArray)) then true else (decide (((ByteArray.size x0 : Int) : Int) > (10 : Int)))) then (some ((0 : Int), false)) else (f88.l28 k x0 x1 k ((0 : Int), (0 : Int)))
set_option maxRecDepth 100000 in
/-- 'impl.number'. -/
theorem c88 (k : Nat) (x0 : ByteArray) (x1 : Int) (r : (Int × Bool)) (hF : f88 k x0 x1 = some r) : PCall Try.prog 88 [⟨.str, x0⟩, ⟨(.int .i64), x1⟩] [⟨(.int .i64), r.1⟩, ⟨.bool, r.2⟩] := by
  refine pcall_intro Try.func88 rfl rfl (Nat.le_of_ble_eq_true rfl) ?_
  intro w0 Zi a w h
  rw [f88] at hF
  refine wp_reg_seq tok (orc := orcL []) (fz := []) (l := [0, 1]) (c := _) (fun i h => h) h (by kernel_rfl) (AllP.nil) ?_
  intro a w h
  refine wp_seq ?_
  refine wp_reg_seq tok (orc := orcL []) (fz := []) (l := [0, 1, 14]) (c := _) (fun i h => h) h (by kernel_rfl) (AllP.nil) ?_
  intro a w h
  refine wp_if h (b := (bif (ByteArray.toList x0 == ByteArray.toList (⟨#[]⟩ : ByteArray)) then true else (decide (((ByteArray.size x0 : Int) : Int) > (10 : Int))))) (by kernel_rfl) (fun hb => ?_) (fun hb => ?_)
  · replace hF := of_t hb hF
    refine wp_reg_seq tok (orc := orcL []) (fz := []) (l := [4, 5]) (c := _) (fun i h => h) h (by kernel_rfl) (AllP.nil) ?_
    intro a w h
    cases hF
    exact wp_ret (ret_okR tok h rfl (by kernel_rfl)).1
  · replace hF := of_f hb hF
    refine wp_skip ?_
    refine wp_reg_seq tok (orc := orcL []) (fz := []) (l := [0, 1, 6]) (c := _) (fun i h => h) h (by kernel_rfl) (AllP.nil) ?_
    intro a w h
    refine wp_seq ?_
    refine wp_reg_seq tok (orc := orcL []) (fz := []) (l := [0, 1, 6, 7]) (c := _) (fun i h => h) h (by kernel_rfl) (AllP.nil) ?_
    intro a w h
    refine wp_block ?_
    refine wp_loop_fuel (f88.l28 k x0 x1) (fun ((v47, v48) : (Int × Int)) => [(0, .val .str x0), (1, .val (.int .i64) x1), (6, .val (.int .i64) v47), (7, .val (.int .i64) v48)]) (fun v h => by obtain ⟨v47, v48⟩ := v; rw [f88.l28] at h; cases h) ?_ hF (h.arrive (fz := []) (l := [0, 1, 6, 7]) (fun i h => h) (by kernel_rfl))
    intro m28 v a w hF h
    obtain ⟨v47, v48⟩ := v
    rw [f88.l28] at hF
    refine wp_seq ?_
    refine wp_reg_seq tok (orc := orcL []) (fz := []) (l := [0, 1, 6, 7, 18]) (c := _) (fun i h => h) h (by kernel_rfl) (AllP.nil) ?_
    intro a w h
    refine wp_if h (b := (decide ((v48 : Int) < (ByteArray.size x0 : Int)))) (by kernel_rfl) (fun hb => ?_) (fun hb => ?_)
    · replace hF := of_t hb hF
      refine wp_skip ?_
      refine wp_seq <| wp_block ?_
      refine wp_seq ?_
      obtain ⟨hc53, hF⟩ := of_if hF
      obtain ⟨hc54, hF⟩ := of_if hF
      refine wp_reg_seq tok (orc := orcL []) (fz := []) (l := [0, 1, 6, 7, 30]) (c := _) (fun i h => h) h (by kernel_rfl) (AllP.cons hc53 (AllP.cons hc54 AllP.nil)) ?_
      intro a w h
      refine wp_if h (b := (bif (decide (((byteAt x0 v48) : Int) < (48 : Int))) then true else (decide (((byteAt x0 v48) : Int) > (57 : Int))))) (by kernel_rfl) (fun hb => ?_) (fun hb => ?_)
      · replace hF := of_t hb hF
        refine wp_reg_seq tok (orc := orcL []) (fz := []) (l := [4, 5]) (c := _) (fun i h => h) h (by kernel_rfl) (AllP.nil) ?_
        intro a w h
        cases hF
        exact wp_ret (ret_okR tok h rfl (by kernel_rfl)).1
      · replace hF := of_f hb hF
        refine wp_skip ?_
        obtain ⟨hc52, hF⟩ := of_if hF
        refine wp_reg_seq tok (orc := orcL []) (fz := []) (l := [0, 1, 6, 7]) (c := _) (fun i h => h) h (by kernel_rfl) (AllP.cons hc52 AllP.nil) ?_
        intro a w h
        refine wp_reg_seq tok (orc := orcL []) (fz := []) (l := [0, 1, 6, 7, 41]) (c := _) (fun i h => h) h (by kernel_rfl) (AllP.nil) ?_
        intro a w h
        refine wp_if h (b := (decide (((IntKind.i64.wrap ((IntKind.i64.wrap (v47 * (10 : Int))) + (IntKind.i64.wrap (IntKind.u8.wrap ((byteAt x0 v48) - (48 : Int)))))) : Int) > x1))) (by kernel_rfl) (fun hb => ?_) (fun hb => ?_)
        · replace hF := of_t hb hF
          refine wp_reg_seq tok (orc := orcL []) (fz := []) (l := [4, 5]) (c := _) (fun i h => h) h (by kernel_rfl) (AllP.nil) ?_
          intro a w h
          cases hF
          exact wp_ret (ret_okR tok h rfl (by kernel_rfl)).1
        · replace hF := of_f hb hF
          refine wp_skip ?_
          refine wp_reg tok (orc := orcL []) (fz := []) (l := [0, 1, 6, 7]) (c := _) (fun i h => h) h (by kernel_rfl) (AllP.nil) ?_
          intro a w h
          exact ⟨((IntKind.i64.wrap ((IntKind.i64.wrap (v47 * (10 : Int))) + (IntKind.i64.wrap (IntKind.u8.wrap ((byteAt x0 v48) - (48 : Int)))))), (IntKind.i64.wrap (v48 + (1 : Int)))), hF, h.arrive (fz := []) (l := [0, 1, 6, 7]) (fun i h => h) (by kernel_rfl)⟩
    · replace hF := of_f hb hF
      refine wp_exit ?_
      refine wp_reg_seq tok (orc := orcL []) (fz := []) (l := [4, 5]) (c := _) (fun i h => h) h (by kernel_rfl) (AllP.nil) ?_
      intro a w h
      cases hF
      exact wp_ret (ret_okR tok h rfl (by kernel_rfl)).1

def f29.j12 (k : Nat) : Int → Option Int
  | v11 => some v11
def f29.j9 (k : Nat) (x0 : (List (ByteArray × ByteArray))) : Int → Option Int
  | v8 => (f83 k x0 (⟨#[97, 99, 99, 101, 115, 115]⟩ : ByteArray)).bind fun r10 => (if (bif (ByteArray.toList r10 == ByteArray.toList (⟨#[110, 111]⟩ : ByteArray)) then true else (ByteArray.toList r10 == ByteArray.toList (⟨#[112, 114, 105, 118, 97, 116, 101]⟩ : ByteArray))) then (f29.j12 k (0 : Int)) else (f29.j12 k v8))
def f29.j15 (k : Nat) (x0 : (List (ByteArray × ByteArray))) (q9 : Int → Option Int) : Int → Option Int
  | v14 => (f83 k x0 (⟨#[109, 97, 120, 115, 112, 101, 101, 100]⟩ : ByteArray)).bind fun r16 => ((f88 k r16 (30 : Int)).bind fun r17 => (if (bif (bif r17.2 then (decide ((r17.1 : Int) ≥ (1 : Int))) else false) then (decide ((v14 : Int) > r17.1)) else false) then (q9 r17.1) else (q9 v14)))
def f29 (k : Nat) (x0 : (List (ByteArray × ByteArray))) (x1 : Int) : Option Int := (f83 k x0 (⟨#[104, 105, 103, 104, 119, 97, 121]⟩ : ByteArray)).bind fun r1 => (if ((x1 : Int) == (1 : Int)) then (if (ByteArray.toList r1 == ByteArray.toList (⟨#[109, 111, 116, 111, 114, 119, 97, 121]⟩ : ByteArray)) then (f29.j15 k x0 (f29.j9 k x0) (30 : Int)) else (if (ByteArray.toList r1 == ByteArray.toList (⟨#[109, 97, 105, 110]⟩ : ByteArray)) then (f29.j15 k x0 (f29.j9 k x0) (20 : Int)) else (if (ByteArray.toList r1 == ByteArray.toList (⟨#[115, 116, 114, 101, 101, 116]⟩ : ByteArray)) then (f29.j15 k x0 (f29.j9 k x0) (10 : Int)) else (f29.j15 k x0 (f29.j9 k x0) (0 : Int))))) else (if ((x1 : Int) == (2 : Int)) then (if (bif (!(ByteArray.toList r1 == ByteArray.toList (⟨#[]⟩ : ByteArray))) then (!(ByteArray.toList r1 == ByteArray.toList (⟨#[109, 111, 116, 111, 114, 119, 97, 121]⟩ : ByteArray))) else false) then (f29.j9 k x0 (1 : Int)) else (f29.j9 k x0 (0 : Int))) else (f29.j9 k x0 (0 : Int))))
set_option maxRecDepth 100000 in
/-- 'impl.SpeedOf'. -/
theorem c29 (k : Nat) (x0 : (List (ByteArray × ByteArray))) (x1 : Int) (r : Int) (hF : f29 k x0 x1 = some r) : PCall Try.prog 29 [⟨sh2, x0⟩, ⟨(.int .i64), x1⟩] [⟨(.int .i64), r⟩] := by
  refine pcall_intro Try.func29 rfl rfl (Nat.le_of_ble_eq_true rfl) ?_
  intro w0 Zi a w h
  rw [f29] at hF
  refine wp_reg_seq tok (orc := orcL []) (fz := []) (l := [0, 1]) (c := _) (fun i h => h) h (by kernel_rfl) (AllP.nil) ?_
  intro a w h
  obtain ⟨r1, hr20, hF⟩ := of_bind hF
  refine wp_reg_seq tok (orc := orcL [(11, [⟨.str, r1⟩])]) (fz := []) (l := [0, 1, 5]) (c := _) (fun i h => h) h (by kernel_rfl) (AllP.cons (c83 k x0 (⟨#[104, 105, 103, 104, 119, 97, 121]⟩ : ByteArray) r1 hr20) AllP.nil) ?_
  intro a w h
  refine wp_reg_seq tok (orc := orcL []) (fz := []) (l := [0, 1, 5, 6]) (c := _) (fun i h => h) h (by kernel_rfl) (AllP.nil) ?_
  intro a w h
  refine wp_seq ?_
  refine wp_reg_seq tok (orc := orcL []) (fz := []) (l := [0, 5, 6, 12]) (c := _) (fun i h => h) h (by kernel_rfl) (AllP.nil) ?_
  intro a w h
  refine wp_midT (fun a w => ∃ v : Int, f29.j9 k x0 v = some r ∧ Rel w0 (fun _ => False) Zi Try.f29.ntmps ((fun (v8 : Int) => ([(0, .val sh2 x0), (6, .val (.int .i64) v8)] : SS)) v) a w) ?_ ?_
  ·
    refine wp_block ?_
    refine wp_reg_seq tok (orc := orcL []) (fz := []) (l := [0, 5, 6, 12, 13]) (c := _) (fun i h => h) h (by kernel_rfl) (AllP.nil) ?_
    intro a w h
    refine wp_if h (b := ((x1 : Int) == (1 : Int))) (by kernel_rfl) (fun hb => ?_) (fun hb => ?_)
    · replace hF := of_t hb hF
      refine wp_seq ?_
      refine wp_reg_seq tok (orc := orcL []) (fz := []) (l := [0, 6, 15]) (c := _) (fun i h => h) h (by kernel_rfl) (AllP.nil) ?_
      intro a w h
      refine wp_midT (fun a w => ∃ v : Int, f29.j15 k x0 (f29.j9 k x0) v = some r ∧ Rel w0 (fun _ => False) Zi Try.f29.ntmps ((fun (v14 : Int) => ([(0, .val sh2 x0), (6, .val (.int .i64) v14)] : SS)) v) a w) ?_ ?_
      ·
        refine wp_block ?_
        refine wp_reg_seq tok (orc := orcL []) (fz := []) (l := [0, 6, 15, 16]) (c := _) (fun i h => h) h (by kernel_rfl) (AllP.nil) ?_
        intro a w h
        refine wp_if h (b := (ByteArray.toList r1 == ByteArray.toList (⟨#[109, 111, 116, 111, 114, 119, 97, 121]⟩ : ByteArray))) (by kernel_rfl) (fun hb => ?_) (fun hb => ?_)
        · replace hF := of_t hb hF
          refine wp_reg tok (orc := orcL []) (fz := []) (l := [0, 6]) (c := _) (fun i h => h) h (by kernel_rfl) (AllP.nil) ?_
          intro a w h
          exact ⟨(30 : Int), hF, h.arrive (fz := []) (l := [0, 6]) (fun i h => h) (by kernel_rfl)⟩
        · replace hF := of_f hb hF
          refine wp_reg_seq tok (orc := orcL []) (fz := []) (l := [0, 6, 15, 18]) (c := _) (fun i h => h) h (by kernel_rfl) (AllP.nil) ?_
          intro a w h
          refine wp_if h (b := (ByteArray.toList r1 == ByteArray.toList (⟨#[109, 97, 105, 110]⟩ : ByteArray))) (by kernel_rfl) (fun hb => ?_) (fun hb => ?_)
          · replace hF := of_t hb hF
            refine wp_reg tok (orc := orcL []) (fz := []) (l := [0, 6]) (c := _) (fun i h => h) h (by kernel_rfl) (AllP.nil) ?_
            intro a w h
            exact ⟨(20 : Int), hF, h.arrive (fz := []) (l := [0, 6]) (fun i h => h) (by kernel_rfl)⟩
          · replace hF := of_f hb hF
            refine wp_reg_seq tok (orc := orcL []) (fz := []) (l := [0, 6, 20]) (c := _) (fun i h => h) h (by kernel_rfl) (AllP.nil) ?_
            intro a w h
            refine wp_if h (b := (ByteArray.toList r1 == ByteArray.toList (⟨#[115, 116, 114, 101, 101, 116]⟩ : ByteArray))) (by kernel_rfl) (fun hb => ?_) (fun hb => ?_)
            · replace hF := of_t hb hF
              refine wp_reg tok (orc := orcL []) (fz := []) (l := [0, 6]) (c := _) (fun i h => h) h (by kernel_rfl) (AllP.nil) ?_
              intro a w h
              exact ⟨(10 : Int), hF, h.arrive (fz := []) (l := [0, 6]) (fun i h => h) (by kernel_rfl)⟩
            · replace hF := of_f hb hF
              refine wp_skip ?_
              exact ⟨(0 : Int), hF, h.arrive (fz := []) (l := [0, 6]) (fun i h => h) (by kernel_rfl)⟩
      · rintro a w ⟨v14, hF, h⟩
        rw [f29.j15] at hF
        obtain ⟨r16, hr18, hF⟩ := of_bind hF
        obtain ⟨r17, hr19, hF⟩ := of_bind hF
        refine wp_reg_seq tok (orc := orcL [(24, [⟨.str, r16⟩]), (25, [⟨(.int .i64), r17.1⟩, ⟨.bool, r17.2⟩])]) (fz := []) (l := [0, 6, 7, 8]) (c := _) (fun i h => h) h (by kernel_rfl) (AllP.cons (c83 k x0 (⟨#[109, 97, 120, 115, 112, 101, 101, 100]⟩ : ByteArray) r16 hr18) (AllP.cons (c88 k r16 (30 : Int) r17 hr19) AllP.nil)) ?_
        intro a w h
        refine wp_reg_seq tok (orc := orcL []) (fz := []) (l := [0, 6, 7, 37]) (c := _) (fun i h => h) h (by kernel_rfl) (AllP.nil) ?_
        intro a w h
        refine wp_if h (b := (bif (bif r17.2 then (decide ((r17.1 : Int) ≥ (1 : Int))) else false) then (decide ((v14 : Int) > r17.1)) else false)) (by kernel_rfl) (fun hb => ?_) (fun hb => ?_)
        · replace hF := of_t hb hF
          refine wp_reg tok (orc := orcL []) (fz := []) (l := [0, 6]) (c := _) (fun i h => h) h (by kernel_rfl) (AllP.nil) ?_
          intro a w h
          exact ⟨r17.1, hF, h.arrive (fz := []) (l := [0, 6]) (fun i h => h) (by kernel_rfl)⟩
        · replace hF := of_f hb hF
          refine wp_skip ?_
          exact ⟨v14, hF, h.arrive (fz := []) (l := [0, 6]) (fun i h => h) (by kernel_rfl)⟩
    · replace hF := of_f hb hF
      refine wp_reg_seq tok (orc := orcL []) (fz := []) (l := [0, 5, 6, 39]) (c := _) (fun i h => h) h (by kernel_rfl) (AllP.nil) ?_
      intro a w h
      refine wp_if h (b := ((x1 : Int) == (2 : Int))) (by kernel_rfl) (fun hb => ?_) (fun hb => ?_)
      · replace hF := of_t hb hF
        refine wp_reg_seq tok (orc := orcL []) (fz := []) (l := [0, 6, 46]) (c := _) (fun i h => h) h (by kernel_rfl) (AllP.nil) ?_
        intro a w h
        refine wp_if h (b := (bif (!(ByteArray.toList r1 == ByteArray.toList (⟨#[]⟩ : ByteArray))) then (!(ByteArray.toList r1 == ByteArray.toList (⟨#[109, 111, 116, 111, 114, 119, 97, 121]⟩ : ByteArray))) else false)) (by kernel_rfl) (fun hb => ?_) (fun hb => ?_)
        · replace hF := of_t hb hF
          refine wp_reg tok (orc := orcL []) (fz := []) (l := [0, 6]) (c := _) (fun i h => h) h (by kernel_rfl) (AllP.nil) ?_
          intro a w h
          exact ⟨(1 : Int), hF, h.arrive (fz := []) (l := [0, 6]) (fun i h => h) (by kernel_rfl)⟩
        · replace hF := of_f hb hF
          refine wp_skip ?_
          exact ⟨(0 : Int), hF, h.arrive (fz := []) (l := [0, 6]) (fun i h => h) (by kernel_rfl)⟩
      · replace hF := of_f hb hF
        refine wp_skip ?_
        exact ⟨(0 : Int), hF, h.arrive (fz := []) (l := [0, 6]) (fun i h => h) (by kernel_rfl)⟩
  · rintro a w ⟨v8, hF, h⟩
    rw [f29.j9] at hF
    refine wp_seq ?_
    obtain ⟨r10, hr13, hF⟩ := of_bind hF
    refine wp_reg_seq tok (orc := orcL [(48, [⟨.str, r10⟩])]) (fz := []) (l := [6, 9]) (c := _) (fun i h => h) h (by kernel_rfl) (AllP.cons (c83 k x0 (⟨#[97, 99, 99, 101, 115, 115]⟩ : ByteArray) r10 hr13) AllP.nil) ?_
    intro a w h
    refine wp_reg_seq tok (orc := orcL []) (fz := []) (l := [6, 54]) (c := _) (fun i h => h) h (by kernel_rfl) (AllP.nil) ?_
    intro a w h
    refine wp_midT (fun a w => ∃ v : Int, f29.j12 k v = some r ∧ Rel w0 (fun _ => False) Zi Try.f29.ntmps ((fun (v11 : Int) => ([(6, .val (.int .i64) v11)] : SS)) v) a w) ?_ ?_
    ·
      refine wp_if h (b := (bif (ByteArray.toList r10 == ByteArray.toList (⟨#[110, 111]⟩ : ByteArray)) then true else (ByteArray.toList r10 == ByteArray.toList (⟨#[112, 114, 105, 118, 97, 116, 101]⟩ : ByteArray)))) (by kernel_rfl) (fun hb => ?_) (fun hb => ?_)
      · replace hF := of_t hb hF
        refine wp_reg tok (orc := orcL []) (fz := []) (l := [6]) (c := _) (fun i h => h) h (by kernel_rfl) (AllP.nil) ?_
        intro a w h
        exact ⟨(0 : Int), hF, h.arrive (fz := []) (l := [6]) (fun i h => h) (by kernel_rfl)⟩
      · replace hF := of_f hb hF
        refine wp_skip ?_
        exact ⟨v8, hF, h.arrive (fz := []) (l := [6]) (fun i h => h) (by kernel_rfl)⟩
    · rintro a w ⟨v11, hF, h⟩
      rw [f29.j12] at hF
      refine wp_reg_seq tok (orc := orcL []) (fz := []) (l := [4]) (c := _) (fun i h => h) h (by kernel_rfl) (AllP.nil) ?_
      intro a w h
      cases hF
      exact wp_ret (ret_okR tok h rfl (by kernel_rfl)).1

def f84 (k : Nat) (x0 : (ByteArray × ByteArray)) (x1 : (ByteArray × ByteArray)) : Option Bool := if (!(ByteArray.toList x0.1 == ByteArray.toList x1.1)) then (some false) else (if (!(ByteArray.toList x0.2 == ByteArray.toList x1.2)) then (some false) else (some true))
set_option maxRecDepth 100000 in
/-- 'laws.eqTag'. -/
theorem c84 (k : Nat) (x0 : (ByteArray × ByteArray)) (x1 : (ByteArray × ByteArray)) (r : Bool) (hF : f84 k x0 x1 = some r) : PCall Try.prog 84 [⟨(.st (.pair .str .str)), x0⟩, ⟨(.st (.pair .str .str)), x1⟩] [⟨.bool, r⟩] := by
  refine pcall_intro Try.func84 rfl rfl (Nat.le_of_ble_eq_true rfl) ?_
  intro w0 Zi a w h
  rw [f84] at hF
  refine wp_reg_seq tok (orc := orcL []) (fz := []) (l := [2, 3]) (c := _) (fun i h => h) h (by kernel_rfl) (AllP.nil) ?_
  intro a w h
  refine wp_seq ?_
  refine wp_reg_seq tok (orc := orcL []) (fz := []) (l := [2, 3, 9]) (c := _) (fun i h => h) h (by kernel_rfl) (AllP.nil) ?_
  intro a w h
  refine wp_if h (b := (!(ByteArray.toList x0.1 == ByteArray.toList x1.1))) (by kernel_rfl) (fun hb => ?_) (fun hb => ?_)
  · replace hF := of_t hb hF
    refine wp_reg_seq tok (orc := orcL []) (fz := []) (l := [4]) (c := _) (fun i h => h) h (by kernel_rfl) (AllP.nil) ?_
    intro a w h
    cases hF
    exact wp_ret (ret_okR tok h rfl (by kernel_rfl)).1
  · replace hF := of_f hb hF
    refine wp_skip ?_
    refine wp_seq ?_
    refine wp_reg_seq tok (orc := orcL []) (fz := []) (l := [14]) (c := _) (fun i h => h) h (by kernel_rfl) (AllP.nil) ?_
    intro a w h
    refine wp_if h (b := (!(ByteArray.toList x0.2 == ByteArray.toList x1.2))) (by kernel_rfl) (fun hb => ?_) (fun hb => ?_)
    · replace hF := of_t hb hF
      refine wp_reg_seq tok (orc := orcL []) (fz := []) (l := [4]) (c := _) (fun i h => h) h (by kernel_rfl) (AllP.nil) ?_
      intro a w h
      cases hF
      exact wp_ret (ret_okR tok h rfl (by kernel_rfl)).1
    · replace hF := of_f hb hF
      refine wp_skip ?_
      refine wp_reg_seq tok (orc := orcL []) (fz := []) (l := [4]) (c := _) (fun i h => h) h (by kernel_rfl) (AllP.nil) ?_
      intro a w h
      cases hF
      exact wp_ret (ret_okR tok h rfl (by kernel_rfl)).1

def f22.l30 (k : Nat) (x0 : (List (ByteArray × ByteArray))) (x1 : (List (ByteArray × ByteArray))) : Nat → Int → Option Bool
  | 0, _ => none
  | m30 + 1, v50 => if (decide ((v50 : Int) < (List.length x0 : Int))) then (if (0 ≤ v50 ∧ v50 < (List.length x0 : Int)) then (if (0 ≤ v50 ∧ v50 < (List.length x1 : Int)) then ((f84 k (List.getD x0 (Int.toNat v50) ((⟨#[]⟩ : ByteArray), (⟨#[]⟩ : ByteArray))) (List.getD x1 (Int.toNat v50) ((⟨#[]⟩ : ByteArray), (⟨#[]⟩ : ByteArray)))).bind fun r55 => (if (!r55) then (some false) else ((f22.l30 k x0 x1) m30 (IntKind.i64.wrap (v50 + (1 : Int)))))) else none) else none) else (some true)
def f22 (k : Nat) (x0 : (List (ByteArray × ByteArray))) (x1 : (List (ByteArray × ByteArray))) : Option Bool := if (((List.length x0 : Int) : Int) != (List.length x1 : Int)) then (some false) else (f22.l30 k x0 x1 k (0 : Int))
set_option maxRecDepth 100000 in
/-- 'laws.eqTagS'. -/
theorem c22 (k : Nat) (x0 : (List (ByteArray × ByteArray))) (x1 : (List (ByteArray × ByteArray))) (r : Bool) (hF : f22 k x0 x1 = some r) : PCall Try.prog 22 [⟨sh2, x0⟩, ⟨sh2, x1⟩] [⟨.bool, r⟩] := by
  refine pcall_intro Try.func22 rfl rfl (Nat.le_of_ble_eq_true rfl) ?_
  intro w0 Zi a w h
  rw [f22] at hF
  refine wp_reg_seq tok (orc := orcL []) (fz := []) (l := [0, 1]) (c := _) (fun i h => h) h (by kernel_rfl) (AllP.nil) ?_
  intro a w h
  refine wp_seq ?_
  refine wp_reg_seq tok (orc := orcL []) (fz := []) (l := [0, 1, 10]) (c := _) (fun i h => h) h (by kernel_rfl) (AllP.nil) ?_
  intro a w h
  refine wp_if h (b := (((List.length x0 : Int) : Int) != (List.length x1 : Int))) (by kernel_rfl) (fun hb => ?_) (fun hb => ?_)
  · replace hF := of_t hb hF
    refine wp_reg_seq tok (orc := orcL []) (fz := []) (l := [4]) (c := _) (fun i h => h) h (by kernel_rfl) (AllP.nil) ?_
    intro a w h
    cases hF
    exact wp_ret (ret_okR tok h rfl (by kernel_rfl)).1
  · replace hF := of_f hb hF
    refine wp_skip ?_
    refine wp_seq ?_
    refine wp_reg_seq tok (orc := orcL []) (fz := []) (l := [0, 1, 5]) (c := _) (fun i h => h) h (by kernel_rfl) (AllP.nil) ?_
    intro a w h
    refine wp_block ?_
    refine wp_loop_fuel (f22.l30 k x0 x1) (fun (v50 : Int) => [(0, .val sh2 x0), (1, .val sh2 x1), (5, .val (.int .i64) v50)]) (fun v h => by rw [f22.l30] at h; cases h) ?_ hF (h.arrive (fz := []) (l := [0, 1, 5]) (fun i h => h) (by kernel_rfl))
    intro m30 v50 a w hF h
    rw [f22.l30] at hF
    refine wp_seq ?_
    refine wp_reg_seq tok (orc := orcL []) (fz := []) (l := [0, 1, 5, 14]) (c := _) (fun i h => h) h (by kernel_rfl) (AllP.nil) ?_
    intro a w h
    refine wp_if h (b := (decide ((v50 : Int) < (List.length x0 : Int)))) (by kernel_rfl) (fun hb => ?_) (fun hb => ?_)
    · replace hF := of_t hb hF
      refine wp_skip ?_
      refine wp_seq <| wp_block ?_
      obtain ⟨hc56, hF⟩ := of_if hF
      obtain ⟨hc57, hF⟩ := of_if hF
      obtain ⟨r55, hr58, hF⟩ := of_bind hF
      refine wp_regx_seq tok (orc := orcL [(25, [⟨.bool, r55⟩])]) (fz := []) (l := [0, 1, 5, 26]) (c := _) (fun i h => h) h (by kernel_rfl) (by kernel_rfl) (AllP.cons hc56 (AllP.cons hc57 (AllP.cons (c84 k (List.getD x0 (Int.toNat v50) ((⟨#[]⟩ : ByteArray), (⟨#[]⟩ : ByteArray))) (List.getD x1 (Int.toNat v50) ((⟨#[]⟩ : ByteArray), (⟨#[]⟩ : ByteArray))) r55 hr58) AllP.nil))) ?_
      intro a w h
      refine wp_if h (b := (!r55)) (by kernel_rfl) (fun hb => ?_) (fun hb => ?_)
      · replace hF := of_t hb hF
        refine wp_reg_seq tok (orc := orcL []) (fz := []) (l := [4]) (c := _) (fun i h => h) h (by kernel_rfl) (AllP.nil) ?_
        intro a w h
        cases hF
        exact wp_ret (ret_okR tok h rfl (by kernel_rfl)).1
      · replace hF := of_f hb hF
        refine wp_skip ?_
        refine wp_reg tok (orc := orcL []) (fz := []) (l := [0, 1, 5]) (c := _) (fun i h => h) h (by kernel_rfl) (AllP.nil) ?_
        intro a w h
        exact ⟨(IntKind.i64.wrap (v50 + (1 : Int))), hF, h.arrive (fz := []) (l := [0, 1, 5]) (fun i h => h) (by kernel_rfl)⟩
    · replace hF := of_f hb hF
      refine wp_exit ?_
      refine wp_reg_seq tok (orc := orcL []) (fz := []) (l := [4]) (c := _) (fun i h => h) h (by kernel_rfl) (AllP.nil) ?_
      intro a w h
      cases hF
      exact wp_ret (ret_okR tok h rfl (by kernel_rfl)).1

def f6 (k : Nat) (x0 : (List (ByteArray × ByteArray))) (x1 : Int) : Option Bool := (f18 k x0 (1048576 : Int)).bind fun r1 => (if (decide ((r1 : Int) < (0 : Int))) then (some true) else ((f20 k x0).bind fun r2 => ((f28 k r2 x1).bind fun r3 => ((f20 k x0).bind fun r4 => ((f29 k r4 x1).bind fun r5 => (if ((r5 : Int) != r3) then (some false) else ((f20 k x0).bind fun r6 => ((f22 k r4 r6).bind fun r7 => (if (!r7) then (some false) else (some true))))))))))
set_option maxRecDepth 100000 in
/-- 'laws.FnExactSpeedOf'. -/
theorem c6 (k : Nat) (x0 : (List (ByteArray × ByteArray))) (x1 : Int) (r : Bool) (hF : f6 k x0 x1 = some r) : PCall Try.prog 6 [⟨sh0, x0⟩, ⟨(.int .i64), x1⟩] [⟨.bool, r⟩] := by
  refine pcall_intro Try.func6 rfl rfl (Nat.le_of_ble_eq_true rfl) ?_
  intro w0 Zi a w h
  rw [f6] at hF
  refine wp_reg_seq tok (orc := orcL []) (fz := []) (l := [0, 1]) (c := _) (fun i h => h) h (by kernel_rfl) (AllP.nil) ?_
  intro a w h
  refine wp_reg_seq tok (orc := orcL []) (fz := []) (l := [0, 1, 5]) (c := _) (fun i h => h) h (by kernel_rfl) (AllP.nil) ?_
  intro a w h
  obtain ⟨r1, hr14, hF⟩ := of_bind hF
  refine wp_reg_seq tok (orc := orcL [(11, [⟨(.int .i64), r1⟩])]) (fz := []) (l := [0, 1, 5]) (c := _) (fun i h => h) h (by kernel_rfl) (AllP.cons (c18 k x0 (1048576 : Int) r1 hr14) AllP.nil) ?_
  intro a w h
  refine wp_seq ?_
  refine wp_reg_seq tok (orc := orcL []) (fz := []) (l := [0, 1, 13]) (c := _) (fun i h => h) h (by kernel_rfl) (AllP.nil) ?_
  intro a w h
  refine wp_if h (b := (decide ((r1 : Int) < (0 : Int)))) (by kernel_rfl) (fun hb => ?_) (fun hb => ?_)
  · replace hF := of_t hb hF
    refine wp_reg_seq tok (orc := orcL []) (fz := []) (l := [4]) (c := _) (fun i h => h) h (by kernel_rfl) (AllP.nil) ?_
    intro a w h
    cases hF
    exact wp_ret (ret_okR tok h rfl (by kernel_rfl)).1
  · replace hF := of_f hb hF
    refine wp_skip ?_
    obtain ⟨r2, hr12, hF⟩ := of_bind hF
    obtain ⟨r3, hr13, hF⟩ := of_bind hF
    refine wp_reg_seq tok (orc := orcL [(15, [⟨sh1, r2⟩]), (17, [⟨(.int .i64), r3⟩])]) (fz := []) (l := [0, 1, 6]) (c := _) (fun i h => h) h (by kernel_rfl) (AllP.cons (c20 k x0 r2 hr12) (AllP.cons (c28 k r2 x1 r3 hr13) AllP.nil)) ?_
    intro a w h
    obtain ⟨r4, hr11, hF⟩ := of_bind hF
    refine wp_reg_seq tok (orc := orcL [(19, [⟨sh1, r4⟩])]) (fz := []) (l := [0, 1, 6, 7]) (c := _) (fun i h => h) h (by kernel_rfl) (AllP.cons (c20 k x0 r4 hr11) AllP.nil) ?_
    intro a w h
    obtain ⟨r5, hr10, hF⟩ := of_bind hF
    refine wp_reg_seq tok (orc := orcL [(22, [⟨(.int .i64), r5⟩])]) (fz := []) (l := [0, 6, 7, 8]) (c := _) (fun i h => h) h (by kernel_rfl) (AllP.cons (c29 k r4 x1 r5 hr10) AllP.nil) ?_
    intro a w h
    refine wp_seq ?_
    refine wp_reg_seq tok (orc := orcL []) (fz := []) (l := [0, 7, 25]) (c := _) (fun i h => h) h (by kernel_rfl) (AllP.nil) ?_
    intro a w h
    refine wp_if h (b := ((r5 : Int) != r3)) (by kernel_rfl) (fun hb => ?_) (fun hb => ?_)
    · replace hF := of_t hb hF
      refine wp_reg_seq tok (orc := orcL []) (fz := []) (l := [4]) (c := _) (fun i h => h) h (by kernel_rfl) (AllP.nil) ?_
      intro a w h
      cases hF
      exact wp_ret (ret_okR tok h rfl (by kernel_rfl)).1
    · replace hF := of_f hb hF
      refine wp_skip ?_
      refine wp_seq ?_
      obtain ⟨r6, hr8, hF⟩ := of_bind hF
      obtain ⟨r7, hr9, hF⟩ := of_bind hF
      refine wp_reg_seq tok (orc := orcL [(28, [⟨sh1, r6⟩]), (29, [⟨.bool, r7⟩])]) (fz := []) (l := [30]) (c := _) (fun i h => h) h (by kernel_rfl) (AllP.cons (c20 k x0 r6 hr8) (AllP.cons (c22 k r4 r6 r7 hr9) AllP.nil)) ?_
      intro a w h
      refine wp_if h (b := (!r7)) (by kernel_rfl) (fun hb => ?_) (fun hb => ?_)
      · replace hF := of_t hb hF
        refine wp_reg_seq tok (orc := orcL []) (fz := []) (l := [4]) (c := _) (fun i h => h) h (by kernel_rfl) (AllP.nil) ?_
        intro a w h
        cases hF
        exact wp_ret (ret_okR tok h rfl (by kernel_rfl)).1
      · replace hF := of_f hb hF
        refine wp_skip ?_
        refine wp_reg_seq tok (orc := orcL []) (fz := []) (l := [4]) (c := _) (fun i h => h) h (by kernel_rfl) (AllP.nil) ?_
        intro a w h
        cases hF
        exact wp_ret (ret_okR tok h rfl (by kernel_rfl)).1

def f138 (k : Nat) (x0 : (ByteArray × (Int × ByteArray))) (x1 : Int) : Option Int := if (decide (((IntKind.i64.wrap (x1 - (ByteArray.size x0.1 : Int))) : Int) < (0 : Int))) then (some (-1 : Int)) else (if (decide (((IntKind.i64.wrap ((IntKind.i64.wrap (x1 - (ByteArray.size x0.1 : Int))) - (ByteArray.size x0.2.2 : Int))) : Int) < (0 : Int))) then (some (-1 : Int)) else (some (IntKind.i64.wrap ((IntKind.i64.wrap (x1 - (ByteArray.size x0.1 : Int))) - (ByteArray.size x0.2.2 : Int)))))
set_option maxRecDepth 100000 in
/-- 'laws.szTest'. -/
theorem c138 (k : Nat) (x0 : (ByteArray × (Int × ByteArray))) (x1 : Int) (r : Int) (hF : f138 k x0 x1 = some r) : PCall Try.prog 138 [⟨sh3, x0⟩, ⟨(.int .i64), x1⟩] [⟨(.int .i64), r⟩] := by
  refine pcall_intro Try.func138 rfl rfl (Nat.le_of_ble_eq_true rfl) ?_
  intro w0 Zi a w h
  rw [f138] at hF
  refine wp_reg_seq tok (orc := orcL []) (fz := []) (l := [1, 2]) (c := _) (fun i h => h) h (by kernel_rfl) (AllP.nil) ?_
  intro a w h
  refine wp_reg_seq tok (orc := orcL []) (fz := []) (l := [1, 2]) (c := _) (fun i h => h) h (by kernel_rfl) (AllP.nil) ?_
  intro a w h
  refine wp_seq ?_
  refine wp_reg_seq tok (orc := orcL []) (fz := []) (l := [1, 2, 11]) (c := _) (fun i h => h) h (by kernel_rfl) (AllP.nil) ?_
  intro a w h
  refine wp_if h (b := (decide (((IntKind.i64.wrap (x1 - (ByteArray.size x0.1 : Int))) : Int) < (0 : Int)))) (by kernel_rfl) (fun hb => ?_) (fun hb => ?_)
  · replace hF := of_t hb hF
    refine wp_reg_seq tok (orc := orcL []) (fz := []) (l := [4]) (c := _) (fun i h => h) h (by kernel_rfl) (AllP.nil) ?_
    intro a w h
    cases hF
    exact wp_ret (ret_okR tok h rfl (by kernel_rfl)).1
  · replace hF := of_f hb hF
    refine wp_skip ?_
    refine wp_reg_seq tok (orc := orcL []) (fz := []) (l := [1]) (c := _) (fun i h => h) h (by kernel_rfl) (AllP.nil) ?_
    intro a w h
    refine wp_seq ?_
    refine wp_reg_seq tok (orc := orcL []) (fz := []) (l := [1, 18]) (c := _) (fun i h => h) h (by kernel_rfl) (AllP.nil) ?_
    intro a w h
    refine wp_if h (b := (decide (((IntKind.i64.wrap ((IntKind.i64.wrap (x1 - (ByteArray.size x0.1 : Int))) - (ByteArray.size x0.2.2 : Int))) : Int) < (0 : Int)))) (by kernel_rfl) (fun hb => ?_) (fun hb => ?_)
    · replace hF := of_t hb hF
      refine wp_reg_seq tok (orc := orcL []) (fz := []) (l := [4]) (c := _) (fun i h => h) h (by kernel_rfl) (AllP.nil) ?_
      intro a w h
      cases hF
      exact wp_ret (ret_okR tok h rfl (by kernel_rfl)).1
    · replace hF := of_f hb hF
      refine wp_skip ?_
      refine wp_reg_seq tok (orc := orcL []) (fz := []) (l := [4]) (c := _) (fun i h => h) h (by kernel_rfl) (AllP.nil) ?_
      intro a w h
      cases hF
      exact wp_ret (ret_okR tok h rfl (by kernel_rfl)).1

def f107.l28 (k : Nat) (x0 : (List (ByteArray × (Int × ByteArray)))) : Nat → (Int × Int) → Option Int
  | 0, _ => none
  | m28 + 1, (v47, v48) => if (decide ((v48 : Int) < (List.length x0 : Int))) then (if (0 ≤ v48 ∧ v48 < (List.length x0 : Int)) then ((f138 k (List.getD x0 (Int.toNat v48) ((⟨#[]⟩ : ByteArray), ((0 : Int), (⟨#[]⟩ : ByteArray)))) v47).bind fun r52 => (if (decide ((r52 : Int) < (0 : Int))) then (some (-1 : Int)) else ((f107.l28 k x0) m28 (r52, (IntKind.i64.wrap (v48 + (1 : Int))))))) else none) else (some v47)
def f107 (k : Nat) (x0 : (List (ByteArray × (Int × ByteArray)))) (x1 : Int) : Option Int := if (decide (((IntKind.i64.wrap (x1 - (List.length x0 : Int))) : Int) < (0 : Int))) then (some (-1 : Int)) else (f107.l28 k x0 k ((IntKind.i64.wrap (x1 - (List.length x0 : Int))), (0 : Int)))
set_option maxRecDepth 100000 in
/-- 'laws.szTestS'. -/
theorem c107 (k : Nat) (x0 : (List (ByteArray × (Int × ByteArray)))) (x1 : Int) (r : Int) (hF : f107 k x0 x1 = some r) : PCall Try.prog 107 [⟨sh4, x0⟩, ⟨(.int .i64), x1⟩] [⟨(.int .i64), r⟩] := by
  refine pcall_intro Try.func107 rfl rfl (Nat.le_of_ble_eq_true rfl) ?_
  intro w0 Zi a w h
  rw [f107] at hF
  refine wp_reg_seq tok (orc := orcL []) (fz := []) (l := [0, 1]) (c := _) (fun i h => h) h (by kernel_rfl) (AllP.nil) ?_
  intro a w h
  refine wp_reg_seq tok (orc := orcL []) (fz := []) (l := [0, 1]) (c := _) (fun i h => h) h (by kernel_rfl) (AllP.nil) ?_
  intro a w h
  refine wp_seq ?_
  refine wp_reg_seq tok (orc := orcL []) (fz := []) (l := [0, 1, 11]) (c := _) (fun i h => h) h (by kernel_rfl) (AllP.nil) ?_
  intro a w h
  refine wp_if h (b := (decide (((IntKind.i64.wrap (x1 - (List.length x0 : Int))) : Int) < (0 : Int)))) (by kernel_rfl) (fun hb => ?_) (fun hb => ?_)
  · replace hF := of_t hb hF
    refine wp_reg_seq tok (orc := orcL []) (fz := []) (l := [4]) (c := _) (fun i h => h) h (by kernel_rfl) (AllP.nil) ?_
    intro a w h
    cases hF
    exact wp_ret (ret_okR tok h rfl (by kernel_rfl)).1
  · replace hF := of_f hb hF
    refine wp_skip ?_
    refine wp_seq ?_
    refine wp_reg_seq tok (orc := orcL []) (fz := []) (l := [0, 1, 5]) (c := _) (fun i h => h) h (by kernel_rfl) (AllP.nil) ?_
    intro a w h
    refine wp_block ?_
    refine wp_loop_fuel (f107.l28 k x0) (fun ((v47, v48) : (Int × Int)) => [(0, .val sh4 x0), (1, .val (.int .i64) v47), (5, .val (.int .i64) v48)]) (fun v h => by obtain ⟨v47, v48⟩ := v; rw [f107.l28] at h; cases h) ?_ hF (h.arrive (fz := []) (l := [0, 1, 5]) (fun i h => h) (by kernel_rfl))
    intro m28 v a w hF h
    obtain ⟨v47, v48⟩ := v
    rw [f107.l28] at hF
    refine wp_seq ?_
    refine wp_reg_seq tok (orc := orcL []) (fz := []) (l := [0, 1, 5, 15]) (c := _) (fun i h => h) h (by kernel_rfl) (AllP.nil) ?_
    intro a w h
    refine wp_if h (b := (decide ((v48 : Int) < (List.length x0 : Int)))) (by kernel_rfl) (fun hb => ?_) (fun hb => ?_)
    · replace hF := of_t hb hF
      refine wp_skip ?_
      refine wp_seq <| wp_block ?_
      obtain ⟨hc53, hF⟩ := of_if hF
      obtain ⟨r52, hr54, hF⟩ := of_bind hF
      refine wp_reg_seq tok (orc := orcL [(23, [⟨(.int .i64), r52⟩])]) (fz := []) (l := [0, 1, 5]) (c := _) (fun i h => h) h (by kernel_rfl) (AllP.cons hc53 (AllP.cons (c138 k (List.getD x0 (Int.toNat v48) ((⟨#[]⟩ : ByteArray), ((0 : Int), (⟨#[]⟩ : ByteArray)))) v47 r52 hr54) AllP.nil)) ?_
      intro a w h
      refine wp_reg_seq tok (orc := orcL []) (fz := []) (l := [0, 1, 5, 25]) (c := _) (fun i h => h) h (by kernel_rfl) (AllP.nil) ?_
      intro a w h
      refine wp_if h (b := (decide ((r52 : Int) < (0 : Int)))) (by kernel_rfl) (fun hb => ?_) (fun hb => ?_)
      · replace hF := of_t hb hF
        refine wp_reg_seq tok (orc := orcL []) (fz := []) (l := [4]) (c := _) (fun i h => h) h (by kernel_rfl) (AllP.nil) ?_
        intro a w h
        cases hF
        exact wp_ret (ret_okR tok h rfl (by kernel_rfl)).1
      · replace hF := of_f hb hF
        refine wp_skip ?_
        refine wp_reg tok (orc := orcL []) (fz := []) (l := [0, 1, 5]) (c := _) (fun i h => h) h (by kernel_rfl) (AllP.nil) ?_
        intro a w h
        exact ⟨(r52, (IntKind.i64.wrap (v48 + (1 : Int)))), hF, h.arrive (fz := []) (l := [0, 1, 5]) (fun i h => h) (by kernel_rfl)⟩
    · replace hF := of_f hb hF
      refine wp_exit ?_
      refine wp_reg_seq tok (orc := orcL []) (fz := []) (l := [4]) (c := _) (fun i h => h) h (by kernel_rfl) (AllP.nil) ?_
      intro a w h
      cases hF
      exact wp_ret (ret_okR tok h rfl (by kernel_rfl)).1

def f51 (k : Nat) (x0 : (Int × (Int × ((List (ByteArray × (Int × ByteArray))) × (Bool × (ByteArray × (Int × Int))))))) (x1 : Int) : Option Int := (f107 k x0.2.2.1 x1).bind fun r1 => (if (decide ((r1 : Int) < (0 : Int))) then (some (-1 : Int)) else (if (decide (((IntKind.i64.wrap (r1 - (ByteArray.size x0.2.2.2.2.1 : Int))) : Int) < (0 : Int))) then (some (-1 : Int)) else (some (IntKind.i64.wrap (r1 - (ByteArray.size x0.2.2.2.2.1 : Int))))))
set_option maxRecDepth 100000 in
/-- 'laws.szRule'. -/
theorem c51 (k : Nat) (x0 : (Int × (Int × ((List (ByteArray × (Int × ByteArray))) × (Bool × (ByteArray × (Int × Int))))))) (x1 : Int) (r : Int) (hF : f51 k x0 x1 = some r) : PCall Try.prog 51 [⟨sh5, x0⟩, ⟨(.int .i64), x1⟩] [⟨(.int .i64), r⟩] := by
  refine pcall_intro Try.func51 rfl rfl (Nat.le_of_ble_eq_true rfl) ?_
  intro w0 Zi a w h
  rw [f51] at hF
  refine wp_reg_seq tok (orc := orcL []) (fz := []) (l := [1, 2]) (c := _) (fun i h => h) h (by kernel_rfl) (AllP.nil) ?_
  intro a w h
  obtain ⟨r1, hr2, hF⟩ := of_bind hF
  refine wp_reg_seq tok (orc := orcL [(8, [⟨(.int .i64), r1⟩])]) (fz := []) (l := [1, 2]) (c := _) (fun i h => h) h (by kernel_rfl) (AllP.cons (c107 k x0.2.2.1 x1 r1 hr2) AllP.nil) ?_
  intro a w h
  refine wp_seq ?_
  refine wp_reg_seq tok (orc := orcL []) (fz := []) (l := [1, 2, 10]) (c := _) (fun i h => h) h (by kernel_rfl) (AllP.nil) ?_
  intro a w h
  refine wp_if h (b := (decide ((r1 : Int) < (0 : Int)))) (by kernel_rfl) (fun hb => ?_) (fun hb => ?_)
  · replace hF := of_t hb hF
    refine wp_reg_seq tok (orc := orcL []) (fz := []) (l := [4]) (c := _) (fun i h => h) h (by kernel_rfl) (AllP.nil) ?_
    intro a w h
    cases hF
    exact wp_ret (ret_okR tok h rfl (by kernel_rfl)).1
  · replace hF := of_f hb hF
    refine wp_skip ?_
    refine wp_reg_seq tok (orc := orcL []) (fz := []) (l := [1]) (c := _) (fun i h => h) h (by kernel_rfl) (AllP.nil) ?_
    intro a w h
    refine wp_seq ?_
    refine wp_reg_seq tok (orc := orcL []) (fz := []) (l := [1, 17]) (c := _) (fun i h => h) h (by kernel_rfl) (AllP.nil) ?_
    intro a w h
    refine wp_if h (b := (decide (((IntKind.i64.wrap (r1 - (ByteArray.size x0.2.2.2.2.1 : Int))) : Int) < (0 : Int)))) (by kernel_rfl) (fun hb => ?_) (fun hb => ?_)
    · replace hF := of_t hb hF
      refine wp_reg_seq tok (orc := orcL []) (fz := []) (l := [4]) (c := _) (fun i h => h) h (by kernel_rfl) (AllP.nil) ?_
      intro a w h
      cases hF
      exact wp_ret (ret_okR tok h rfl (by kernel_rfl)).1
    · replace hF := of_f hb hF
      refine wp_skip ?_
      refine wp_reg_seq tok (orc := orcL []) (fz := []) (l := [4]) (c := _) (fun i h => h) h (by kernel_rfl) (AllP.nil) ?_
      intro a w h
      cases hF
      exact wp_ret (ret_okR tok h rfl (by kernel_rfl)).1

def f139 (k : Nat) (x0 : (ByteArray × (Int × ByteArray))) : Option (ByteArray × (Int × ByteArray)) := some (x0.1, (x0.2.1, x0.2.2))
set_option maxRecDepth 100000 in
/-- 'laws.toTest'. -/
theorem c139 (k : Nat) (x0 : (ByteArray × (Int × ByteArray))) (r : (ByteArray × (Int × ByteArray))) (hF : f139 k x0 = some r) : PCall Try.prog 139 [⟨sh3, x0⟩] [⟨sh3, r⟩] := by
  refine pcall_intro Try.func139 rfl rfl (Nat.le_of_ble_eq_true rfl) ?_
  intro w0 Zi a w h
  rw [f139] at hF
  refine wp_reg_seq tok (orc := orcL []) (fz := []) (l := [1, 2]) (c := _) (fun i h => h) h (by kernel_rfl) (AllP.nil) ?_
  intro a w h
  refine wp_reg_seq tok (orc := orcL []) (fz := []) (l := [1, 2, 3]) (c := _) (fun i h => h) h (by kernel_rfl) (AllP.nil) ?_
  intro a w h
  refine wp_reg_seq tok (orc := orcL []) (fz := []) (l := [1, 2, 3]) (c := _) (fun i h => h) h (by kernel_rfl) (AllP.nil) ?_
  intro a w h
  refine wp_reg_seq tok (orc := orcL []) (fz := []) (l := [1, 2, 3]) (c := _) (fun i h => h) h (by kernel_rfl) (AllP.nil) ?_
  intro a w h
  refine wp_reg_seq tok (orc := orcL []) (fz := []) (l := [2, 3]) (c := _) (fun i h => h) h (by kernel_rfl) (AllP.nil) ?_
  intro a w h
  refine wp_reg_seq tok (orc := orcL []) (fz := []) (l := [2]) (c := _) (fun i h => h) h (by kernel_rfl) (AllP.nil) ?_
  intro a w h
  cases hF
  exact wp_ret (ret_okR tok h rfl (by kernel_rfl)).1

def f108.l34 (k : Nat) (x0 : (List (ByteArray × (Int × ByteArray)))) : Nat → ((List (ByteArray × (Int × ByteArray))) × Int) → Option (List (ByteArray × (Int × ByteArray)))
  | 0, _ => none
  | m34 + 1, (v57, v58) => if (decide ((v58 : Int) < (List.length x0 : Int))) then (if (0 ≤ v58 ∧ v58 < (List.length x0 : Int)) then ((f139 k (List.getD x0 (Int.toNat v58) ((⟨#[]⟩ : ByteArray), ((0 : Int), (⟨#[]⟩ : ByteArray))))).bind fun r63 => (if (0 ≤ v58 ∧ v58 < (List.length v57 : Int)) then ((f108.l34 k x0) m34 ((List.set v57 (Int.toNat v58) r63), (IntKind.i64.wrap (v58 + (1 : Int))))) else none)) else none) else (some v57)
def f108 (k : Nat) (x0 : (List (ByteArray × (Int × ByteArray)))) : Option (List (ByteArray × (Int × ByteArray))) := if (0 ≤ (List.length x0 : Int) ∧ Int.toNat (List.length x0 : Int) * 40 ≤ 140737488355328) then (f108.l34 k x0 k ((List.replicate (Int.toNat (List.length x0 : Int)) ((⟨#[]⟩ : ByteArray), ((0 : Int), (⟨#[]⟩ : ByteArray)))), (0 : Int))) else none
set_option maxRecDepth 100000 in
/-- 'laws.toTestS'. -/
theorem c108 (k : Nat) (x0 : (List (ByteArray × (Int × ByteArray)))) (r : (List (ByteArray × (Int × ByteArray)))) (hF : f108 k x0 = some r) : PCall Try.prog 108 [⟨sh4, x0⟩] [⟨sh6, r⟩] := by
  refine pcall_intro Try.func108 rfl rfl (Nat.le_of_ble_eq_true rfl) ?_
  intro w0 Zi a w h
  rw [f108] at hF
  refine wp_reg_seq tok (orc := orcL []) (fz := []) (l := [0]) (c := _) (fun i h => h) h (by kernel_rfl) (AllP.nil) ?_
  intro a w h
  obtain ⟨hc67, hF⟩ := of_if hF
  refine wp_reg_seq tok (orc := orcL []) (fz := []) (l := [0, 3]) (c := _) (fun i h => h) h (by kernel_rfl) (AllP.cons hc67 AllP.nil) ?_
  intro a w h
  refine wp_seq ?_
  refine wp_reg_seq tok (orc := orcL []) (fz := []) (l := [0, 3, 4]) (c := _) (fun i h => h) h (by kernel_rfl) (AllP.nil) ?_
  intro a w h
  refine wp_block ?_
  refine wp_loop_fuel (f108.l34 k x0) (fun ((v57, v58) : ((List (ByteArray × (Int × ByteArray))) × Int)) => [(0, .val sh4 x0), (3, .val sh6 v57), (4, .val (.int .i64) v58)]) (fun v h => by obtain ⟨v57, v58⟩ := v; rw [f108.l34] at h; cases h) ?_ hF (h.arrive (fz := []) (l := [0, 3, 4]) (fun i h => h) (by kernel_rfl))
  intro m34 v a w hF h
  obtain ⟨v57, v58⟩ := v
  rw [f108.l34] at hF
  refine wp_seq ?_
  refine wp_reg_seq tok (orc := orcL []) (fz := []) (l := [0, 3, 4, 11]) (c := _) (fun i h => h) h (by kernel_rfl) (AllP.nil) ?_
  intro a w h
  refine wp_if h (b := (decide ((v58 : Int) < (List.length x0 : Int)))) (by kernel_rfl) (fun hb => ?_) (fun hb => ?_)
  · replace hF := of_t hb hF
    refine wp_skip ?_
    refine wp_seq <| wp_block ?_
    obtain ⟨hc64, hF⟩ := of_if hF
    obtain ⟨r63, hr65, hF⟩ := of_bind hF
    obtain ⟨hc66, hF⟩ := of_if hF
    refine wp_reg tok (orc := orcL [(20, [⟨sh3, r63⟩])]) (fz := []) (l := [0, 3, 4]) (c := _) (fun i h => h) h (by kernel_rfl) (AllP.cons hc64 (AllP.cons (c139 k (List.getD x0 (Int.toNat v58) ((⟨#[]⟩ : ByteArray), ((0 : Int), (⟨#[]⟩ : ByteArray)))) r63 hr65) (AllP.cons hc66 AllP.nil))) ?_
    intro a w h
    refine wp_reg tok (orc := orcL []) (fz := []) (l := [0, 3, 4]) (c := _) (fun i h => h) h (by kernel_rfl) (AllP.nil) ?_
    intro a w h
    exact ⟨((List.set v57 (Int.toNat v58) r63), (IntKind.i64.wrap (v58 + (1 : Int)))), hF, h.arrive (fz := []) (l := [0, 3, 4]) (fun i h => h) (by kernel_rfl)⟩
  · replace hF := of_f hb hF
    refine wp_exit ?_
    refine wp_reg_seq tok (orc := orcL []) (fz := []) (l := [2, 3]) (c := _) (fun i h => h) h (by kernel_rfl) (AllP.nil) ?_
    intro a w h
    cases hF
    exact wp_ret (ret_okR tok h rfl (by kernel_rfl)).1

def f53 (k : Nat) (x0 : (Int × (Int × ((List (ByteArray × (Int × ByteArray))) × (Bool × (ByteArray × (Int × Int))))))) : Option (Int × (Int × ((List (ByteArray × (Int × ByteArray))) × (Bool × (ByteArray × (Int × Int)))))) := (f108 k x0.2.2.1).bind fun r1 => (some (x0.1, (x0.2.1, (r1, (x0.2.2.2.1, (x0.2.2.2.2.1, (x0.2.2.2.2.2.1, x0.2.2.2.2.2.2)))))))
set_option maxRecDepth 100000 in
/-- 'laws.toRule'. -/
theorem c53 (k : Nat) (x0 : (Int × (Int × ((List (ByteArray × (Int × ByteArray))) × (Bool × (ByteArray × (Int × Int))))))) (r : (Int × (Int × ((List (ByteArray × (Int × ByteArray))) × (Bool × (ByteArray × (Int × Int))))))) (hF : f53 k x0 = some r) : PCall Try.prog 53 [⟨sh5, x0⟩] [⟨sh7, r⟩] := by
  refine pcall_intro Try.func53 rfl rfl (Nat.le_of_ble_eq_true rfl) ?_
  intro w0 Zi a w h
  rw [f53] at hF
  refine wp_reg_seq tok (orc := orcL []) (fz := []) (l := [1, 2]) (c := _) (fun i h => h) h (by kernel_rfl) (AllP.nil) ?_
  intro a w h
  refine wp_reg_seq tok (orc := orcL []) (fz := []) (l := [1, 2, 3]) (c := _) (fun i h => h) h (by kernel_rfl) (AllP.nil) ?_
  intro a w h
  refine wp_reg_seq tok (orc := orcL []) (fz := []) (l := [1, 2, 3]) (c := _) (fun i h => h) h (by kernel_rfl) (AllP.nil) ?_
  intro a w h
  refine wp_reg_seq tok (orc := orcL []) (fz := []) (l := [1, 2, 3]) (c := _) (fun i h => h) h (by kernel_rfl) (AllP.nil) ?_
  intro a w h
  obtain ⟨r1, hr2, hF⟩ := of_bind hF
  refine wp_reg_seq tok (orc := orcL [(12, [⟨sh6, r1⟩])]) (fz := []) (l := [1, 2, 3]) (c := _) (fun i h => h) h (by kernel_rfl) (AllP.cons (c108 k x0.2.2.1 r1 hr2) AllP.nil) ?_
  intro a w h
  refine wp_reg_seq tok (orc := orcL []) (fz := []) (l := [1, 2, 3]) (c := _) (fun i h => h) h (by kernel_rfl) (AllP.nil) ?_
  intro a w h
  refine wp_reg_seq tok (orc := orcL []) (fz := []) (l := [1, 2, 3]) (c := _) (fun i h => h) h (by kernel_rfl) (AllP.nil) ?_
  intro a w h
  refine wp_reg_seq tok (orc := orcL []) (fz := []) (l := [1, 2, 3]) (c := _) (fun i h => h) h (by kernel_rfl) (AllP.nil) ?_
  intro a w h
  refine wp_reg_seq tok (orc := orcL []) (fz := []) (l := [2, 3]) (c := _) (fun i h => h) h (by kernel_rfl) (AllP.nil) ?_
  intro a w h
  refine wp_reg_seq tok (orc := orcL []) (fz := []) (l := [2]) (c := _) (fun i h => h) h (by kernel_rfl) (AllP.nil) ?_
  intro a w h
  cases hF
  exact wp_ret (ret_okR tok h rfl (by kernel_rfl)).1

def f52.j379 (k : Nat) (v345 : Int) (q207 : Int → Option Bool) : Unit → Option Bool
  | _ => q207 (IntKind.i64.wrap (v345 + (1 : Int)))
def f52.l396 (k : Nat) (x1 : (List (ByteArray × ByteArray))) (x0 : (Int × (Int × ((List (ByteArray × (Int × ByteArray))) × (Bool × (ByteArray × (Int × Int))))))) (v345 : Int) (r380 : ByteArray) (q379 : Unit → Option Bool) : Nat → (Bool × Int) → Option Bool
  | 0, _ => none
  | m396 + 1, (v407, v408) => if (decide ((v408 : Int) < (List.length x1 : Int))) then (if ((v407 = false) → (0 ≤ v408 ∧ v408 < (List.length x1 : Int))) then ((f52.l396 k x1 x0 v345 r380 q379) m396 ((bif v407 then true else (ByteArray.toList (List.getD x1 (Int.toNat v408) ((⟨#[]⟩ : ByteArray), (⟨#[]⟩ : ByteArray))).1 == ByteArray.toList (List.getD x0.2.2.1 (Int.toNat v345) ((⟨#[]⟩ : ByteArray), ((0 : Int), (⟨#[]⟩ : ByteArray)))).1)), (IntKind.i64.wrap (v408 + (1 : Int))))) else none) else (if (((List.getD x0.2.2.1 (Int.toNat v345) ((⟨#[]⟩ : ByteArray), ((0 : Int), (⟨#[]⟩ : ByteArray)))).2.1 : Int) == (1 : Int)) then (if (!(ByteArray.toList r380 == ByteArray.toList (List.getD x0.2.2.1 (Int.toNat v345) ((⟨#[]⟩ : ByteArray), ((0 : Int), (⟨#[]⟩ : ByteArray)))).2.2)) then (some false) else (q379 ())) else (if (((List.getD x0.2.2.1 (Int.toNat v345) ((⟨#[]⟩ : ByteArray), ((0 : Int), (⟨#[]⟩ : ByteArray)))).2.1 : Int) == (2 : Int)) then (if (ByteArray.toList r380 == ByteArray.toList (List.getD x0.2.2.1 (Int.toNat v345) ((⟨#[]⟩ : ByteArray), ((0 : Int), (⟨#[]⟩ : ByteArray)))).2.2) then (some false) else (q379 ())) else (if (((List.getD x0.2.2.1 (Int.toNat v345) ((⟨#[]⟩ : ByteArray), ((0 : Int), (⟨#[]⟩ : ByteArray)))).2.1 : Int) == (3 : Int)) then (if (!v407) then (some false) else (q379 ())) else (if (((List.getD x0.2.2.1 (Int.toNat v345) ((⟨#[]⟩ : ByteArray), ((0 : Int), (⟨#[]⟩ : ByteArray)))).2.1 : Int) == (4 : Int)) then (if v407 then (some false) else (q379 ())) else (some false)))))
def f52.l207 (k : Nat) (x0 : (Int × (Int × ((List (ByteArray × (Int × ByteArray))) × (Bool × (ByteArray × (Int × Int))))))) (x1 : (List (ByteArray × ByteArray))) : Nat → Int → Option Bool
  | 0, _ => none
  | m207 + 1, v345 => if (decide ((v345 : Int) < (List.length x0.2.2.1 : Int))) then (if (0 ≤ v345 ∧ v345 < (List.length x0.2.2.1 : Int)) then ((f81 k x1 (List.getD x0.2.2.1 (Int.toNat v345) ((⟨#[]⟩ : ByteArray), ((0 : Int), (⟨#[]⟩ : ByteArray)))).1).bind fun r380 => (f52.l396 k x1 x0 v345 r380 (f52.j379 k v345 ((f52.l207 k x0 x1) m207)) k (false, (0 : Int)))) else none) else (some true)
def f52 (k : Nat) (x0 : (Int × (Int × ((List (ByteArray × (Int × ByteArray))) × (Bool × (ByteArray × (Int × Int))))))) (x1 : (List (ByteArray × ByteArray))) (x2 : Int) : Option Bool := if (bif (decide ((x2 : Int) < x0.1)) then true else (decide ((x2 : Int) > x0.2.1))) then (some false) else (f52.l207 k x0 x1 k (0 : Int))
set_option maxRecDepth 100000 in
/-- 'spec.Applies'. -/
theorem c52 (k : Nat) (x0 : (Int × (Int × ((List (ByteArray × (Int × ByteArray))) × (Bool × (ByteArray × (Int × Int))))))) (x1 : (List (ByteArray × ByteArray))) (x2 : Int) (r : Bool) (hF : f52 k x0 x1 x2 = some r) : PCall Try.prog 52 [⟨sh10, x0⟩, ⟨sh2, x1⟩, ⟨(.int .i64), x2⟩] [⟨.bool, r⟩] := by
  refine pcall_intro Try.func52 rfl rfl (Nat.le_of_ble_eq_true rfl) ?_
  intro w0 Zi a w h
  rw [f52] at hF
  refine wp_reg_seq tok (orc := orcL []) (fz := []) (l := [1, 2, 3]) (c := _) (fun i h => h) h (by kernel_rfl) (AllP.nil) ?_
  intro a w h
  refine wp_seq ?_
  refine wp_reg_seq tok (orc := orcL []) (fz := []) (l := [1, 3, 21]) (c := _) (fun i h => h) h (by kernel_rfl) (AllP.nil) ?_
  intro a w h
  refine wp_if h (b := (bif (decide ((x2 : Int) < x0.1)) then true else (decide ((x2 : Int) > x0.2.1)))) (by kernel_rfl) (fun hb => ?_) (fun hb => ?_)
  · replace hF := of_t hb hF
    refine wp_reg_seq tok (orc := orcL []) (fz := []) (l := [6]) (c := _) (fun i h => h) h (by kernel_rfl) (AllP.nil) ?_
    intro a w h
    cases hF
    exact wp_ret (ret_okR tok h rfl (by kernel_rfl)).1
  · replace hF := of_f hb hF
    refine wp_skip ?_
    refine wp_seq ?_
    refine wp_reg_seq tok (orc := orcL []) (fz := []) (l := [1, 3, 7]) (c := _) (fun i h => h) h (by kernel_rfl) (AllP.nil) ?_
    intro a w h
    refine wp_block ?_
    refine wp_loop_fuel (f52.l207 k x0 x1) (fun (v345 : Int) => [(1, .val sh2 x1), (3, .val sh8 (some x0)), (7, .val (.int .i64) v345)]) (fun v h => by rw [f52.l207] at h; cases h) ?_ hF (h.arrive (fz := []) (l := [1, 3, 7]) (fun i h => h) (by kernel_rfl))
    intro m207 v345 a w hF h
    rw [f52.l207] at hF
    refine wp_seq ?_
    refine wp_reg_seq tok (orc := orcL []) (fz := []) (l := [1, 3, 7, 26]) (c := _) (fun i h => h) h (by kernel_rfl) (AllP.nil) ?_
    intro a w h
    refine wp_if h (b := (decide ((v345 : Int) < (List.length x0.2.2.1 : Int)))) (by kernel_rfl) (fun hb => ?_) (fun hb => ?_)
    · replace hF := of_t hb hF
      refine wp_skip ?_
      refine wp_mid (fun a w => ∃ v : Unit, f52.j379 k v345 ((f52.l207 k x0 x1) m207) v = some r ∧ Rel w0 (fun _ => False) Zi Try.f52.ntmps ((fun (_ : Unit) => ([(1, .val sh2 x1), (3, .val sh8 (some x0)), (7, .val (.int .i64) v345)] : SS)) v) a w) ?_ ?_
      ·
        refine wp_block ?_
        obtain ⟨hc412, hF⟩ := of_if hF
        refine wp_reg_seq tok (orc := orcL []) (fz := []) (l := [1, 3, 7, 8]) (c := _) (fun i h => h) h (by kernel_rfl) (AllP.cons hc412 AllP.nil) ?_
        intro a w h
        obtain ⟨r380, hr411, hF⟩ := of_bind hF
        refine wp_reg_seq tok (orc := orcL [(37, [⟨.str, r380⟩])]) (fz := []) (l := [1, 3, 7, 8, 9]) (c := _) (fun i h => h) h (by kernel_rfl) (AllP.cons (c81 k x1 (List.getD x0.2.2.1 (Int.toNat v345) ((⟨#[]⟩ : ByteArray), ((0 : Int), (⟨#[]⟩ : ByteArray)))).1 r380 hr411) AllP.nil) ?_
        intro a w h
        refine wp_reg_seq tok (orc := orcL []) (fz := []) (l := [1, 3, 7, 8, 9, 10]) (c := _) (fun i h => h) h (by kernel_rfl) (AllP.nil) ?_
        intro a w h
        refine wp_seq ?_
        refine wp_reg_seq tok (orc := orcL []) (fz := []) (l := [1, 3, 7, 8, 9, 10, 11]) (c := _) (fun i h => h) h (by kernel_rfl) (AllP.nil) ?_
        intro a w h
        refine wp_block ?_
        refine wp_loop_fuel (f52.l396 k x1 x0 v345 r380 (f52.j379 k v345 ((f52.l207 k x0 x1) m207))) (fun ((v407, v408) : (Bool × Int)) => [(1, .val sh2 x1), (3, .val sh8 (some x0)), (7, .val (.int .i64) v345), (8, .val sh9 (some (List.getD x0.2.2.1 (Int.toNat v345) ((⟨#[]⟩ : ByteArray), ((0 : Int), (⟨#[]⟩ : ByteArray)))))), (9, .val .str r380), (10, .val .bool v407), (11, .val (.int .i64) v408)]) (fun v h => by obtain ⟨v407, v408⟩ := v; rw [f52.l396] at h; cases h) ?_ hF (h.arrive (fz := []) (l := [1, 3, 7, 8, 9, 10, 11]) (fun i h => h) (by kernel_rfl))
        intro m396 v a w hF h
        obtain ⟨v407, v408⟩ := v
        rw [f52.l396] at hF
        refine wp_seq ?_
        refine wp_reg_seq tok (orc := orcL []) (fz := []) (l := [1, 3, 7, 8, 9, 10, 11, 41]) (c := _) (fun i h => h) h (by kernel_rfl) (AllP.nil) ?_
        intro a w h
        refine wp_if h (b := (decide ((v408 : Int) < (List.length x1 : Int)))) (by kernel_rfl) (fun hb => ?_) (fun hb => ?_)
        · replace hF := of_t hb hF
          refine wp_skip ?_
          refine wp_seq <| wp_block ?_
          obtain ⟨hc410, hF⟩ := of_if hF
          refine wp_regx tok (orc := orcL []) (fz := []) (l := [1, 3, 7, 8, 9, 10, 11]) (c := _) (fun i h => h) h (by kernel_rfl) (by kernel_rfl) (AllP.cons hc410 AllP.nil) ?_
          intro a w h
          refine wp_reg tok (orc := orcL []) (fz := []) (l := [1, 3, 7, 8, 9, 10, 11]) (c := _) (fun i h => h) h (by kernel_rfl) (AllP.nil) ?_
          intro a w h
          exact ⟨((bif v407 then true else (ByteArray.toList (List.getD x1 (Int.toNat v408) ((⟨#[]⟩ : ByteArray), (⟨#[]⟩ : ByteArray))).1 == ByteArray.toList (List.getD x0.2.2.1 (Int.toNat v345) ((⟨#[]⟩ : ByteArray), ((0 : Int), (⟨#[]⟩ : ByteArray)))).1)), (IntKind.i64.wrap (v408 + (1 : Int)))), hF, h.arrive (fz := []) (l := [1, 3, 7, 8, 9, 10, 11]) (fun i h => h) (by kernel_rfl)⟩
        · replace hF := of_f hb hF
          refine wp_exit ?_
          refine wp_reg_seq tok (orc := orcL []) (fz := []) (l := [1, 3, 7, 8, 9, 10, 56]) (c := _) (fun i h => h) h (by kernel_rfl) (AllP.nil) ?_
          intro a w h
          refine wp_block ?_
          refine wp_reg_seq tok (orc := orcL []) (fz := []) (l := [1, 3, 7, 8, 9, 10, 56, 57]) (c := _) (fun i h => h) h (by kernel_rfl) (AllP.nil) ?_
          intro a w h
          refine wp_if h (b := (((List.getD x0.2.2.1 (Int.toNat v345) ((⟨#[]⟩ : ByteArray), ((0 : Int), (⟨#[]⟩ : ByteArray)))).2.1 : Int) == (1 : Int))) (by kernel_rfl) (fun hb => ?_) (fun hb => ?_)
          · replace hF := of_t hb hF
            refine wp_reg_seq tok (orc := orcL []) (fz := []) (l := [1, 3, 7, 62]) (c := _) (fun i h => h) h (by kernel_rfl) (AllP.nil) ?_
            intro a w h
            refine wp_if h (b := (!(ByteArray.toList r380 == ByteArray.toList (List.getD x0.2.2.1 (Int.toNat v345) ((⟨#[]⟩ : ByteArray), ((0 : Int), (⟨#[]⟩ : ByteArray)))).2.2))) (by kernel_rfl) (fun hb => ?_) (fun hb => ?_)
            · replace hF := of_t hb hF
              refine wp_reg_seq tok (orc := orcL []) (fz := []) (l := [6]) (c := _) (fun i h => h) h (by kernel_rfl) (AllP.nil) ?_
              intro a w h
              cases hF
              exact wp_ret (ret_okR tok h rfl (by kernel_rfl)).1
            · replace hF := of_f hb hF
              refine wp_skip ?_
              exact ⟨(), hF, h.arrive (fz := []) (l := [1, 3, 7]) (fun i h => h) (by kernel_rfl)⟩
          · replace hF := of_f hb hF
            refine wp_reg_seq tok (orc := orcL []) (fz := []) (l := [1, 3, 7, 8, 9, 10, 56, 63]) (c := _) (fun i h => h) h (by kernel_rfl) (AllP.nil) ?_
            intro a w h
            refine wp_if h (b := (((List.getD x0.2.2.1 (Int.toNat v345) ((⟨#[]⟩ : ByteArray), ((0 : Int), (⟨#[]⟩ : ByteArray)))).2.1 : Int) == (2 : Int))) (by kernel_rfl) (fun hb => ?_) (fun hb => ?_)
            · replace hF := of_t hb hF
              refine wp_reg_seq tok (orc := orcL []) (fz := []) (l := [1, 3, 7, 68]) (c := _) (fun i h => h) h (by kernel_rfl) (AllP.nil) ?_
              intro a w h
              refine wp_if h (b := (ByteArray.toList r380 == ByteArray.toList (List.getD x0.2.2.1 (Int.toNat v345) ((⟨#[]⟩ : ByteArray), ((0 : Int), (⟨#[]⟩ : ByteArray)))).2.2)) (by kernel_rfl) (fun hb => ?_) (fun hb => ?_)
              · replace hF := of_t hb hF
                refine wp_reg_seq tok (orc := orcL []) (fz := []) (l := [6]) (c := _) (fun i h => h) h (by kernel_rfl) (AllP.nil) ?_
                intro a w h
                cases hF
                exact wp_ret (ret_okR tok h rfl (by kernel_rfl)).1
              · replace hF := of_f hb hF
                refine wp_skip ?_
                exact ⟨(), hF, h.arrive (fz := []) (l := [1, 3, 7]) (fun i h => h) (by kernel_rfl)⟩
            · replace hF := of_f hb hF
              refine wp_reg_seq tok (orc := orcL []) (fz := []) (l := [1, 3, 7, 10, 56, 69]) (c := _) (fun i h => h) h (by kernel_rfl) (AllP.nil) ?_
              intro a w h
              refine wp_if h (b := (((List.getD x0.2.2.1 (Int.toNat v345) ((⟨#[]⟩ : ByteArray), ((0 : Int), (⟨#[]⟩ : ByteArray)))).2.1 : Int) == (3 : Int))) (by kernel_rfl) (fun hb => ?_) (fun hb => ?_)
              · replace hF := of_t hb hF
                refine wp_reg_seq tok (orc := orcL []) (fz := []) (l := [1, 3, 7, 72]) (c := _) (fun i h => h) h (by kernel_rfl) (AllP.nil) ?_
                intro a w h
                refine wp_if h (b := (!v407)) (by kernel_rfl) (fun hb => ?_) (fun hb => ?_)
                · replace hF := of_t hb hF
                  refine wp_reg_seq tok (orc := orcL []) (fz := []) (l := [6]) (c := _) (fun i h => h) h (by kernel_rfl) (AllP.nil) ?_
                  intro a w h
                  cases hF
                  exact wp_ret (ret_okR tok h rfl (by kernel_rfl)).1
                · replace hF := of_f hb hF
                  refine wp_skip ?_
                  exact ⟨(), hF, h.arrive (fz := []) (l := [1, 3, 7]) (fun i h => h) (by kernel_rfl)⟩
              · replace hF := of_f hb hF
                refine wp_reg_seq tok (orc := orcL []) (fz := []) (l := [1, 3, 7, 10, 73]) (c := _) (fun i h => h) h (by kernel_rfl) (AllP.nil) ?_
                intro a w h
                refine wp_if h (b := (((List.getD x0.2.2.1 (Int.toNat v345) ((⟨#[]⟩ : ByteArray), ((0 : Int), (⟨#[]⟩ : ByteArray)))).2.1 : Int) == (4 : Int))) (by kernel_rfl) (fun hb => ?_) (fun hb => ?_)
                · replace hF := of_t hb hF
                  refine wp_reg_seq tok (orc := orcL []) (fz := []) (l := [1, 3, 7, 75]) (c := _) (fun i h => h) h (by kernel_rfl) (AllP.nil) ?_
                  intro a w h
                  refine wp_if h (b := v407) (by kernel_rfl) (fun hb => ?_) (fun hb => ?_)
                  · replace hF := of_t hb hF
                    refine wp_reg_seq tok (orc := orcL []) (fz := []) (l := [6]) (c := _) (fun i h => h) h (by kernel_rfl) (AllP.nil) ?_
                    intro a w h
                    cases hF
                    exact wp_ret (ret_okR tok h rfl (by kernel_rfl)).1
                  · replace hF := of_f hb hF
                    refine wp_skip ?_
                    exact ⟨(), hF, h.arrive (fz := []) (l := [1, 3, 7]) (fun i h => h) (by kernel_rfl)⟩
                · replace hF := of_f hb hF
                  refine wp_reg_seq tok (orc := orcL []) (fz := []) (l := [6]) (c := _) (fun i h => h) h (by kernel_rfl) (AllP.nil) ?_
                  intro a w h
                  cases hF
                  exact wp_ret (ret_okR tok h rfl (by kernel_rfl)).1
      · rintro a w ⟨v, hF, h⟩
        obtain ⟨⟩ := v
        rw [f52.j379] at hF
        refine wp_reg tok (orc := orcL []) (fz := []) (l := [1, 3, 7]) (c := _) (fun i h => h) h (by kernel_rfl) (AllP.nil) ?_
        intro a w h
        exact ⟨(IntKind.i64.wrap (v345 + (1 : Int))), hF, h.arrive (fz := []) (l := [1, 3, 7]) (fun i h => h) (by kernel_rfl)⟩
    · replace hF := of_f hb hF
      refine wp_exit ?_
      refine wp_reg_seq tok (orc := orcL []) (fz := []) (l := [6]) (c := _) (fun i h => h) h (by kernel_rfl) (AllP.nil) ?_
      intro a w h
      cases hF
      exact wp_ret (ret_okR tok h rfl (by kernel_rfl)).1

def f54.j229 (k : Nat) (v200 : Int) (q120 : Int → Option Bool) : Bool → Option Bool
  | v228 => if (!v228) then (some false) else (q120 (IntKind.i64.wrap (v200 + (1 : Int))))
def f54.l120 (k : Nat) (x0 : (Int × (Int × ((List (ByteArray × (Int × ByteArray))) × (Bool × (ByteArray × (Int × Int))))))) (x1 : (List (ByteArray × ByteArray))) : Nat → Int → Option Bool
  | 0, _ => none
  | m120 + 1, v200 => if (decide ((v200 : Int) < (List.length x0.2.2.1 : Int))) then (if (0 ≤ v200 ∧ v200 < (List.length x0.2.2.1 : Int)) then (if (((List.getD x0.2.2.1 (Int.toNat v200) ((⟨#[]⟩ : ByteArray), ((0 : Int), (⟨#[]⟩ : ByteArray)))).2.1 : Int) == (1 : Int)) then ((f83 k x1 (List.getD x0.2.2.1 (Int.toNat v200) ((⟨#[]⟩ : ByteArray), ((0 : Int), (⟨#[]⟩ : ByteArray)))).1).bind fun r230 => (f54.j229 k v200 ((f54.l120 k x0 x1) m120) (ByteArray.toList r230 == ByteArray.toList (List.getD x0.2.2.1 (Int.toNat v200) ((⟨#[]⟩ : ByteArray), ((0 : Int), (⟨#[]⟩ : ByteArray)))).2.2))) else (if (((List.getD x0.2.2.1 (Int.toNat v200) ((⟨#[]⟩ : ByteArray), ((0 : Int), (⟨#[]⟩ : ByteArray)))).2.1 : Int) == (2 : Int)) then ((f83 k x1 (List.getD x0.2.2.1 (Int.toNat v200) ((⟨#[]⟩ : ByteArray), ((0 : Int), (⟨#[]⟩ : ByteArray)))).1).bind fun r232 => (f54.j229 k v200 ((f54.l120 k x0 x1) m120) (!(ByteArray.toList r232 == ByteArray.toList (List.getD x0.2.2.1 (Int.toNat v200) ((⟨#[]⟩ : ByteArray), ((0 : Int), (⟨#[]⟩ : ByteArray)))).2.2)))) else (if (((List.getD x0.2.2.1 (Int.toNat v200) ((⟨#[]⟩ : ByteArray), ((0 : Int), (⟨#[]⟩ : ByteArray)))).2.1 : Int) == (3 : Int)) then ((f109 k x1 (List.getD x0.2.2.1 (Int.toNat v200) ((⟨#[]⟩ : ByteArray), ((0 : Int), (⟨#[]⟩ : ByteArray)))).1).bind fun r234 => (f54.j229 k v200 ((f54.l120 k x0 x1) m120) (decide ((r234 : Int) ≥ (0 : Int))))) else (if (((List.getD x0.2.2.1 (Int.toNat v200) ((⟨#[]⟩ : ByteArray), ((0 : Int), (⟨#[]⟩ : ByteArray)))).2.1 : Int) == (4 : Int)) then ((f109 k x1 (List.getD x0.2.2.1 (Int.toNat v200) ((⟨#[]⟩ : ByteArray), ((0 : Int), (⟨#[]⟩ : ByteArray)))).1).bind fun r236 => (f54.j229 k v200 ((f54.l120 k x0 x1) m120) (decide ((r236 : Int) < (0 : Int))))) else (f54.j229 k v200 ((f54.l120 k x0 x1) m120) false))))) else none) else (some true)
def f54 (k : Nat) (x0 : (Int × (Int × ((List (ByteArray × (Int × ByteArray))) × (Bool × (ByteArray × (Int × Int))))))) (x1 : (List (ByteArray × ByteArray))) (x2 : Int) : Option Bool := if (bif (decide ((x2 : Int) < x0.1)) then true else (decide ((x2 : Int) > x0.2.1))) then (some false) else (f54.l120 k x0 x1 k (0 : Int))
set_option maxRecDepth 100000 in
/-- 'impl.Applies'. -/
theorem c54 (k : Nat) (x0 : (Int × (Int × ((List (ByteArray × (Int × ByteArray))) × (Bool × (ByteArray × (Int × Int))))))) (x1 : (List (ByteArray × ByteArray))) (x2 : Int) (r : Bool) (hF : f54 k x0 x1 x2 = some r) : PCall Try.prog 54 [⟨sh10, x0⟩, ⟨sh2, x1⟩, ⟨(.int .i64), x2⟩] [⟨.bool, r⟩] := by
  refine pcall_intro Try.func54 rfl rfl (Nat.le_of_ble_eq_true rfl) ?_
  intro w0 Zi a w h
  rw [f54] at hF
  refine wp_reg_seq tok (orc := orcL []) (fz := []) (l := [1, 2, 3]) (c := _) (fun i h => h) h (by kernel_rfl) (AllP.nil) ?_
  intro a w h
  refine wp_seq ?_
  refine wp_reg_seq tok (orc := orcL []) (fz := []) (l := [1, 3, 19]) (c := _) (fun i h => h) h (by kernel_rfl) (AllP.nil) ?_
  intro a w h
  refine wp_if h (b := (bif (decide ((x2 : Int) < x0.1)) then true else (decide ((x2 : Int) > x0.2.1)))) (by kernel_rfl) (fun hb => ?_) (fun hb => ?_)
  · replace hF := of_t hb hF
    refine wp_reg_seq tok (orc := orcL []) (fz := []) (l := [6]) (c := _) (fun i h => h) h (by kernel_rfl) (AllP.nil) ?_
    intro a w h
    cases hF
    exact wp_ret (ret_okR tok h rfl (by kernel_rfl)).1
  · replace hF := of_f hb hF
    refine wp_skip ?_
    refine wp_seq ?_
    refine wp_reg_seq tok (orc := orcL []) (fz := []) (l := [1, 21, 22, 23]) (c := _) (fun i h => h) h (by kernel_rfl) (AllP.nil) ?_
    intro a w h
    refine wp_block ?_
    refine wp_loop_fuel (f54.l120 k x0 x1) (fun (v200 : Int) => [(1, .val sh2 x1), (21, .val sh11 x0.2.2.1), (22, .val (.int .i64) (List.length x0.2.2.1 : Int)), (23, .val (.int .i64) v200)]) (fun v h => by rw [f54.l120] at h; cases h) ?_ hF (h.arrive (fz := []) (l := [1, 21, 22, 23]) (fun i h => h) (by kernel_rfl))
    intro m120 v200 a w hF h
    rw [f54.l120] at hF
    refine wp_reg_seq tok (orc := orcL []) (fz := []) (l := [1, 21, 22, 23, 24]) (c := _) (fun i h => h) h (by kernel_rfl) (AllP.nil) ?_
    intro a w h
    refine wp_seq <| wp_if h (b := (decide ((v200 : Int) < (List.length x0.2.2.1 : Int)))) (by kernel_rfl) (fun hb => ?_) (fun hb => ?_)
    · replace hF := of_t hb hF
      refine wp_skip ?_
      refine wp_seq <| wp_block ?_
      obtain ⟨hc238, hF⟩ := of_if hF
      refine wp_reg_seq tok (orc := orcL []) (fz := []) (l := [1, 8, 21, 22, 23]) (c := _) (fun i h => h) h (by kernel_rfl) (AllP.cons hc238 AllP.nil) ?_
      intro a w h
      refine wp_reg_seq tok (orc := orcL []) (fz := []) (l := [1, 8, 9, 21, 22, 23]) (c := _) (fun i h => h) h (by kernel_rfl) (AllP.nil) ?_
      intro a w h
      refine wp_seq ?_
      refine wp_reg_seq tok (orc := orcL []) (fz := []) (l := [1, 8, 9, 21, 22, 23, 28]) (c := _) (fun i h => h) h (by kernel_rfl) (AllP.nil) ?_
      intro a w h
      refine wp_midT (fun a w => ∃ v : Bool, f54.j229 k v200 ((f54.l120 k x0 x1) m120) v = some r ∧ Rel w0 (fun _ => False) Zi Try.f54.ntmps ((fun (v228 : Bool) => ([(1, .val sh2 x1), (9, .val .bool v228), (21, .val sh11 x0.2.2.1), (22, .val (.int .i64) (List.length x0.2.2.1 : Int)), (23, .val (.int .i64) v200)] : SS)) v) a w) ?_ ?_
      ·
        refine wp_block ?_
        refine wp_reg_seq tok (orc := orcL []) (fz := []) (l := [1, 8, 9, 21, 22, 23, 28, 29]) (c := _) (fun i h => h) h (by kernel_rfl) (AllP.nil) ?_
        intro a w h
        refine wp_if h (b := (((List.getD x0.2.2.1 (Int.toNat v200) ((⟨#[]⟩ : ByteArray), ((0 : Int), (⟨#[]⟩ : ByteArray)))).2.1 : Int) == (1 : Int))) (by kernel_rfl) (fun hb => ?_) (fun hb => ?_)
        · replace hF := of_t hb hF
          obtain ⟨r230, hr231, hF⟩ := of_bind hF
          refine wp_regx tok (orc := orcL [(34, [⟨.str, r230⟩])]) (fz := []) (l := [1, 9, 21, 22, 23]) (c := _) (fun i h => h) h (by kernel_rfl) (by kernel_rfl) (AllP.cons (c83 k x1 (List.getD x0.2.2.1 (Int.toNat v200) ((⟨#[]⟩ : ByteArray), ((0 : Int), (⟨#[]⟩ : ByteArray)))).1 r230 hr231) AllP.nil) ?_
          intro a w h
          exact ⟨(ByteArray.toList r230 == ByteArray.toList (List.getD x0.2.2.1 (Int.toNat v200) ((⟨#[]⟩ : ByteArray), ((0 : Int), (⟨#[]⟩ : ByteArray)))).2.2), hF, h.arrive (fz := []) (l := [1, 9, 21, 22, 23]) (fun i h => h) (by kernel_rfl)⟩
        · replace hF := of_f hb hF
          refine wp_reg_seq tok (orc := orcL []) (fz := []) (l := [1, 8, 9, 21, 22, 23, 28, 38]) (c := _) (fun i h => h) h (by kernel_rfl) (AllP.nil) ?_
          intro a w h
          refine wp_if h (b := (((List.getD x0.2.2.1 (Int.toNat v200) ((⟨#[]⟩ : ByteArray), ((0 : Int), (⟨#[]⟩ : ByteArray)))).2.1 : Int) == (2 : Int))) (by kernel_rfl) (fun hb => ?_) (fun hb => ?_)
          · replace hF := of_t hb hF
            obtain ⟨r232, hr233, hF⟩ := of_bind hF
            refine wp_regx tok (orc := orcL [(43, [⟨.str, r232⟩])]) (fz := []) (l := [1, 9, 21, 22, 23]) (c := _) (fun i h => h) h (by kernel_rfl) (by kernel_rfl) (AllP.cons (c83 k x1 (List.getD x0.2.2.1 (Int.toNat v200) ((⟨#[]⟩ : ByteArray), ((0 : Int), (⟨#[]⟩ : ByteArray)))).1 r232 hr233) AllP.nil) ?_
            intro a w h
            exact ⟨(!(ByteArray.toList r232 == ByteArray.toList (List.getD x0.2.2.1 (Int.toNat v200) ((⟨#[]⟩ : ByteArray), ((0 : Int), (⟨#[]⟩ : ByteArray)))).2.2)), hF, h.arrive (fz := []) (l := [1, 9, 21, 22, 23]) (fun i h => h) (by kernel_rfl)⟩
          · replace hF := of_f hb hF
            refine wp_reg_seq tok (orc := orcL []) (fz := []) (l := [1, 8, 9, 21, 22, 23, 28, 47]) (c := _) (fun i h => h) h (by kernel_rfl) (AllP.nil) ?_
            intro a w h
            refine wp_if h (b := (((List.getD x0.2.2.1 (Int.toNat v200) ((⟨#[]⟩ : ByteArray), ((0 : Int), (⟨#[]⟩ : ByteArray)))).2.1 : Int) == (3 : Int))) (by kernel_rfl) (fun hb => ?_) (fun hb => ?_)
            · replace hF := of_t hb hF
              obtain ⟨r234, hr235, hF⟩ := of_bind hF
              refine wp_reg tok (orc := orcL [(52, [⟨(.int .i64), r234⟩])]) (fz := []) (l := [1, 9, 21, 22, 23]) (c := _) (fun i h => h) h (by kernel_rfl) (AllP.cons (c109 k x1 (List.getD x0.2.2.1 (Int.toNat v200) ((⟨#[]⟩ : ByteArray), ((0 : Int), (⟨#[]⟩ : ByteArray)))).1 r234 hr235) AllP.nil) ?_
              intro a w h
              exact ⟨(decide ((r234 : Int) ≥ (0 : Int))), hF, h.arrive (fz := []) (l := [1, 9, 21, 22, 23]) (fun i h => h) (by kernel_rfl)⟩
            · replace hF := of_f hb hF
              refine wp_reg_seq tok (orc := orcL []) (fz := []) (l := [1, 8, 9, 21, 22, 23, 54]) (c := _) (fun i h => h) h (by kernel_rfl) (AllP.nil) ?_
              intro a w h
              refine wp_if h (b := (((List.getD x0.2.2.1 (Int.toNat v200) ((⟨#[]⟩ : ByteArray), ((0 : Int), (⟨#[]⟩ : ByteArray)))).2.1 : Int) == (4 : Int))) (by kernel_rfl) (fun hb => ?_) (fun hb => ?_)
              · replace hF := of_t hb hF
                obtain ⟨r236, hr237, hF⟩ := of_bind hF
                refine wp_reg tok (orc := orcL [(59, [⟨(.int .i64), r236⟩])]) (fz := []) (l := [1, 9, 21, 22, 23]) (c := _) (fun i h => h) h (by kernel_rfl) (AllP.cons (c109 k x1 (List.getD x0.2.2.1 (Int.toNat v200) ((⟨#[]⟩ : ByteArray), ((0 : Int), (⟨#[]⟩ : ByteArray)))).1 r236 hr237) AllP.nil) ?_
                intro a w h
                exact ⟨(decide ((r236 : Int) < (0 : Int))), hF, h.arrive (fz := []) (l := [1, 9, 21, 22, 23]) (fun i h => h) (by kernel_rfl)⟩
              · replace hF := of_f hb hF
                refine wp_skip ?_
                exact ⟨false, hF, h.arrive (fz := []) (l := [1, 9, 21, 22, 23]) (fun i h => h) (by kernel_rfl)⟩
      · rintro a w ⟨v228, hF, h⟩
        rw [f54.j229] at hF
        refine wp_reg_seq tok (orc := orcL []) (fz := []) (l := [1, 21, 22, 23, 62]) (c := _) (fun i h => h) h (by kernel_rfl) (AllP.nil) ?_
        intro a w h
        refine wp_if h (b := (!v228)) (by kernel_rfl) (fun hb => ?_) (fun hb => ?_)
        · replace hF := of_t hb hF
          refine wp_reg_seq tok (orc := orcL []) (fz := []) (l := [6]) (c := _) (fun i h => h) h (by kernel_rfl) (AllP.nil) ?_
          intro a w h
          cases hF
          exact wp_ret (ret_okR tok h rfl (by kernel_rfl)).1
        · replace hF := of_f hb hF
          refine wp_skip ?_
          refine wp_reg tok (orc := orcL []) (fz := []) (l := [1, 21, 22, 23]) (c := _) (fun i h => h) h (by kernel_rfl) (AllP.nil) ?_
          intro a w h
          exact ⟨(IntKind.i64.wrap (v200 + (1 : Int))), hF, h.arrive (fz := []) (l := [1, 21, 22, 23]) (fun i h => h) (by kernel_rfl)⟩
    · replace hF := of_f hb hF
      refine wp_exit ?_
      refine wp_reg_seq tok (orc := orcL []) (fz := []) (l := [6]) (c := _) (fun i h => h) h (by kernel_rfl) (AllP.nil) ?_
      intro a w h
      cases hF
      exact wp_ret (ret_okR tok h rfl (by kernel_rfl)).1

def f140 (k : Nat) (x0 : (ByteArray × (Int × ByteArray))) (x1 : (ByteArray × (Int × ByteArray))) : Option Bool := if (!(ByteArray.toList x0.1 == ByteArray.toList x1.1)) then (some false) else (if ((x0.2.1 : Int) != x1.2.1) then (some false) else (if (!(ByteArray.toList x0.2.2 == ByteArray.toList x1.2.2)) then (some false) else (some true)))
set_option maxRecDepth 100000 in
/-- 'laws.eqTest'. -/
theorem c140 (k : Nat) (x0 : (ByteArray × (Int × ByteArray))) (x1 : (ByteArray × (Int × ByteArray))) (r : Bool) (hF : f140 k x0 x1 = some r) : PCall Try.prog 140 [⟨sh3, x0⟩, ⟨sh3, x1⟩] [⟨.bool, r⟩] := by
  refine pcall_intro Try.func140 rfl rfl (Nat.le_of_ble_eq_true rfl) ?_
  intro w0 Zi a w h
  rw [f140] at hF
  refine wp_reg_seq tok (orc := orcL []) (fz := []) (l := [2, 3]) (c := _) (fun i h => h) h (by kernel_rfl) (AllP.nil) ?_
  intro a w h
  refine wp_seq ?_
  refine wp_reg_seq tok (orc := orcL []) (fz := []) (l := [2, 3, 9]) (c := _) (fun i h => h) h (by kernel_rfl) (AllP.nil) ?_
  intro a w h
  refine wp_if h (b := (!(ByteArray.toList x0.1 == ByteArray.toList x1.1))) (by kernel_rfl) (fun hb => ?_) (fun hb => ?_)
  · replace hF := of_t hb hF
    refine wp_reg_seq tok (orc := orcL []) (fz := []) (l := [4]) (c := _) (fun i h => h) h (by kernel_rfl) (AllP.nil) ?_
    intro a w h
    cases hF
    exact wp_ret (ret_okR tok h rfl (by kernel_rfl)).1
  · replace hF := of_f hb hF
    refine wp_skip ?_
    refine wp_seq ?_
    refine wp_reg_seq tok (orc := orcL []) (fz := []) (l := [2, 3, 14]) (c := _) (fun i h => h) h (by kernel_rfl) (AllP.nil) ?_
    intro a w h
    refine wp_if h (b := ((x0.2.1 : Int) != x1.2.1)) (by kernel_rfl) (fun hb => ?_) (fun hb => ?_)
    · replace hF := of_t hb hF
      refine wp_reg_seq tok (orc := orcL []) (fz := []) (l := [4]) (c := _) (fun i h => h) h (by kernel_rfl) (AllP.nil) ?_
      intro a w h
      cases hF
      exact wp_ret (ret_okR tok h rfl (by kernel_rfl)).1
    · replace hF := of_f hb hF
      refine wp_skip ?_
      refine wp_seq ?_
      refine wp_reg_seq tok (orc := orcL []) (fz := []) (l := [19]) (c := _) (fun i h => h) h (by kernel_rfl) (AllP.nil) ?_
      intro a w h
      refine wp_if h (b := (!(ByteArray.toList x0.2.2 == ByteArray.toList x1.2.2))) (by kernel_rfl) (fun hb => ?_) (fun hb => ?_)
      · replace hF := of_t hb hF
        refine wp_reg_seq tok (orc := orcL []) (fz := []) (l := [4]) (c := _) (fun i h => h) h (by kernel_rfl) (AllP.nil) ?_
        intro a w h
        cases hF
        exact wp_ret (ret_okR tok h rfl (by kernel_rfl)).1
      · replace hF := of_f hb hF
        refine wp_skip ?_
        refine wp_reg_seq tok (orc := orcL []) (fz := []) (l := [4]) (c := _) (fun i h => h) h (by kernel_rfl) (AllP.nil) ?_
        intro a w h
        cases hF
        exact wp_ret (ret_okR tok h rfl (by kernel_rfl)).1

def f110.l30 (k : Nat) (x0 : (List (ByteArray × (Int × ByteArray)))) (x1 : (List (ByteArray × (Int × ByteArray)))) : Nat → Int → Option Bool
  | 0, _ => none
  | m30 + 1, v50 => if (decide ((v50 : Int) < (List.length x0 : Int))) then (if (0 ≤ v50 ∧ v50 < (List.length x0 : Int)) then (if (0 ≤ v50 ∧ v50 < (List.length x1 : Int)) then ((f140 k (List.getD x0 (Int.toNat v50) ((⟨#[]⟩ : ByteArray), ((0 : Int), (⟨#[]⟩ : ByteArray)))) (List.getD x1 (Int.toNat v50) ((⟨#[]⟩ : ByteArray), ((0 : Int), (⟨#[]⟩ : ByteArray))))).bind fun r55 => (if (!r55) then (some false) else ((f110.l30 k x0 x1) m30 (IntKind.i64.wrap (v50 + (1 : Int)))))) else none) else none) else (some true)
def f110 (k : Nat) (x0 : (List (ByteArray × (Int × ByteArray)))) (x1 : (List (ByteArray × (Int × ByteArray)))) : Option Bool := if (((List.length x0 : Int) : Int) != (List.length x1 : Int)) then (some false) else (f110.l30 k x0 x1 k (0 : Int))
set_option maxRecDepth 100000 in
/-- 'laws.eqTestS'. -/
theorem c110 (k : Nat) (x0 : (List (ByteArray × (Int × ByteArray)))) (x1 : (List (ByteArray × (Int × ByteArray)))) (r : Bool) (hF : f110 k x0 x1 = some r) : PCall Try.prog 110 [⟨sh11, x0⟩, ⟨sh11, x1⟩] [⟨.bool, r⟩] := by
  refine pcall_intro Try.func110 rfl rfl (Nat.le_of_ble_eq_true rfl) ?_
  intro w0 Zi a w h
  rw [f110] at hF
  refine wp_reg_seq tok (orc := orcL []) (fz := []) (l := [0, 1]) (c := _) (fun i h => h) h (by kernel_rfl) (AllP.nil) ?_
  intro a w h
  refine wp_seq ?_
  refine wp_reg_seq tok (orc := orcL []) (fz := []) (l := [0, 1, 10]) (c := _) (fun i h => h) h (by kernel_rfl) (AllP.nil) ?_
  intro a w h
  refine wp_if h (b := (((List.length x0 : Int) : Int) != (List.length x1 : Int))) (by kernel_rfl) (fun hb => ?_) (fun hb => ?_)
  · replace hF := of_t hb hF
    refine wp_reg_seq tok (orc := orcL []) (fz := []) (l := [4]) (c := _) (fun i h => h) h (by kernel_rfl) (AllP.nil) ?_
    intro a w h
    cases hF
    exact wp_ret (ret_okR tok h rfl (by kernel_rfl)).1
  · replace hF := of_f hb hF
    refine wp_skip ?_
    refine wp_seq ?_
    refine wp_reg_seq tok (orc := orcL []) (fz := []) (l := [0, 1, 5]) (c := _) (fun i h => h) h (by kernel_rfl) (AllP.nil) ?_
    intro a w h
    refine wp_block ?_
    refine wp_loop_fuel (f110.l30 k x0 x1) (fun (v50 : Int) => [(0, .val sh11 x0), (1, .val sh11 x1), (5, .val (.int .i64) v50)]) (fun v h => by rw [f110.l30] at h; cases h) ?_ hF (h.arrive (fz := []) (l := [0, 1, 5]) (fun i h => h) (by kernel_rfl))
    intro m30 v50 a w hF h
    rw [f110.l30] at hF
    refine wp_seq ?_
    refine wp_reg_seq tok (orc := orcL []) (fz := []) (l := [0, 1, 5, 14]) (c := _) (fun i h => h) h (by kernel_rfl) (AllP.nil) ?_
    intro a w h
    refine wp_if h (b := (decide ((v50 : Int) < (List.length x0 : Int)))) (by kernel_rfl) (fun hb => ?_) (fun hb => ?_)
    · replace hF := of_t hb hF
      refine wp_skip ?_
      refine wp_seq <| wp_block ?_
      obtain ⟨hc56, hF⟩ := of_if hF
      obtain ⟨hc57, hF⟩ := of_if hF
      obtain ⟨r55, hr58, hF⟩ := of_bind hF
      refine wp_regx_seq tok (orc := orcL [(25, [⟨.bool, r55⟩])]) (fz := []) (l := [0, 1, 5, 26]) (c := _) (fun i h => h) h (by kernel_rfl) (by kernel_rfl) (AllP.cons hc56 (AllP.cons hc57 (AllP.cons (c140 k (List.getD x0 (Int.toNat v50) ((⟨#[]⟩ : ByteArray), ((0 : Int), (⟨#[]⟩ : ByteArray)))) (List.getD x1 (Int.toNat v50) ((⟨#[]⟩ : ByteArray), ((0 : Int), (⟨#[]⟩ : ByteArray)))) r55 hr58) AllP.nil))) ?_
      intro a w h
      refine wp_if h (b := (!r55)) (by kernel_rfl) (fun hb => ?_) (fun hb => ?_)
      · replace hF := of_t hb hF
        refine wp_reg_seq tok (orc := orcL []) (fz := []) (l := [4]) (c := _) (fun i h => h) h (by kernel_rfl) (AllP.nil) ?_
        intro a w h
        cases hF
        exact wp_ret (ret_okR tok h rfl (by kernel_rfl)).1
      · replace hF := of_f hb hF
        refine wp_skip ?_
        refine wp_reg tok (orc := orcL []) (fz := []) (l := [0, 1, 5]) (c := _) (fun i h => h) h (by kernel_rfl) (AllP.nil) ?_
        intro a w h
        exact ⟨(IntKind.i64.wrap (v50 + (1 : Int))), hF, h.arrive (fz := []) (l := [0, 1, 5]) (fun i h => h) (by kernel_rfl)⟩
    · replace hF := of_f hb hF
      refine wp_exit ?_
      refine wp_reg_seq tok (orc := orcL []) (fz := []) (l := [4]) (c := _) (fun i h => h) h (by kernel_rfl) (AllP.nil) ?_
      intro a w h
      cases hF
      exact wp_ret (ret_okR tok h rfl (by kernel_rfl)).1

def f55 (k : Nat) (x0 : (Int × (Int × ((List (ByteArray × (Int × ByteArray))) × (Bool × (ByteArray × (Int × Int))))))) (x1 : (Int × (Int × ((List (ByteArray × (Int × ByteArray))) × (Bool × (ByteArray × (Int × Int))))))) : Option Bool := if ((x0.1 : Int) != x1.1) then (some false) else (if ((x0.2.1 : Int) != x1.2.1) then (some false) else ((f110 k x0.2.2.1 x1.2.2.1).bind fun r1 => (if (!r1) then (some false) else (if (!((x0.2.2.2.1 : Bool) == x1.2.2.2.1)) then (some false) else (if (!(ByteArray.toList x0.2.2.2.2.1 == ByteArray.toList x1.2.2.2.2.1)) then (some false) else (if ((x0.2.2.2.2.2.1 : Int) != x1.2.2.2.2.2.1) then (some false) else (if ((x0.2.2.2.2.2.2 : Int) != x1.2.2.2.2.2.2) then (some false) else (some true))))))))
set_option maxRecDepth 100000 in
/-- 'laws.eqRule'. -/
theorem c55 (k : Nat) (x0 : (Int × (Int × ((List (ByteArray × (Int × ByteArray))) × (Bool × (ByteArray × (Int × Int))))))) (x1 : (Int × (Int × ((List (ByteArray × (Int × ByteArray))) × (Bool × (ByteArray × (Int × Int))))))) (r : Bool) (hF : f55 k x0 x1 = some r) : PCall Try.prog 55 [⟨sh10, x0⟩, ⟨sh10, x1⟩] [⟨.bool, r⟩] := by
  refine pcall_intro Try.func55 rfl rfl (Nat.le_of_ble_eq_true rfl) ?_
  intro w0 Zi a w h
  rw [f55] at hF
  refine wp_reg_seq tok (orc := orcL []) (fz := []) (l := [2, 3]) (c := _) (fun i h => h) h (by kernel_rfl) (AllP.nil) ?_
  intro a w h
  refine wp_seq ?_
  refine wp_reg_seq tok (orc := orcL []) (fz := []) (l := [2, 3, 9]) (c := _) (fun i h => h) h (by kernel_rfl) (AllP.nil) ?_
  intro a w h
  refine wp_if h (b := ((x0.1 : Int) != x1.1)) (by kernel_rfl) (fun hb => ?_) (fun hb => ?_)
  · replace hF := of_t hb hF
    refine wp_reg_seq tok (orc := orcL []) (fz := []) (l := [4]) (c := _) (fun i h => h) h (by kernel_rfl) (AllP.nil) ?_
    intro a w h
    cases hF
    exact wp_ret (ret_okR tok h rfl (by kernel_rfl)).1
  · replace hF := of_f hb hF
    refine wp_skip ?_
    refine wp_seq ?_
    refine wp_reg_seq tok (orc := orcL []) (fz := []) (l := [2, 3, 14]) (c := _) (fun i h => h) h (by kernel_rfl) (AllP.nil) ?_
    intro a w h
    refine wp_if h (b := ((x0.2.1 : Int) != x1.2.1)) (by kernel_rfl) (fun hb => ?_) (fun hb => ?_)
    · replace hF := of_t hb hF
      refine wp_reg_seq tok (orc := orcL []) (fz := []) (l := [4]) (c := _) (fun i h => h) h (by kernel_rfl) (AllP.nil) ?_
      intro a w h
      cases hF
      exact wp_ret (ret_okR tok h rfl (by kernel_rfl)).1
    · replace hF := of_f hb hF
      refine wp_skip ?_
      refine wp_seq ?_
      obtain ⟨r1, hr2, hF⟩ := of_bind hF
      refine wp_reg_seq tok (orc := orcL [(19, [⟨.bool, r1⟩])]) (fz := []) (l := [2, 3, 20]) (c := _) (fun i h => h) h (by kernel_rfl) (AllP.cons (c110 k x0.2.2.1 x1.2.2.1 r1 hr2) AllP.nil) ?_
      intro a w h
      refine wp_if h (b := (!r1)) (by kernel_rfl) (fun hb => ?_) (fun hb => ?_)
      · replace hF := of_t hb hF
        refine wp_reg_seq tok (orc := orcL []) (fz := []) (l := [4]) (c := _) (fun i h => h) h (by kernel_rfl) (AllP.nil) ?_
        intro a w h
        cases hF
        exact wp_ret (ret_okR tok h rfl (by kernel_rfl)).1
      · replace hF := of_f hb hF
        refine wp_skip ?_
        refine wp_seq ?_
        refine wp_reg_seq tok (orc := orcL []) (fz := []) (l := [2, 3, 25]) (c := _) (fun i h => h) h (by kernel_rfl) (AllP.nil) ?_
        intro a w h
        refine wp_if h (b := (!((x0.2.2.2.1 : Bool) == x1.2.2.2.1))) (by kernel_rfl) (fun hb => ?_) (fun hb => ?_)
        · replace hF := of_t hb hF
          refine wp_reg_seq tok (orc := orcL []) (fz := []) (l := [4]) (c := _) (fun i h => h) h (by kernel_rfl) (AllP.nil) ?_
          intro a w h
          cases hF
          exact wp_ret (ret_okR tok h rfl (by kernel_rfl)).1
        · replace hF := of_f hb hF
          refine wp_skip ?_
          refine wp_seq ?_
          refine wp_reg_seq tok (orc := orcL []) (fz := []) (l := [2, 3, 30]) (c := _) (fun i h => h) h (by kernel_rfl) (AllP.nil) ?_
          intro a w h
          refine wp_if h (b := (!(ByteArray.toList x0.2.2.2.2.1 == ByteArray.toList x1.2.2.2.2.1))) (by kernel_rfl) (fun hb => ?_) (fun hb => ?_)
          · replace hF := of_t hb hF
            refine wp_reg_seq tok (orc := orcL []) (fz := []) (l := [4]) (c := _) (fun i h => h) h (by kernel_rfl) (AllP.nil) ?_
            intro a w h
            cases hF
            exact wp_ret (ret_okR tok h rfl (by kernel_rfl)).1
          · replace hF := of_f hb hF
            refine wp_skip ?_
            refine wp_seq ?_
            refine wp_reg_seq tok (orc := orcL []) (fz := []) (l := [2, 3, 35]) (c := _) (fun i h => h) h (by kernel_rfl) (AllP.nil) ?_
            intro a w h
            refine wp_if h (b := ((x0.2.2.2.2.2.1 : Int) != x1.2.2.2.2.2.1)) (by kernel_rfl) (fun hb => ?_) (fun hb => ?_)
            · replace hF := of_t hb hF
              refine wp_reg_seq tok (orc := orcL []) (fz := []) (l := [4]) (c := _) (fun i h => h) h (by kernel_rfl) (AllP.nil) ?_
              intro a w h
              cases hF
              exact wp_ret (ret_okR tok h rfl (by kernel_rfl)).1
            · replace hF := of_f hb hF
              refine wp_skip ?_
              refine wp_seq ?_
              refine wp_reg_seq tok (orc := orcL []) (fz := []) (l := [40]) (c := _) (fun i h => h) h (by kernel_rfl) (AllP.nil) ?_
              intro a w h
              refine wp_if h (b := ((x0.2.2.2.2.2.2 : Int) != x1.2.2.2.2.2.2)) (by kernel_rfl) (fun hb => ?_) (fun hb => ?_)
              · replace hF := of_t hb hF
                refine wp_reg_seq tok (orc := orcL []) (fz := []) (l := [4]) (c := _) (fun i h => h) h (by kernel_rfl) (AllP.nil) ?_
                intro a w h
                cases hF
                exact wp_ret (ret_okR tok h rfl (by kernel_rfl)).1
              · replace hF := of_f hb hF
                refine wp_skip ?_
                refine wp_reg_seq tok (orc := orcL []) (fz := []) (l := [4]) (c := _) (fun i h => h) h (by kernel_rfl) (AllP.nil) ?_
                intro a w h
                cases hF
                exact wp_ret (ret_okR tok h rfl (by kernel_rfl)).1

def f11 (k : Nat) (x0 : (Int × (Int × ((List (ByteArray × (Int × ByteArray))) × (Bool × (ByteArray × (Int × Int))))))) (x1 : (List (ByteArray × ByteArray))) (x2 : Int) : Option Bool := (f51 k x0 (1048576 : Int)).bind fun r1 => (if (decide ((r1 : Int) < (0 : Int))) then (some true) else ((f18 k x1 r1).bind fun r2 => (if (decide ((r2 : Int) < (0 : Int))) then (some true) else ((f53 k x0).bind fun r3 => ((f20 k x1).bind fun r4 => ((f52 k r3 r4 x2).bind fun r5 => ((f53 k x0).bind fun r6 => ((f20 k x1).bind fun r7 => ((f54 k r6 r7 x2).bind fun r8 => (if (!((r8 : Bool) == r5)) then (some false) else ((f53 k x0).bind fun r9 => ((f55 k r6 r9).bind fun r10 => (if (!r10) then (some false) else ((f20 k x1).bind fun r11 => ((f22 k r7 r11).bind fun r12 => (if (!r12) then (some false) else (some true)))))))))))))))))
set_option maxRecDepth 100000 in
/-- 'laws.FnExactApplies'. -/
theorem c11 (k : Nat) (x0 : (Int × (Int × ((List (ByteArray × (Int × ByteArray))) × (Bool × (ByteArray × (Int × Int))))))) (x1 : (List (ByteArray × ByteArray))) (x2 : Int) (r : Bool) (hF : f11 k x0 x1 x2 = some r) : PCall Try.prog 11 [⟨sh5, x0⟩, ⟨sh0, x1⟩, ⟨(.int .i64), x2⟩] [⟨.bool, r⟩] := by
  refine pcall_intro Try.func11 rfl rfl (Nat.le_of_ble_eq_true rfl) ?_
  intro w0 Zi a w h
  rw [f11] at hF
  refine wp_reg_seq tok (orc := orcL []) (fz := []) (l := [1, 2, 3]) (c := _) (fun i h => h) h (by kernel_rfl) (AllP.nil) ?_
  intro a w h
  refine wp_reg_seq tok (orc := orcL []) (fz := []) (l := [1, 2, 3, 7]) (c := _) (fun i h => h) h (by kernel_rfl) (AllP.nil) ?_
  intro a w h
  obtain ⟨r1, hr24, hF⟩ := of_bind hF
  refine wp_reg_seq tok (orc := orcL [(14, [⟨(.int .i64), r1⟩])]) (fz := []) (l := [1, 2, 3, 7]) (c := _) (fun i h => h) h (by kernel_rfl) (AllP.cons (c51 k x0 (1048576 : Int) r1 hr24) AllP.nil) ?_
  intro a w h
  refine wp_seq ?_
  refine wp_reg_seq tok (orc := orcL []) (fz := []) (l := [1, 2, 3, 7, 16]) (c := _) (fun i h => h) h (by kernel_rfl) (AllP.nil) ?_
  intro a w h
  refine wp_if h (b := (decide ((r1 : Int) < (0 : Int)))) (by kernel_rfl) (fun hb => ?_) (fun hb => ?_)
  · replace hF := of_t hb hF
    refine wp_reg_seq tok (orc := orcL []) (fz := []) (l := [6]) (c := _) (fun i h => h) h (by kernel_rfl) (AllP.nil) ?_
    intro a w h
    cases hF
    exact wp_ret (ret_okR tok h rfl (by kernel_rfl)).1
  · replace hF := of_f hb hF
    refine wp_skip ?_
    obtain ⟨r2, hr23, hF⟩ := of_bind hF
    refine wp_reg_seq tok (orc := orcL [(19, [⟨(.int .i64), r2⟩])]) (fz := []) (l := [1, 2, 3, 7]) (c := _) (fun i h => h) h (by kernel_rfl) (AllP.cons (c18 k x1 r1 r2 hr23) AllP.nil) ?_
    intro a w h
    refine wp_seq ?_
    refine wp_reg_seq tok (orc := orcL []) (fz := []) (l := [1, 2, 3, 21]) (c := _) (fun i h => h) h (by kernel_rfl) (AllP.nil) ?_
    intro a w h
    refine wp_if h (b := (decide ((r2 : Int) < (0 : Int)))) (by kernel_rfl) (fun hb => ?_) (fun hb => ?_)
    · replace hF := of_t hb hF
      refine wp_reg_seq tok (orc := orcL []) (fz := []) (l := [6]) (c := _) (fun i h => h) h (by kernel_rfl) (AllP.nil) ?_
      intro a w h
      cases hF
      exact wp_ret (ret_okR tok h rfl (by kernel_rfl)).1
    · replace hF := of_f hb hF
      refine wp_skip ?_
      obtain ⟨r3, hr20, hF⟩ := of_bind hF
      obtain ⟨r4, hr21, hF⟩ := of_bind hF
      obtain ⟨r5, hr22, hF⟩ := of_bind hF
      refine wp_reg_seq tok (orc := orcL [(23, [⟨sh7, r3⟩]), (25, [⟨sh1, r4⟩]), (27, [⟨.bool, r5⟩])]) (fz := []) (l := [1, 2, 3, 8]) (c := _) (fun i h => h) h (by kernel_rfl) (AllP.cons (c53 k x0 r3 hr20) (AllP.cons (c20 k x1 r4 hr21) (AllP.cons (c52 k r3 r4 x2 r5 hr22) AllP.nil))) ?_
      intro a w h
      obtain ⟨r6, hr19, hF⟩ := of_bind hF
      refine wp_reg_seq tok (orc := orcL [(29, [⟨sh7, r6⟩])]) (fz := []) (l := [1, 2, 3, 8, 9]) (c := _) (fun i h => h) h (by kernel_rfl) (AllP.cons (c53 k x0 r6 hr19) AllP.nil) ?_
      intro a w h
      obtain ⟨r7, hr18, hF⟩ := of_bind hF
      refine wp_reg_seq tok (orc := orcL [(31, [⟨sh1, r7⟩])]) (fz := []) (l := [1, 2, 3, 8, 9, 10]) (c := _) (fun i h => h) h (by kernel_rfl) (AllP.cons (c20 k x1 r7 hr18) AllP.nil) ?_
      intro a w h
      obtain ⟨r8, hr17, hF⟩ := of_bind hF
      refine wp_reg_seq tok (orc := orcL [(35, [⟨.bool, r8⟩])]) (fz := []) (l := [1, 3, 8, 9, 10, 11]) (c := _) (fun i h => h) h (by kernel_rfl) (AllP.cons (c54 k r6 r7 x2 r8 hr17) AllP.nil) ?_
      intro a w h
      refine wp_seq ?_
      refine wp_reg_seq tok (orc := orcL []) (fz := []) (l := [1, 3, 9, 10, 38]) (c := _) (fun i h => h) h (by kernel_rfl) (AllP.nil) ?_
      intro a w h
      refine wp_if h (b := (!((r8 : Bool) == r5))) (by kernel_rfl) (fun hb => ?_) (fun hb => ?_)
      · replace hF := of_t hb hF
        refine wp_reg_seq tok (orc := orcL []) (fz := []) (l := [6]) (c := _) (fun i h => h) h (by kernel_rfl) (AllP.nil) ?_
        intro a w h
        cases hF
        exact wp_ret (ret_okR tok h rfl (by kernel_rfl)).1
      · replace hF := of_f hb hF
        refine wp_skip ?_
        refine wp_seq ?_
        obtain ⟨r9, hr15, hF⟩ := of_bind hF
        obtain ⟨r10, hr16, hF⟩ := of_bind hF
        refine wp_regx_seq tok (orc := orcL [(41, [⟨sh7, r9⟩]), (42, [⟨.bool, r10⟩])]) (fz := []) (l := [1, 10, 43]) (c := _) (fun i h => h) h (by kernel_rfl) (by kernel_rfl) (AllP.cons (c53 k x0 r9 hr15) (AllP.cons (c55 k r6 r9 r10 hr16) AllP.nil)) ?_
        intro a w h
        refine wp_if h (b := (!r10)) (by kernel_rfl) (fun hb => ?_) (fun hb => ?_)
        · replace hF := of_t hb hF
          refine wp_reg_seq tok (orc := orcL []) (fz := []) (l := [6]) (c := _) (fun i h => h) h (by kernel_rfl) (AllP.nil) ?_
          intro a w h
          cases hF
          exact wp_ret (ret_okR tok h rfl (by kernel_rfl)).1
        · replace hF := of_f hb hF
          refine wp_skip ?_
          refine wp_seq ?_
          obtain ⟨r11, hr13, hF⟩ := of_bind hF
          obtain ⟨r12, hr14, hF⟩ := of_bind hF
          refine wp_reg_seq tok (orc := orcL [(46, [⟨sh1, r11⟩]), (47, [⟨.bool, r12⟩])]) (fz := []) (l := [48]) (c := _) (fun i h => h) h (by kernel_rfl) (AllP.cons (c20 k x1 r11 hr13) (AllP.cons (c22 k r7 r11 r12 hr14) AllP.nil)) ?_
          intro a w h
          refine wp_if h (b := (!r12)) (by kernel_rfl) (fun hb => ?_) (fun hb => ?_)
          · replace hF := of_t hb hF
            refine wp_reg_seq tok (orc := orcL []) (fz := []) (l := [6]) (c := _) (fun i h => h) h (by kernel_rfl) (AllP.nil) ?_
            intro a w h
            cases hF
            exact wp_ret (ret_okR tok h rfl (by kernel_rfl)).1
          · replace hF := of_f hb hF
            refine wp_skip ?_
            refine wp_reg_seq tok (orc := orcL []) (fz := []) (l := [6]) (c := _) (fun i h => h) h (by kernel_rfl) (AllP.nil) ?_
            intro a w h
            cases hF
            exact wp_ret (ret_okR tok h rfl (by kernel_rfl)).1
end Go.Proofs.Ytijlnlonlmcdoaa.V
