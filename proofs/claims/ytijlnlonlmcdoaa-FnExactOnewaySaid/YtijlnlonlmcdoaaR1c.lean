/-
  THE CONTRACTS OF SOME FUNCTIONS OF THIS SEAT, PRINTED BY A PROGRAM OF THIS PROJECT (wip/gen/vgen.py).
-/
import Derived.Test.YtijlnlonlmcdoaaProg
import Derived.Test.YtijlnlonlmcdoaaVmW
import Derived.KernelRfl
set_option linter.unusedVariables false
open Go Go.Vm Go.Proofs
namespace Go.Proofs.Ytijlnlonlmcdoaa.V
abbrev sh0 : Sh := (.sl false 127 (.st (.pair .str .str)))
abbrev sh1 : Sh := (.sl true 129 (.st (.pair .str .str)))
abbrev sh2 : Sh := (.sl false 129 (.st (.pair .str .str)))
def tbl : Tbl := [⟨2, .int .i64, 1, 8, (.int .i64)⟩,
  ⟨3, .int .i64, 1, 8, (.int .i64)⟩,
  ⟨9, .string, 1, 16, .str⟩,
  ⟨32, .slice 127, 1, 24, (.sl true 127 (.st (.pair .str .str)))⟩,
  ⟨35, .slice 129, 1, 24, (.sl true 129 (.st (.pair .str .str)))⟩,
  ⟨127, .struct [(9, 0), (9, 1)], 2, 32, (.st (.pair .str .str))⟩,
  ⟨129, .struct [(9, 0), (9, 1)], 2, 32, (.st (.pair .str .str))⟩]
theorem tok : TOk Try.prog tbl := by unfold TOk; kernel_rfl

def f80 (k : Nat) (x0 : (ByteArray × ByteArray)) (x1 : Int) : Option Int := if (decide (((IntKind.i64.wrap (x1 - (ByteArray.size x0.1 : Int))) : Int) < (0 : Int))) then (some (-1 : Int)) else (if (decide (((IntKind.i64.wrap ((IntKind.i64.wrap (x1 - (ByteArray.size x0.1 : Int))) - (ByteArray.size x0.2 : Int))) : Int) < (0 : Int))) then (some (-1 : Int)) else (some (IntKind.i64.wrap ((IntKind.i64.wrap (x1 - (ByteArray.size x0.1 : Int))) - (ByteArray.size x0.2 : Int)))))
set_option maxRecDepth 100000 in
/-- 'laws.szTag'. -/
theorem c80 (k : Nat) (x0 : (ByteArray × ByteArray)) (x1 : Int) (r : Int) (hF : f80 k x0 x1 = some r) : PCall Try.prog 80 [⟨(.st (.pair .str .str)), x0⟩, ⟨(.int .i64), x1⟩] [⟨(.int .i64), r⟩] := by
  refine pcall_intro Try.func80 rfl rfl (Nat.le_of_ble_eq_true rfl) ?_
  intro w0 Zi a w h
  rw [f80] at hF
  refine wp_reg_seq tok (orc := orcL []) (fz := []) (l := [1, 2]) (c := _) (fun i h => h) h (by kernel_rfl) (AllP.nil) ?_
  intro a w h
  refine wp_reg_seq tok (orc := orcL []) (fz := []) (l := [1, 2]) (c := _) (fun i h => h) h (by kernel_rfl) (AllP.nil) ?_
  intro a w h
  refine wp_seq ?_
  refine wp_reg_seq tok (orc := orcL []) (fz := []) (l := [1, 2, 11]) (c := _) (fun i h => h) h (by kernel_rfl) (AllP.nil) ?_
  intro a w h
  refine wp_if h (b := (decide (((IntKind.i64.wrap (x1 - (ByteArray.size x0.1 : Int))) : Int) < (0 : Int)))) (by kernel_rfl) (fun hb => ?_) (fun hb => ?_)
  · replace hF := of_t hb hF
    refine wp_reg_seq tok (orc := orcL []) (fz := []) (l := [4]) (c := _) (fun i h => h) h (by kernel_rfl) (AllP.nil) ?_
    intro a w h
    cases hF
    exact wp_ret (ret_okR tok h rfl (by kernel_rfl)).1
  · replace hF := of_f hb hF
    refine wp_skip ?_
    refine wp_reg_seq tok (orc := orcL []) (fz := []) (l := [1]) (c := _) (fun i h => h) h (by kernel_rfl) (AllP.nil) ?_
    intro a w h
    refine wp_seq ?_
    refine wp_reg_seq tok (orc := orcL []) (fz := []) (l := [1, 18]) (c := _) (fun i h => h) h (by kernel_rfl) (AllP.nil) ?_
    intro a w h
    refine wp_if h (b := (decide (((IntKind.i64.wrap ((IntKind.i64.wrap (x1 - (ByteArray.size x0.1 : Int))) - (ByteArray.size x0.2 : Int))) : Int) < (0 : Int)))) (by kernel_rfl) (fun hb => ?_) (fun hb => ?_)
    · replace hF := of_t hb hF
      refine wp_reg_seq tok (orc := orcL []) (fz := []) (l := [4]) (c := _) (fun i h => h) h (by kernel_rfl) (AllP.nil) ?_
      intro a w h
      cases hF
      exact wp_ret (ret_okR tok h rfl (by kernel_rfl)).1
    · replace hF := of_f hb hF
      refine wp_skip ?_
      refine wp_reg_seq tok (orc := orcL []) (fz := []) (l := [4]) (c := _) (fun i h => h) h (by kernel_rfl) (AllP.nil) ?_
      intro a w h
      cases hF
      exact wp_ret (ret_okR tok h rfl (by kernel_rfl)).1

def f18.l28 (k : Nat) (x0 : (List (ByteArray × ByteArray))) : Nat → (Int × Int) → Option Int
  | 0, _ => none
  | m28 + 1, (v47, v48) => if (decide ((v48 : Int) < (List.length x0 : Int))) then (if (0 ≤ v48 ∧ v48 < (List.length x0 : Int)) then ((f80 k (List.getD x0 (Int.toNat v48) ((⟨#[]⟩ : ByteArray), (⟨#[]⟩ : ByteArray))) v47).bind fun r52 => (if (decide ((r52 : Int) < (0 : Int))) then (some (-1 : Int)) else ((f18.l28 k x0) m28 (r52, (IntKind.i64.wrap (v48 + (1 : Int))))))) else none) else (some v47)
def f18 (k : Nat) (x0 : (List (ByteArray × ByteArray))) (x1 : Int) : Option Int := if (decide (((IntKind.i64.wrap (x1 - (List.length x0 : Int))) : Int) < (0 : Int))) then (some (-1 : Int)) else (f18.l28 k x0 k ((IntKind.i64.wrap (x1 - (List.length x0 : Int))), (0 : Int)))
set_option maxRecDepth 100000 in
/-- 'laws.szTagS'. -/
theorem c18 (k : Nat) (x0 : (List (ByteArray × ByteArray))) (x1 : Int) (r : Int) (hF : f18 k x0 x1 = some r) : PCall Try.prog 18 [⟨sh0, x0⟩, ⟨(.int .i64), x1⟩] [⟨(.int .i64), r⟩] := by
  refine pcall_intro Try.func18 rfl rfl (Nat.le_of_ble_eq_true rfl) ?_
  intro w0 Zi a w h
  rw [f18] at hF
  refine wp_reg_seq tok (orc := orcL []) (fz := []) (l := [0, 1]) (c := _) (fun i h => h) h (by kernel_rfl) (AllP.nil) ?_
  intro a w h
  refine wp_reg_seq tok (orc := orcL []) (fz := []) (l := [0, 1]) (c := _) (fun i h => h) h (by kernel_rfl) (AllP.nil) ?_
  intro a w h
  refine wp_seq ?_
  refine wp_reg_seq tok (orc := orcL []) (fz := []) (l := [0, 1, 11]) (c := _) (fun i h => h) h (by kernel_rfl) (AllP.nil) ?_
  intro a w h
  refine wp_if h (b := (decide (((IntKind.i64.wrap (x1 - (List.length x0 : Int))) : Int) < (0 : Int)))) (by kernel_rfl) (fun hb => ?_) (fun hb => ?_)
  · replace hF := of_t hb hF
    refine wp_reg_seq tok (orc := orcL []) (fz := []) (l := [4]) (c := _) (fun i h => h) h (by kernel_rfl) (AllP.nil) ?_
    intro a w h
    cases hF
    exact wp_ret (ret_okR tok h rfl (by kernel_rfl)).1
  · replace hF := of_f hb hF
    refine wp_skip ?_
    refine wp_seq ?_
    refine wp_reg_seq tok (orc := orcL []) (fz := []) (l := [0, 1, 5]) (c := _) (fun i h => h) h (by kernel_rfl) (AllP.nil) ?_
    intro a w h
    refine wp_block ?_
    refine wp_loop_fuel (f18.l28 k x0) (fun ((v47, v48) : (Int × Int)) => [(0, .val sh0 x0), (1, .val (.int .i64) v47), (5, .val (.int .i64) v48)]) (fun v h => by obtain ⟨v47, v48⟩ := v; rw [f18.l28] at h; cases h) ?_ hF (h.arrive (fz := []) (l := [0, 1, 5]) (fun i h => h) (by kernel_rfl))
    intro m28 v a w hF h
    obtain ⟨v47, v48⟩ := v
    rw [f18.l28] at hF
    refine wp_seq ?_
    refine wp_reg_seq tok (orc := orcL []) (fz := []) (l := [0, 1, 5, 15]) (c := _) (fun i h => h) h (by kernel_rfl) (AllP.nil) ?_
    intro a w h
    refine wp_if h (b := (decide ((v48 : Int) < (List.length x0 : Int)))) (by kernel_rfl) (fun hb => ?_) (fun hb => ?_)
    · replace hF := of_t hb hF
      refine wp_skip ?_
      refine wp_seq <| wp_block ?_
      obtain ⟨hc53, hF⟩ := of_if hF
      obtain ⟨r52, hr54, hF⟩ := of_bind hF
      refine wp_reg_seq tok (orc := orcL [(23, [⟨(.int .i64), r52⟩])]) (fz := []) (l := [0, 1, 5]) (c := _) (fun i h => h) h (by kernel_rfl) (AllP.cons hc53 (AllP.cons (c80 k (List.getD x0 (Int.toNat v48) ((⟨#[]⟩ : ByteArray), (⟨#[]⟩ : ByteArray))) v47 r52 hr54) AllP.nil)) ?_
      intro a w h
      refine wp_reg_seq tok (orc := orcL []) (fz := []) (l := [0, 1, 5, 25]) (c := _) (fun i h => h) h (by kernel_rfl) (AllP.nil) ?_
      intro a w h
      refine wp_if h (b := (decide ((r52 : Int) < (0 : Int)))) (by kernel_rfl) (fun hb => ?_) (fun hb => ?_)
      · replace hF := of_t hb hF
        refine wp_reg_seq tok (orc := orcL []) (fz := []) (l := [4]) (c := _) (fun i h => h) h (by kernel_rfl) (AllP.nil) ?_
        intro a w h
        cases hF
        exact wp_ret (ret_okR tok h rfl (by kernel_rfl)).1
      · replace hF := of_f hb hF
        refine wp_skip ?_
        refine wp_reg tok (orc := orcL []) (fz := []) (l := [0, 1, 5]) (c := _) (fun i h => h) h (by kernel_rfl) (AllP.nil) ?_
        intro a w h
        exact ⟨(r52, (IntKind.i64.wrap (v48 + (1 : Int)))), hF, h.arrive (fz := []) (l := [0, 1, 5]) (fun i h => h) (by kernel_rfl)⟩
    · replace hF := of_f hb hF
      refine wp_exit ?_
      refine wp_reg_seq tok (orc := orcL []) (fz := []) (l := [4]) (c := _) (fun i h => h) h (by kernel_rfl) (AllP.nil) ?_
      intro a w h
      cases hF
      exact wp_ret (ret_okR tok h rfl (by kernel_rfl)).1

def f82 (k : Nat) (x0 : (ByteArray × ByteArray)) : Option (ByteArray × ByteArray) := some (x0.1, x0.2)
set_option maxRecDepth 100000 in
/-- 'laws.toTag'. -/
theorem c82 (k : Nat) (x0 : (ByteArray × ByteArray)) (r : (ByteArray × ByteArray)) (hF : f82 k x0 = some r) : PCall Try.prog 82 [⟨(.st (.pair .str .str)), x0⟩] [⟨(.st (.pair .str .str)), r⟩] := by
  refine pcall_intro Try.func82 rfl rfl (Nat.le_of_ble_eq_true rfl) ?_
  intro w0 Zi a w h
  rw [f82] at hF
  refine wp_reg_seq tok (orc := orcL []) (fz := []) (l := [1, 2]) (c := _) (fun i h => h) h (by kernel_rfl) (AllP.nil) ?_
  intro a w h
  refine wp_reg_seq tok (orc := orcL []) (fz := []) (l := [1, 2, 3]) (c := _) (fun i h => h) h (by kernel_rfl) (AllP.nil) ?_
  intro a w h
  refine wp_reg_seq tok (orc := orcL []) (fz := []) (l := [1, 2, 3]) (c := _) (fun i h => h) h (by kernel_rfl) (AllP.nil) ?_
  intro a w h
  refine wp_reg_seq tok (orc := orcL []) (fz := []) (l := [2, 3]) (c := _) (fun i h => h) h (by kernel_rfl) (AllP.nil) ?_
  intro a w h
  refine wp_reg_seq tok (orc := orcL []) (fz := []) (l := [2]) (c := _) (fun i h => h) h (by kernel_rfl) (AllP.nil) ?_
  intro a w h
  cases hF
  exact wp_ret (ret_okR tok h rfl (by kernel_rfl)).1

def f20.l34 (k : Nat) (x0 : (List (ByteArray × ByteArray))) : Nat → ((List (ByteArray × ByteArray)) × Int) → Option (List (ByteArray × ByteArray))
  | 0, _ => none
  | m34 + 1, (v57, v58) => if (decide ((v58 : Int) < (List.length x0 : Int))) then (if (0 ≤ v58 ∧ v58 < (List.length x0 : Int)) then ((f82 k (List.getD x0 (Int.toNat v58) ((⟨#[]⟩ : ByteArray), (⟨#[]⟩ : ByteArray)))).bind fun r63 => (if (0 ≤ v58 ∧ v58 < (List.length v57 : Int)) then ((f20.l34 k x0) m34 ((List.set v57 (Int.toNat v58) r63), (IntKind.i64.wrap (v58 + (1 : Int))))) else none)) else none) else (some v57)
def f20 (k : Nat) (x0 : (List (ByteArray × ByteArray))) : Option (List (ByteArray × ByteArray)) := if (0 ≤ (List.length x0 : Int) ∧ Int.toNat (List.length x0 : Int) * 32 ≤ 140737488355328) then (f20.l34 k x0 k ((List.replicate (Int.toNat (List.length x0 : Int)) ((⟨#[]⟩ : ByteArray), (⟨#[]⟩ : ByteArray))), (0 : Int))) else none
set_option maxRecDepth 100000 in
/-- 'laws.toTagS'. -/
theorem c20 (k : Nat) (x0 : (List (ByteArray × ByteArray))) (r : (List (ByteArray × ByteArray))) (hF : f20 k x0 = some r) : PCall Try.prog 20 [⟨sh0, x0⟩] [⟨sh1, r⟩] := by
  refine pcall_intro Try.func20 rfl rfl (Nat.le_of_ble_eq_true rfl) ?_
  intro w0 Zi a w h
  rw [f20] at hF
  refine wp_reg_seq tok (orc := orcL []) (fz := []) (l := [0]) (c := _) (fun i h => h) h (by kernel_rfl) (AllP.nil) ?_
  intro a w h
  obtain ⟨hc67, hF⟩ := of_if hF
  refine wp_reg_seq tok (orc := orcL []) (fz := []) (l := [0, 3]) (c := _) (fun i h => h) h (by kernel_rfl) (AllP.cons hc67 AllP.nil) ?_
  intro a w h
  refine wp_seq ?_
  refine wp_reg_seq tok (orc := orcL []) (fz := []) (l := [0, 3, 4]) (c := _) (fun i h => h) h (by kernel_rfl) (AllP.nil) ?_
  intro a w h
  refine wp_block ?_
  refine wp_loop_fuel (f20.l34 k x0) (fun ((v57, v58) : ((List (ByteArray × ByteArray)) × Int)) => [(0, .val sh0 x0), (3, .val sh1 v57), (4, .val (.int .i64) v58)]) (fun v h => by obtain ⟨v57, v58⟩ := v; rw [f20.l34] at h; cases h) ?_ hF (h.arrive (fz := []) (l := [0, 3, 4]) (fun i h => h) (by kernel_rfl))
  intro m34 v a w hF h
  obtain ⟨v57, v58⟩ := v
  rw [f20.l34] at hF
  refine wp_seq ?_
  refine wp_reg_seq tok (orc := orcL []) (fz := []) (l := [0, 3, 4, 11]) (c := _) (fun i h => h) h (by kernel_rfl) (AllP.nil) ?_
  intro a w h
  refine wp_if h (b := (decide ((v58 : Int) < (List.length x0 : Int)))) (by kernel_rfl) (fun hb => ?_) (fun hb => ?_)
  · replace hF := of_t hb hF
    refine wp_skip ?_
    refine wp_seq <| wp_block ?_
    obtain ⟨hc64, hF⟩ := of_if hF
    obtain ⟨r63, hr65, hF⟩ := of_bind hF
    obtain ⟨hc66, hF⟩ := of_if hF
    refine wp_reg tok (orc := orcL [(20, [⟨(.st (.pair .str .str)), r63⟩])]) (fz := []) (l := [0, 3, 4]) (c := _) (fun i h => h) h (by kernel_rfl) (AllP.cons hc64 (AllP.cons (c82 k (List.getD x0 (Int.toNat v58) ((⟨#[]⟩ : ByteArray), (⟨#[]⟩ : ByteArray))) r63 hr65) (AllP.cons hc66 AllP.nil))) ?_
    intro a w h
    refine wp_reg tok (orc := orcL []) (fz := []) (l := [0, 3, 4]) (c := _) (fun i h => h) h (by kernel_rfl) (AllP.nil) ?_
    intro a w h
    exact ⟨((List.set v57 (Int.toNat v58) r63), (IntKind.i64.wrap (v58 + (1 : Int)))), hF, h.arrive (fz := []) (l := [0, 3, 4]) (fun i h => h) (by kernel_rfl)⟩
  · replace hF := of_f hb hF
    refine wp_exit ?_
    refine wp_reg_seq tok (orc := orcL []) (fz := []) (l := [2, 3]) (c := _) (fun i h => h) h (by kernel_rfl) (AllP.nil) ?_
    intro a w h
    cases hF
    exact wp_ret (ret_okR tok h rfl (by kernel_rfl)).1

def f81.l18 (k : Nat) (x0 : (List (ByteArray × ByteArray))) (x1 : ByteArray) : Nat → Int → Option ByteArray
  | 0, _ => none
  | m18 + 1, v30 => if (decide ((v30 : Int) < (List.length x0 : Int))) then (if (0 ≤ v30 ∧ v30 < (List.length x0 : Int)) then (if (ByteArray.toList (List.getD x0 (Int.toNat v30) ((⟨#[]⟩ : ByteArray), (⟨#[]⟩ : ByteArray))).1 == ByteArray.toList x1) then (if (0 ≤ v30 ∧ v30 < (List.length x0 : Int)) then (some (List.getD x0 (Int.toNat v30) ((⟨#[]⟩ : ByteArray), (⟨#[]⟩ : ByteArray))).2) else none) else ((f81.l18 k x0 x1) m18 (IntKind.i64.wrap (v30 + (1 : Int))))) else none) else (some (⟨#[]⟩ : ByteArray))
def f81 (k : Nat) (x0 : (List (ByteArray × ByteArray))) (x1 : ByteArray) : Option ByteArray := f81.l18 k x0 x1 k (0 : Int)
set_option maxRecDepth 100000 in
/-- 'spec.TagOf'. -/
theorem c81 (k : Nat) (x0 : (List (ByteArray × ByteArray))) (x1 : ByteArray) (r : ByteArray) (hF : f81 k x0 x1 = some r) : PCall Try.prog 81 [⟨sh2, x0⟩, ⟨.str, x1⟩] [⟨.str, r⟩] := by
  refine pcall_intro Try.func81 rfl rfl (Nat.le_of_ble_eq_true rfl) ?_
  intro w0 Zi a w h
  rw [f81] at hF
  refine wp_reg_seq tok (orc := orcL []) (fz := []) (l := [0, 1]) (c := _) (fun i h => h) h (by kernel_rfl) (AllP.nil) ?_
  intro a w h
  refine wp_seq ?_
  refine wp_reg_seq tok (orc := orcL []) (fz := []) (l := [0, 1, 5]) (c := _) (fun i h => h) h (by kernel_rfl) (AllP.nil) ?_
  intro a w h
  refine wp_block ?_
  refine wp_loop_fuel (f81.l18 k x0 x1) (fun (v30 : Int) => [(0, .val sh2 x0), (1, .val .str x1), (5, .val (.int .i64) v30)]) (fun v h => by rw [f81.l18] at h; cases h) ?_ hF (h.arrive (fz := []) (l := [0, 1, 5]) (fun i h => h) (by kernel_rfl))
  intro m18 v30 a w hF h
  rw [f81.l18] at hF
  refine wp_seq ?_
  refine wp_reg_seq tok (orc := orcL []) (fz := []) (l := [0, 1, 5, 9]) (c := _) (fun i h => h) h (by kernel_rfl) (AllP.nil) ?_
  intro a w h
  refine wp_if h (b := (decide ((v30 : Int) < (List.length x0 : Int)))) (by kernel_rfl) (fun hb => ?_) (fun hb => ?_)
  · replace hF := of_t hb hF
    refine wp_skip ?_
    refine wp_seq <| wp_block ?_
    obtain ⟨hc34, hF⟩ := of_if hF
    refine wp_reg_seq tok (orc := orcL []) (fz := []) (l := [0, 1, 5, 18]) (c := _) (fun i h => h) h (by kernel_rfl) (AllP.cons hc34 AllP.nil) ?_
    intro a w h
    refine wp_if h (b := (ByteArray.toList (List.getD x0 (Int.toNat v30) ((⟨#[]⟩ : ByteArray), (⟨#[]⟩ : ByteArray))).1 == ByteArray.toList x1)) (by kernel_rfl) (fun hb => ?_) (fun hb => ?_)
    · replace hF := of_t hb hF
      obtain ⟨hc33, hF⟩ := of_if hF
      refine wp_reg_seq tok (orc := orcL []) (fz := []) (l := [4]) (c := _) (fun i h => h) h (by kernel_rfl) (AllP.cons hc33 AllP.nil) ?_
      intro a w h
      cases hF
      exact wp_ret (ret_okR tok h rfl (by kernel_rfl)).1
    · replace hF := of_f hb hF
      refine wp_skip ?_
      refine wp_reg tok (orc := orcL []) (fz := []) (l := [0, 1, 5]) (c := _) (fun i h => h) h (by kernel_rfl) (AllP.nil) ?_
      intro a w h
      exact ⟨(IntKind.i64.wrap (v30 + (1 : Int))), hF, h.arrive (fz := []) (l := [0, 1, 5]) (fun i h => h) (by kernel_rfl)⟩
  · replace hF := of_f hb hF
    refine wp_exit ?_
    refine wp_reg_seq tok (orc := orcL []) (fz := []) (l := [4]) (c := _) (fun i h => h) h (by kernel_rfl) (AllP.nil) ?_
    intro a w h
    cases hF
    exact wp_ret (ret_okR tok h rfl (by kernel_rfl)).1

def f19 (k : Nat) (x0 : (List (ByteArray × ByteArray))) (x1 : Int) : Option Int := (f81 k x0 (⟨#[111, 110, 101, 119, 97, 121]⟩ : ByteArray)).bind fun r1 => (if ((x1 : Int) != (1 : Int)) then (some (0 : Int)) else ((if (((ByteArray.toList r1 == ByteArray.toList (⟨#[121, 101, 115]⟩ : ByteArray)) = false) ∧ ((ByteArray.toList r1 == ByteArray.toList (⟨#[]⟩ : ByteArray)) = true)) then f81 k x0 (⟨#[106, 117, 110, 99, 116, 105, 111, 110]⟩ : ByteArray) else some default).bind fun r2 => (if (bif (ByteArray.toList r1 == ByteArray.toList (⟨#[121, 101, 115]⟩ : ByteArray)) then true else (bif (ByteArray.toList r1 == ByteArray.toList (⟨#[]⟩ : ByteArray)) then (ByteArray.toList r2 == ByteArray.toList (⟨#[114, 105, 110, 103]⟩ : ByteArray)) else false)) then (some (1 : Int)) else (if (ByteArray.toList r1 == ByteArray.toList (⟨#[45, 49]⟩ : ByteArray)) then (some (-1 : Int)) else (some (0 : Int))))))
set_option maxRecDepth 100000 in
/-- 'spec.Oneway'. -/
theorem c19 (k : Nat) (x0 : (List (ByteArray × ByteArray))) (x1 : Int) (r : Int) (hF : f19 k x0 x1 = some r) : PCall Try.prog 19 [⟨sh2, x0⟩, ⟨(.int .i64), x1⟩] [⟨(.int .i64), r⟩] := by
  refine pcall_intro Try.func19 rfl rfl (Nat.le_of_ble_eq_true rfl) ?_
  intro w0 Zi a w h
  rw [f19] at hF
  refine wp_reg_seq tok (orc := orcL []) (fz := []) (l := [0, 1]) (c := _) (fun i h => h) h (by kernel_rfl) (AllP.nil) ?_
  intro a w h
  obtain ⟨r1, hr4, hF⟩ := of_bind hF
  refine wp_reg_seq tok (orc := orcL [(7, [⟨.str, r1⟩])]) (fz := []) (l := [0, 1, 5]) (c := _) (fun i h => h) h (by kernel_rfl) (AllP.cons (c81 k x0 (⟨#[111, 110, 101, 119, 97, 121]⟩ : ByteArray) r1 hr4) AllP.nil) ?_
  intro a w h
  refine wp_seq ?_
  refine wp_reg_seq tok (orc := orcL []) (fz := []) (l := [0, 5, 9]) (c := _) (fun i h => h) h (by kernel_rfl) (AllP.nil) ?_
  intro a w h
  refine wp_if h (b := ((x1 : Int) != (1 : Int))) (by kernel_rfl) (fun hb => ?_) (fun hb => ?_)
  · replace hF := of_t hb hF
    refine wp_reg_seq tok (orc := orcL []) (fz := []) (l := [4]) (c := _) (fun i h => h) h (by kernel_rfl) (AllP.nil) ?_
    intro a w h
    cases hF
    exact wp_ret (ret_okR tok h rfl (by kernel_rfl)).1
  · replace hF := of_f hb hF
    refine wp_skip ?_
    refine wp_seq ?_
    obtain ⟨r2, hr3, hF⟩ := of_bind hF
    refine wp_reg_seq tok (orc := orcL [(17, [⟨.str, r2⟩])]) (fz := []) (l := [5, 20]) (c := _) (fun i h => h) h (by kernel_rfl) (AllP.cons (fun (hg : (((ByteArray.toList r1 == ByteArray.toList (⟨#[121, 101, 115]⟩ : ByteArray)) = false) ∧ ((ByteArray.toList r1 == ByteArray.toList (⟨#[]⟩ : ByteArray)) = true))) => c81 k x0 (⟨#[106, 117, 110, 99, 116, 105, 111, 110]⟩ : ByteArray) r2 (of_g hg hr3)) AllP.nil) ?_
    intro a w h
    refine wp_if h (b := (bif (ByteArray.toList r1 == ByteArray.toList (⟨#[121, 101, 115]⟩ : ByteArray)) then true else (bif (ByteArray.toList r1 == ByteArray.toList (⟨#[]⟩ : ByteArray)) then (ByteArray.toList r2 == ByteArray.toList (⟨#[114, 105, 110, 103]⟩ : ByteArray)) else false))) (by kernel_rfl) (fun hb => ?_) (fun hb => ?_)
    · replace hF := of_t hb hF
      refine wp_reg_seq tok (orc := orcL []) (fz := []) (l := [4]) (c := _) (fun i h => h) h (by kernel_rfl) (AllP.nil) ?_
      intro a w h
      cases hF
      exact wp_ret (ret_okR tok h rfl (by kernel_rfl)).1
    · replace hF := of_f hb hF
      refine wp_skip ?_
      refine wp_seq ?_
      refine wp_reg_seq tok (orc := orcL []) (fz := []) (l := [22]) (c := _) (fun i h => h) h (by kernel_rfl) (AllP.nil) ?_
      intro a w h
      refine wp_if h (b := (ByteArray.toList r1 == ByteArray.toList (⟨#[45, 49]⟩ : ByteArray))) (by kernel_rfl) (fun hb => ?_) (fun hb => ?_)
      · replace hF := of_t hb hF
        refine wp_reg_seq tok (orc := orcL []) (fz := []) (l := [4]) (c := _) (fun i h => h) h (by kernel_rfl) (AllP.nil) ?_
        intro a w h
        cases hF
        exact wp_ret (ret_okR tok h rfl (by kernel_rfl)).1
      · replace hF := of_f hb hF
        refine wp_skip ?_
        refine wp_reg_seq tok (orc := orcL []) (fz := []) (l := [4]) (c := _) (fun i h => h) h (by kernel_rfl) (AllP.nil) ?_
        intro a w h
        cases hF
        exact wp_ret (ret_okR tok h rfl (by kernel_rfl)).1

def f109.l12 (k : Nat) (x0 : (List (ByteArray × ByteArray))) (x1 : ByteArray) : Nat → Int → Option Int
  | 0, _ => none
  | m12 + 1, v20 => if (decide ((v20 : Int) < (List.length x0 : Int))) then (if (0 ≤ v20 ∧ v20 < (List.length x0 : Int)) then (if (ByteArray.toList (List.getD x0 (Int.toNat v20) ((⟨#[]⟩ : ByteArray), (⟨#[]⟩ : ByteArray))).1 == ByteArray.toList x1) then (some v20) else ((f109.l12 k x0 x1) m12 (IntKind.i64.wrap (v20 + (1 : Int))))) else none) else (some (-1 : Int))
def f109 (k : Nat) (x0 : (List (ByteArray × ByteArray))) (x1 : ByteArray) : Option Int := f109.l12 k x0 x1 k (0 : Int)
set_option maxRecDepth 100000 in
/-- 'impl.tagAt'. -/
theorem c109 (k : Nat) (x0 : (List (ByteArray × ByteArray))) (x1 : ByteArray) (r : Int) (hF : f109 k x0 x1 = some r) : PCall Try.prog 109 [⟨sh2, x0⟩, ⟨.str, x1⟩] [⟨(.int .i64), r⟩] := by
  refine pcall_intro Try.func109 rfl rfl (Nat.le_of_ble_eq_true rfl) ?_
  intro w0 Zi a w h
  rw [f109] at hF
  refine wp_reg_seq tok (orc := orcL []) (fz := []) (l := [0, 1]) (c := _) (fun i h => h) h (by kernel_rfl) (AllP.nil) ?_
  intro a w h
  refine wp_seq ?_
  refine wp_reg_seq tok (orc := orcL []) (fz := []) (l := [1, 7, 8, 9]) (c := _) (fun i h => h) h (by kernel_rfl) (AllP.nil) ?_
  intro a w h
  refine wp_block ?_
  refine wp_loop_fuel (f109.l12 k x0 x1) (fun (v20 : Int) => [(1, .val .str x1), (7, .val sh2 x0), (8, .val (.int .i64) (List.length x0 : Int)), (9, .val (.int .i64) v20)]) (fun v h => by rw [f109.l12] at h; cases h) ?_ hF (h.arrive (fz := []) (l := [1, 7, 8, 9]) (fun i h => h) (by kernel_rfl))
  intro m12 v20 a w hF h
  rw [f109.l12] at hF
  refine wp_reg_seq tok (orc := orcL []) (fz := []) (l := [1, 7, 8, 9, 10]) (c := _) (fun i h => h) h (by kernel_rfl) (AllP.nil) ?_
  intro a w h
  refine wp_seq <| wp_if h (b := (decide ((v20 : Int) < (List.length x0 : Int)))) (by kernel_rfl) (fun hb => ?_) (fun hb => ?_)
  · replace hF := of_t hb hF
    refine wp_skip ?_
    refine wp_seq <| wp_block ?_
    obtain ⟨hc22, hF⟩ := of_if hF
    refine wp_reg_seq tok (orc := orcL []) (fz := []) (l := [1, 5, 6, 7, 8, 9]) (c := _) (fun i h => h) h (by kernel_rfl) (AllP.cons hc22 AllP.nil) ?_
    intro a w h
    refine wp_reg_seq tok (orc := orcL []) (fz := []) (l := [1, 5, 7, 8, 9, 17]) (c := _) (fun i h => h) h (by kernel_rfl) (AllP.nil) ?_
    intro a w h
    refine wp_if h (b := (ByteArray.toList (List.getD x0 (Int.toNat v20) ((⟨#[]⟩ : ByteArray), (⟨#[]⟩ : ByteArray))).1 == ByteArray.toList x1)) (by kernel_rfl) (fun hb => ?_) (fun hb => ?_)
    · replace hF := of_t hb hF
      refine wp_reg_seq tok (orc := orcL []) (fz := []) (l := [4]) (c := _) (fun i h => h) h (by kernel_rfl) (AllP.nil) ?_
      intro a w h
      cases hF
      exact wp_ret (ret_okR tok h rfl (by kernel_rfl)).1
    · replace hF := of_f hb hF
      refine wp_skip ?_
      refine wp_reg tok (orc := orcL []) (fz := []) (l := [1, 7, 8, 9]) (c := _) (fun i h => h) h (by kernel_rfl) (AllP.nil) ?_
      intro a w h
      exact ⟨(IntKind.i64.wrap (v20 + (1 : Int))), hF, h.arrive (fz := []) (l := [1, 7, 8, 9]) (fun i h => h) (by kernel_rfl)⟩
  · replace hF := of_f hb hF
    refine wp_exit ?_
    refine wp_reg_seq tok (orc := orcL []) (fz := []) (l := [4]) (c := _) (fun i h => h) h (by kernel_rfl) (AllP.nil) ?_
    intro a w h
    cases hF
    exact wp_ret (ret_okR tok h rfl (by kernel_rfl)).1

def f83 (k : Nat) (x0 : (List (ByteArray × ByteArray))) (x1 : ByteArray) : Option ByteArray := (f109 k x0 x1).bind fun r1 => (if (decide ((r1 : Int) ≥ (0 : Int))) then (if (0 ≤ r1 ∧ r1 < (List.length x0 : Int)) then (some (List.getD x0 (Int.toNat r1) ((⟨#[]⟩ : ByteArray), (⟨#[]⟩ : ByteArray))).2) else none) else (some (⟨#[]⟩ : ByteArray)))
set_option maxRecDepth 100000 in
/-- 'impl.TagOf'. -/
theorem c83 (k : Nat) (x0 : (List (ByteArray × ByteArray))) (x1 : ByteArray) (r : ByteArray) (hF : f83 k x0 x1 = some r) : PCall Try.prog 83 [⟨sh2, x0⟩, ⟨.str, x1⟩] [⟨.str, r⟩] := by
  refine pcall_intro Try.func83 rfl rfl (Nat.le_of_ble_eq_true rfl) ?_
  intro w0 Zi a w h
  rw [f83] at hF
  refine wp_reg_seq tok (orc := orcL []) (fz := []) (l := [0, 1]) (c := _) (fun i h => h) h (by kernel_rfl) (AllP.nil) ?_
  intro a w h
  refine wp_seq ?_
  obtain ⟨r1, hr4, hF⟩ := of_bind hF
  refine wp_reg_seq tok (orc := orcL [(8, [⟨(.int .i64), r1⟩])]) (fz := []) (l := [0, 5]) (c := _) (fun i h => h) h (by kernel_rfl) (AllP.cons (c109 k x0 x1 r1 hr4) AllP.nil) ?_
  intro a w h
  refine wp_reg_seq tok (orc := orcL []) (fz := []) (l := [0, 5, 10]) (c := _) (fun i h => h) h (by kernel_rfl) (AllP.nil) ?_
  intro a w h
  refine wp_if h (b := (decide ((r1 : Int) ≥ (0 : Int)))) (by kernel_rfl) (fun hb => ?_) (fun hb => ?_)
  · replace hF := of_t hb hF
    obtain ⟨hc3, hF⟩ := of_if hF
    refine wp_reg_seq tok (orc := orcL []) (fz := []) (l := [4]) (c := _) (fun i h => h) h (by kernel_rfl) (AllP.cons hc3 AllP.nil) ?_
    intro a w h
    cases hF
    exact wp_ret (ret_okR tok h rfl (by kernel_rfl)).1
  · replace hF := of_f hb hF
    refine wp_skip ?_
    refine wp_reg_seq tok (orc := orcL []) (fz := []) (l := [4]) (c := _) (fun i h => h) h (by kernel_rfl) (AllP.nil) ?_
    intro a w h
    cases hF
    exact wp_ret (ret_okR tok h rfl (by kernel_rfl)).1

def f21 (k : Nat) (x0 : (List (ByteArray × ByteArray))) (x1 : Int) : Option Int := if ((x1 : Int) != (1 : Int)) then (some (0 : Int)) else ((f83 k x0 (⟨#[111, 110, 101, 119, 97, 121]⟩ : ByteArray)).bind fun r1 => (if (ByteArray.toList r1 == ByteArray.toList (⟨#[]⟩ : ByteArray)) then ((f83 k x0 (⟨#[106, 117, 110, 99, 116, 105, 111, 110]⟩ : ByteArray)).bind fun r4 => (if (ByteArray.toList r4 == ByteArray.toList (⟨#[114, 105, 110, 103]⟩ : ByteArray)) then (some (1 : Int)) else (some (0 : Int)))) else ((f83 k x0 (⟨#[111, 110, 101, 119, 97, 121]⟩ : ByteArray)).bind fun r6 => (if (ByteArray.toList r6 == ByteArray.toList (⟨#[121, 101, 115]⟩ : ByteArray)) then (some (1 : Int)) else (if (ByteArray.toList r6 == ByteArray.toList (⟨#[45, 49]⟩ : ByteArray)) then (some (-1 : Int)) else (some (0 : Int)))))))
set_option maxRecDepth 100000 in
/-- 'impl.Oneway'. -/
theorem c21 (k : Nat) (x0 : (List (ByteArray × ByteArray))) (x1 : Int) (r : Int) (hF : f21 k x0 x1 = some r) : PCall Try.prog 21 [⟨sh2, x0⟩, ⟨(.int .i64), x1⟩] [⟨(.int .i64), r⟩] := by
  refine pcall_intro Try.func21 rfl rfl (Nat.le_of_ble_eq_true rfl) ?_
  intro w0 Zi a w h
  rw [f21] at hF
  refine wp_reg_seq tok (orc := orcL []) (fz := []) (l := [0, 1]) (c := _) (fun i h => h) h (by kernel_rfl) (AllP.nil) ?_
  intro a w h
  refine wp_seq ?_
  refine wp_reg_seq tok (orc := orcL []) (fz := []) (l := [0, 6]) (c := _) (fun i h => h) h (by kernel_rfl) (AllP.nil) ?_
  intro a w h
  refine wp_if h (b := ((x1 : Int) != (1 : Int))) (by kernel_rfl) (fun hb => ?_) (fun hb => ?_)
  · replace hF := of_t hb hF
    refine wp_reg_seq tok (orc := orcL []) (fz := []) (l := [4]) (c := _) (fun i h => h) h (by kernel_rfl) (AllP.nil) ?_
    intro a w h
    cases hF
    exact wp_ret (ret_okR tok h rfl (by kernel_rfl)).1
  · replace hF := of_f hb hF
    refine wp_skip ?_
    refine wp_seq ?_
    obtain ⟨r1, hr8, hF⟩ := of_bind hF
    refine wp_reg_seq tok (orc := orcL [(8, [⟨.str, r1⟩])]) (fz := []) (l := [0, 9]) (c := _) (fun i h => h) h (by kernel_rfl) (AllP.cons (c83 k x0 (⟨#[111, 110, 101, 119, 97, 121]⟩ : ByteArray) r1 hr8) AllP.nil) ?_
    intro a w h
    refine wp_if h (b := (ByteArray.toList r1 == ByteArray.toList (⟨#[]⟩ : ByteArray))) (by kernel_rfl) (fun hb => ?_) (fun hb => ?_)
    · replace hF := of_t hb hF
      refine wp_seq ?_
      obtain ⟨r4, hr5, hF⟩ := of_bind hF
      refine wp_reg_seq tok (orc := orcL [(11, [⟨.str, r4⟩])]) (fz := []) (l := [12]) (c := _) (fun i h => h) h (by kernel_rfl) (AllP.cons (c83 k x0 (⟨#[106, 117, 110, 99, 116, 105, 111, 110]⟩ : ByteArray) r4 hr5) AllP.nil) ?_
      intro a w h
      refine wp_if h (b := (ByteArray.toList r4 == ByteArray.toList (⟨#[114, 105, 110, 103]⟩ : ByteArray))) (by kernel_rfl) (fun hb => ?_) (fun hb => ?_)
      · replace hF := of_t hb hF
        refine wp_reg_seq tok (orc := orcL []) (fz := []) (l := [4]) (c := _) (fun i h => h) h (by kernel_rfl) (AllP.nil) ?_
        intro a w h
        cases hF
        exact wp_ret (ret_okR tok h rfl (by kernel_rfl)).1
      · replace hF := of_f hb hF
        refine wp_skip ?_
        refine wp_reg_seq tok (orc := orcL []) (fz := []) (l := [4]) (c := _) (fun i h => h) h (by kernel_rfl) (AllP.nil) ?_
        intro a w h
        cases hF
        exact wp_ret (ret_okR tok h rfl (by kernel_rfl)).1
    · replace hF := of_f hb hF
      refine wp_skip ?_
      refine wp_seq ?_
      obtain ⟨r6, hr7, hF⟩ := of_bind hF
      refine wp_reg_seq tok (orc := orcL [(14, [⟨.str, r6⟩])]) (fz := []) (l := [14]) (c := _) (fun i h => h) h (by kernel_rfl) (AllP.cons (c83 k x0 (⟨#[111, 110, 101, 119, 97, 121]⟩ : ByteArray) r6 hr7) AllP.nil) ?_
      intro a w h
      refine wp_block ?_
      refine wp_reg_seq tok (orc := orcL []) (fz := []) (l := [14, 15]) (c := _) (fun i h => h) h (by kernel_rfl) (AllP.nil) ?_
      intro a w h
      refine wp_if h (b := (ByteArray.toList r6 == ByteArray.toList (⟨#[121, 101, 115]⟩ : ByteArray))) (by kernel_rfl) (fun hb => ?_) (fun hb => ?_)
      · replace hF := of_t hb hF
        refine wp_reg_seq tok (orc := orcL []) (fz := []) (l := [4]) (c := _) (fun i h => h) h (by kernel_rfl) (AllP.nil) ?_
        intro a w h
        cases hF
        exact wp_ret (ret_okR tok h rfl (by kernel_rfl)).1
      · replace hF := of_f hb hF
        refine wp_reg_seq tok (orc := orcL []) (fz := []) (l := [17]) (c := _) (fun i h => h) h (by kernel_rfl) (AllP.nil) ?_
        intro a w h
        refine wp_if h (b := (ByteArray.toList r6 == ByteArray.toList (⟨#[45, 49]⟩ : ByteArray))) (by kernel_rfl) (fun hb => ?_) (fun hb => ?_)
        · replace hF := of_t hb hF
          refine wp_reg_seq tok (orc := orcL []) (fz := []) (l := [4]) (c := _) (fun i h => h) h (by kernel_rfl) (AllP.nil) ?_
          intro a w h
          cases hF
          exact wp_ret (ret_okR tok h rfl (by kernel_rfl)).1
        · replace hF := of_f hb hF
          refine wp_skip ?_
          refine wp_reg_seq tok (orc := orcL []) (fz := []) (l := [4]) (c := _) (fun i h => h) h (by kernel_rfl) (AllP.nil) ?_
          intro a w h
          cases hF
          exact wp_ret (ret_okR tok h rfl (by kernel_rfl)).1

def f84 (k : Nat) (x0 : (ByteArray × ByteArray)) (x1 : (ByteArray × ByteArray)) : Option Bool := if (!(ByteArray.toList x0.1 == ByteArray.toList x1.1)) then (some false) else (if (!(ByteArray.toList x0.2 == ByteArray.toList x1.2)) then (some false) else (some true))
set_option maxRecDepth 100000 in
/-- 'laws.eqTag'. -/
theorem c84 (k : Nat) (x0 : (ByteArray × ByteArray)) (x1 : (ByteArray × ByteArray)) (r : Bool) (hF : f84 k x0 x1 = some r) : PCall Try.prog 84 [⟨(.st (.pair .str .str)), x0⟩, ⟨(.st (.pair .str .str)), x1⟩] [⟨.bool, r⟩] := by
  refine pcall_intro Try.func84 rfl rfl (Nat.le_of_ble_eq_true rfl) ?_
  intro w0 Zi a w h
  rw [f84] at hF
  refine wp_reg_seq tok (orc := orcL []) (fz := []) (l := [2, 3]) (c := _) (fun i h => h) h (by kernel_rfl) (AllP.nil) ?_
  intro a w h
  refine wp_seq ?_
  refine wp_reg_seq tok (orc := orcL []) (fz := []) (l := [2, 3, 9]) (c := _) (fun i h => h) h (by kernel_rfl) (AllP.nil) ?_
  intro a w h
  refine wp_if h (b := (!(ByteArray.toList x0.1 == ByteArray.toList x1.1))) (by kernel_rfl) (fun hb => ?_) (fun hb => ?_)
  · replace hF := of_t hb hF
    refine wp_reg_seq tok (orc := orcL []) (fz := []) (l := [4]) (c := _) (fun i h => h) h (by kernel_rfl) (AllP.nil) ?_
    intro a w h
    cases hF
    exact wp_ret (ret_okR tok h rfl (by kernel_rfl)).1
  · replace hF := of_f hb hF
    refine wp_skip ?_
    refine wp_seq ?_
    refine wp_reg_seq tok (orc := orcL []) (fz := []) (l := [14]) (c := _) (fun i h => h) h (by kernel_rfl) (AllP.nil) ?_
    intro a w h
    refine wp_if h (b := (!(ByteArray.toList x0.2 == ByteArray.toList x1.2))) (by kernel_rfl) (fun hb => ?_) (fun hb => ?_)
    · replace hF := of_t hb hF
      refine wp_reg_seq tok (orc := orcL []) (fz := []) (l := [4]) (c := _) (fun i h => h) h (by kernel_rfl) (AllP.nil) ?_
      intro a w h
      cases hF
      exact wp_ret (ret_okR tok h rfl (by kernel_rfl)).1
    · replace hF := of_f hb hF
      refine wp_skip ?_
      refine wp_reg_seq tok (orc := orcL []) (fz := []) (l := [4]) (c := _) (fun i h => h) h (by kernel_rfl) (AllP.nil) ?_
      intro a w h
      cases hF
      exact wp_ret (ret_okR tok h rfl (by kernel_rfl)).1

def f22.l30 (k : Nat) (x0 : (List (ByteArray × ByteArray))) (x1 : (List (ByteArray × ByteArray))) : Nat → Int → Option Bool
  | 0, _ => none
  | m30 + 1, v50 => if (decide ((v50 : Int) < (List.length x0 : Int))) then (if (0 ≤ v50 ∧ v50 < (List.length x0 : Int)) then (if (0 ≤ v50 ∧ v50 < (List.length x1 : Int)) then ((f84 k (List.getD x0 (Int.toNat v50) ((⟨#[]⟩ : ByteArray), (⟨#[]⟩ : ByteArray))) (List.getD x1 (Int.toNat v50) ((⟨#[]⟩ : ByteArray), (⟨#[]⟩ : ByteArray)))).bind fun r55 => (if (!r55) then (some false) else ((f22.l30 k x0 x1) m30 (IntKind.i64.wrap (v50 + (1 : Int)))))) else none) else none) else (some true)
def f22 (k : Nat) (x0 : (List (ByteArray × ByteArray))) (x1 : (List (ByteArray × ByteArray))) : Option Bool := if (((List.length x0 : Int) : Int) != (List.length x1 : Int)) then (some false) else (f22.l30 k x0 x1 k (0 : Int))
set_option maxRecDepth 100000 in
/-- 'laws.eqTagS'. -/
theorem c22 (k : Nat) (x0 : (List (ByteArray × ByteArray))) (x1 : (List (ByteArray × ByteArray))) (r : Bool) (hF : f22 k x0 x1 = some r) : PCall Try.prog 22 [⟨sh2, x0⟩, ⟨sh2, x1⟩] [⟨.bool, r⟩] := by
  refine pcall_intro Try.func22 rfl rfl (Nat.le_of_ble_eq_true rfl) ?_
  intro w0 Zi a w h
  rw [f22] at hF
  refine wp_reg_seq tok (orc := orcL []) (fz := []) (l := [0, 1]) (c := _) (fun i h => h) h (by kernel_rfl) (AllP.nil) ?_
  intro a w h
  refine wp_seq ?_
  refine wp_reg_seq tok (orc := orcL []) (fz := []) (l := [0, 1, 10]) (c := _) (fun i h => h) h (by kernel_rfl) (AllP.nil) ?_
  intro a w h
  refine wp_if h (b := (((List.length x0 : Int) : Int) != (List.length x1 : Int))) (by kernel_rfl) (fun hb => ?_) (fun hb => ?_)
  · replace hF := of_t hb hF
    refine wp_reg_seq tok (orc := orcL []) (fz := []) (l := [4]) (c := _) (fun i h => h) h (by kernel_rfl) (AllP.nil) ?_
    intro a w h
    cases hF
    exact wp_ret (ret_okR tok h rfl (by kernel_rfl)).1
  · replace hF := of_f hb hF
    refine wp_skip ?_
    refine wp_seq ?_
    refine wp_reg_seq tok (orc := orcL []) (fz := []) (l := [0, 1, 5]) (c := _) (fun i h => h) h (by kernel_rfl) (AllP.nil) ?_
    intro a w h
    refine wp_block ?_
    refine wp_loop_fuel (f22.l30 k x0 x1) (fun (v50 : Int) => [(0, .val sh2 x0), (1, .val sh2 x1), (5, .val (.int .i64) v50)]) (fun v h => by rw [f22.l30] at h; cases h) ?_ hF (h.arrive (fz := []) (l := [0, 1, 5]) (fun i h => h) (by kernel_rfl))
    intro m30 v50 a w hF h
    rw [f22.l30] at hF
    refine wp_seq ?_
    refine wp_reg_seq tok (orc := orcL []) (fz := []) (l := [0, 1, 5, 14]) (c := _) (fun i h => h) h (by kernel_rfl) (AllP.nil) ?_
    intro a w h
    refine wp_if h (b := (decide ((v50 : Int) < (List.length x0 : Int)))) (by kernel_rfl) (fun hb => ?_) (fun hb => ?_)
    · replace hF := of_t hb hF
      refine wp_skip ?_
      refine wp_seq <| wp_block ?_
      obtain ⟨hc56, hF⟩ := of_if hF
      obtain ⟨hc57, hF⟩ := of_if hF
      obtain ⟨r55, hr58, hF⟩ := of_bind hF
      refine wp_regx_seq tok (orc := orcL [(25, [⟨.bool, r55⟩])]) (fz := []) (l := [0, 1, 5, 26]) (c := _) (fun i h => h) h (by kernel_rfl) (by kernel_rfl) (AllP.cons hc56 (AllP.cons hc57 (AllP.cons (c84 k (List.getD x0 (Int.toNat v50) ((⟨#[]⟩ : ByteArray), (⟨#[]⟩ : ByteArray))) (List.getD x1 (Int.toNat v50) ((⟨#[]⟩ : ByteArray), (⟨#[]⟩ : ByteArray))) r55 hr58) AllP.nil))) ?_
      intro a w h
      refine wp_if h (b := (!r55)) (by kernel_rfl) (fun hb => ?_) (fun hb => ?_)
      · replace hF := of_t hb hF
        refine wp_reg_seq tok (orc := orcL []) (fz := []) (l := [4]) (c := _) (fun i h => h) h (by kernel_rfl) (AllP.nil) ?_
        intro a w h
        cases hF
        exact wp_ret (ret_okR tok h rfl (by kernel_rfl)).1
      · replace hF := of_f hb hF
        refine wp_skip ?_
        refine wp_reg tok (orc := orcL []) (fz := []) (l := [0, 1, 5]) (c := _) (fun i h => h) h (by kernel_rfl) (AllP.nil) ?_
        intro a w h
        exact ⟨(IntKind.i64.wrap (v50 + (1 : Int))), hF, h.arrive (fz := []) (l := [0, 1, 5]) (fun i h => h) (by kernel_rfl)⟩
    · replace hF := of_f hb hF
      refine wp_exit ?_
      refine wp_reg_seq tok (orc := orcL []) (fz := []) (l := [4]) (c := _) (fun i h => h) h (by kernel_rfl) (AllP.nil) ?_
      intro a w h
      cases hF
      exact wp_ret (ret_okR tok h rfl (by kernel_rfl)).1

def f4 (k : Nat) (x0 : (List (ByteArray × ByteArray))) (x1 : Int) : Option Bool := (f18 k x0 (1048576 : Int)).bind fun r1 => (if (decide ((r1 : Int) < (0 : Int))) then (some true) else ((f20 k x0).bind fun r2 => ((f19 k r2 x1).bind fun r3 => ((f20 k x0).bind fun r4 => ((f21 k r4 x1).bind fun r5 => (if ((r5 : Int) != r3) then (some false) else ((f20 k x0).bind fun r6 => ((f22 k r4 r6).bind fun r7 => (if (!r7) then (some false) else (some true))))))))))
set_option maxRecDepth 100000 in
/-- 'laws.FnExactOneway'. -/
theorem c4 (k : Nat) (x0 : (List (ByteArray × ByteArray))) (x1 : Int) (r : Bool) (hF : f4 k x0 x1 = some r) : PCall Try.prog 4 [⟨sh0, x0⟩, ⟨(.int .i64), x1⟩] [⟨.bool, r⟩] := by
  refine pcall_intro Try.func4 rfl rfl (Nat.le_of_ble_eq_true rfl) ?_
  intro w0 Zi a w h
  rw [f4] at hF
  refine wp_reg_seq tok (orc := orcL []) (fz := []) (l := [0, 1]) (c := _) (fun i h => h) h (by kernel_rfl) (AllP.nil) ?_
  intro a w h
  refine wp_reg_seq tok (orc := orcL []) (fz := []) (l := [0, 1, 5]) (c := _) (fun i h => h) h (by kernel_rfl) (AllP.nil) ?_
  intro a w h
  obtain ⟨r1, hr14, hF⟩ := of_bind hF
  refine wp_reg_seq tok (orc := orcL [(11, [⟨(.int .i64), r1⟩])]) (fz := []) (l := [0, 1, 5]) (c := _) (fun i h => h) h (by kernel_rfl) (AllP.cons (c18 k x0 (1048576 : Int) r1 hr14) AllP.nil) ?_
  intro a w h
  refine wp_seq ?_
  refine wp_reg_seq tok (orc := orcL []) (fz := []) (l := [0, 1, 13]) (c := _) (fun i h => h) h (by kernel_rfl) (AllP.nil) ?_
  intro a w h
  refine wp_if h (b := (decide ((r1 : Int) < (0 : Int)))) (by kernel_rfl) (fun hb => ?_) (fun hb => ?_)
  · replace hF := of_t hb hF
    refine wp_reg_seq tok (orc := orcL []) (fz := []) (l := [4]) (c := _) (fun i h => h) h (by kernel_rfl) (AllP.nil) ?_
    intro a w h
    cases hF
    exact wp_ret (ret_okR tok h rfl (by kernel_rfl)).1
  · replace hF := of_f hb hF
    refine wp_skip ?_
    obtain ⟨r2, hr12, hF⟩ := of_bind hF
    obtain ⟨r3, hr13, hF⟩ := of_bind hF
    refine wp_reg_seq tok (orc := orcL [(15, [⟨sh1, r2⟩]), (17, [⟨(.int .i64), r3⟩])]) (fz := []) (l := [0, 1, 6]) (c := _) (fun i h => h) h (by kernel_rfl) (AllP.cons (c20 k x0 r2 hr12) (AllP.cons (c19 k r2 x1 r3 hr13) AllP.nil)) ?_
    intro a w h
    obtain ⟨r4, hr11, hF⟩ := of_bind hF
    refine wp_reg_seq tok (orc := orcL [(19, [⟨sh1, r4⟩])]) (fz := []) (l := [0, 1, 6, 7]) (c := _) (fun i h => h) h (by kernel_rfl) (AllP.cons (c20 k x0 r4 hr11) AllP.nil) ?_
    intro a w h
    obtain ⟨r5, hr10, hF⟩ := of_bind hF
    refine wp_reg_seq tok (orc := orcL [(22, [⟨(.int .i64), r5⟩])]) (fz := []) (l := [0, 6, 7, 8]) (c := _) (fun i h => h) h (by kernel_rfl) (AllP.cons (c21 k r4 x1 r5 hr10) AllP.nil) ?_
    intro a w h
    refine wp_seq ?_
    refine wp_reg_seq tok (orc := orcL []) (fz := []) (l := [0, 7, 25]) (c := _) (fun i h => h) h (by kernel_rfl) (AllP.nil) ?_
    intro a w h
    refine wp_if h (b := ((r5 : Int) != r3)) (by kernel_rfl) (fun hb => ?_) (fun hb => ?_)
    · replace hF := of_t hb hF
      refine wp_reg_seq tok (orc := orcL []) (fz := []) (l := [4]) (c := _) (fun i h => h) h (by kernel_rfl) (AllP.nil) ?_
      intro a w h
      cases hF
      exact wp_ret (ret_okR tok h rfl (by kernel_rfl)).1
    · replace hF := of_f hb hF
      refine wp_skip ?_
      refine wp_seq ?_
      obtain ⟨r6, hr8, hF⟩ := of_bind hF
      obtain ⟨r7, hr9, hF⟩ := of_bind hF
      refine wp_reg_seq tok (orc := orcL [(28, [⟨sh1, r6⟩]), (29, [⟨.bool, r7⟩])]) (fz := []) (l := [30]) (c := _) (fun i h => h) h (by kernel_rfl) (AllP.cons (c20 k x0 r6 hr8) (AllP.cons (c22 k r4 r6 r7 hr9) AllP.nil)) ?_
      intro a w h
      refine wp_if h (b := (!r7)) (by kernel_rfl) (fun hb => ?_) (fun hb => ?_)
      · replace hF := of_t hb hF
        refine wp_reg_seq tok (orc := orcL []) (fz := []) (l := [4]) (c := _) (fun i h => h) h (by kernel_rfl) (AllP.nil) ?_
        intro a w h
        cases hF
        exact wp_ret (ret_okR tok h rfl (by kernel_rfl)).1
      · replace hF := of_f hb hF
        refine wp_skip ?_
        refine wp_reg_seq tok (orc := orcL []) (fz := []) (l := [4]) (c := _) (fun i h => h) h (by kernel_rfl) (AllP.nil) ?_
        intro a w h
        cases hF
        exact wp_ret (ret_okR tok h rfl (by kernel_rfl)).1
end Go.Proofs.Ytijlnlonlmcdoaa.V
