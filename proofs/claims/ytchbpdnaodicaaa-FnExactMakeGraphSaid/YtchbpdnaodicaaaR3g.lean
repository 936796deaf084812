/-
  THE CONTRACTS OF SOME FUNCTIONS OF THIS SEAT, PRINTED BY A PROGRAM OF THIS PROJECT (wip/gen/vgen.py).
-/
import Derived.Test.YtchbpdnaodicaaaProg
import Derived.Test.YtchbpdnaodicaaaVmW
import Derived.Test.YtchbpdnaodicaaaVmZ
import Derived.KernelRfl
import Derived.Test.YtchbpdnaodicaaaR3gB
set_option linter.unusedVariables false
open Go Go.Vm Go.Proofs
namespace Go.Proofs.Ytchbpdnaodicaaa.V
def f222 (k : Nat) (x0 : (Int × Int)) (x1 : (Int × Int)) : Option Bool := if ((x0.1 : Int) != x1.1) then (some false) else (if ((x0.2 : Int) != x1.2) then (some false) else (some true))
set_option maxRecDepth 100000 in
/-- 'laws.eqPoint'. -/
theorem c222 (k : Nat) (x0 : (Int × Int)) (x1 : (Int × Int)) (r : Bool) (hF : f222 k x0 x1 = some r) : PCall Try.prog 222 [⟨sh9, x0⟩, ⟨sh9, x1⟩] [⟨.bool, r⟩] := by
  refine pcall_intro Try.func222 rfl rfl (Nat.le_of_ble_eq_true rfl) ?_
  intro w0 Zi a w h
  rw [f222] at hF
  refine wp_reg_seq tok (orc := orcL []) (fz := []) (l := [2, 3]) (c := _) (.inr fun i h => h) h (by kernel_rfl) (AllP.nil) ?_
  intro a w h
  refine wp_seq ?_
  refine wp_reg_seq tok (orc := orcL []) (fz := []) (l := [2, 3, 9]) (c := _) (.inr fun i h => h) h (by kernel_rfl) (AllP.nil) ?_
  intro a w h
  refine wp_if h (b := ((x0.1 : Int) != x1.1)) (by kernel_rfl) (fun hb => ?_) (fun hb => ?_)
  · replace hF := of_t hb hF
    refine wp_reg_seq tok (orc := orcL []) (fz := []) (l := [4]) (c := _) (.inr fun i h => h) h (by kernel_rfl) (AllP.nil) ?_
    intro a w h
    cases hF
    exact wp_ret (ret_okR tok h rfl (by kernel_rfl)).1
  · replace hF := of_f hb hF
    refine wp_skip ?_
    refine wp_seq ?_
    refine wp_reg_seq tok (orc := orcL []) (fz := []) (l := [14]) (c := _) (.inr fun i h => h) h (by kernel_rfl) (AllP.nil) ?_
    intro a w h
    refine wp_if h (b := ((x0.2 : Int) != x1.2)) (by kernel_rfl) (fun hb => ?_) (fun hb => ?_)
    · replace hF := of_t hb hF
      refine wp_reg_seq tok (orc := orcL []) (fz := []) (l := [4]) (c := _) (.inr fun i h => h) h (by kernel_rfl) (AllP.nil) ?_
      intro a w h
      cases hF
      exact wp_ret (ret_okR tok h rfl (by kernel_rfl)).1
    · replace hF := of_f hb hF
      refine wp_skip ?_
      refine wp_reg_seq tok (orc := orcL []) (fz := []) (l := [4]) (c := _) (.inr fun i h => h) h (by kernel_rfl) (AllP.nil) ?_
      intro a w h
      cases hF
      exact wp_ret (ret_okR tok h rfl (by kernel_rfl)).1

def f174 (k : Nat) (x0 : (Int × (Int × Int))) (x1 : (Int × (Int × Int))) : Option Bool := if ((x0.1 : Int) != x1.1) then (some false) else ((f222 k x0.2 x1.2).bind fun r1 => (if (!r1) then (some false) else (some true)))
set_option maxRecDepth 100000 in
/-- 'laws.eqSpot'. -/
theorem c174 (k : Nat) (x0 : (Int × (Int × Int))) (x1 : (Int × (Int × Int))) (r : Bool) (hF : f174 k x0 x1 = some r) : PCall Try.prog 174 [⟨sh44, x0⟩, ⟨sh44, x1⟩] [⟨.bool, r⟩] := by
  refine pcall_intro Try.func174 rfl rfl (Nat.le_of_ble_eq_true rfl) ?_
  intro w0 Zi a w h
  rw [f174] at hF
  refine wp_reg_seq tok (orc := orcL []) (fz := []) (l := [2, 3]) (c := _) (.inr fun i h => h) h (by kernel_rfl) (AllP.nil) ?_
  intro a w h
  refine wp_seq ?_
  refine wp_reg_seq tok (orc := orcL []) (fz := []) (l := [2, 3, 9]) (c := _) (.inr fun i h => h) h (by kernel_rfl) (AllP.nil) ?_
  intro a w h
  refine wp_if h (b := ((x0.1 : Int) != x1.1)) (by kernel_rfl) (fun hb => ?_) (fun hb => ?_)
  · replace hF := of_t hb hF
    refine wp_reg_seq tok (orc := orcL []) (fz := []) (l := [4]) (c := _) (.inr fun i h => h) h (by kernel_rfl) (AllP.nil) ?_
    intro a w h
    cases hF
    exact wp_ret (ret_okR tok h rfl (by kernel_rfl)).1
  · replace hF := of_f hb hF
    refine wp_skip ?_
    refine wp_seq ?_
    obtain ⟨r1, hr2, hF⟩ := of_bind hF
    refine wp_reg_seq tok (orc := orcL [(14, [⟨.bool, r1⟩])]) (fz := []) (l := [15]) (c := _) (.inr fun i h => h) h (by kernel_rfl) (AllP.cons (c222 k x0.2 x1.2 r1 hr2) AllP.nil) ?_
    intro a w h
    refine wp_if h (b := (!r1)) (by kernel_rfl) (fun hb => ?_) (fun hb => ?_)
    · replace hF := of_t hb hF
      refine wp_reg_seq tok (orc := orcL []) (fz := []) (l := [4]) (c := _) (.inr fun i h => h) h (by kernel_rfl) (AllP.nil) ?_
      intro a w h
      cases hF
      exact wp_ret (ret_okR tok h rfl (by kernel_rfl)).1
    · replace hF := of_f hb hF
      refine wp_skip ?_
      refine wp_reg_seq tok (orc := orcL []) (fz := []) (l := [4]) (c := _) (.inr fun i h => h) h (by kernel_rfl) (AllP.nil) ?_
      intro a w h
      cases hF
      exact wp_ret (ret_okR tok h rfl (by kernel_rfl)).1

def f85.l30 (k : Nat) (x0 : (List (Int × (Int × Int)))) (x1 : (List (Int × (Int × Int)))) : Nat → Int → Option Bool
  | 0, _ => none
  | m30 + 1, v50 => if (decide ((v50 : Int) < (List.length x0 : Int))) then (if (0 ≤ v50 ∧ v50 < (List.length x0 : Int)) then (if (0 ≤ v50 ∧ v50 < (List.length x1 : Int)) then ((f174 k (List.getD x0 (Int.toNat v50) ((0 : Int), ((0 : Int), (0 : Int)))) (List.getD x1 (Int.toNat v50) ((0 : Int), ((0 : Int), (0 : Int))))).bind fun r55 => (if (!r55) then (some false) else ((f85.l30 k x0 x1) m30 (IntKind.i64.wrap (v50 + (1 : Int)))))) else none) else none) else (some true)
def f85 (k : Nat) (x0 : (List (Int × (Int × Int)))) (x1 : (List (Int × (Int × Int)))) : Option Bool := if (((List.length x0 : Int) : Int) != (List.length x1 : Int)) then (some false) else (f85.l30 k x0 x1 k (0 : Int))
set_option maxRecDepth 100000 in
/-- 'laws.eqSpotS'. -/
theorem c85 (k : Nat) (x0 : (List (Int × (Int × Int)))) (x1 : (List (Int × (Int × Int)))) (r : Bool) (hF : f85 k x0 x1 = some r) : PCall Try.prog 85 [⟨sh40, x0⟩, ⟨sh40, x1⟩] [⟨.bool, r⟩] := by
  refine pcall_intro Try.func85 rfl rfl (Nat.le_of_ble_eq_true rfl) ?_
  intro w0 Zi a w h
  rw [f85] at hF
  refine wp_reg_seq tok (orc := orcL []) (fz := []) (l := [0, 1]) (c := _) (.inr fun i h => h) h (by kernel_rfl) (AllP.nil) ?_
  intro a w h
  refine wp_seq ?_
  refine wp_reg_seq tok (orc := orcL []) (fz := []) (l := [0, 1, 10]) (c := _) (.inr fun i h => h) h (by kernel_rfl) (AllP.nil) ?_
  intro a w h
  refine wp_if h (b := (((List.length x0 : Int) : Int) != (List.length x1 : Int))) (by kernel_rfl) (fun hb => ?_) (fun hb => ?_)
  · replace hF := of_t hb hF
    refine wp_reg_seq tok (orc := orcL []) (fz := []) (l := [4]) (c := _) (.inr fun i h => h) h (by kernel_rfl) (AllP.nil) ?_
    intro a w h
    cases hF
    exact wp_ret (ret_okR tok h rfl (by kernel_rfl)).1
  · replace hF := of_f hb hF
    refine wp_skip ?_
    refine wp_seq ?_
    refine wp_reg_seq tok (orc := orcL []) (fz := []) (l := [0, 1, 5]) (c := _) (.inr fun i h => h) h (by kernel_rfl) (AllP.nil) ?_
    intro a w h
    refine wp_block ?_
    refine wp_loop_fuel (f85.l30 k x0 x1) (fun (v50 : Int) => [(0, .val sh40 x0), (1, .val sh40 x1), (5, .val (.int .i64) v50)]) (fun v h => by rw [f85.l30] at h; cases h) ?_ hF (h.arrive (fz := []) (l := [0, 1, 5]) (.inr fun i h => h) (by kernel_rfl))
    intro m30 v50 a w hF h
    rw [f85.l30] at hF
    refine wp_seq ?_
    refine wp_reg_seq tok (orc := orcL []) (fz := []) (l := [0, 1, 5, 14]) (c := _) (.inr fun i h => h) h (by kernel_rfl) (AllP.nil) ?_
    intro a w h
    refine wp_if h (b := (decide ((v50 : Int) < (List.length x0 : Int)))) (by kernel_rfl) (fun hb => ?_) (fun hb => ?_)
    · replace hF := of_t hb hF
      refine wp_skip ?_
      refine wp_seq <| wp_block ?_
      obtain ⟨hc56, hF⟩ := of_if hF
      obtain ⟨hc57, hF⟩ := of_if hF
      obtain ⟨r55, hr58, hF⟩ := of_bind hF
      refine wp_regy_seq tok (orc := orcL [(25, [⟨.bool, r55⟩])]) (fz := []) (l := [0, 1, 5, 26]) (c := _) ([], [], [], []) 10 (.inr fun i h => h) h (by kernel_rfl) (by kernel_rfl) (AllP.cons hc56 (AllP.cons hc57 (AllP.cons (c174 k (List.getD x0 (Int.toNat v50) ((0 : Int), ((0 : Int), (0 : Int)))) (List.getD x1 (Int.toNat v50) ((0 : Int), ((0 : Int), (0 : Int)))) r55 hr58) AllP.nil))) ?_
      intro a w h
      refine wp_if h (b := (!r55)) (by kernel_rfl) (fun hb => ?_) (fun hb => ?_)
      · replace hF := of_t hb hF
        refine wp_reg_seq tok (orc := orcL []) (fz := []) (l := [4]) (c := _) (.inr fun i h => h) h (by kernel_rfl) (AllP.nil) ?_
        intro a w h
        cases hF
        exact wp_ret (ret_okR tok h rfl (by kernel_rfl)).1
      · replace hF := of_f hb hF
        refine wp_skip ?_
        refine wp_reg tok (orc := orcL []) (fz := []) (l := [0, 1, 5]) (c := _) (.inr fun i h => h) h (by kernel_rfl) (AllP.nil) ?_
        intro a w h
        exact ⟨(IntKind.i64.wrap (v50 + (1 : Int))), hF, h.arrive (fz := []) (l := [0, 1, 5]) (.inr fun i h => h) (by kernel_rfl)⟩
    · replace hF := of_f hb hF
      refine wp_exit ?_
      refine wp_reg_seq tok (orc := orcL []) (fz := []) (l := [4]) (c := _) (.inr fun i h => h) h (by kernel_rfl) (AllP.nil) ?_
      intro a w h
      cases hF
      exact wp_ret (ret_okR tok h rfl (by kernel_rfl)).1

def f175 (k : Nat) (x0 : (Int × (Int × (Int × (Int × (Int × ByteArray)))))) (x1 : (Int × (Int × (Int × (Int × (Int × ByteArray)))))) : Option Bool := if ((x0.1 : Int) != x1.1) then (some false) else (if ((x0.2.1 : Int) != x1.2.1) then (some false) else (if ((x0.2.2.1 : Int) != x1.2.2.1) then (some false) else (if ((x0.2.2.2.1 : Int) != x1.2.2.2.1) then (some false) else (if ((x0.2.2.2.2.1 : Int) != x1.2.2.2.2.1) then (some false) else (if (!(ByteArray.toList x0.2.2.2.2.2 == ByteArray.toList x1.2.2.2.2.2)) then (some false) else (some true))))))
set_option maxRecDepth 100000 in
/-- 'laws.eqRoad'. -/
theorem c175 (k : Nat) (x0 : (Int × (Int × (Int × (Int × (Int × ByteArray)))))) (x1 : (Int × (Int × (Int × (Int × (Int × ByteArray)))))) (r : Bool) (hF : f175 k x0 x1 = some r) : PCall Try.prog 175 [⟨sh45, x0⟩, ⟨sh45, x1⟩] [⟨.bool, r⟩] := by
  refine pcall_intro Try.func175 rfl rfl (Nat.le_of_ble_eq_true rfl) ?_
  intro w0 Zi a w h
  rw [f175] at hF
  refine wp_reg_seq tok (orc := orcL []) (fz := []) (l := [2, 3]) (c := _) (.inr fun i h => h) h (by kernel_rfl) (AllP.nil) ?_
  intro a w h
  refine wp_seq ?_
  refine wp_reg_seq tok (orc := orcL []) (fz := []) (l := [2, 3, 9]) (c := _) (.inr fun i h => h) h (by kernel_rfl) (AllP.nil) ?_
  intro a w h
  refine wp_if h (b := ((x0.1 : Int) != x1.1)) (by kernel_rfl) (fun hb => ?_) (fun hb => ?_)
  · replace hF := of_t hb hF
    refine wp_reg_seq tok (orc := orcL []) (fz := []) (l := [4]) (c := _) (.inr fun i h => h) h (by kernel_rfl) (AllP.nil) ?_
    intro a w h
    cases hF
    exact wp_ret (ret_okR tok h rfl (by kernel_rfl)).1
  · replace hF := of_f hb hF
    refine wp_skip ?_
    refine wp_seq ?_
    refine wp_reg_seq tok (orc := orcL []) (fz := []) (l := [2, 3, 14]) (c := _) (.inr fun i h => h) h (by kernel_rfl) (AllP.nil) ?_
    intro a w h
    refine wp_if h (b := ((x0.2.1 : Int) != x1.2.1)) (by kernel_rfl) (fun hb => ?_) (fun hb => ?_)
    · replace hF := of_t hb hF
      refine wp_reg_seq tok (orc := orcL []) (fz := []) (l := [4]) (c := _) (.inr fun i h => h) h (by kernel_rfl) (AllP.nil) ?_
      intro a w h
      cases hF
      exact wp_ret (ret_okR tok h rfl (by kernel_rfl)).1
    · replace hF := of_f hb hF
      refine wp_skip ?_
      refine wp_seq ?_
      refine wp_reg_seq tok (orc := orcL []) (fz := []) (l := [2, 3, 19]) (c := _) (.inr fun i h => h) h (by kernel_rfl) (AllP.nil) ?_
      intro a w h
      refine wp_if h (b := ((x0.2.2.1 : Int) != x1.2.2.1)) (by kernel_rfl) (fun hb => ?_) (fun hb => ?_)
      · replace hF := of_t hb hF
        refine wp_reg_seq tok (orc := orcL []) (fz := []) (l := [4]) (c := _) (.inr fun i h => h) h (by kernel_rfl) (AllP.nil) ?_
        intro a w h
        cases hF
        exact wp_ret (ret_okR tok h rfl (by kernel_rfl)).1
      · replace hF := of_f hb hF
        refine wp_skip ?_
        refine wp_seq ?_
        refine wp_reg_seq tok (orc := orcL []) (fz := []) (l := [2, 3, 24]) (c := _) (.inr fun i h => h) h (by kernel_rfl) (AllP.nil) ?_
        intro a w h
        refine wp_if h (b := ((x0.2.2.2.1 : Int) != x1.2.2.2.1)) (by kernel_rfl) (fun hb => ?_) (fun hb => ?_)
        · replace hF := of_t hb hF
          refine wp_reg_seq tok (orc := orcL []) (fz := []) (l := [4]) (c := _) (.inr fun i h => h) h (by kernel_rfl) (AllP.nil) ?_
          intro a w h
          cases hF
          exact wp_ret (ret_okR tok h rfl (by kernel_rfl)).1
        · replace hF := of_f hb hF
          refine wp_skip ?_
          refine wp_seq ?_
          refine wp_reg_seq tok (orc := orcL []) (fz := []) (l := [2, 3, 29]) (c := _) (.inr fun i h => h) h (by kernel_rfl) (AllP.nil) ?_
          intro a w h
          refine wp_if h (b := ((x0.2.2.2.2.1 : Int) != x1.2.2.2.2.1)) (by kernel_rfl) (fun hb => ?_) (fun hb => ?_)
          · replace hF := of_t hb hF
            refine wp_reg_seq tok (orc := orcL []) (fz := []) (l := [4]) (c := _) (.inr fun i h => h) h (by kernel_rfl) (AllP.nil) ?_
            intro a w h
            cases hF
            exact wp_ret (ret_okR tok h rfl (by kernel_rfl)).1
          · replace hF := of_f hb hF
            refine wp_skip ?_
            refine wp_seq ?_
            refine wp_reg_seq tok (orc := orcL []) (fz := []) (l := [34]) (c := _) (.inr fun i h => h) h (by kernel_rfl) (AllP.nil) ?_
            intro a w h
            refine wp_if h (b := (!(ByteArray.toList x0.2.2.2.2.2 == ByteArray.toList x1.2.2.2.2.2))) (by kernel_rfl) (fun hb => ?_) (fun hb => ?_)
            · replace hF := of_t hb hF
              refine wp_reg_seq tok (orc := orcL []) (fz := []) (l := [4]) (c := _) (.inr fun i h => h) h (by kernel_rfl) (AllP.nil) ?_
              intro a w h
              cases hF
              exact wp_ret (ret_okR tok h rfl (by kernel_rfl)).1
            · replace hF := of_f hb hF
              refine wp_skip ?_
              refine wp_reg_seq tok (orc := orcL []) (fz := []) (l := [4]) (c := _) (.inr fun i h => h) h (by kernel_rfl) (AllP.nil) ?_
              intro a w h
              cases hF
              exact wp_ret (ret_okR tok h rfl (by kernel_rfl)).1

def f86.l30 (k : Nat) (x0 : (List (Int × (Int × (Int × (Int × (Int × ByteArray))))))) (x1 : (List (Int × (Int × (Int × (Int × (Int × ByteArray))))))) : Nat → Int → Option Bool
  | 0, _ => none
  | m30 + 1, v50 => if (decide ((v50 : Int) < (List.length x0 : Int))) then (if (0 ≤ v50 ∧ v50 < (List.length x0 : Int)) then (if (0 ≤ v50 ∧ v50 < (List.length x1 : Int)) then ((f175 k (List.getD x0 (Int.toNat v50) ((0 : Int), ((0 : Int), ((0 : Int), ((0 : Int), ((0 : Int), (⟨#[]⟩ : ByteArray))))))) (List.getD x1 (Int.toNat v50) ((0 : Int), ((0 : Int), ((0 : Int), ((0 : Int), ((0 : Int), (⟨#[]⟩ : ByteArray)))))))).bind fun r55 => (if (!r55) then (some false) else ((f86.l30 k x0 x1) m30 (IntKind.i64.wrap (v50 + (1 : Int)))))) else none) else none) else (some true)
def f86 (k : Nat) (x0 : (List (Int × (Int × (Int × (Int × (Int × ByteArray))))))) (x1 : (List (Int × (Int × (Int × (Int × (Int × ByteArray))))))) : Option Bool := if (((List.length x0 : Int) : Int) != (List.length x1 : Int)) then (some false) else (f86.l30 k x0 x1 k (0 : Int))
set_option maxRecDepth 100000 in
/-- 'laws.eqRoadS'. -/
theorem c86 (k : Nat) (x0 : (List (Int × (Int × (Int × (Int × (Int × ByteArray))))))) (x1 : (List (Int × (Int × (Int × (Int × (Int × ByteArray))))))) (r : Bool) (hF : f86 k x0 x1 = some r) : PCall Try.prog 86 [⟨sh41, x0⟩, ⟨sh41, x1⟩] [⟨.bool, r⟩] := by
  refine pcall_intro Try.func86 rfl rfl (Nat.le_of_ble_eq_true rfl) ?_
  intro w0 Zi a w h
  rw [f86] at hF
  refine wp_reg_seq tok (orc := orcL []) (fz := []) (l := [0, 1]) (c := _) (.inr fun i h => h) h (by kernel_rfl) (AllP.nil) ?_
  intro a w h
  refine wp_seq ?_
  refine wp_reg_seq tok (orc := orcL []) (fz := []) (l := [0, 1, 10]) (c := _) (.inr fun i h => h) h (by kernel_rfl) (AllP.nil) ?_
  intro a w h
  refine wp_if h (b := (((List.length x0 : Int) : Int) != (List.length x1 : Int))) (by kernel_rfl) (fun hb => ?_) (fun hb => ?_)
  · replace hF := of_t hb hF
    refine wp_reg_seq tok (orc := orcL []) (fz := []) (l := [4]) (c := _) (.inr fun i h => h) h (by kernel_rfl) (AllP.nil) ?_
    intro a w h
    cases hF
    exact wp_ret (ret_okR tok h rfl (by kernel_rfl)).1
  · replace hF := of_f hb hF
    refine wp_skip ?_
    refine wp_seq ?_
    refine wp_reg_seq tok (orc := orcL []) (fz := []) (l := [0, 1, 5]) (c := _) (.inr fun i h => h) h (by kernel_rfl) (AllP.nil) ?_
    intro a w h
    refine wp_block ?_
    refine wp_loop_fuel (f86.l30 k x0 x1) (fun (v50 : Int) => [(0, .val sh41 x0), (1, .val sh41 x1), (5, .val (.int .i64) v50)]) (fun v h => by rw [f86.l30] at h; cases h) ?_ hF (h.arrive (fz := []) (l := [0, 1, 5]) (.inr fun i h => h) (by kernel_rfl))
    intro m30 v50 a w hF h
    rw [f86.l30] at hF
    refine wp_seq ?_
    refine wp_reg_seq tok (orc := orcL []) (fz := []) (l := [0, 1, 5, 14]) (c := _) (.inr fun i h => h) h (by kernel_rfl) (AllP.nil) ?_
    intro a w h
    refine wp_if h (b := (decide ((v50 : Int) < (List.length x0 : Int)))) (by kernel_rfl) (fun hb => ?_) (fun hb => ?_)
    · replace hF := of_t hb hF
      refine wp_skip ?_
      refine wp_seq <| wp_block ?_
      obtain ⟨hc56, hF⟩ := of_if hF
      obtain ⟨hc57, hF⟩ := of_if hF
      obtain ⟨r55, hr58, hF⟩ := of_bind hF
      refine wp_regy_seq tok (orc := orcL [(25, [⟨.bool, r55⟩])]) (fz := []) (l := [0, 1, 5, 26]) (c := _) ([], [], [], []) 10 (.inr fun i h => h) h (by kernel_rfl) (by kernel_rfl) (AllP.cons hc56 (AllP.cons hc57 (AllP.cons (c175 k (List.getD x0 (Int.toNat v50) ((0 : Int), ((0 : Int), ((0 : Int), ((0 : Int), ((0 : Int), (⟨#[]⟩ : ByteArray))))))) (List.getD x1 (Int.toNat v50) ((0 : Int), ((0 : Int), ((0 : Int), ((0 : Int), ((0 : Int), (⟨#[]⟩ : ByteArray))))))) r55 hr58) AllP.nil))) ?_
      intro a w h
      refine wp_if h (b := (!r55)) (by kernel_rfl) (fun hb => ?_) (fun hb => ?_)
      · replace hF := of_t hb hF
        refine wp_reg_seq tok (orc := orcL []) (fz := []) (l := [4]) (c := _) (.inr fun i h => h) h (by kernel_rfl) (AllP.nil) ?_
        intro a w h
        cases hF
        exact wp_ret (ret_okR tok h rfl (by kernel_rfl)).1
      · replace hF := of_f hb hF
        refine wp_skip ?_
        refine wp_reg tok (orc := orcL []) (fz := []) (l := [0, 1, 5]) (c := _) (.inr fun i h => h) h (by kernel_rfl) (AllP.nil) ?_
        intro a w h
        exact ⟨(IntKind.i64.wrap (v50 + (1 : Int))), hF, h.arrive (fz := []) (l := [0, 1, 5]) (.inr fun i h => h) (by kernel_rfl)⟩
    · replace hF := of_f hb hF
      refine wp_exit ?_
      refine wp_reg_seq tok (orc := orcL []) (fz := []) (l := [4]) (c := _) (.inr fun i h => h) h (by kernel_rfl) (AllP.nil) ?_
      intro a w h
      cases hF
      exact wp_ret (ret_okR tok h rfl (by kernel_rfl)).1

def f176 (k : Nat) (x0 : (Int × Int)) (x1 : (Int × Int)) : Option Bool := if ((x0.1 : Int) != x1.1) then (some false) else (if ((x0.2 : Int) != x1.2) then (some false) else (some true))
set_option maxRecDepth 100000 in
/-- 'laws.eqBan'. -/
theorem c176 (k : Nat) (x0 : (Int × Int)) (x1 : (Int × Int)) (r : Bool) (hF : f176 k x0 x1 = some r) : PCall Try.prog 176 [⟨sh9, x0⟩, ⟨sh9, x1⟩] [⟨.bool, r⟩] := by
  refine pcall_intro Try.func176 rfl rfl (Nat.le_of_ble_eq_true rfl) ?_
  intro w0 Zi a w h
  rw [f176] at hF
  refine wp_reg_seq tok (orc := orcL []) (fz := []) (l := [2, 3]) (c := _) (.inr fun i h => h) h (by kernel_rfl) (AllP.nil) ?_
  intro a w h
  refine wp_seq ?_
  refine wp_reg_seq tok (orc := orcL []) (fz := []) (l := [2, 3, 9]) (c := _) (.inr fun i h => h) h (by kernel_rfl) (AllP.nil) ?_
  intro a w h
  refine wp_if h (b := ((x0.1 : Int) != x1.1)) (by kernel_rfl) (fun hb => ?_) (fun hb => ?_)
  · replace hF := of_t hb hF
    refine wp_reg_seq tok (orc := orcL []) (fz := []) (l := [4]) (c := _) (.inr fun i h => h) h (by kernel_rfl) (AllP.nil) ?_
    intro a w h
    cases hF
    exact wp_ret (ret_okR tok h rfl (by kernel_rfl)).1
  · replace hF := of_f hb hF
    refine wp_skip ?_
    refine wp_seq ?_
    refine wp_reg_seq tok (orc := orcL []) (fz := []) (l := [14]) (c := _) (.inr fun i h => h) h (by kernel_rfl) (AllP.nil) ?_
    intro a w h
    refine wp_if h (b := ((x0.2 : Int) != x1.2)) (by kernel_rfl) (fun hb => ?_) (fun hb => ?_)
    · replace hF := of_t hb hF
      refine wp_reg_seq tok (orc := orcL []) (fz := []) (l := [4]) (c := _) (.inr fun i h => h) h (by kernel_rfl) (AllP.nil) ?_
      intro a w h
      cases hF
      exact wp_ret (ret_okR tok h rfl (by kernel_rfl)).1
    · replace hF := of_f hb hF
      refine wp_skip ?_
      refine wp_reg_seq tok (orc := orcL []) (fz := []) (l := [4]) (c := _) (.inr fun i h => h) h (by kernel_rfl) (AllP.nil) ?_
      intro a w h
      cases hF
      exact wp_ret (ret_okR tok h rfl (by kernel_rfl)).1

def f87.l30 (k : Nat) (x0 : (List (Int × Int))) (x1 : (List (Int × Int))) : Nat → Int → Option Bool
  | 0, _ => none
  | m30 + 1, v50 => if (decide ((v50 : Int) < (List.length x0 : Int))) then (if (0 ≤ v50 ∧ v50 < (List.length x0 : Int)) then (if (0 ≤ v50 ∧ v50 < (List.length x1 : Int)) then ((f176 k (List.getD x0 (Int.toNat v50) ((0 : Int), (0 : Int))) (List.getD x1 (Int.toNat v50) ((0 : Int), (0 : Int)))).bind fun r55 => (if (!r55) then (some false) else ((f87.l30 k x0 x1) m30 (IntKind.i64.wrap (v50 + (1 : Int)))))) else none) else none) else (some true)
def f87 (k : Nat) (x0 : (List (Int × Int))) (x1 : (List (Int × Int))) : Option Bool := if (((List.length x0 : Int) : Int) != (List.length x1 : Int)) then (some false) else (f87.l30 k x0 x1 k (0 : Int))
set_option maxRecDepth 100000 in
/-- 'laws.eqBanS'. -/
theorem c87 (k : Nat) (x0 : (List (Int × Int))) (x1 : (List (Int × Int))) (r : Bool) (hF : f87 k x0 x1 = some r) : PCall Try.prog 87 [⟨sh42, x0⟩, ⟨sh42, x1⟩] [⟨.bool, r⟩] := by
  refine pcall_intro Try.func87 rfl rfl (Nat.le_of_ble_eq_true rfl) ?_
  intro w0 Zi a w h
  rw [f87] at hF
  refine wp_reg_seq tok (orc := orcL []) (fz := []) (l := [0, 1]) (c := _) (.inr fun i h => h) h (by kernel_rfl) (AllP.nil) ?_
  intro a w h
  refine wp_seq ?_
  refine wp_reg_seq tok (orc := orcL []) (fz := []) (l := [0, 1, 10]) (c := _) (.inr fun i h => h) h (by kernel_rfl) (AllP.nil) ?_
  intro a w h
  refine wp_if h (b := (((List.length x0 : Int) : Int) != (List.length x1 : Int))) (by kernel_rfl) (fun hb => ?_) (fun hb => ?_)
  · replace hF := of_t hb hF
    refine wp_reg_seq tok (orc := orcL []) (fz := []) (l := [4]) (c := _) (.inr fun i h => h) h (by kernel_rfl) (AllP.nil) ?_
    intro a w h
    cases hF
    exact wp_ret (ret_okR tok h rfl (by kernel_rfl)).1
  · replace hF := of_f hb hF
    refine wp_skip ?_
    refine wp_seq ?_
    refine wp_reg_seq tok (orc := orcL []) (fz := []) (l := [0, 1, 5]) (c := _) (.inr fun i h => h) h (by kernel_rfl) (AllP.nil) ?_
    intro a w h
    refine wp_block ?_
    refine wp_loop_fuel (f87.l30 k x0 x1) (fun (v50 : Int) => [(0, .val sh42 x0), (1, .val sh42 x1), (5, .val (.int .i64) v50)]) (fun v h => by rw [f87.l30] at h; cases h) ?_ hF (h.arrive (fz := []) (l := [0, 1, 5]) (.inr fun i h => h) (by kernel_rfl))
    intro m30 v50 a w hF h
    rw [f87.l30] at hF
    refine wp_seq ?_
    refine wp_reg_seq tok (orc := orcL []) (fz := []) (l := [0, 1, 5, 14]) (c := _) (.inr fun i h => h) h (by kernel_rfl) (AllP.nil) ?_
    intro a w h
    refine wp_if h (b := (decide ((v50 : Int) < (List.length x0 : Int)))) (by kernel_rfl) (fun hb => ?_) (fun hb => ?_)
    · replace hF := of_t hb hF
      refine wp_skip ?_
      refine wp_seq <| wp_block ?_
      obtain ⟨hc56, hF⟩ := of_if hF
      obtain ⟨hc57, hF⟩ := of_if hF
      obtain ⟨r55, hr58, hF⟩ := of_bind hF
      refine wp_regy_seq tok (orc := orcL [(25, [⟨.bool, r55⟩])]) (fz := []) (l := [0, 1, 5, 26]) (c := _) ([], [], [], []) 10 (.inr fun i h => h) h (by kernel_rfl) (by kernel_rfl) (AllP.cons hc56 (AllP.cons hc57 (AllP.cons (c176 k (List.getD x0 (Int.toNat v50) ((0 : Int), (0 : Int))) (List.getD x1 (Int.toNat v50) ((0 : Int), (0 : Int))) r55 hr58) AllP.nil))) ?_
      intro a w h
      refine wp_if h (b := (!r55)) (by kernel_rfl) (fun hb => ?_) (fun hb => ?_)
      · replace hF := of_t hb hF
        refine wp_reg_seq tok (orc := orcL []) (fz := []) (l := [4]) (c := _) (.inr fun i h => h) h (by kernel_rfl) (AllP.nil) ?_
        intro a w h
        cases hF
        exact wp_ret (ret_okR tok h rfl (by kernel_rfl)).1
      · replace hF := of_f hb hF
        refine wp_skip ?_
        refine wp_reg tok (orc := orcL []) (fz := []) (l := [0, 1, 5]) (c := _) (.inr fun i h => h) h (by kernel_rfl) (AllP.nil) ?_
        intro a w h
        exact ⟨(IntKind.i64.wrap (v50 + (1 : Int))), hF, h.arrive (fz := []) (l := [0, 1, 5]) (.inr fun i h => h) (by kernel_rfl)⟩
    · replace hF := of_f hb hF
      refine wp_exit ?_
      refine wp_reg_seq tok (orc := orcL []) (fz := []) (l := [4]) (c := _) (.inr fun i h => h) h (by kernel_rfl) (AllP.nil) ?_
      intro a w h
      cases hF
      exact wp_ret (ret_okR tok h rfl (by kernel_rfl)).1

def f20 (k : Nat) (x0 : ((List (Int × (Int × Int))) × ((List (Int × (Int × (Int × (Int × (Int × ByteArray)))))) × (List (Int × Int))))) (x1 : ((List (Int × (Int × Int))) × ((List (Int × (Int × (Int × (Int × (Int × ByteArray)))))) × (List (Int × Int))))) : Option Bool := (f85 k x0.1 x1.1).bind fun r1 => (if (!r1) then (some false) else ((f86 k x0.2.1 x1.2.1).bind fun r2 => (if (!r2) then (some false) else ((f87 k x0.2.2 x1.2.2).bind fun r3 => (if (!r3) then (some false) else (some true))))))
set_option maxRecDepth 100000 in
/-- 'laws.eqGraph'. -/
theorem c20 (k : Nat) (x0 : ((List (Int × (Int × Int))) × ((List (Int × (Int × (Int × (Int × (Int × ByteArray)))))) × (List (Int × Int))))) (x1 : ((List (Int × (Int × Int))) × ((List (Int × (Int × (Int × (Int × (Int × ByteArray)))))) × (List (Int × Int))))) (r : Bool) (hF : f20 k x0 x1 = some r) : PCall Try.prog 20 [⟨sh29, x0⟩, ⟨sh29, x1⟩] [⟨.bool, r⟩] := by
  refine pcall_intro Try.func20 rfl rfl (Nat.le_of_ble_eq_true rfl) ?_
  intro w0 Zi a w h
  rw [f20] at hF
  refine wp_reg_seq tok (orc := orcL []) (fz := []) (l := [2, 3]) (c := _) (.inr fun i h => h) h (by kernel_rfl) (AllP.nil) ?_
  intro a w h
  refine wp_seq ?_
  obtain ⟨r1, hr6, hF⟩ := of_bind hF
  refine wp_reg_seq tok (orc := orcL [(9, [⟨.bool, r1⟩])]) (fz := []) (l := [2, 3, 10]) (c := _) (.inr fun i h => h) h (by kernel_rfl) (AllP.cons (c85 k x0.1 x1.1 r1 hr6) AllP.nil) ?_
  intro a w h
  refine wp_if h (b := (!r1)) (by kernel_rfl) (fun hb => ?_) (fun hb => ?_)
  · replace hF := of_t hb hF
    refine wp_reg_seq tok (orc := orcL []) (fz := []) (l := [4]) (c := _) (.inr fun i h => h) h (by kernel_rfl) (AllP.nil) ?_
    intro a w h
    cases hF
    exact wp_ret (ret_okR tok h rfl (by kernel_rfl)).1
  · replace hF := of_f hb hF
    refine wp_skip ?_
    refine wp_seq ?_
    obtain ⟨r2, hr5, hF⟩ := of_bind hF
    refine wp_reg_seq tok (orc := orcL [(15, [⟨.bool, r2⟩])]) (fz := []) (l := [2, 3, 16]) (c := _) (.inr fun i h => h) h (by kernel_rfl) (AllP.cons (c86 k x0.2.1 x1.2.1 r2 hr5) AllP.nil) ?_
    intro a w h
    refine wp_if h (b := (!r2)) (by kernel_rfl) (fun hb => ?_) (fun hb => ?_)
    · replace hF := of_t hb hF
      refine wp_reg_seq tok (orc := orcL []) (fz := []) (l := [4]) (c := _) (.inr fun i h => h) h (by kernel_rfl) (AllP.nil) ?_
      intro a w h
      cases hF
      exact wp_ret (ret_okR tok h rfl (by kernel_rfl)).1
    · replace hF := of_f hb hF
      refine wp_skip ?_
      refine wp_seq ?_
      obtain ⟨r3, hr4, hF⟩ := of_bind hF
      refine wp_reg_seq tok (orc := orcL [(21, [⟨.bool, r3⟩])]) (fz := []) (l := [22]) (c := _) (.inr fun i h => h) h (by kernel_rfl) (AllP.cons (c87 k x0.2.2 x1.2.2 r3 hr4) AllP.nil) ?_
      intro a w h
      refine wp_if h (b := (!r3)) (by kernel_rfl) (fun hb => ?_) (fun hb => ?_)
      · replace hF := of_t hb hF
        refine wp_reg_seq tok (orc := orcL []) (fz := []) (l := [4]) (c := _) (.inr fun i h => h) h (by kernel_rfl) (AllP.nil) ?_
        intro a w h
        cases hF
        exact wp_ret (ret_okR tok h rfl (by kernel_rfl)).1
      · replace hF := of_f hb hF
        refine wp_skip ?_
        refine wp_reg_seq tok (orc := orcL []) (fz := []) (l := [4]) (c := _) (.inr fun i h => h) h (by kernel_rfl) (AllP.nil) ?_
        intro a w h
        cases hF
        exact wp_ret (ret_okR tok h rfl (by kernel_rfl)).1

def f266 (k : Nat) (x0 : (ByteArray × ByteArray)) (x1 : (ByteArray × ByteArray)) : Option Bool := if (!(ByteArray.toList x0.1 == ByteArray.toList x1.1)) then (some false) else (if (!(ByteArray.toList x0.2 == ByteArray.toList x1.2)) then (some false) else (some true))
set_option maxRecDepth 100000 in
/-- 'laws.eqTag'. -/
theorem c266 (k : Nat) (x0 : (ByteArray × ByteArray)) (x1 : (ByteArray × ByteArray)) (r : Bool) (hF : f266 k x0 x1 = some r) : PCall Try.prog 266 [⟨(.st (.pair .str .str)), x0⟩, ⟨(.st (.pair .str .str)), x1⟩] [⟨.bool, r⟩] := by
  refine pcall_intro Try.func266 rfl rfl (Nat.le_of_ble_eq_true rfl) ?_
  intro w0 Zi a w h
  rw [f266] at hF
  refine wp_reg_seq tok (orc := orcL []) (fz := []) (l := [2, 3]) (c := _) (.inr fun i h => h) h (by kernel_rfl) (AllP.nil) ?_
  intro a w h
  refine wp_seq ?_
  refine wp_reg_seq tok (orc := orcL []) (fz := []) (l := [2, 3, 9]) (c := _) (.inr fun i h => h) h (by kernel_rfl) (AllP.nil) ?_
  intro a w h
  refine wp_if h (b := (!(ByteArray.toList x0.1 == ByteArray.toList x1.1))) (by kernel_rfl) (fun hb => ?_) (fun hb => ?_)
  · replace hF := of_t hb hF
    refine wp_reg_seq tok (orc := orcL []) (fz := []) (l := [4]) (c := _) (.inr fun i h => h) h (by kernel_rfl) (AllP.nil) ?_
    intro a w h
    cases hF
    exact wp_ret (ret_okR tok h rfl (by kernel_rfl)).1
  · replace hF := of_f hb hF
    refine wp_skip ?_
    refine wp_seq ?_
    refine wp_reg_seq tok (orc := orcL []) (fz := []) (l := [14]) (c := _) (.inr fun i h => h) h (by kernel_rfl) (AllP.nil) ?_
    intro a w h
    refine wp_if h (b := (!(ByteArray.toList x0.2 == ByteArray.toList x1.2))) (by kernel_rfl) (fun hb => ?_) (fun hb => ?_)
    · replace hF := of_t hb hF
      refine wp_reg_seq tok (orc := orcL []) (fz := []) (l := [4]) (c := _) (.inr fun i h => h) h (by kernel_rfl) (AllP.nil) ?_
      intro a w h
      cases hF
      exact wp_ret (ret_okR tok h rfl (by kernel_rfl)).1
    · replace hF := of_f hb hF
      refine wp_skip ?_
      refine wp_reg_seq tok (orc := orcL []) (fz := []) (l := [4]) (c := _) (.inr fun i h => h) h (by kernel_rfl) (AllP.nil) ?_
      intro a w h
      cases hF
      exact wp_ret (ret_okR tok h rfl (by kernel_rfl)).1

def f248.l30 (k : Nat) (x0 : (List (ByteArray × ByteArray))) (x1 : (List (ByteArray × ByteArray))) : Nat → Int → Option Bool
  | 0, _ => none
  | m30 + 1, v50 => if (decide ((v50 : Int) < (List.length x0 : Int))) then (if (0 ≤ v50 ∧ v50 < (List.length x0 : Int)) then (if (0 ≤ v50 ∧ v50 < (List.length x1 : Int)) then ((f266 k (List.getD x0 (Int.toNat v50) ((⟨#[]⟩ : ByteArray), (⟨#[]⟩ : ByteArray))) (List.getD x1 (Int.toNat v50) ((⟨#[]⟩ : ByteArray), (⟨#[]⟩ : ByteArray)))).bind fun r55 => (if (!r55) then (some false) else ((f248.l30 k x0 x1) m30 (IntKind.i64.wrap (v50 + (1 : Int)))))) else none) else none) else (some true)
def f248 (k : Nat) (x0 : (List (ByteArray × ByteArray))) (x1 : (List (ByteArray × ByteArray))) : Option Bool := if (((List.length x0 : Int) : Int) != (List.length x1 : Int)) then (some false) else (f248.l30 k x0 x1 k (0 : Int))
set_option maxRecDepth 100000 in
/-- 'laws.eqTagS'. -/
theorem c248 (k : Nat) (x0 : (List (ByteArray × ByteArray))) (x1 : (List (ByteArray × ByteArray))) (r : Bool) (hF : f248 k x0 x1 = some r) : PCall Try.prog 248 [⟨sh20, x0⟩, ⟨sh20, x1⟩] [⟨.bool, r⟩] := by
  refine pcall_intro Try.func248 rfl rfl (Nat.le_of_ble_eq_true rfl) ?_
  intro w0 Zi a w h
  rw [f248] at hF
  refine wp_reg_seq tok (orc := orcL []) (fz := []) (l := [0, 1]) (c := _) (.inr fun i h => h) h (by kernel_rfl) (AllP.nil) ?_
  intro a w h
  refine wp_seq ?_
  refine wp_reg_seq tok (orc := orcL []) (fz := []) (l := [0, 1, 10]) (c := _) (.inr fun i h => h) h (by kernel_rfl) (AllP.nil) ?_
  intro a w h
  refine wp_if h (b := (((List.length x0 : Int) : Int) != (List.length x1 : Int))) (by kernel_rfl) (fun hb => ?_) (fun hb => ?_)
  · replace hF := of_t hb hF
    refine wp_reg_seq tok (orc := orcL []) (fz := []) (l := [4]) (c := _) (.inr fun i h => h) h (by kernel_rfl) (AllP.nil) ?_
    intro a w h
    cases hF
    exact wp_ret (ret_okR tok h rfl (by kernel_rfl)).1
  · replace hF := of_f hb hF
    refine wp_skip ?_
    refine wp_seq ?_
    refine wp_reg_seq tok (orc := orcL []) (fz := []) (l := [0, 1, 5]) (c := _) (.inr fun i h => h) h (by kernel_rfl) (AllP.nil) ?_
    intro a w h
    refine wp_block ?_
    refine wp_loop_fuel (f248.l30 k x0 x1) (fun (v50 : Int) => [(0, .val sh20 x0), (1, .val sh20 x1), (5, .val (.int .i64) v50)]) (fun v h => by rw [f248.l30] at h; cases h) ?_ hF (h.arrive (fz := []) (l := [0, 1, 5]) (.inr fun i h => h) (by kernel_rfl))
    intro m30 v50 a w hF h
    rw [f248.l30] at hF
    refine wp_seq ?_
    refine wp_reg_seq tok (orc := orcL []) (fz := []) (l := [0, 1, 5, 14]) (c := _) (.inr fun i h => h) h (by kernel_rfl) (AllP.nil) ?_
    intro a w h
    refine wp_if h (b := (decide ((v50 : Int) < (List.length x0 : Int)))) (by kernel_rfl) (fun hb => ?_) (fun hb => ?_)
    · replace hF := of_t hb hF
      refine wp_skip ?_
      refine wp_seq <| wp_block ?_
      obtain ⟨hc56, hF⟩ := of_if hF
      obtain ⟨hc57, hF⟩ := of_if hF
      obtain ⟨r55, hr58, hF⟩ := of_bind hF
      refine wp_regy_seq tok (orc := orcL [(25, [⟨.bool, r55⟩])]) (fz := []) (l := [0, 1, 5, 26]) (c := _) ([], [], [], []) 10 (.inr fun i h => h) h (by kernel_rfl) (by kernel_rfl) (AllP.cons hc56 (AllP.cons hc57 (AllP.cons (c266 k (List.getD x0 (Int.toNat v50) ((⟨#[]⟩ : ByteArray), (⟨#[]⟩ : ByteArray))) (List.getD x1 (Int.toNat v50) ((⟨#[]⟩ : ByteArray), (⟨#[]⟩ : ByteArray))) r55 hr58) AllP.nil))) ?_
      intro a w h
      refine wp_if h (b := (!r55)) (by kernel_rfl) (fun hb => ?_) (fun hb => ?_)
      · replace hF := of_t hb hF
        refine wp_reg_seq tok (orc := orcL []) (fz := []) (l := [4]) (c := _) (.inr fun i h => h) h (by kernel_rfl) (AllP.nil) ?_
        intro a w h
        cases hF
        exact wp_ret (ret_okR tok h rfl (by kernel_rfl)).1
      · replace hF := of_f hb hF
        refine wp_skip ?_
        refine wp_reg tok (orc := orcL []) (fz := []) (l := [0, 1, 5]) (c := _) (.inr fun i h => h) h (by kernel_rfl) (AllP.nil) ?_
        intro a w h
        exact ⟨(IntKind.i64.wrap (v50 + (1 : Int))), hF, h.arrive (fz := []) (l := [0, 1, 5]) (.inr fun i h => h) (by kernel_rfl)⟩
    · replace hF := of_f hb hF
      refine wp_exit ?_
      refine wp_reg_seq tok (orc := orcL []) (fz := []) (l := [4]) (c := _) (.inr fun i h => h) h (by kernel_rfl) (AllP.nil) ?_
      intro a w h
      cases hF
      exact wp_ret (ret_okR tok h rfl (by kernel_rfl)).1

def f213 (k : Nat) (x0 : (Int × ((Int × Int) × (List (ByteArray × ByteArray))))) (x1 : (Int × ((Int × Int) × (List (ByteArray × ByteArray))))) : Option Bool := if ((x0.1 : Int) != x1.1) then (some false) else ((f222 k x0.2.1 x1.2.1).bind fun r1 => (if (!r1) then (some false) else ((f248 k x0.2.2 x1.2.2).bind fun r2 => (if (!r2) then (some false) else (some true)))))
set_option maxRecDepth 100000 in
/-- 'laws.eqNode'. -/
theorem c213 (k : Nat) (x0 : (Int × ((Int × Int) × (List (ByteArray × ByteArray))))) (x1 : (Int × ((Int × Int) × (List (ByteArray × ByteArray))))) (r : Bool) (hF : f213 k x0 x1 = some r) : PCall Try.prog 213 [⟨sh46, x0⟩, ⟨sh46, x1⟩] [⟨.bool, r⟩] := by
  refine pcall_intro Try.func213 rfl rfl (Nat.le_of_ble_eq_true rfl) ?_
  intro w0 Zi a w h
  rw [f213] at hF
  refine wp_reg_seq tok (orc := orcL []) (fz := []) (l := [2, 3]) (c := _) (.inr fun i h => h) h (by kernel_rfl) (AllP.nil) ?_
  intro a w h
  refine wp_seq ?_
  refine wp_reg_seq tok (orc := orcL []) (fz := []) (l := [2, 3, 9]) (c := _) (.inr fun i h => h) h (by kernel_rfl) (AllP.nil) ?_
  intro a w h
  refine wp_if h (b := ((x0.1 : Int) != x1.1)) (by kernel_rfl) (fun hb => ?_) (fun hb => ?_)
  · replace hF := of_t hb hF
    refine wp_reg_seq tok (orc := orcL []) (fz := []) (l := [4]) (c := _) (.inr fun i h => h) h (by kernel_rfl) (AllP.nil) ?_
    intro a w h
    cases hF
    exact wp_ret (ret_okR tok h rfl (by kernel_rfl)).1
  · replace hF := of_f hb hF
    refine wp_skip ?_
    refine wp_seq ?_
    obtain ⟨r1, hr4, hF⟩ := of_bind hF
    refine wp_reg_seq tok (orc := orcL [(14, [⟨.bool, r1⟩])]) (fz := []) (l := [2, 3, 15]) (c := _) (.inr fun i h => h) h (by kernel_rfl) (AllP.cons (c222 k x0.2.1 x1.2.1 r1 hr4) AllP.nil) ?_
    intro a w h
    refine wp_if h (b := (!r1)) (by kernel_rfl) (fun hb => ?_) (fun hb => ?_)
    · replace hF := of_t hb hF
      refine wp_reg_seq tok (orc := orcL []) (fz := []) (l := [4]) (c := _) (.inr fun i h => h) h (by kernel_rfl) (AllP.nil) ?_
      intro a w h
      cases hF
      exact wp_ret (ret_okR tok h rfl (by kernel_rfl)).1
    · replace hF := of_f hb hF
      refine wp_skip ?_
      refine wp_seq ?_
      obtain ⟨r2, hr3, hF⟩ := of_bind hF
      refine wp_reg_seq tok (orc := orcL [(20, [⟨.bool, r2⟩])]) (fz := []) (l := [21]) (c := _) (.inr fun i h => h) h (by kernel_rfl) (AllP.cons (c248 k x0.2.2 x1.2.2 r2 hr3) AllP.nil) ?_
      intro a w h
      refine wp_if h (b := (!r2)) (by kernel_rfl) (fun hb => ?_) (fun hb => ?_)
      · replace hF := of_t hb hF
        refine wp_reg_seq tok (orc := orcL []) (fz := []) (l := [4]) (c := _) (.inr fun i h => h) h (by kernel_rfl) (AllP.nil) ?_
        intro a w h
        cases hF
        exact wp_ret (ret_okR tok h rfl (by kernel_rfl)).1
      · replace hF := of_f hb hF
        refine wp_skip ?_
        refine wp_reg_seq tok (orc := orcL []) (fz := []) (l := [4]) (c := _) (.inr fun i h => h) h (by kernel_rfl) (AllP.nil) ?_
        intro a w h
        cases hF
        exact wp_ret (ret_okR tok h rfl (by kernel_rfl)).1

def f151.l30 (k : Nat) (x0 : (List (Int × ((Int × Int) × (List (ByteArray × ByteArray)))))) (x1 : (List (Int × ((Int × Int) × (List (ByteArray × ByteArray)))))) : Nat → Int → Option Bool
  | 0, _ => none
  | m30 + 1, v50 => if (decide ((v50 : Int) < (List.length x0 : Int))) then (if (0 ≤ v50 ∧ v50 < (List.length x0 : Int)) then (if (0 ≤ v50 ∧ v50 < (List.length x1 : Int)) then ((f213 k (List.getD x0 (Int.toNat v50) ((0 : Int), (((0 : Int), (0 : Int)), ([] : (List (ByteArray × ByteArray)))))) (List.getD x1 (Int.toNat v50) ((0 : Int), (((0 : Int), (0 : Int)), ([] : (List (ByteArray × ByteArray))))))).bind fun r55 => (if (!r55) then (some false) else ((f151.l30 k x0 x1) m30 (IntKind.i64.wrap (v50 + (1 : Int)))))) else none) else none) else (some true)
def f151 (k : Nat) (x0 : (List (Int × ((Int × Int) × (List (ByteArray × ByteArray)))))) (x1 : (List (Int × ((Int × Int) × (List (ByteArray × ByteArray)))))) : Option Bool := if (((List.length x0 : Int) : Int) != (List.length x1 : Int)) then (some false) else (f151.l30 k x0 x1 k (0 : Int))
set_option maxRecDepth 100000 in
/-- 'laws.eqNodeS'. -/
theorem c151 (k : Nat) (x0 : (List (Int × ((Int × Int) × (List (ByteArray × ByteArray)))))) (x1 : (List (Int × ((Int × Int) × (List (ByteArray × ByteArray)))))) (r : Bool) (hF : f151 k x0 x1 = some r) : PCall Try.prog 151 [⟨sh34, x0⟩, ⟨sh34, x1⟩] [⟨.bool, r⟩] := by
  refine pcall_intro Try.func151 rfl rfl (Nat.le_of_ble_eq_true rfl) ?_
  intro w0 Zi a w h
  rw [f151] at hF
  refine wp_reg_seq tok (orc := orcL []) (fz := []) (l := [0, 1]) (c := _) (.inr fun i h => h) h (by kernel_rfl) (AllP.nil) ?_
  intro a w h
  refine wp_seq ?_
  refine wp_reg_seq tok (orc := orcL []) (fz := []) (l := [0, 1, 10]) (c := _) (.inr fun i h => h) h (by kernel_rfl) (AllP.nil) ?_
  intro a w h
  refine wp_if h (b := (((List.length x0 : Int) : Int) != (List.length x1 : Int))) (by kernel_rfl) (fun hb => ?_) (fun hb => ?_)
  · replace hF := of_t hb hF
    refine wp_reg_seq tok (orc := orcL []) (fz := []) (l := [4]) (c := _) (.inr fun i h => h) h (by kernel_rfl) (AllP.nil) ?_
    intro a w h
    cases hF
    exact wp_ret (ret_okR tok h rfl (by kernel_rfl)).1
  · replace hF := of_f hb hF
    refine wp_skip ?_
    refine wp_seq ?_
    refine wp_reg_seq tok (orc := orcL []) (fz := []) (l := [0, 1, 5]) (c := _) (.inr fun i h => h) h (by kernel_rfl) (AllP.nil) ?_
    intro a w h
    refine wp_block ?_
    refine wp_loop_fuel (f151.l30 k x0 x1) (fun (v50 : Int) => [(0, .val sh34 x0), (1, .val sh34 x1), (5, .val (.int .i64) v50)]) (fun v h => by rw [f151.l30] at h; cases h) ?_ hF (h.arrive (fz := []) (l := [0, 1, 5]) (.inr fun i h => h) (by kernel_rfl))
    intro m30 v50 a w hF h
    rw [f151.l30] at hF
    refine wp_seq ?_
    refine wp_reg_seq tok (orc := orcL []) (fz := []) (l := [0, 1, 5, 14]) (c := _) (.inr fun i h => h) h (by kernel_rfl) (AllP.nil) ?_
    intro a w h
    refine wp_if h (b := (decide ((v50 : Int) < (List.length x0 : Int)))) (by kernel_rfl) (fun hb => ?_) (fun hb => ?_)
    · replace hF := of_t hb hF
      refine wp_skip ?_
      refine wp_seq <| wp_block ?_
      obtain ⟨hc56, hF⟩ := of_if hF
      obtain ⟨hc57, hF⟩ := of_if hF
      obtain ⟨r55, hr58, hF⟩ := of_bind hF
      refine wp_regy_seq tok (orc := orcL [(25, [⟨.bool, r55⟩])]) (fz := []) (l := [0, 1, 5, 26]) (c := _) ([], [], [], []) 10 (.inr fun i h => h) h (by kernel_rfl) (by kernel_rfl) (AllP.cons hc56 (AllP.cons hc57 (AllP.cons (c213 k (List.getD x0 (Int.toNat v50) ((0 : Int), (((0 : Int), (0 : Int)), ([] : (List (ByteArray × ByteArray)))))) (List.getD x1 (Int.toNat v50) ((0 : Int), (((0 : Int), (0 : Int)), ([] : (List (ByteArray × ByteArray)))))) r55 hr58) AllP.nil))) ?_
      intro a w h
      refine wp_if h (b := (!r55)) (by kernel_rfl) (fun hb => ?_) (fun hb => ?_)
      · replace hF := of_t hb hF
        refine wp_reg_seq tok (orc := orcL []) (fz := []) (l := [4]) (c := _) (.inr fun i h => h) h (by kernel_rfl) (AllP.nil) ?_
        intro a w h
        cases hF
        exact wp_ret (ret_okR tok h rfl (by kernel_rfl)).1
      · replace hF := of_f hb hF
        refine wp_skip ?_
        refine wp_reg tok (orc := orcL []) (fz := []) (l := [0, 1, 5]) (c := _) (.inr fun i h => h) h (by kernel_rfl) (AllP.nil) ?_
        intro a w h
        exact ⟨(IntKind.i64.wrap (v50 + (1 : Int))), hF, h.arrive (fz := []) (l := [0, 1, 5]) (.inr fun i h => h) (by kernel_rfl)⟩
    · replace hF := of_f hb hF
      refine wp_exit ?_
      refine wp_reg_seq tok (orc := orcL []) (fz := []) (l := [4]) (c := _) (.inr fun i h => h) h (by kernel_rfl) (AllP.nil) ?_
      intro a w h
      cases hF
      exact wp_ret (ret_okR tok h rfl (by kernel_rfl)).1

def f21.l18 (k : Nat) (x0 : (List Int)) (x1 : (List Int)) : Nat → Int → Option Bool
  | 0, _ => none
  | m18 + 1, v30 => if (decide ((v30 : Int) < (List.length x0 : Int))) then (if (0 ≤ v30 ∧ v30 < (List.length x0 : Int)) then (if (0 ≤ v30 ∧ v30 < (List.length x1 : Int)) then (if (((List.getD x0 (Int.toNat v30) (0 : Int)) : Int) != (List.getD x1 (Int.toNat v30) (0 : Int))) then (some false) else ((f21.l18 k x0 x1) m18 (IntKind.i64.wrap (v30 + (1 : Int))))) else none) else none) else (some true)
def f21 (k : Nat) (x0 : (List Int)) (x1 : (List Int)) : Option Bool := if (((List.length x0 : Int) : Int) != (List.length x1 : Int)) then (some false) else (f21.l18 k x0 x1 k (0 : Int))
set_option maxRecDepth 100000 in
/-- 'laws.eqInt64S'. -/
theorem c21 (k : Nat) (x0 : (List Int)) (x1 : (List Int)) (r : Bool) (hF : f21 k x0 x1 = some r) : PCall Try.prog 21 [⟨(.sl false 2 (.int .i64)), x0⟩, ⟨(.sl false 2 (.int .i64)), x1⟩] [⟨.bool, r⟩] := by
  refine pcall_intro Try.func21 rfl rfl (Nat.le_of_ble_eq_true rfl) ?_
  intro w0 Zi a w h
  rw [f21] at hF
  refine wp_reg_seq tok (orc := orcL []) (fz := []) (l := [0, 1]) (c := _) (.inr fun i h => h) h (by kernel_rfl) (AllP.nil) ?_
  intro a w h
  refine wp_seq ?_
  refine wp_reg_seq tok (orc := orcL []) (fz := []) (l := [0, 1, 10]) (c := _) (.inr fun i h => h) h (by kernel_rfl) (AllP.nil) ?_
  intro a w h
  refine wp_if h (b := (((List.length x0 : Int) : Int) != (List.length x1 : Int))) (by kernel_rfl) (fun hb => ?_) (fun hb => ?_)
  · replace hF := of_t hb hF
    refine wp_reg_seq tok (orc := orcL []) (fz := []) (l := [4]) (c := _) (.inr fun i h => h) h (by kernel_rfl) (AllP.nil) ?_
    intro a w h
    cases hF
    exact wp_ret (ret_okR tok h rfl (by kernel_rfl)).1
  · replace hF := of_f hb hF
    refine wp_skip ?_
    refine wp_seq ?_
    refine wp_reg_seq tok (orc := orcL []) (fz := []) (l := [0, 1, 5]) (c := _) (.inr fun i h => h) h (by kernel_rfl) (AllP.nil) ?_
    intro a w h
    refine wp_block ?_
    refine wp_loop_fuel (f21.l18 k x0 x1) (fun (v30 : Int) => [(0, .val (.sl false 2 (.int .i64)) x0), (1, .val (.sl false 2 (.int .i64)) x1), (5, .val (.int .i64) v30)]) (fun v h => by rw [f21.l18] at h; cases h) ?_ hF (h.arrive (fz := []) (l := [0, 1, 5]) (.inr fun i h => h) (by kernel_rfl))
    intro m18 v30 a w hF h
    rw [f21.l18] at hF
    refine wp_seq ?_
    refine wp_reg_seq tok (orc := orcL []) (fz := []) (l := [0, 1, 5, 14]) (c := _) (.inr fun i h => h) h (by kernel_rfl) (AllP.nil) ?_
    intro a w h
    refine wp_if h (b := (decide ((v30 : Int) < (List.length x0 : Int)))) (by kernel_rfl) (fun hb => ?_) (fun hb => ?_)
    · replace hF := of_t hb hF
      refine wp_skip ?_
      refine wp_seq <| wp_block ?_
      obtain ⟨hc33, hF⟩ := of_if hF
      obtain ⟨hc34, hF⟩ := of_if hF
      refine wp_regy_seq tok (orc := orcL []) (fz := []) (l := [0, 1, 5, 25]) (c := _) ([], [], [], []) 9 (.inr fun i h => h) h (by kernel_rfl) (by kernel_rfl) (AllP.cons hc33 (AllP.cons hc34 AllP.nil)) ?_
      intro a w h
      refine wp_if h (b := (((List.getD x0 (Int.toNat v30) (0 : Int)) : Int) != (List.getD x1 (Int.toNat v30) (0 : Int)))) (by kernel_rfl) (fun hb => ?_) (fun hb => ?_)
      · replace hF := of_t hb hF
        refine wp_reg_seq tok (orc := orcL []) (fz := []) (l := [4]) (c := _) (.inr fun i h => h) h (by kernel_rfl) (AllP.nil) ?_
        intro a w h
        cases hF
        exact wp_ret (ret_okR tok h rfl (by kernel_rfl)).1
      · replace hF := of_f hb hF
        refine wp_skip ?_
        refine wp_reg tok (orc := orcL []) (fz := []) (l := [0, 1, 5]) (c := _) (.inr fun i h => h) h (by kernel_rfl) (AllP.nil) ?_
        intro a w h
        exact ⟨(IntKind.i64.wrap (v30 + (1 : Int))), hF, h.arrive (fz := []) (l := [0, 1, 5]) (.inr fun i h => h) (by kernel_rfl)⟩
    · replace hF := of_f hb hF
      refine wp_exit ?_
      refine wp_reg_seq tok (orc := orcL []) (fz := []) (l := [4]) (c := _) (.inr fun i h => h) h (by kernel_rfl) (AllP.nil) ?_
      intro a w h
      cases hF
      exact wp_ret (ret_okR tok h rfl (by kernel_rfl)).1

def f214 (k : Nat) (x0 : (Int × ((List Int) × (List (ByteArray × ByteArray))))) (x1 : (Int × ((List Int) × (List (ByteArray × ByteArray))))) : Option Bool := if ((x0.1 : Int) != x1.1) then (some false) else ((f21 k x0.2.1 x1.2.1).bind fun r1 => (if (!r1) then (some false) else ((f248 k x0.2.2 x1.2.2).bind fun r2 => (if (!r2) then (some false) else (some true)))))
set_option maxRecDepth 100000 in
/-- 'laws.eqWay'. -/
theorem c214 (k : Nat) (x0 : (Int × ((List Int) × (List (ByteArray × ByteArray))))) (x1 : (Int × ((List Int) × (List (ByteArray × ByteArray))))) (r : Bool) (hF : f214 k x0 x1 = some r) : PCall Try.prog 214 [⟨sh24, x0⟩, ⟨sh24, x1⟩] [⟨.bool, r⟩] := by
  refine pcall_intro Try.func214 rfl rfl (Nat.le_of_ble_eq_true rfl) ?_
  intro w0 Zi a w h
  rw [f214] at hF
  refine wp_reg_seq tok (orc := orcL []) (fz := []) (l := [2, 3]) (c := _) (.inr fun i h => h) h (by kernel_rfl) (AllP.nil) ?_
  intro a w h
  refine wp_seq ?_
  refine wp_reg_seq tok (orc := orcL []) (fz := []) (l := [2, 3, 9]) (c := _) (.inr fun i h => h) h (by kernel_rfl) (AllP.nil) ?_
  intro a w h
  refine wp_if h (b := ((x0.1 : Int) != x1.1)) (by kernel_rfl) (fun hb => ?_) (fun hb => ?_)
  · replace hF := of_t hb hF
    refine wp_reg_seq tok (orc := orcL []) (fz := []) (l := [4]) (c := _) (.inr fun i h => h) h (by kernel_rfl) (AllP.nil) ?_
    intro a w h
    cases hF
    exact wp_ret (ret_okR tok h rfl (by kernel_rfl)).1
  · replace hF := of_f hb hF
    refine wp_skip ?_
    refine wp_seq ?_
    obtain ⟨r1, hr4, hF⟩ := of_bind hF
    refine wp_reg_seq tok (orc := orcL [(14, [⟨.bool, r1⟩])]) (fz := []) (l := [2, 3, 15]) (c := _) (.inr fun i h => h) h (by kernel_rfl) (AllP.cons (c21 k x0.2.1 x1.2.1 r1 hr4) AllP.nil) ?_
    intro a w h
    refine wp_if h (b := (!r1)) (by kernel_rfl) (fun hb => ?_) (fun hb => ?_)
    · replace hF := of_t hb hF
      refine wp_reg_seq tok (orc := orcL []) (fz := []) (l := [4]) (c := _) (.inr fun i h => h) h (by kernel_rfl) (AllP.nil) ?_
      intro a w h
      cases hF
      exact wp_ret (ret_okR tok h rfl (by kernel_rfl)).1
    · replace hF := of_f hb hF
      refine wp_skip ?_
      refine wp_seq ?_
      obtain ⟨r2, hr3, hF⟩ := of_bind hF
      refine wp_reg_seq tok (orc := orcL [(20, [⟨.bool, r2⟩])]) (fz := []) (l := [21]) (c := _) (.inr fun i h => h) h (by kernel_rfl) (AllP.cons (c248 k x0.2.2 x1.2.2 r2 hr3) AllP.nil) ?_
      intro a w h
      refine wp_if h (b := (!r2)) (by kernel_rfl) (fun hb => ?_) (fun hb => ?_)
      · replace hF := of_t hb hF
        refine wp_reg_seq tok (orc := orcL []) (fz := []) (l := [4]) (c := _) (.inr fun i h => h) h (by kernel_rfl) (AllP.nil) ?_
        intro a w h
        cases hF
        exact wp_ret (ret_okR tok h rfl (by kernel_rfl)).1
      · replace hF := of_f hb hF
        refine wp_skip ?_
        refine wp_reg_seq tok (orc := orcL []) (fz := []) (l := [4]) (c := _) (.inr fun i h => h) h (by kernel_rfl) (AllP.nil) ?_
        intro a w h
        cases hF
        exact wp_ret (ret_okR tok h rfl (by kernel_rfl)).1

def f152.l30 (k : Nat) (x0 : (List (Int × ((List Int) × (List (ByteArray × ByteArray)))))) (x1 : (List (Int × ((List Int) × (List (ByteArray × ByteArray)))))) : Nat → Int → Option Bool
  | 0, _ => none
  | m30 + 1, v50 => if (decide ((v50 : Int) < (List.length x0 : Int))) then (if (0 ≤ v50 ∧ v50 < (List.length x0 : Int)) then (if (0 ≤ v50 ∧ v50 < (List.length x1 : Int)) then ((f214 k (List.getD x0 (Int.toNat v50) ((0 : Int), (([] : (List Int)), ([] : (List (ByteArray × ByteArray)))))) (List.getD x1 (Int.toNat v50) ((0 : Int), (([] : (List Int)), ([] : (List (ByteArray × ByteArray))))))).bind fun r55 => (if (!r55) then (some false) else ((f152.l30 k x0 x1) m30 (IntKind.i64.wrap (v50 + (1 : Int)))))) else none) else none) else (some true)
def f152 (k : Nat) (x0 : (List (Int × ((List Int) × (List (ByteArray × ByteArray)))))) (x1 : (List (Int × ((List Int) × (List (ByteArray × ByteArray)))))) : Option Bool := if (((List.length x0 : Int) : Int) != (List.length x1 : Int)) then (some false) else (f152.l30 k x0 x1 k (0 : Int))
set_option maxRecDepth 100000 in
/-- 'laws.eqWayS'. -/
theorem c152 (k : Nat) (x0 : (List (Int × ((List Int) × (List (ByteArray × ByteArray)))))) (x1 : (List (Int × ((List Int) × (List (ByteArray × ByteArray)))))) (r : Bool) (hF : f152 k x0 x1 = some r) : PCall Try.prog 152 [⟨sh35, x0⟩, ⟨sh35, x1⟩] [⟨.bool, r⟩] := by
  refine pcall_intro Try.func152 rfl rfl (Nat.le_of_ble_eq_true rfl) ?_
  intro w0 Zi a w h
  rw [f152] at hF
  refine wp_reg_seq tok (orc := orcL []) (fz := []) (l := [0, 1]) (c := _) (.inr fun i h => h) h (by kernel_rfl) (AllP.nil) ?_
  intro a w h
  refine wp_seq ?_
  refine wp_reg_seq tok (orc := orcL []) (fz := []) (l := [0, 1, 10]) (c := _) (.inr fun i h => h) h (by kernel_rfl) (AllP.nil) ?_
  intro a w h
  refine wp_if h (b := (((List.length x0 : Int) : Int) != (List.length x1 : Int))) (by kernel_rfl) (fun hb => ?_) (fun hb => ?_)
  · replace hF := of_t hb hF
    refine wp_reg_seq tok (orc := orcL []) (fz := []) (l := [4]) (c := _) (.inr fun i h => h) h (by kernel_rfl) (AllP.nil) ?_
    intro a w h
    cases hF
    exact wp_ret (ret_okR tok h rfl (by kernel_rfl)).1
  · replace hF := of_f hb hF
    refine wp_skip ?_
    refine wp_seq ?_
    refine wp_reg_seq tok (orc := orcL []) (fz := []) (l := [0, 1, 5]) (c := _) (.inr fun i h => h) h (by kernel_rfl) (AllP.nil) ?_
    intro a w h
    refine wp_block ?_
    refine wp_loop_fuel (f152.l30 k x0 x1) (fun (v50 : Int) => [(0, .val sh35 x0), (1, .val sh35 x1), (5, .val (.int .i64) v50)]) (fun v h => by rw [f152.l30] at h; cases h) ?_ hF (h.arrive (fz := []) (l := [0, 1, 5]) (.inr fun i h => h) (by kernel_rfl))
    intro m30 v50 a w hF h
    rw [f152.l30] at hF
    refine wp_seq ?_
    refine wp_reg_seq tok (orc := orcL []) (fz := []) (l := [0, 1, 5, 14]) (c := _) (.inr fun i h => h) h (by kernel_rfl) (AllP.nil) ?_
    intro a w h
    refine wp_if h (b := (decide ((v50 : Int) < (List.length x0 : Int)))) (by kernel_rfl) (fun hb => ?_) (fun hb => ?_)
    · replace hF := of_t hb hF
      refine wp_skip ?_
      refine wp_seq <| wp_block ?_
      obtain ⟨hc56, hF⟩ := of_if hF
      obtain ⟨hc57, hF⟩ := of_if hF
      obtain ⟨r55, hr58, hF⟩ := of_bind hF
      refine wp_regy_seq tok (orc := orcL [(25, [⟨.bool, r55⟩])]) (fz := []) (l := [0, 1, 5, 26]) (c := _) ([], [], [], []) 10 (.inr fun i h => h) h (by kernel_rfl) (by kernel_rfl) (AllP.cons hc56 (AllP.cons hc57 (AllP.cons (c214 k (List.getD x0 (Int.toNat v50) ((0 : Int), (([] : (List Int)), ([] : (List (ByteArray × ByteArray)))))) (List.getD x1 (Int.toNat v50) ((0 : Int), (([] : (List Int)), ([] : (List (ByteArray × ByteArray)))))) r55 hr58) AllP.nil))) ?_
      intro a w h
      refine wp_if h (b := (!r55)) (by kernel_rfl) (fun hb => ?_) (fun hb => ?_)
      · replace hF := of_t hb hF
        refine wp_reg_seq tok (orc := orcL []) (fz := []) (l := [4]) (c := _) (.inr fun i h => h) h (by kernel_rfl) (AllP.nil) ?_
        intro a w h
        cases hF
        exact wp_ret (ret_okR tok h rfl (by kernel_rfl)).1
      · replace hF := of_f hb hF
        refine wp_skip ?_
        refine wp_reg tok (orc := orcL []) (fz := []) (l := [0, 1, 5]) (c := _) (.inr fun i h => h) h (by kernel_rfl) (AllP.nil) ?_
        intro a w h
        exact ⟨(IntKind.i64.wrap (v50 + (1 : Int))), hF, h.arrive (fz := []) (l := [0, 1, 5]) (.inr fun i h => h) (by kernel_rfl)⟩
    · replace hF := of_f hb hF
      refine wp_exit ?_
      refine wp_reg_seq tok (orc := orcL []) (fz := []) (l := [4]) (c := _) (.inr fun i h => h) h (by kernel_rfl) (AllP.nil) ?_
      intro a w h
      cases hF
      exact wp_ret (ret_okR tok h rfl (by kernel_rfl)).1

def f267 (k : Nat) (x0 : (Int × Bool)) (x1 : (Int × Bool)) : Option Bool := if ((x0.1 : Int) != x1.1) then (some false) else (if (!((x0.2 : Bool) == x1.2)) then (some false) else (some true))
set_option maxRecDepth 100000 in
/-- 'laws.eqPart'. -/
theorem c267 (k : Nat) (x0 : (Int × Bool)) (x1 : (Int × Bool)) (r : Bool) (hF : f267 k x0 x1 = some r) : PCall Try.prog 267 [⟨sh15, x0⟩, ⟨sh15, x1⟩] [⟨.bool, r⟩] := by
  refine pcall_intro Try.func267 rfl rfl (Nat.le_of_ble_eq_true rfl) ?_
  intro w0 Zi a w h
  rw [f267] at hF
  refine wp_reg_seq tok (orc := orcL []) (fz := []) (l := [2, 3]) (c := _) (.inr fun i h => h) h (by kernel_rfl) (AllP.nil) ?_
  intro a w h
  refine wp_seq ?_
  refine wp_reg_seq tok (orc := orcL []) (fz := []) (l := [2, 3, 9]) (c := _) (.inr fun i h => h) h (by kernel_rfl) (AllP.nil) ?_
  intro a w h
  refine wp_if h (b := ((x0.1 : Int) != x1.1)) (by kernel_rfl) (fun hb => ?_) (fun hb => ?_)
  · replace hF := of_t hb hF
    refine wp_reg_seq tok (orc := orcL []) (fz := []) (l := [4]) (c := _) (.inr fun i h => h) h (by kernel_rfl) (AllP.nil) ?_
    intro a w h
    cases hF
    exact wp_ret (ret_okR tok h rfl (by kernel_rfl)).1
  · replace hF := of_f hb hF
    refine wp_skip ?_
    refine wp_seq ?_
    refine wp_reg_seq tok (orc := orcL []) (fz := []) (l := [14]) (c := _) (.inr fun i h => h) h (by kernel_rfl) (AllP.nil) ?_
    intro a w h
    refine wp_if h (b := (!((x0.2 : Bool) == x1.2))) (by kernel_rfl) (fun hb => ?_) (fun hb => ?_)
    · replace hF := of_t hb hF
      refine wp_reg_seq tok (orc := orcL []) (fz := []) (l := [4]) (c := _) (.inr fun i h => h) h (by kernel_rfl) (AllP.nil) ?_
      intro a w h
      cases hF
      exact wp_ret (ret_okR tok h rfl (by kernel_rfl)).1
    · replace hF := of_f hb hF
      refine wp_skip ?_
      refine wp_reg_seq tok (orc := orcL []) (fz := []) (l := [4]) (c := _) (.inr fun i h => h) h (by kernel_rfl) (AllP.nil) ?_
      intro a w h
      cases hF
      exact wp_ret (ret_okR tok h rfl (by kernel_rfl)).1

def f249.l30 (k : Nat) (x0 : (List (Int × Bool))) (x1 : (List (Int × Bool))) : Nat → Int → Option Bool
  | 0, _ => none
  | m30 + 1, v50 => if (decide ((v50 : Int) < (List.length x0 : Int))) then (if (0 ≤ v50 ∧ v50 < (List.length x0 : Int)) then (if (0 ≤ v50 ∧ v50 < (List.length x1 : Int)) then ((f267 k (List.getD x0 (Int.toNat v50) ((0 : Int), false)) (List.getD x1 (Int.toNat v50) ((0 : Int), false))).bind fun r55 => (if (!r55) then (some false) else ((f249.l30 k x0 x1) m30 (IntKind.i64.wrap (v50 + (1 : Int)))))) else none) else none) else (some true)
def f249 (k : Nat) (x0 : (List (Int × Bool))) (x1 : (List (Int × Bool))) : Option Bool := if (((List.length x0 : Int) : Int) != (List.length x1 : Int)) then (some false) else (f249.l30 k x0 x1 k (0 : Int))
set_option maxRecDepth 100000 in
/-- 'laws.eqPartS'. -/
theorem c249 (k : Nat) (x0 : (List (Int × Bool))) (x1 : (List (Int × Bool))) (r : Bool) (hF : f249 k x0 x1 = some r) : PCall Try.prog 249 [⟨sh37, x0⟩, ⟨sh37, x1⟩] [⟨.bool, r⟩] := by
  refine pcall_intro Try.func249 rfl rfl (Nat.le_of_ble_eq_true rfl) ?_
  intro w0 Zi a w h
  rw [f249] at hF
  refine wp_reg_seq tok (orc := orcL []) (fz := []) (l := [0, 1]) (c := _) (.inr fun i h => h) h (by kernel_rfl) (AllP.nil) ?_
  intro a w h
  refine wp_seq ?_
  refine wp_reg_seq tok (orc := orcL []) (fz := []) (l := [0, 1, 10]) (c := _) (.inr fun i h => h) h (by kernel_rfl) (AllP.nil) ?_
  intro a w h
  refine wp_if h (b := (((List.length x0 : Int) : Int) != (List.length x1 : Int))) (by kernel_rfl) (fun hb => ?_) (fun hb => ?_)
  · replace hF := of_t hb hF
    refine wp_reg_seq tok (orc := orcL []) (fz := []) (l := [4]) (c := _) (.inr fun i h => h) h (by kernel_rfl) (AllP.nil) ?_
    intro a w h
    cases hF
    exact wp_ret (ret_okR tok h rfl (by kernel_rfl)).1
  · replace hF := of_f hb hF
    refine wp_skip ?_
    refine wp_seq ?_
    refine wp_reg_seq tok (orc := orcL []) (fz := []) (l := [0, 1, 5]) (c := _) (.inr fun i h => h) h (by kernel_rfl) (AllP.nil) ?_
    intro a w h
    refine wp_block ?_
    refine wp_loop_fuel (f249.l30 k x0 x1) (fun (v50 : Int) => [(0, .val sh37 x0), (1, .val sh37 x1), (5, .val (.int .i64) v50)]) (fun v h => by rw [f249.l30] at h; cases h) ?_ hF (h.arrive (fz := []) (l := [0, 1, 5]) (.inr fun i h => h) (by kernel_rfl))
    intro m30 v50 a w hF h
    rw [f249.l30] at hF
    refine wp_seq ?_
    refine wp_reg_seq tok (orc := orcL []) (fz := []) (l := [0, 1, 5, 14]) (c := _) (.inr fun i h => h) h (by kernel_rfl) (AllP.nil) ?_
    intro a w h
    refine wp_if h (b := (decide ((v50 : Int) < (List.length x0 : Int)))) (by kernel_rfl) (fun hb => ?_) (fun hb => ?_)
    · replace hF := of_t hb hF
      refine wp_skip ?_
      refine wp_seq <| wp_block ?_
      obtain ⟨hc56, hF⟩ := of_if hF
      obtain ⟨hc57, hF⟩ := of_if hF
      obtain ⟨r55, hr58, hF⟩ := of_bind hF
      refine wp_regy_seq tok (orc := orcL [(25, [⟨.bool, r55⟩])]) (fz := []) (l := [0, 1, 5, 26]) (c := _) ([], [], [], []) 10 (.inr fun i h => h) h (by kernel_rfl) (by kernel_rfl) (AllP.cons hc56 (AllP.cons hc57 (AllP.cons (c267 k (List.getD x0 (Int.toNat v50) ((0 : Int), false)) (List.getD x1 (Int.toNat v50) ((0 : Int), false)) r55 hr58) AllP.nil))) ?_
      intro a w h
      refine wp_if h (b := (!r55)) (by kernel_rfl) (fun hb => ?_) (fun hb => ?_)
      · replace hF := of_t hb hF
        refine wp_reg_seq tok (orc := orcL []) (fz := []) (l := [4]) (c := _) (.inr fun i h => h) h (by kernel_rfl) (AllP.nil) ?_
        intro a w h
        cases hF
        exact wp_ret (ret_okR tok h rfl (by kernel_rfl)).1
      · replace hF := of_f hb hF
        refine wp_skip ?_
        refine wp_reg tok (orc := orcL []) (fz := []) (l := [0, 1, 5]) (c := _) (.inr fun i h => h) h (by kernel_rfl) (AllP.nil) ?_
        intro a w h
        exact ⟨(IntKind.i64.wrap (v50 + (1 : Int))), hF, h.arrive (fz := []) (l := [0, 1, 5]) (.inr fun i h => h) (by kernel_rfl)⟩
    · replace hF := of_f hb hF
      refine wp_exit ?_
      refine wp_reg_seq tok (orc := orcL []) (fz := []) (l := [4]) (c := _) (.inr fun i h => h) h (by kernel_rfl) (AllP.nil) ?_
      intro a w h
      cases hF
      exact wp_ret (ret_okR tok h rfl (by kernel_rfl)).1

def f215 (k : Nat) (x0 : (Int × ((List (Int × Bool)) × (List (ByteArray × ByteArray))))) (x1 : (Int × ((List (Int × Bool)) × (List (ByteArray × ByteArray))))) : Option Bool := if ((x0.1 : Int) != x1.1) then (some false) else ((f249 k x0.2.1 x1.2.1).bind fun r1 => (if (!r1) then (some false) else ((f248 k x0.2.2 x1.2.2).bind fun r2 => (if (!r2) then (some false) else (some true)))))
set_option maxRecDepth 100000 in
/-- 'laws.eqArea'. -/
theorem c215 (k : Nat) (x0 : (Int × ((List (Int × Bool)) × (List (ByteArray × ByteArray))))) (x1 : (Int × ((List (Int × Bool)) × (List (ByteArray × ByteArray))))) (r : Bool) (hF : f215 k x0 x1 = some r) : PCall Try.prog 215 [⟨sh26, x0⟩, ⟨sh26, x1⟩] [⟨.bool, r⟩] := by
  refine pcall_intro Try.func215 rfl rfl (Nat.le_of_ble_eq_true rfl) ?_
  intro w0 Zi a w h
  rw [f215] at hF
  refine wp_reg_seq tok (orc := orcL []) (fz := []) (l := [2, 3]) (c := _) (.inr fun i h => h) h (by kernel_rfl) (AllP.nil) ?_
  intro a w h
  refine wp_seq ?_
  refine wp_reg_seq tok (orc := orcL []) (fz := []) (l := [2, 3, 9]) (c := _) (.inr fun i h => h) h (by kernel_rfl) (AllP.nil) ?_
  intro a w h
  refine wp_if h (b := ((x0.1 : Int) != x1.1)) (by kernel_rfl) (fun hb => ?_) (fun hb => ?_)
  · replace hF := of_t hb hF
    refine wp_reg_seq tok (orc := orcL []) (fz := []) (l := [4]) (c := _) (.inr fun i h => h) h (by kernel_rfl) (AllP.nil) ?_
    intro a w h
    cases hF
    exact wp_ret (ret_okR tok h rfl (by kernel_rfl)).1
  · replace hF := of_f hb hF
    refine wp_skip ?_
    refine wp_seq ?_
    obtain ⟨r1, hr4, hF⟩ := of_bind hF
    refine wp_reg_seq tok (orc := orcL [(14, [⟨.bool, r1⟩])]) (fz := []) (l := [2, 3, 15]) (c := _) (.inr fun i h => h) h (by kernel_rfl) (AllP.cons (c249 k x0.2.1 x1.2.1 r1 hr4) AllP.nil) ?_
    intro a w h
    refine wp_if h (b := (!r1)) (by kernel_rfl) (fun hb => ?_) (fun hb => ?_)
    · replace hF := of_t hb hF
      refine wp_reg_seq tok (orc := orcL []) (fz := []) (l := [4]) (c := _) (.inr fun i h => h) h (by kernel_rfl) (AllP.nil) ?_
      intro a w h
      cases hF
      exact wp_ret (ret_okR tok h rfl (by kernel_rfl)).1
    · replace hF := of_f hb hF
      refine wp_skip ?_
      refine wp_seq ?_
      obtain ⟨r2, hr3, hF⟩ := of_bind hF
      refine wp_reg_seq tok (orc := orcL [(20, [⟨.bool, r2⟩])]) (fz := []) (l := [21]) (c := _) (.inr fun i h => h) h (by kernel_rfl) (AllP.cons (c248 k x0.2.2 x1.2.2 r2 hr3) AllP.nil) ?_
      intro a w h
      refine wp_if h (b := (!r2)) (by kernel_rfl) (fun hb => ?_) (fun hb => ?_)
      · replace hF := of_t hb hF
        refine wp_reg_seq tok (orc := orcL []) (fz := []) (l := [4]) (c := _) (.inr fun i h => h) h (by kernel_rfl) (AllP.nil) ?_
        intro a w h
        cases hF
        exact wp_ret (ret_okR tok h rfl (by kernel_rfl)).1
      · replace hF := of_f hb hF
        refine wp_skip ?_
        refine wp_reg_seq tok (orc := orcL []) (fz := []) (l := [4]) (c := _) (.inr fun i h => h) h (by kernel_rfl) (AllP.nil) ?_
        intro a w h
        cases hF
        exact wp_ret (ret_okR tok h rfl (by kernel_rfl)).1

def f153.l30 (k : Nat) (x0 : (List (Int × ((List (Int × Bool)) × (List (ByteArray × ByteArray)))))) (x1 : (List (Int × ((List (Int × Bool)) × (List (ByteArray × ByteArray)))))) : Nat → Int → Option Bool
  | 0, _ => none
  | m30 + 1, v50 => if (decide ((v50 : Int) < (List.length x0 : Int))) then (if (0 ≤ v50 ∧ v50 < (List.length x0 : Int)) then (if (0 ≤ v50 ∧ v50 < (List.length x1 : Int)) then ((f215 k (List.getD x0 (Int.toNat v50) ((0 : Int), (([] : (List (Int × Bool))), ([] : (List (ByteArray × ByteArray)))))) (List.getD x1 (Int.toNat v50) ((0 : Int), (([] : (List (Int × Bool))), ([] : (List (ByteArray × ByteArray))))))).bind fun r55 => (if (!r55) then (some false) else ((f153.l30 k x0 x1) m30 (IntKind.i64.wrap (v50 + (1 : Int)))))) else none) else none) else (some true)
def f153 (k : Nat) (x0 : (List (Int × ((List (Int × Bool)) × (List (ByteArray × ByteArray)))))) (x1 : (List (Int × ((List (Int × Bool)) × (List (ByteArray × ByteArray)))))) : Option Bool := if (((List.length x0 : Int) : Int) != (List.length x1 : Int)) then (some false) else (f153.l30 k x0 x1 k (0 : Int))
set_option maxRecDepth 100000 in
/-- 'laws.eqAreaS'. -/
theorem c153 (k : Nat) (x0 : (List (Int × ((List (Int × Bool)) × (List (ByteArray × ByteArray)))))) (x1 : (List (Int × ((List (Int × Bool)) × (List (ByteArray × ByteArray)))))) (r : Bool) (hF : f153 k x0 x1 = some r) : PCall Try.prog 153 [⟨sh36, x0⟩, ⟨sh36, x1⟩] [⟨.bool, r⟩] := by
  refine pcall_intro Try.func153 rfl rfl (Nat.le_of_ble_eq_true rfl) ?_
  intro w0 Zi a w h
  rw [f153] at hF
  refine wp_reg_seq tok (orc := orcL []) (fz := []) (l := [0, 1]) (c := _) (.inr fun i h => h) h (by kernel_rfl) (AllP.nil) ?_
  intro a w h
  refine wp_seq ?_
  refine wp_reg_seq tok (orc := orcL []) (fz := []) (l := [0, 1, 10]) (c := _) (.inr fun i h => h) h (by kernel_rfl) (AllP.nil) ?_
  intro a w h
  refine wp_if h (b := (((List.length x0 : Int) : Int) != (List.length x1 : Int))) (by kernel_rfl) (fun hb => ?_) (fun hb => ?_)
  · replace hF := of_t hb hF
    refine wp_reg_seq tok (orc := orcL []) (fz := []) (l := [4]) (c := _) (.inr fun i h => h) h (by kernel_rfl) (AllP.nil) ?_
    intro a w h
    cases hF
    exact wp_ret (ret_okR tok h rfl (by kernel_rfl)).1
  · replace hF := of_f hb hF
    refine wp_skip ?_
    refine wp_seq ?_
    refine wp_reg_seq tok (orc := orcL []) (fz := []) (l := [0, 1, 5]) (c := _) (.inr fun i h => h) h (by kernel_rfl) (AllP.nil) ?_
    intro a w h
    refine wp_block ?_
    refine wp_loop_fuel (f153.l30 k x0 x1) (fun (v50 : Int) => [(0, .val sh36 x0), (1, .val sh36 x1), (5, .val (.int .i64) v50)]) (fun v h => by rw [f153.l30] at h; cases h) ?_ hF (h.arrive (fz := []) (l := [0, 1, 5]) (.inr fun i h => h) (by kernel_rfl))
    intro m30 v50 a w hF h
    rw [f153.l30] at hF
    refine wp_seq ?_
    refine wp_reg_seq tok (orc := orcL []) (fz := []) (l := [0, 1, 5, 14]) (c := _) (.inr fun i h => h) h (by kernel_rfl) (AllP.nil) ?_
    intro a w h
    refine wp_if h (b := (decide ((v50 : Int) < (List.length x0 : Int)))) (by kernel_rfl) (fun hb => ?_) (fun hb => ?_)
    · replace hF := of_t hb hF
      refine wp_skip ?_
      refine wp_seq <| wp_block ?_
      obtain ⟨hc56, hF⟩ := of_if hF
      obtain ⟨hc57, hF⟩ := of_if hF
      obtain ⟨r55, hr58, hF⟩ := of_bind hF
      refine wp_regy_seq tok (orc := orcL [(25, [⟨.bool, r55⟩])]) (fz := []) (l := [0, 1, 5, 26]) (c := _) ([], [], [], []) 10 (.inr fun i h => h) h (by kernel_rfl) (by kernel_rfl) (AllP.cons hc56 (AllP.cons hc57 (AllP.cons (c215 k (List.getD x0 (Int.toNat v50) ((0 : Int), (([] : (List (Int × Bool))), ([] : (List (ByteArray × ByteArray)))))) (List.getD x1 (Int.toNat v50) ((0 : Int), (([] : (List (Int × Bool))), ([] : (List (ByteArray × ByteArray)))))) r55 hr58) AllP.nil))) ?_
      intro a w h
      refine wp_if h (b := (!r55)) (by kernel_rfl) (fun hb => ?_) (fun hb => ?_)
      · replace hF := of_t hb hF
        refine wp_reg_seq tok (orc := orcL []) (fz := []) (l := [4]) (c := _) (.inr fun i h => h) h (by kernel_rfl) (AllP.nil) ?_
        intro a w h
        cases hF
        exact wp_ret (ret_okR tok h rfl (by kernel_rfl)).1
      · replace hF := of_f hb hF
        refine wp_skip ?_
        refine wp_reg tok (orc := orcL []) (fz := []) (l := [0, 1, 5]) (c := _) (.inr fun i h => h) h (by kernel_rfl) (AllP.nil) ?_
        intro a w h
        exact ⟨(IntKind.i64.wrap (v50 + (1 : Int))), hF, h.arrive (fz := []) (l := [0, 1, 5]) (.inr fun i h => h) (by kernel_rfl)⟩
    · replace hF := of_f hb hF
      refine wp_exit ?_
      refine wp_reg_seq tok (orc := orcL []) (fz := []) (l := [4]) (c := _) (.inr fun i h => h) h (by kernel_rfl) (AllP.nil) ?_
      intro a w h
      cases hF
      exact wp_ret (ret_okR tok h rfl (by kernel_rfl)).1

def f65 (k : Nat) (x0 : ((List (Int × ((Int × Int) × (List (ByteArray × ByteArray))))) × ((List (Int × ((List Int) × (List (ByteArray × ByteArray))))) × (List (Int × ((List (Int × Bool)) × (List (ByteArray × ByteArray)))))))) (x1 : ((List (Int × ((Int × Int) × (List (ByteArray × ByteArray))))) × ((List (Int × ((List Int) × (List (ByteArray × ByteArray))))) × (List (Int × ((List (Int × Bool)) × (List (ByteArray × ByteArray)))))))) : Option Bool := (f151 k x0.1 x1.1).bind fun r1 => (if (!r1) then (some false) else ((f152 k x0.2.1 x1.2.1).bind fun r2 => (if (!r2) then (some false) else ((f153 k x0.2.2 x1.2.2).bind fun r3 => (if (!r3) then (some false) else (some true))))))
set_option maxRecDepth 100000 in
/-- 'laws.eqMap'. -/
theorem c65 (k : Nat) (x0 : ((List (Int × ((Int × Int) × (List (ByteArray × ByteArray))))) × ((List (Int × ((List Int) × (List (ByteArray × ByteArray))))) × (List (Int × ((List (Int × Bool)) × (List (ByteArray × ByteArray)))))))) (x1 : ((List (Int × ((Int × Int) × (List (ByteArray × ByteArray))))) × ((List (Int × ((List Int) × (List (ByteArray × ByteArray))))) × (List (Int × ((List (Int × Bool)) × (List (ByteArray × ByteArray)))))))) (r : Bool) (hF : f65 k x0 x1 = some r) : PCall Try.prog 65 [⟨sh22, x0⟩, ⟨sh22, x1⟩] [⟨.bool, r⟩] := by
  refine pcall_intro Try.func65 rfl rfl (Nat.le_of_ble_eq_true rfl) ?_
  intro w0 Zi a w h
  rw [f65] at hF
  refine wp_reg_seq tok (orc := orcL []) (fz := []) (l := [2, 3]) (c := _) (.inr fun i h => h) h (by kernel_rfl) (AllP.nil) ?_
  intro a w h
  refine wp_seq ?_
  obtain ⟨r1, hr6, hF⟩ := of_bind hF
  refine wp_reg_seq tok (orc := orcL [(9, [⟨.bool, r1⟩])]) (fz := []) (l := [2, 3, 10]) (c := _) (.inr fun i h => h) h (by kernel_rfl) (AllP.cons (c151 k x0.1 x1.1 r1 hr6) AllP.nil) ?_
  intro a w h
  refine wp_if h (b := (!r1)) (by kernel_rfl) (fun hb => ?_) (fun hb => ?_)
  · replace hF := of_t hb hF
    refine wp_reg_seq tok (orc := orcL []) (fz := []) (l := [4]) (c := _) (.inr fun i h => h) h (by kernel_rfl) (AllP.nil) ?_
    intro a w h
    cases hF
    exact wp_ret (ret_okR tok h rfl (by kernel_rfl)).1
  · replace hF := of_f hb hF
    refine wp_skip ?_
    refine wp_seq ?_
    obtain ⟨r2, hr5, hF⟩ := of_bind hF
    refine wp_reg_seq tok (orc := orcL [(15, [⟨.bool, r2⟩])]) (fz := []) (l := [2, 3, 16]) (c := _) (.inr fun i h => h) h (by kernel_rfl) (AllP.cons (c152 k x0.2.1 x1.2.1 r2 hr5) AllP.nil) ?_
    intro a w h
    refine wp_if h (b := (!r2)) (by kernel_rfl) (fun hb => ?_) (fun hb => ?_)
    · replace hF := of_t hb hF
      refine wp_reg_seq tok (orc := orcL []) (fz := []) (l := [4]) (c := _) (.inr fun i h => h) h (by kernel_rfl) (AllP.nil) ?_
      intro a w h
      cases hF
      exact wp_ret (ret_okR tok h rfl (by kernel_rfl)).1
    · replace hF := of_f hb hF
      refine wp_skip ?_
      refine wp_seq ?_
      obtain ⟨r3, hr4, hF⟩ := of_bind hF
      refine wp_reg_seq tok (orc := orcL [(21, [⟨.bool, r3⟩])]) (fz := []) (l := [22]) (c := _) (.inr fun i h => h) h (by kernel_rfl) (AllP.cons (c153 k x0.2.2 x1.2.2 r3 hr4) AllP.nil) ?_
      intro a w h
      refine wp_if h (b := (!r3)) (by kernel_rfl) (fun hb => ?_) (fun hb => ?_)
      · replace hF := of_t hb hF
        refine wp_reg_seq tok (orc := orcL []) (fz := []) (l := [4]) (c := _) (.inr fun i h => h) h (by kernel_rfl) (AllP.nil) ?_
        intro a w h
        cases hF
        exact wp_ret (ret_okR tok h rfl (by kernel_rfl)).1
      · replace hF := of_f hb hF
        refine wp_skip ?_
        refine wp_reg_seq tok (orc := orcL []) (fz := []) (l := [4]) (c := _) (.inr fun i h => h) h (by kernel_rfl) (AllP.nil) ?_
        intro a w h
        cases hF
        exact wp_ret (ret_okR tok h rfl (by kernel_rfl)).1

def f91.l19 (k : Nat) : Nat → (Int × ByteArray) → Option ByteArray
  | 0, _ => none
  | m19 + 1, (v32, v33) => if (decide ((v32 : Int) > (0 : Int))) then (if (((10 : Int) : Int) ≠ 0) then (if (ByteArray.size (strOfNums [(IntKind.u8.wrap (IntKind.i64.wrap ((48 : Int) + (Int.tmod v32 (10 : Int)))))]) + ByteArray.size v33 ≤ 9223372036854775807) then (if (((10 : Int) : Int) ≠ 0) then ((f91.l19 k) m19 ((IntKind.i64.wrap (Int.tdiv v32 (10 : Int))), ((strOfNums [(IntKind.u8.wrap (IntKind.i64.wrap ((48 : Int) + (Int.tmod v32 (10 : Int)))))]) ++ v33))) else none) else none) else none) else (if (ByteArray.size (⟨#[109]⟩ : ByteArray) + ByteArray.size v33 ≤ 9223372036854775807) then (some ((⟨#[109]⟩ : ByteArray) ++ v33)) else none)
def f91 (k : Nat) (x0 : Int) : Option ByteArray := if (decide ((x0 : Int) ≤ (0 : Int))) then (some (⟨#[109, 48]⟩ : ByteArray)) else (f91.l19 k k (x0, (⟨#[]⟩ : ByteArray)))
set_option maxRecDepth 100000 in
/-- 'laws.markText'. -/
theorem c91 (k : Nat) (x0 : Int) (r : ByteArray) (hF : f91 k x0 = some r) : PCall Try.prog 91 [⟨(.int .i64), x0⟩] [⟨.str, r⟩] := by
  refine pcall_intro Try.func91 rfl rfl (Nat.le_of_ble_eq_true rfl) ?_
  intro w0 Zi a w h
  rw [f91] at hF
  refine wp_reg_seq tok (orc := orcL []) (fz := []) (l := [0]) (c := _) (.inr fun i h => h) h (by kernel_rfl) (AllP.nil) ?_
  intro a w h
  refine wp_seq ?_
  refine wp_reg_seq tok (orc := orcL []) (fz := []) (l := [0, 5]) (c := _) (.inr fun i h => h) h (by kernel_rfl) (AllP.nil) ?_
  intro a w h
  refine wp_if h (b := (decide ((x0 : Int) ≤ (0 : Int)))) (by kernel_rfl) (fun hb => ?_) (fun hb => ?_)
  · replace hF := of_t hb hF
    refine wp_reg_seq tok (orc := orcL []) (fz := []) (l := [2]) (c := _) (.inr fun i h => h) h (by kernel_rfl) (AllP.nil) ?_
    intro a w h
    cases hF
    exact wp_ret (ret_okR tok h rfl (by kernel_rfl)).1
  · replace hF := of_f hb hF
    refine wp_skip ?_
    refine wp_reg_seq tok (orc := orcL []) (fz := []) (l := [0, 3]) (c := _) (.inr fun i h => h) h (by kernel_rfl) (AllP.nil) ?_
    intro a w h
    refine wp_seq <| wp_block ?_
    refine wp_loop_fuel (f91.l19 k) (fun ((v32, v33) : (Int × ByteArray)) => [(0, .val (.int .i64) v32), (3, .val .str v33)]) (fun v h => by obtain ⟨v32, v33⟩ := v; rw [f91.l19] at h; cases h) ?_ hF (h.arrive (fz := []) (l := [0, 3]) (.inr fun i h => h) (by kernel_rfl))
    intro m19 v a w hF h
    obtain ⟨v32, v33⟩ := v
    rw [f91.l19] at hF
    refine wp_seq ?_
    refine wp_reg_seq tok (orc := orcL []) (fz := []) (l := [0, 3, 7]) (c := _) (.inr fun i h => h) h (by kernel_rfl) (AllP.nil) ?_
    intro a w h
    refine wp_if h (b := (decide ((v32 : Int) > (0 : Int)))) (by kernel_rfl) (fun hb => ?_) (fun hb => ?_)
    · replace hF := of_t hb hF
      refine wp_skip ?_
      refine wp_block ?_
      obtain ⟨hc35, hF⟩ := of_if hF
      obtain ⟨hc36, hF⟩ := of_if hF
      refine wp_reg_seq tok (orc := orcL []) (fz := []) (l := [0, 3]) (c := _) (.inr fun i h => h) h (by kernel_rfl) (AllP.cons hc35 (AllP.cons hc36 AllP.nil)) ?_
      intro a w h
      obtain ⟨hc34, hF⟩ := of_if hF
      refine wp_reg tok (orc := orcL []) (fz := []) (l := [0, 3]) (c := _) (.inr fun i h => h) h (by kernel_rfl) (AllP.cons hc34 AllP.nil) ?_
      intro a w h
      exact ⟨((IntKind.i64.wrap (Int.tdiv v32 (10 : Int))), ((strOfNums [(IntKind.u8.wrap (IntKind.i64.wrap ((48 : Int) + (Int.tmod v32 (10 : Int)))))]) ++ v33)), hF, h.arrive (fz := []) (l := [0, 3]) (.inr fun i h => h) (by kernel_rfl)⟩
    · replace hF := of_f hb hF
      refine wp_exit ?_
      obtain ⟨hc37, hF⟩ := of_if hF
      refine wp_reg_seq tok (orc := orcL []) (fz := []) (l := [2]) (c := _) (.inr fun i h => h) h (by kernel_rfl) (AllP.cons hc37 AllP.nil) ?_
      intro a w h
      cases hF
      exact wp_ret (ret_okR tok h rfl (by kernel_rfl)).1

def f216.l50 (k : Nat) : Nat → ((List (ByteArray × ByteArray)) × Int × Int) → Option (Int × (List (ByteArray × ByteArray)))
  | 0, _ => none
  | m50 + 1, (v84, v85, v86) => if (decide ((v86 : Int) < (List.length v84 : Int))) then ((f91 k v85).bind fun r93 => (if (0 ≤ v86 ∧ v86 < (List.length v84 : Int)) then ((f91 k (IntKind.i64.wrap (v85 + (1 : Int)))).bind fun r94 => (if (0 ≤ v86 ∧ v86 < (List.length (List.set v84 (Int.toNat v86) (r93, (List.getD v84 (Int.toNat v86) ((⟨#[]⟩ : ByteArray), (⟨#[]⟩ : ByteArray))).2)) : Int)) then ((f216.l50 k) m50 ((List.set (List.set v84 (Int.toNat v86) (r93, (List.getD v84 (Int.toNat v86) ((⟨#[]⟩ : ByteArray), (⟨#[]⟩ : ByteArray))).2)) (Int.toNat v86) ((List.getD (List.set v84 (Int.toNat v86) (r93, (List.getD v84 (Int.toNat v86) ((⟨#[]⟩ : ByteArray), (⟨#[]⟩ : ByteArray))).2)) (Int.toNat v86) ((⟨#[]⟩ : ByteArray), (⟨#[]⟩ : ByteArray))).1, r94)), (IntKind.i64.wrap ((IntKind.i64.wrap (v85 + (1 : Int))) + (1 : Int))), (IntKind.i64.wrap (v86 + (1 : Int))))) else none)) else none)) else (some (v85, v84))
def f216 (k : Nat) (x0 : (List (ByteArray × ByteArray))) (x1 : Int) : Option (Int × (List (ByteArray × ByteArray))) := f216.l50 k k (x0, x1, (0 : Int))
set_option maxRecDepth 100000 in
/-- 'laws.markTagS'. -/
theorem c216 (k : Nat) (x0 : (List (ByteArray × ByteArray))) (x1 : Int) (r : (Int × (List (ByteArray × ByteArray)))) (hF : f216 k x0 x1 = some r) : PMut Try.prog 216 [⟨sh10, x0⟩, ⟨(.int .i64), x1⟩] [⟨(.int .i64), r.1⟩] (List.set [⟨sh10, x0⟩, ⟨(.int .i64), x1⟩] 0 ⟨sh10, r.2⟩) := by
  refine pmut_intro (j := 0) (fin := ⟨sh10, r.2⟩) Try.func216 rfl rfl (Nat.le_of_ble_eq_true rfl) (Nat.le_of_ble_eq_true rfl) (by kernel_rfl) ?_
  intro w0 Zi f0 v0 a w h
  rw [f216] at hF
  refine wp_reg_seq tok (orc := orcL []) (fz := []) (l := [0, 1]) (c := _) (.inl rfl) h (by kernel_rfl) (AllP.nil) ?_
  intro a w h
  refine wp_seq ?_
  refine wp_reg_seq tok (orc := orcL []) (fz := []) (l := [0, 1, 5]) (c := _) (.inl rfl) h (by kernel_rfl) (AllP.nil) ?_
  intro a w h
  refine wp_block ?_
  refine wp_loop_fuel (f216.l50 k) (fun ((v84, v85, v86) : ((List (ByteArray × ByteArray)) × Int × Int)) => [(0, .val sh10 v84), (1, .val (.int .i64) v85), (5, .val (.int .i64) v86)]) (fun v h => by obtain ⟨v84, v85, v86⟩ := v; rw [f216.l50] at h; cases h) ?_ hF (h.arrive (fz := []) (l := [0, 1, 5]) (.inl rfl) (by kernel_rfl))
  intro m50 v a w hF h
  obtain ⟨v84, v85, v86⟩ := v
  rw [f216.l50] at hF
  refine wp_seq ?_
  refine wp_reg_seq tok (orc := orcL []) (fz := []) (l := [0, 1, 5, 9]) (c := _) (.inl rfl) h (by kernel_rfl) (AllP.nil) ?_
  intro a w h
  refine wp_if h (b := (decide ((v86 : Int) < (List.length v84 : Int)))) (by kernel_rfl) (fun hb => ?_) (fun hb => ?_)
  · replace hF := of_t hb hF
    refine wp_skip ?_
    refine wp_seq <| wp_block ?_
    obtain ⟨r93, hr97, hF⟩ := of_bind hF
    obtain ⟨hc98, hF⟩ := of_if hF
    refine wp_reg_seq tok (orc := orcL [(15, [⟨.str, r93⟩])]) (fz := []) (l := [0, 1, 5]) (c := _) (.inl rfl) h (by kernel_rfl) (AllP.cons (c91 k v85 r93 hr97) (AllP.cons hc98 AllP.nil)) ?_
    intro a w h
    refine wp_reg_seq tok (orc := orcL []) (fz := []) (l := [0, 1, 5]) (c := _) (.inl rfl) h (by kernel_rfl) (AllP.nil) ?_
    intro a w h
    obtain ⟨r94, hr95, hF⟩ := of_bind hF
    obtain ⟨hc96, hF⟩ := of_if hF
    refine wp_reg_seq tok (orc := orcL [(23, [⟨.str, r94⟩])]) (fz := []) (l := [0, 1, 5]) (c := _) (.inl rfl) h (by kernel_rfl) (AllP.cons (c91 k (IntKind.i64.wrap (v85 + (1 : Int))) r94 hr95) (AllP.cons hc96 AllP.nil)) ?_
    intro a w h
    refine wp_reg tok (orc := orcL []) (fz := []) (l := [0, 1, 5]) (c := _) (.inl rfl) h (by kernel_rfl) (AllP.nil) ?_
    intro a w h
    refine wp_reg tok (orc := orcL []) (fz := []) (l := [0, 1, 5]) (c := _) (.inl rfl) h (by kernel_rfl) (AllP.nil) ?_
    intro a w h
    exact ⟨((List.set (List.set v84 (Int.toNat v86) (r93, (List.getD v84 (Int.toNat v86) ((⟨#[]⟩ : ByteArray), (⟨#[]⟩ : ByteArray))).2)) (Int.toNat v86) ((List.getD (List.set v84 (Int.toNat v86) (r93, (List.getD v84 (Int.toNat v86) ((⟨#[]⟩ : ByteArray), (⟨#[]⟩ : ByteArray))).2)) (Int.toNat v86) ((⟨#[]⟩ : ByteArray), (⟨#[]⟩ : ByteArray))).1, r94)), (IntKind.i64.wrap ((IntKind.i64.wrap (v85 + (1 : Int))) + (1 : Int))), (IntKind.i64.wrap (v86 + (1 : Int)))), hF, h.arrive (fz := []) (l := [0, 1, 5]) (.inl rfl) (by kernel_rfl)⟩
  · replace hF := of_f hb hF
    refine wp_exit ?_
    refine wp_reg_seq tok (orc := orcL []) (fz := []) (l := [0, 4]) (c := _) (.inl rfl) h (by kernel_rfl) (AllP.nil) ?_
    intro a w h
    cases hF
    exact wp_ret (retM_ok tok h rfl (by kernel_rfl) (by kernel_rfl)).1

def f154.l74 (k : Nat) : Nat → ((List (Int × ((Int × Int) × (List (ByteArray × ByteArray))))) × Int × Int) → Option (Int × (List (Int × ((Int × Int) × (List (ByteArray × ByteArray))))))
  | 0, _ => none
  | m74 + 1, (v124, v125, v126) => if (decide ((v126 : Int) < (List.length v124 : Int))) then (if (0 ≤ v126 ∧ v126 < (List.length v124 : Int)) then (if (0 ≤ v126 ∧ v126 < (List.length (List.set v124 (Int.toNat v126) (v125, (List.getD v124 (Int.toNat v126) ((0 : Int), (((0 : Int), (0 : Int)), ([] : (List (ByteArray × ByteArray)))))).2)) : Int)) then ((some ((List.set (List.set v124 (Int.toNat v126) (v125, (List.getD v124 (Int.toNat v126) ((0 : Int), (((0 : Int), (0 : Int)), ([] : (List (ByteArray × ByteArray)))))).2)) (Int.toNat v126) ((List.getD (List.set v124 (Int.toNat v126) (v125, (List.getD v124 (Int.toNat v126) ((0 : Int), (((0 : Int), (0 : Int)), ([] : (List (ByteArray × ByteArray)))))).2)) (Int.toNat v126) ((0 : Int), (((0 : Int), (0 : Int)), ([] : (List (ByteArray × ByteArray)))))).1, (((IntKind.i64.wrap (v125 + (1 : Int))), (List.getD (List.set v124 (Int.toNat v126) (v125, (List.getD v124 (Int.toNat v126) ((0 : Int), (((0 : Int), (0 : Int)), ([] : (List (ByteArray × ByteArray)))))).2)) (Int.toNat v126) ((0 : Int), (((0 : Int), (0 : Int)), ([] : (List (ByteArray × ByteArray)))))).2.1.2), (List.getD (List.set v124 (Int.toNat v126) (v125, (List.getD v124 (Int.toNat v126) ((0 : Int), (((0 : Int), (0 : Int)), ([] : (List (ByteArray × ByteArray)))))).2)) (Int.toNat v126) ((0 : Int), (((0 : Int), (0 : Int)), ([] : (List (ByteArray × ByteArray)))))).2.2))) : (List (Int × ((Int × Int) × (List (ByteArray × ByteArray))))))).bind fun v137 => (if (0 ≤ v126 ∧ v126 < (List.length v137 : Int)) then (if (0 ≤ v126 ∧ v126 < (List.length (List.set v137 (Int.toNat v126) ((List.getD v137 (Int.toNat v126) ((0 : Int), (((0 : Int), (0 : Int)), ([] : (List (ByteArray × ByteArray)))))).1, (((List.getD v137 (Int.toNat v126) ((0 : Int), (((0 : Int), (0 : Int)), ([] : (List (ByteArray × ByteArray)))))).2.1.1, (IntKind.i64.wrap ((IntKind.i64.wrap (v125 + (1 : Int))) + (1 : Int)))), (List.getD v137 (Int.toNat v126) ((0 : Int), (((0 : Int), (0 : Int)), ([] : (List (ByteArray × ByteArray)))))).2.2))) : Int)) then ((f216 k (List.getD (List.set v137 (Int.toNat v126) ((List.getD v137 (Int.toNat v126) ((0 : Int), (((0 : Int), (0 : Int)), ([] : (List (ByteArray × ByteArray)))))).1, (((List.getD v137 (Int.toNat v126) ((0 : Int), (((0 : Int), (0 : Int)), ([] : (List (ByteArray × ByteArray)))))).2.1.1, (IntKind.i64.wrap ((IntKind.i64.wrap (v125 + (1 : Int))) + (1 : Int)))), (List.getD v137 (Int.toNat v126) ((0 : Int), (((0 : Int), (0 : Int)), ([] : (List (ByteArray × ByteArray)))))).2.2))) (Int.toNat v126) ((0 : Int), (((0 : Int), (0 : Int)), ([] : (List (ByteArray × ByteArray)))))).2.2 (IntKind.i64.wrap ((IntKind.i64.wrap ((IntKind.i64.wrap (v125 + (1 : Int))) + (1 : Int))) + (1 : Int)))).bind fun r138 => ((some ((List.set (List.set v137 (Int.toNat v126) ((List.getD v137 (Int.toNat v126) ((0 : Int), (((0 : Int), (0 : Int)), ([] : (List (ByteArray × ByteArray)))))).1, (((List.getD v137 (Int.toNat v126) ((0 : Int), (((0 : Int), (0 : Int)), ([] : (List (ByteArray × ByteArray)))))).2.1.1, (IntKind.i64.wrap ((IntKind.i64.wrap (v125 + (1 : Int))) + (1 : Int)))), (List.getD v137 (Int.toNat v126) ((0 : Int), (((0 : Int), (0 : Int)), ([] : (List (ByteArray × ByteArray)))))).2.2))) (Int.toNat v126) ((List.getD (List.set v137 (Int.toNat v126) ((List.getD v137 (Int.toNat v126) ((0 : Int), (((0 : Int), (0 : Int)), ([] : (List (ByteArray × ByteArray)))))).1, (((List.getD v137 (Int.toNat v126) ((0 : Int), (((0 : Int), (0 : Int)), ([] : (List (ByteArray × ByteArray)))))).2.1.1, (IntKind.i64.wrap ((IntKind.i64.wrap (v125 + (1 : Int))) + (1 : Int)))), (List.getD v137 (Int.toNat v126) ((0 : Int), (((0 : Int), (0 : Int)), ([] : (List (ByteArray × ByteArray)))))).2.2))) (Int.toNat v126) ((0 : Int), (((0 : Int), (0 : Int)), ([] : (List (ByteArray × ByteArray)))))).1, ((List.getD (List.set v137 (Int.toNat v126) ((List.getD v137 (Int.toNat v126) ((0 : Int), (((0 : Int), (0 : Int)), ([] : (List (ByteArray × ByteArray)))))).1, (((List.getD v137 (Int.toNat v126) ((0 : Int), (((0 : Int), (0 : Int)), ([] : (List (ByteArray × ByteArray)))))).2.1.1, (IntKind.i64.wrap ((IntKind.i64.wrap (v125 + (1 : Int))) + (1 : Int)))), (List.getD v137 (Int.toNat v126) ((0 : Int), (((0 : Int), (0 : Int)), ([] : (List (ByteArray × ByteArray)))))).2.2))) (Int.toNat v126) ((0 : Int), (((0 : Int), (0 : Int)), ([] : (List (ByteArray × ByteArray)))))).2.1, r138.2))) : (List (Int × ((Int × Int) × (List (ByteArray × ByteArray))))))).bind fun v139 => ((f154.l74 k) m74 (v139, r138.1, (IntKind.i64.wrap (v126 + (1 : Int))))))) else none) else none)) else none) else none) else (some (v125, v124))
def f154 (k : Nat) (x0 : (List (Int × ((Int × Int) × (List (ByteArray × ByteArray)))))) (x1 : Int) : Option (Int × (List (Int × ((Int × Int) × (List (ByteArray × ByteArray)))))) := f154.l74 k k (x0, x1, (0 : Int))
set_option maxRecDepth 100000 in
/-- 'laws.markNodeS'. -/
theorem c154 (k : Nat) (x0 : (List (Int × ((Int × Int) × (List (ByteArray × ByteArray)))))) (x1 : Int) (r : (Int × (List (Int × ((Int × Int) × (List (ByteArray × ByteArray))))))) (hF : f154 k x0 x1 = some r) : PMut Try.prog 154 [⟨sh12, x0⟩, ⟨(.int .i64), x1⟩] [⟨(.int .i64), r.1⟩] (List.set [⟨sh12, x0⟩, ⟨(.int .i64), x1⟩] 0 ⟨sh12, r.2⟩) := by
  refine pmut_intro (j := 0) (fin := ⟨sh12, r.2⟩) Try.func154 rfl rfl (Nat.le_of_ble_eq_true rfl) (Nat.le_of_ble_eq_true rfl) (by kernel_rfl) ?_
  intro w0 Zi f0 v0 a w h
  rw [f154] at hF
  refine wp_reg_seq tok (orc := orcL []) (fz := []) (l := [0, 1]) (c := _) (.inl rfl) h (by kernel_rfl) (AllP.nil) ?_
  intro a w h
  refine wp_seq ?_
  refine wp_reg_seq tok (orc := orcL []) (fz := []) (l := [0, 1, 5]) (c := _) (.inl rfl) h (by kernel_rfl) (AllP.nil) ?_
  intro a w h
  refine wp_block ?_
  refine wp_loop_fuel (f154.l74 k) (fun ((v124, v125, v126) : ((List (Int × ((Int × Int) × (List (ByteArray × ByteArray))))) × Int × Int)) => [(0, .val sh12 v124), (1, .val (.int .i64) v125), (5, .val (.int .i64) v126)]) (fun v h => by obtain ⟨v124, v125, v126⟩ := v; rw [f154.l74] at h; cases h) ?_ hF (h.arrive (fz := []) (l := [0, 1, 5]) (.inl rfl) (by kernel_rfl))
  intro m74 v a w hF h
  obtain ⟨v124, v125, v126⟩ := v
  rw [f154.l74] at hF
  refine wp_seq ?_
  refine wp_reg_seq tok (orc := orcL []) (fz := []) (l := [0, 1, 5, 9]) (c := _) (.inl rfl) h (by kernel_rfl) (AllP.nil) ?_
  intro a w h
  refine wp_if h (b := (decide ((v126 : Int) < (List.length v124 : Int)))) (by kernel_rfl) (fun hb => ?_) (fun hb => ?_)
  · replace hF := of_t hb hF
    refine wp_skip ?_
    refine wp_seq <| wp_block ?_
    obtain ⟨hc146, hF⟩ := of_if hF
    refine wp_reg_seq tok (orc := orcL []) (fz := []) (l := [0, 1, 5]) (c := _) (.inl rfl) h (by kernel_rfl) (AllP.cons hc146 AllP.nil) ?_
    intro a w h
    refine wp_reg_seq tok (orc := orcL []) (fz := []) (l := [0, 1, 5]) (c := _) (.inl rfl) h (by kernel_rfl) (AllP.nil) ?_
    intro a w h
    obtain ⟨hc145, hF⟩ := of_if hF
    refine wp_reg_seq tok (orc := orcL []) (fz := []) (l := [0, 1, 5]) (c := _) (.inl rfl) h (by kernel_rfl) (AllP.cons hc145 AllP.nil) ?_
    intro a w h
    obtain ⟨v137, hv144, hF⟩ := of_bind hF
    replace h := h.cast (S' := [(0, .val sh12 v137), (1, .val (.int .i64) (IntKind.i64.wrap (v125 + (1 : Int)))), (5, .val (.int .i64) v126)]) (by cases hv144; kernel_rfl)
    refine wp_reg_seq tok (orc := orcL []) (fz := []) (l := [0, 1, 5]) (c := _) (.inl rfl) h (by kernel_rfl) (AllP.nil) ?_
    intro a w h
    obtain ⟨hc143, hF⟩ := of_if hF
    refine wp_reg_seq tok (orc := orcL []) (fz := []) (l := [0, 1, 5]) (c := _) (.inl rfl) h (by kernel_rfl) (AllP.cons hc143 AllP.nil) ?_
    intro a w h
    refine wp_reg_seq tok (orc := orcL []) (fz := []) (l := [0, 1, 5]) (c := _) (.inl rfl) h (by kernel_rfl) (AllP.nil) ?_
    intro a w h
    obtain ⟨hc141, hF⟩ := of_if hF
    obtain ⟨r138, hr142, hF⟩ := of_bind hF
    refine wp_reg tok (orc := orcL [(41, [⟨.pt false 4294967295 (.sl true 273 (.st (.pair .str .str))), some r138.2⟩, ⟨(.int .i64), r138.1⟩])]) (fz := []) (l := [0, 1, 5]) (c := _) (.inl rfl) h (by kernel_rfl) (AllP.cons hc141 (AllP.cons (c216 k (List.getD (List.set v137 (Int.toNat v126) ((List.getD v137 (Int.toNat v126) ((0 : Int), (((0 : Int), (0 : Int)), ([] : (List (ByteArray × ByteArray)))))).1, (((List.getD v137 (Int.toNat v126) ((0 : Int), (((0 : Int), (0 : Int)), ([] : (List (ByteArray × ByteArray)))))).2.1.1, (IntKind.i64.wrap ((IntKind.i64.wrap (v125 + (1 : Int))) + (1 : Int)))), (List.getD v137 (Int.toNat v126) ((0 : Int), (((0 : Int), (0 : Int)), ([] : (List (ByteArray × ByteArray)))))).2.2))) (Int.toNat v126) ((0 : Int), (((0 : Int), (0 : Int)), ([] : (List (ByteArray × ByteArray)))))).2.2 (IntKind.i64.wrap ((IntKind.i64.wrap ((IntKind.i64.wrap (v125 + (1 : Int))) + (1 : Int))) + (1 : Int))) r138 hr142) AllP.nil)) ?_
    intro a w h
    obtain ⟨v139, hv140, hF⟩ := of_bind hF
    replace h := h.cast (S' := [(0, .val sh12 v139), (1, .val (.int .i64) r138.1), (5, .val (.int .i64) v126)]) (by cases hv140; kernel_rfl)
    refine wp_reg tok (orc := orcL []) (fz := []) (l := [0, 1, 5]) (c := _) (.inl rfl) h (by kernel_rfl) (AllP.nil) ?_
    intro a w h
    exact ⟨(v139, r138.1, (IntKind.i64.wrap (v126 + (1 : Int)))), hF, h.arrive (fz := []) (l := [0, 1, 5]) (.inl rfl) (by kernel_rfl)⟩
  · replace hF := of_f hb hF
    refine wp_exit ?_
    refine wp_reg_seq tok (orc := orcL []) (fz := []) (l := [0, 4]) (c := _) (.inl rfl) h (by kernel_rfl) (AllP.nil) ?_
    intro a w h
    cases hF
    exact wp_ret (retM_ok tok h rfl (by kernel_rfl) (by kernel_rfl)).1

def f23.l20 (k : Nat) : Nat → ((List Int) × Int × Int) → Option (Int × (List Int))
  | 0, _ => none
  | m20 + 1, (v34, v35, v36) => if (decide ((v36 : Int) < (List.length v34 : Int))) then (if (0 ≤ v36 ∧ v36 < (List.length v34 : Int)) then ((f23.l20 k) m20 ((List.set v34 (Int.toNat v36) v35), (IntKind.i64.wrap (v35 + (1 : Int))), (IntKind.i64.wrap (v36 + (1 : Int))))) else none) else (some (v35, v34))
def f23 (k : Nat) (x0 : (List Int)) (x1 : Int) : Option (Int × (List Int)) := f23.l20 k k (x0, x1, (0 : Int))
set_option maxRecDepth 100000 in
/-- 'laws.markInt64S'. -/
theorem c23 (k : Nat) (x0 : (List Int)) (x1 : Int) (r : (Int × (List Int))) (hF : f23 k x0 x1 = some r) : PMut Try.prog 23 [⟨(.sl true 2 (.int .i64)), x0⟩, ⟨(.int .i64), x1⟩] [⟨(.int .i64), r.1⟩] (List.set [⟨(.sl true 2 (.int .i64)), x0⟩, ⟨(.int .i64), x1⟩] 0 ⟨(.sl true 2 (.int .i64)), r.2⟩) := by
  refine pmut_intro (j := 0) (fin := ⟨(.sl true 2 (.int .i64)), r.2⟩) Try.func23 rfl rfl (Nat.le_of_ble_eq_true rfl) (Nat.le_of_ble_eq_true rfl) (by kernel_rfl) ?_
  intro w0 Zi f0 v0 a w h
  rw [f23] at hF
  refine wp_reg_seq tok (orc := orcL []) (fz := []) (l := [0, 1]) (c := _) (.inl rfl) h (by kernel_rfl) (AllP.nil) ?_
  intro a w h
  refine wp_seq ?_
  refine wp_reg_seq tok (orc := orcL []) (fz := []) (l := [0, 1, 5]) (c := _) (.inl rfl) h (by kernel_rfl) (AllP.nil) ?_
  intro a w h
  refine wp_block ?_
  refine wp_loop_fuel (f23.l20 k) (fun ((v34, v35, v36) : ((List Int) × Int × Int)) => [(0, .val (.sl true 2 (.int .i64)) v34), (1, .val (.int .i64) v35), (5, .val (.int .i64) v36)]) (fun v h => by obtain ⟨v34, v35, v36⟩ := v; rw [f23.l20] at h; cases h) ?_ hF (h.arrive (fz := []) (l := [0, 1, 5]) (.inl rfl) (by kernel_rfl))
  intro m20 v a w hF h
  obtain ⟨v34, v35, v36⟩ := v
  rw [f23.l20] at hF
  refine wp_seq ?_
  refine wp_reg_seq tok (orc := orcL []) (fz := []) (l := [0, 1, 5, 9]) (c := _) (.inl rfl) h (by kernel_rfl) (AllP.nil) ?_
  intro a w h
  refine wp_if h (b := (decide ((v36 : Int) < (List.length v34 : Int)))) (by kernel_rfl) (fun hb => ?_) (fun hb => ?_)
  · replace hF := of_t hb hF
    refine wp_skip ?_
    refine wp_seq <| wp_block ?_
    obtain ⟨hc38, hF⟩ := of_if hF
    refine wp_reg_seq tok (orc := orcL []) (fz := []) (l := [0, 1, 5]) (c := _) (.inl rfl) h (by kernel_rfl) (AllP.cons hc38 AllP.nil) ?_
    intro a w h
    refine wp_reg tok (orc := orcL []) (fz := []) (l := [0, 1, 5]) (c := _) (.inl rfl) h (by kernel_rfl) (AllP.nil) ?_
    intro a w h
    refine wp_reg tok (orc := orcL []) (fz := []) (l := [0, 1, 5]) (c := _) (.inl rfl) h (by kernel_rfl) (AllP.nil) ?_
    intro a w h
    exact ⟨((List.set v34 (Int.toNat v36) v35), (IntKind.i64.wrap (v35 + (1 : Int))), (IntKind.i64.wrap (v36 + (1 : Int)))), hF, h.arrive (fz := []) (l := [0, 1, 5]) (.inl rfl) (by kernel_rfl)⟩
  · replace hF := of_f hb hF
    refine wp_exit ?_
    refine wp_reg_seq tok (orc := orcL []) (fz := []) (l := [0, 4]) (c := _) (.inl rfl) h (by kernel_rfl) (AllP.nil) ?_
    intro a w h
    cases hF
    exact wp_ret (retM_ok tok h rfl (by kernel_rfl) (by kernel_rfl)).1

def f155.l68 (k : Nat) : Nat → ((List (Int × ((List Int) × (List (ByteArray × ByteArray))))) × Int × Int) → Option (Int × (List (Int × ((List Int) × (List (ByteArray × ByteArray))))))
  | 0, _ => none
  | m68 + 1, (v114, v115, v116) => if (decide ((v116 : Int) < (List.length v114 : Int))) then (if (0 ≤ v116 ∧ v116 < (List.length v114 : Int)) then (if (0 ≤ v116 ∧ v116 < (List.length (List.set v114 (Int.toNat v116) (v115, (List.getD v114 (Int.toNat v116) ((0 : Int), (([] : (List Int)), ([] : (List (ByteArray × ByteArray)))))).2)) : Int)) then ((f23 k (List.getD (List.set v114 (Int.toNat v116) (v115, (List.getD v114 (Int.toNat v116) ((0 : Int), (([] : (List Int)), ([] : (List (ByteArray × ByteArray)))))).2)) (Int.toNat v116) ((0 : Int), (([] : (List Int)), ([] : (List (ByteArray × ByteArray)))))).2.1 (IntKind.i64.wrap (v115 + (1 : Int)))).bind fun r126 => ((some ((List.set (List.set v114 (Int.toNat v116) (v115, (List.getD v114 (Int.toNat v116) ((0 : Int), (([] : (List Int)), ([] : (List (ByteArray × ByteArray)))))).2)) (Int.toNat v116) ((List.getD (List.set v114 (Int.toNat v116) (v115, (List.getD v114 (Int.toNat v116) ((0 : Int), (([] : (List Int)), ([] : (List (ByteArray × ByteArray)))))).2)) (Int.toNat v116) ((0 : Int), (([] : (List Int)), ([] : (List (ByteArray × ByteArray)))))).1, (r126.2, (List.getD (List.set v114 (Int.toNat v116) (v115, (List.getD v114 (Int.toNat v116) ((0 : Int), (([] : (List Int)), ([] : (List (ByteArray × ByteArray)))))).2)) (Int.toNat v116) ((0 : Int), (([] : (List Int)), ([] : (List (ByteArray × ByteArray)))))).2.2))) : (List (Int × ((List Int) × (List (ByteArray × ByteArray))))))).bind fun v127 => (if (0 ≤ v116 ∧ v116 < (List.length v127 : Int)) then ((f216 k (List.getD v127 (Int.toNat v116) ((0 : Int), (([] : (List Int)), ([] : (List (ByteArray × ByteArray)))))).2.2 r126.1).bind fun r128 => ((f155.l68 k) m68 ((List.set v127 (Int.toNat v116) ((List.getD v127 (Int.toNat v116) ((0 : Int), (([] : (List Int)), ([] : (List (ByteArray × ByteArray)))))).1, ((List.getD v127 (Int.toNat v116) ((0 : Int), (([] : (List Int)), ([] : (List (ByteArray × ByteArray)))))).2.1, r128.2))), r128.1, (IntKind.i64.wrap (v116 + (1 : Int)))))) else none))) else none) else none) else (some (v115, v114))
def f155 (k : Nat) (x0 : (List (Int × ((List Int) × (List (ByteArray × ByteArray)))))) (x1 : Int) : Option (Int × (List (Int × ((List Int) × (List (ByteArray × ByteArray)))))) := f155.l68 k k (x0, x1, (0 : Int))
set_option maxRecDepth 100000 in
/-- 'laws.markWayS'. -/
theorem c155 (k : Nat) (x0 : (List (Int × ((List Int) × (List (ByteArray × ByteArray)))))) (x1 : Int) (r : (Int × (List (Int × ((List Int) × (List (ByteArray × ByteArray))))))) (hF : f155 k x0 x1 = some r) : PMut Try.prog 155 [⟨sh14, x0⟩, ⟨(.int .i64), x1⟩] [⟨(.int .i64), r.1⟩] (List.set [⟨sh14, x0⟩, ⟨(.int .i64), x1⟩] 0 ⟨sh14, r.2⟩) := by
  refine pmut_intro (j := 0) (fin := ⟨sh14, r.2⟩) Try.func155 rfl rfl (Nat.le_of_ble_eq_true rfl) (Nat.le_of_ble_eq_true rfl) (by kernel_rfl) ?_
  intro w0 Zi f0 v0 a w h
  rw [f155] at hF
  refine wp_reg_seq tok (orc := orcL []) (fz := []) (l := [0, 1]) (c := _) (.inl rfl) h (by kernel_rfl) (AllP.nil) ?_
  intro a w h
  refine wp_seq ?_
  refine wp_reg_seq tok (orc := orcL []) (fz := []) (l := [0, 1, 5]) (c := _) (.inl rfl) h (by kernel_rfl) (AllP.nil) ?_
  intro a w h
  refine wp_block ?_
  refine wp_loop_fuel (f155.l68 k) (fun ((v114, v115, v116) : ((List (Int × ((List Int) × (List (ByteArray × ByteArray))))) × Int × Int)) => [(0, .val sh14 v114), (1, .val (.int .i64) v115), (5, .val (.int .i64) v116)]) (fun v h => by obtain ⟨v114, v115, v116⟩ := v; rw [f155.l68] at h; cases h) ?_ hF (h.arrive (fz := []) (l := [0, 1, 5]) (.inl rfl) (by kernel_rfl))
  intro m68 v a w hF h
  obtain ⟨v114, v115, v116⟩ := v
  rw [f155.l68] at hF
  refine wp_seq ?_
  refine wp_reg_seq tok (orc := orcL []) (fz := []) (l := [0, 1, 5, 9]) (c := _) (.inl rfl) h (by kernel_rfl) (AllP.nil) ?_
  intro a w h
  refine wp_if h (b := (decide ((v116 : Int) < (List.length v114 : Int)))) (by kernel_rfl) (fun hb => ?_) (fun hb => ?_)
  · replace hF := of_t hb hF
    refine wp_skip ?_
    refine wp_seq <| wp_block ?_
    obtain ⟨hc134, hF⟩ := of_if hF
    refine wp_reg_seq tok (orc := orcL []) (fz := []) (l := [0, 1, 5]) (c := _) (.inl rfl) h (by kernel_rfl) (AllP.cons hc134 AllP.nil) ?_
    intro a w h
    refine wp_reg_seq tok (orc := orcL []) (fz := []) (l := [0, 1, 5]) (c := _) (.inl rfl) h (by kernel_rfl) (AllP.nil) ?_
    intro a w h
    obtain ⟨hc132, hF⟩ := of_if hF
    obtain ⟨r126, hr133, hF⟩ := of_bind hF
    refine wp_reg_seq tok (orc := orcL [(25, [⟨.pt false 4294967295 (.sl true 2 (.int .i64)), some r126.2⟩, ⟨(.int .i64), r126.1⟩])]) (fz := []) (l := [0, 1, 5]) (c := _) (.inl rfl) h (by kernel_rfl) (AllP.cons hc132 (AllP.cons (c23 k (List.getD (List.set v114 (Int.toNat v116) (v115, (List.getD v114 (Int.toNat v116) ((0 : Int), (([] : (List Int)), ([] : (List (ByteArray × ByteArray)))))).2)) (Int.toNat v116) ((0 : Int), (([] : (List Int)), ([] : (List (ByteArray × ByteArray)))))).2.1 (IntKind.i64.wrap (v115 + (1 : Int))) r126 hr133) AllP.nil)) ?_
    intro a w h
    obtain ⟨v127, hv131, hF⟩ := of_bind hF
    replace h := h.cast (S' := [(0, .val sh14 v127), (1, .val (.int .i64) r126.1), (5, .val (.int .i64) v116)]) (by cases hv131; kernel_rfl)
    obtain ⟨hc129, hF⟩ := of_if hF
    obtain ⟨r128, hr130, hF⟩ := of_bind hF
    refine wp_reg tok (orc := orcL [(32, [⟨.pt false 4294967295 (.sl true 273 (.st (.pair .str .str))), some r128.2⟩, ⟨(.int .i64), r128.1⟩])]) (fz := []) (l := [0, 1, 5]) (c := _) (.inl rfl) h (by kernel_rfl) (AllP.cons hc129 (AllP.cons (c216 k (List.getD v127 (Int.toNat v116) ((0 : Int), (([] : (List Int)), ([] : (List (ByteArray × ByteArray)))))).2.2 r126.1 r128 hr130) AllP.nil)) ?_
    intro a w h
    refine wp_reg tok (orc := orcL []) (fz := []) (l := [0, 1, 5]) (c := _) (.inl rfl) h (by kernel_rfl) (AllP.nil) ?_
    intro a w h
    exact ⟨((List.set v127 (Int.toNat v116) ((List.getD v127 (Int.toNat v116) ((0 : Int), (([] : (List Int)), ([] : (List (ByteArray × ByteArray)))))).1, ((List.getD v127 (Int.toNat v116) ((0 : Int), (([] : (List Int)), ([] : (List (ByteArray × ByteArray)))))).2.1, r128.2))), r128.1, (IntKind.i64.wrap (v116 + (1 : Int)))), hF, h.arrive (fz := []) (l := [0, 1, 5]) (.inl rfl) (by kernel_rfl)⟩
  · replace hF := of_f hb hF
    refine wp_exit ?_
    refine wp_reg_seq tok (orc := orcL []) (fz := []) (l := [0, 4]) (c := _) (.inl rfl) h (by kernel_rfl) (AllP.nil) ?_
    intro a w h
    cases hF
    exact wp_ret (retM_ok tok h rfl (by kernel_rfl) (by kernel_rfl)).1

def f217.l32 (k : Nat) : Nat → ((List (Int × Bool)) × Int × Int) → Option (Int × (List (Int × Bool)))
  | 0, _ => none
  | m32 + 1, (v54, v55, v56) => if (decide ((v56 : Int) < (List.length v54 : Int))) then (if (0 ≤ v56 ∧ v56 < (List.length v54 : Int)) then (if (((3 : Int) : Int) ≠ 0) then (if (0 ≤ v56 ∧ v56 < (List.length (List.set v54 (Int.toNat v56) (v55, (List.getD v54 (Int.toNat v56) ((0 : Int), false)).2)) : Int)) then ((f217.l32 k) m32 ((List.set (List.set v54 (Int.toNat v56) (v55, (List.getD v54 (Int.toNat v56) ((0 : Int), false)).2)) (Int.toNat v56) ((List.getD (List.set v54 (Int.toNat v56) (v55, (List.getD v54 (Int.toNat v56) ((0 : Int), false)).2)) (Int.toNat v56) ((0 : Int), false)).1, (((Int.tmod (IntKind.i64.wrap (v55 + (1 : Int))) (3 : Int)) : Int) == (0 : Int)))), (IntKind.i64.wrap ((IntKind.i64.wrap (v55 + (1 : Int))) + (1 : Int))), (IntKind.i64.wrap (v56 + (1 : Int))))) else none) else none) else none) else (some (v55, v54))
def f217 (k : Nat) (x0 : (List (Int × Bool))) (x1 : Int) : Option (Int × (List (Int × Bool))) := f217.l32 k k (x0, x1, (0 : Int))
set_option maxRecDepth 100000 in
/-- 'laws.markPartS'. -/
theorem c217 (k : Nat) (x0 : (List (Int × Bool))) (x1 : Int) (r : (Int × (List (Int × Bool)))) (hF : f217 k x0 x1 = some r) : PMut Try.prog 217 [⟨sh16, x0⟩, ⟨(.int .i64), x1⟩] [⟨(.int .i64), r.1⟩] (List.set [⟨sh16, x0⟩, ⟨(.int .i64), x1⟩] 0 ⟨sh16, r.2⟩) := by
  refine pmut_intro (j := 0) (fin := ⟨sh16, r.2⟩) Try.func217 rfl rfl (Nat.le_of_ble_eq_true rfl) (Nat.le_of_ble_eq_true rfl) (by kernel_rfl) ?_
  intro w0 Zi f0 v0 a w h
  rw [f217] at hF
  refine wp_reg_seq tok (orc := orcL []) (fz := []) (l := [0, 1]) (c := _) (.inl rfl) h (by kernel_rfl) (AllP.nil) ?_
  intro a w h
  refine wp_seq ?_
  refine wp_reg_seq tok (orc := orcL []) (fz := []) (l := [0, 1, 5]) (c := _) (.inl rfl) h (by kernel_rfl) (AllP.nil) ?_
  intro a w h
  refine wp_block ?_
  refine wp_loop_fuel (f217.l32 k) (fun ((v54, v55, v56) : ((List (Int × Bool)) × Int × Int)) => [(0, .val sh16 v54), (1, .val (.int .i64) v55), (5, .val (.int .i64) v56)]) (fun v h => by obtain ⟨v54, v55, v56⟩ := v; rw [f217.l32] at h; cases h) ?_ hF (h.arrive (fz := []) (l := [0, 1, 5]) (.inl rfl) (by kernel_rfl))
  intro m32 v a w hF h
  obtain ⟨v54, v55, v56⟩ := v
  rw [f217.l32] at hF
  refine wp_seq ?_
  refine wp_reg_seq tok (orc := orcL []) (fz := []) (l := [0, 1, 5, 9]) (c := _) (.inl rfl) h (by kernel_rfl) (AllP.nil) ?_
  intro a w h
  refine wp_if h (b := (decide ((v56 : Int) < (List.length v54 : Int)))) (by kernel_rfl) (fun hb => ?_) (fun hb => ?_)
  · replace hF := of_t hb hF
    refine wp_skip ?_
    refine wp_seq <| wp_block ?_
    obtain ⟨hc62, hF⟩ := of_if hF
    refine wp_reg_seq tok (orc := orcL []) (fz := []) (l := [0, 1, 5]) (c := _) (.inl rfl) h (by kernel_rfl) (AllP.cons hc62 AllP.nil) ?_
    intro a w h
    refine wp_reg_seq tok (orc := orcL []) (fz := []) (l := [0, 1, 5]) (c := _) (.inl rfl) h (by kernel_rfl) (AllP.nil) ?_
    intro a w h
    obtain ⟨hc60, hF⟩ := of_if hF
    obtain ⟨hc61, hF⟩ := of_if hF
    refine wp_reg_seq tok (orc := orcL []) (fz := []) (l := [0, 1, 5]) (c := _) (.inl rfl) h (by kernel_rfl) (AllP.cons hc60 (AllP.cons hc61 AllP.nil)) ?_
    intro a w h
    refine wp_reg tok (orc := orcL []) (fz := []) (l := [0, 1, 5]) (c := _) (.inl rfl) h (by kernel_rfl) (AllP.nil) ?_
    intro a w h
    refine wp_reg tok (orc := orcL []) (fz := []) (l := [0, 1, 5]) (c := _) (.inl rfl) h (by kernel_rfl) (AllP.nil) ?_
    intro a w h
    exact ⟨((List.set (List.set v54 (Int.toNat v56) (v55, (List.getD v54 (Int.toNat v56) ((0 : Int), false)).2)) (Int.toNat v56) ((List.getD (List.set v54 (Int.toNat v56) (v55, (List.getD v54 (Int.toNat v56) ((0 : Int), false)).2)) (Int.toNat v56) ((0 : Int), false)).1, (((Int.tmod (IntKind.i64.wrap (v55 + (1 : Int))) (3 : Int)) : Int) == (0 : Int)))), (IntKind.i64.wrap ((IntKind.i64.wrap (v55 + (1 : Int))) + (1 : Int))), (IntKind.i64.wrap (v56 + (1 : Int)))), hF, h.arrive (fz := []) (l := [0, 1, 5]) (.inl rfl) (by kernel_rfl)⟩
  · replace hF := of_f hb hF
    refine wp_exit ?_
    refine wp_reg_seq tok (orc := orcL []) (fz := []) (l := [0, 4]) (c := _) (.inl rfl) h (by kernel_rfl) (AllP.nil) ?_
    intro a w h
    cases hF
    exact wp_ret (retM_ok tok h rfl (by kernel_rfl) (by kernel_rfl)).1

def f156.l68 (k : Nat) : Nat → ((List (Int × ((List (Int × Bool)) × (List (ByteArray × ByteArray))))) × Int × Int) → Option (Int × (List (Int × ((List (Int × Bool)) × (List (ByteArray × ByteArray))))))
  | 0, _ => none
  | m68 + 1, (v114, v115, v116) => if (decide ((v116 : Int) < (List.length v114 : Int))) then (if (0 ≤ v116 ∧ v116 < (List.length v114 : Int)) then (if (0 ≤ v116 ∧ v116 < (List.length (List.set v114 (Int.toNat v116) (v115, (List.getD v114 (Int.toNat v116) ((0 : Int), (([] : (List (Int × Bool))), ([] : (List (ByteArray × ByteArray)))))).2)) : Int)) then ((f217 k (List.getD (List.set v114 (Int.toNat v116) (v115, (List.getD v114 (Int.toNat v116) ((0 : Int), (([] : (List (Int × Bool))), ([] : (List (ByteArray × ByteArray)))))).2)) (Int.toNat v116) ((0 : Int), (([] : (List (Int × Bool))), ([] : (List (ByteArray × ByteArray)))))).2.1 (IntKind.i64.wrap (v115 + (1 : Int)))).bind fun r126 => ((some ((List.set (List.set v114 (Int.toNat v116) (v115, (List.getD v114 (Int.toNat v116) ((0 : Int), (([] : (List (Int × Bool))), ([] : (List (ByteArray × ByteArray)))))).2)) (Int.toNat v116) ((List.getD (List.set v114 (Int.toNat v116) (v115, (List.getD v114 (Int.toNat v116) ((0 : Int), (([] : (List (Int × Bool))), ([] : (List (ByteArray × ByteArray)))))).2)) (Int.toNat v116) ((0 : Int), (([] : (List (Int × Bool))), ([] : (List (ByteArray × ByteArray)))))).1, (r126.2, (List.getD (List.set v114 (Int.toNat v116) (v115, (List.getD v114 (Int.toNat v116) ((0 : Int), (([] : (List (Int × Bool))), ([] : (List (ByteArray × ByteArray)))))).2)) (Int.toNat v116) ((0 : Int), (([] : (List (Int × Bool))), ([] : (List (ByteArray × ByteArray)))))).2.2))) : (List (Int × ((List (Int × Bool)) × (List (ByteArray × ByteArray))))))).bind fun v127 => (if (0 ≤ v116 ∧ v116 < (List.length v127 : Int)) then ((f216 k (List.getD v127 (Int.toNat v116) ((0 : Int), (([] : (List (Int × Bool))), ([] : (List (ByteArray × ByteArray)))))).2.2 r126.1).bind fun r128 => ((f156.l68 k) m68 ((List.set v127 (Int.toNat v116) ((List.getD v127 (Int.toNat v116) ((0 : Int), (([] : (List (Int × Bool))), ([] : (List (ByteArray × ByteArray)))))).1, ((List.getD v127 (Int.toNat v116) ((0 : Int), (([] : (List (Int × Bool))), ([] : (List (ByteArray × ByteArray)))))).2.1, r128.2))), r128.1, (IntKind.i64.wrap (v116 + (1 : Int)))))) else none))) else none) else none) else (some (v115, v114))
def f156 (k : Nat) (x0 : (List (Int × ((List (Int × Bool)) × (List (ByteArray × ByteArray)))))) (x1 : Int) : Option (Int × (List (Int × ((List (Int × Bool)) × (List (ByteArray × ByteArray)))))) := f156.l68 k k (x0, x1, (0 : Int))
set_option maxRecDepth 100000 in
/-- 'laws.markAreaS'. -/
theorem c156 (k : Nat) (x0 : (List (Int × ((List (Int × Bool)) × (List (ByteArray × ByteArray)))))) (x1 : Int) (r : (Int × (List (Int × ((List (Int × Bool)) × (List (ByteArray × ByteArray))))))) (hF : f156 k x0 x1 = some r) : PMut Try.prog 156 [⟨sh18, x0⟩, ⟨(.int .i64), x1⟩] [⟨(.int .i64), r.1⟩] (List.set [⟨sh18, x0⟩, ⟨(.int .i64), x1⟩] 0 ⟨sh18, r.2⟩) := by
  refine pmut_intro (j := 0) (fin := ⟨sh18, r.2⟩) Try.func156 rfl rfl (Nat.le_of_ble_eq_true rfl) (Nat.le_of_ble_eq_true rfl) (by kernel_rfl) ?_
  intro w0 Zi f0 v0 a w h
  rw [f156] at hF
  refine wp_reg_seq tok (orc := orcL []) (fz := []) (l := [0, 1]) (c := _) (.inl rfl) h (by kernel_rfl) (AllP.nil) ?_
  intro a w h
  refine wp_seq ?_
  refine wp_reg_seq tok (orc := orcL []) (fz := []) (l := [0, 1, 5]) (c := _) (.inl rfl) h (by kernel_rfl) (AllP.nil) ?_
  intro a w h
  refine wp_block ?_
  refine wp_loop_fuel (f156.l68 k) (fun ((v114, v115, v116) : ((List (Int × ((List (Int × Bool)) × (List (ByteArray × ByteArray))))) × Int × Int)) => [(0, .val sh18 v114), (1, .val (.int .i64) v115), (5, .val (.int .i64) v116)]) (fun v h => by obtain ⟨v114, v115, v116⟩ := v; rw [f156.l68] at h; cases h) ?_ hF (h.arrive (fz := []) (l := [0, 1, 5]) (.inl rfl) (by kernel_rfl))
  intro m68 v a w hF h
  obtain ⟨v114, v115, v116⟩ := v
  rw [f156.l68] at hF
  refine wp_seq ?_
  refine wp_reg_seq tok (orc := orcL []) (fz := []) (l := [0, 1, 5, 9]) (c := _) (.inl rfl) h (by kernel_rfl) (AllP.nil) ?_
  intro a w h
  refine wp_if h (b := (decide ((v116 : Int) < (List.length v114 : Int)))) (by kernel_rfl) (fun hb => ?_) (fun hb => ?_)
  · replace hF := of_t hb hF
    refine wp_skip ?_
    refine wp_seq <| wp_block ?_
    obtain ⟨hc134, hF⟩ := of_if hF
    refine wp_reg_seq tok (orc := orcL []) (fz := []) (l := [0, 1, 5]) (c := _) (.inl rfl) h (by kernel_rfl) (AllP.cons hc134 AllP.nil) ?_
    intro a w h
    refine wp_reg_seq tok (orc := orcL []) (fz := []) (l := [0, 1, 5]) (c := _) (.inl rfl) h (by kernel_rfl) (AllP.nil) ?_
    intro a w h
    obtain ⟨hc132, hF⟩ := of_if hF
    obtain ⟨r126, hr133, hF⟩ := of_bind hF
    refine wp_reg_seq tok (orc := orcL [(25, [⟨.pt false 4294967295 (.sl true 278 (.st (.pair (.int .i64) .bool))), some r126.2⟩, ⟨(.int .i64), r126.1⟩])]) (fz := []) (l := [0, 1, 5]) (c := _) (.inl rfl) h (by kernel_rfl) (AllP.cons hc132 (AllP.cons (c217 k (List.getD (List.set v114 (Int.toNat v116) (v115, (List.getD v114 (Int.toNat v116) ((0 : Int), (([] : (List (Int × Bool))), ([] : (List (ByteArray × ByteArray)))))).2)) (Int.toNat v116) ((0 : Int), (([] : (List (Int × Bool))), ([] : (List (ByteArray × ByteArray)))))).2.1 (IntKind.i64.wrap (v115 + (1 : Int))) r126 hr133) AllP.nil)) ?_
    intro a w h
    obtain ⟨v127, hv131, hF⟩ := of_bind hF
    replace h := h.cast (S' := [(0, .val sh18 v127), (1, .val (.int .i64) r126.1), (5, .val (.int .i64) v116)]) (by cases hv131; kernel_rfl)
    obtain ⟨hc129, hF⟩ := of_if hF
    obtain ⟨r128, hr130, hF⟩ := of_bind hF
    refine wp_reg tok (orc := orcL [(32, [⟨.pt false 4294967295 (.sl true 273 (.st (.pair .str .str))), some r128.2⟩, ⟨(.int .i64), r128.1⟩])]) (fz := []) (l := [0, 1, 5]) (c := _) (.inl rfl) h (by kernel_rfl) (AllP.cons hc129 (AllP.cons (c216 k (List.getD v127 (Int.toNat v116) ((0 : Int), (([] : (List (Int × Bool))), ([] : (List (ByteArray × ByteArray)))))).2.2 r126.1 r128 hr130) AllP.nil)) ?_
    intro a w h
    refine wp_reg tok (orc := orcL []) (fz := []) (l := [0, 1, 5]) (c := _) (.inl rfl) h (by kernel_rfl) (AllP.nil) ?_
    intro a w h
    exact ⟨((List.set v127 (Int.toNat v116) ((List.getD v127 (Int.toNat v116) ((0 : Int), (([] : (List (Int × Bool))), ([] : (List (ByteArray × ByteArray)))))).1, ((List.getD v127 (Int.toNat v116) ((0 : Int), (([] : (List (Int × Bool))), ([] : (List (ByteArray × ByteArray)))))).2.1, r128.2))), r128.1, (IntKind.i64.wrap (v116 + (1 : Int)))), hF, h.arrive (fz := []) (l := [0, 1, 5]) (.inl rfl) (by kernel_rfl)⟩
  · replace hF := of_f hb hF
    refine wp_exit ?_
    refine wp_reg_seq tok (orc := orcL []) (fz := []) (l := [0, 4]) (c := _) (.inl rfl) h (by kernel_rfl) (AllP.nil) ?_
    intro a w h
    cases hF
    exact wp_ret (retM_ok tok h rfl (by kernel_rfl) (by kernel_rfl)).1

def f66 (k : Nat) (x0 : ((List (Int × ((Int × Int) × (List (ByteArray × ByteArray))))) × ((List (Int × ((List Int) × (List (ByteArray × ByteArray))))) × (List (Int × ((List (Int × Bool)) × (List (ByteArray × ByteArray)))))))) (x1 : Int) : Option (Int × ((List (Int × ((Int × Int) × (List (ByteArray × ByteArray))))) × ((List (Int × ((List Int) × (List (ByteArray × ByteArray))))) × (List (Int × ((List (Int × Bool)) × (List (ByteArray × ByteArray)))))))) := (f154 k x0.1 x1).bind fun r1 => ((f155 k x0.2.1 r1.1).bind fun r2 => ((f156 k x0.2.2 r2.1).bind fun r3 => (some (r3.1, (r1.2, (r2.2, r3.2))))))
set_option maxRecDepth 100000 in
/-- 'laws.markMap'. -/
theorem c66 (k : Nat) (x0 : ((List (Int × ((Int × Int) × (List (ByteArray × ByteArray))))) × ((List (Int × ((List Int) × (List (ByteArray × ByteArray))))) × (List (Int × ((List (Int × Bool)) × (List (ByteArray × ByteArray)))))))) (x1 : Int) (r : (Int × ((List (Int × ((Int × Int) × (List (ByteArray × ByteArray))))) × ((List (Int × ((List Int) × (List (ByteArray × ByteArray))))) × (List (Int × ((List (Int × Bool)) × (List (ByteArray × ByteArray))))))))) (hF : f66 k x0 x1 = some r) : PMut Try.prog 66 [⟨sh19, x0⟩, ⟨(.int .i64), x1⟩] [⟨(.int .i64), r.1⟩] (List.set [⟨sh19, x0⟩, ⟨(.int .i64), x1⟩] 0 ⟨sh19, r.2⟩) := by
  refine pmut_intro (j := 0) (fin := ⟨sh19, r.2⟩) Try.func66 rfl rfl (Nat.le_of_ble_eq_true rfl) (Nat.le_of_ble_eq_true rfl) (by kernel_rfl) ?_
  intro w0 Zi f0 v0 a w h
  rw [f66] at hF
  refine wp_reg_seq tok (orc := orcL []) (fz := []) (l := [0, 1, 2]) (c := _) (.inl rfl) h (by kernel_rfl) (AllP.nil) ?_
  intro a w h
  obtain ⟨r1, hr6, hF⟩ := of_bind hF
  refine wp_reg_seq tok (orc := orcL [(8, [⟨.pt false 4294967295 (.sl true 188 (.st (.pair (.int .i64) (.pair (.st (.pair (.int .i64) (.int .i64))) (.sl true 273 (.st (.pair .str .str))))))), some r1.2⟩, ⟨(.int .i64), r1.1⟩])]) (fz := []) (l := [0, 1, 2]) (c := _) (.inl rfl) h (by kernel_rfl) (AllP.cons (c154 k x0.1 x1 r1 hr6) AllP.nil) ?_
  intro a w h
  obtain ⟨r2, hr5, hF⟩ := of_bind hF
  refine wp_reg_seq tok (orc := orcL [(12, [⟨.pt false 4294967295 (.sl true 184 (.st (.pair (.int .i64) (.pair (.sl true 2 (.int .i64)) (.sl true 273 (.st (.pair .str .str))))))), some r2.2⟩, ⟨(.int .i64), r2.1⟩])]) (fz := []) (l := [0, 1, 2]) (c := _) (.inl rfl) h (by kernel_rfl) (AllP.cons (c155 k x0.2.1 r1.1 r2 hr5) AllP.nil) ?_
  intro a w h
  obtain ⟨r3, hr4, hF⟩ := of_bind hF
  refine wp_reg_seq tok (orc := orcL [(16, [⟨.pt false 4294967295 (.sl true 270 (.st (.pair (.int .i64) (.pair (.sl true 278 (.st (.pair (.int .i64) .bool))) (.sl true 273 (.st (.pair .str .str))))))), some r3.2⟩, ⟨(.int .i64), r3.1⟩])]) (fz := []) (l := [0, 1, 2]) (c := _) (.inl rfl) h (by kernel_rfl) (AllP.cons (c156 k x0.2.2 r2.1 r3 hr4) AllP.nil) ?_
  intro a w h
  refine wp_reg_seq tok (orc := orcL []) (fz := []) (l := [0, 2, 4]) (c := _) (.inl rfl) h (by kernel_rfl) (AllP.nil) ?_
  intro a w h
  cases hF
  exact wp_ret (retMS_ok (d := 2) (t := 98) tok h rfl (by kernel_rfl) (by kernel_rfl)).1

def f88.l44 (k : Nat) : Nat → ((List (Int × (Int × Int))) × Int × Int) → Option (Int × (List (Int × (Int × Int))))
  | 0, _ => none
  | m44 + 1, (v74, v75, v76) => if (decide ((v76 : Int) < (List.length v74 : Int))) then (if (0 ≤ v76 ∧ v76 < (List.length v74 : Int)) then (if (0 ≤ v76 ∧ v76 < (List.length (List.set v74 (Int.toNat v76) (v75, (List.getD v74 (Int.toNat v76) ((0 : Int), ((0 : Int), (0 : Int)))).2)) : Int)) then ((some ((List.set (List.set v74 (Int.toNat v76) (v75, (List.getD v74 (Int.toNat v76) ((0 : Int), ((0 : Int), (0 : Int)))).2)) (Int.toNat v76) ((List.getD (List.set v74 (Int.toNat v76) (v75, (List.getD v74 (Int.toNat v76) ((0 : Int), ((0 : Int), (0 : Int)))).2)) (Int.toNat v76) ((0 : Int), ((0 : Int), (0 : Int)))).1, ((IntKind.i64.wrap (v75 + (1 : Int))), (List.getD (List.set v74 (Int.toNat v76) (v75, (List.getD v74 (Int.toNat v76) ((0 : Int), ((0 : Int), (0 : Int)))).2)) (Int.toNat v76) ((0 : Int), ((0 : Int), (0 : Int)))).2.2))) : (List (Int × (Int × Int))))).bind fun v82 => (if (0 ≤ v76 ∧ v76 < (List.length v82 : Int)) then ((f88.l44 k) m44 ((List.set v82 (Int.toNat v76) ((List.getD v82 (Int.toNat v76) ((0 : Int), ((0 : Int), (0 : Int)))).1, ((List.getD v82 (Int.toNat v76) ((0 : Int), ((0 : Int), (0 : Int)))).2.1, (IntKind.i64.wrap ((IntKind.i64.wrap (v75 + (1 : Int))) + (1 : Int)))))), (IntKind.i64.wrap ((IntKind.i64.wrap ((IntKind.i64.wrap (v75 + (1 : Int))) + (1 : Int))) + (1 : Int))), (IntKind.i64.wrap (v76 + (1 : Int))))) else none)) else none) else none) else (some (v75, v74))
def f88 (k : Nat) (x0 : (List (Int × (Int × Int)))) (x1 : Int) : Option (Int × (List (Int × (Int × Int)))) := f88.l44 k k (x0, x1, (0 : Int))
set_option maxRecDepth 100000 in
/-- 'laws.markSpotS'. -/
theorem c88 (k : Nat) (x0 : (List (Int × (Int × Int)))) (x1 : Int) (r : (Int × (List (Int × (Int × Int))))) (hF : f88 k x0 x1 = some r) : PMut Try.prog 88 [⟨sh47, x0⟩, ⟨(.int .i64), x1⟩] [⟨(.int .i64), r.1⟩] (List.set [⟨sh47, x0⟩, ⟨(.int .i64), x1⟩] 0 ⟨sh47, r.2⟩) := by
  refine pmut_intro (j := 0) (fin := ⟨sh47, r.2⟩) Try.func88 rfl rfl (Nat.le_of_ble_eq_true rfl) (Nat.le_of_ble_eq_true rfl) (by kernel_rfl) ?_
  intro w0 Zi f0 v0 a w h
  rw [f88] at hF
  refine wp_reg_seq tok (orc := orcL []) (fz := []) (l := [0, 1]) (c := _) (.inl rfl) h (by kernel_rfl) (AllP.nil) ?_
  intro a w h
  refine wp_seq ?_
  refine wp_reg_seq tok (orc := orcL []) (fz := []) (l := [0, 1, 5]) (c := _) (.inl rfl) h (by kernel_rfl) (AllP.nil) ?_
  intro a w h
  refine wp_block ?_
  refine wp_loop_fuel (f88.l44 k) (fun ((v74, v75, v76) : ((List (Int × (Int × Int))) × Int × Int)) => [(0, .val sh47 v74), (1, .val (.int .i64) v75), (5, .val (.int .i64) v76)]) (fun v h => by obtain ⟨v74, v75, v76⟩ := v; rw [f88.l44] at h; cases h) ?_ hF (h.arrive (fz := []) (l := [0, 1, 5]) (.inl rfl) (by kernel_rfl))
  intro m44 v a w hF h
  obtain ⟨v74, v75, v76⟩ := v
  rw [f88.l44] at hF
  refine wp_seq ?_
  refine wp_reg_seq tok (orc := orcL []) (fz := []) (l := [0, 1, 5, 9]) (c := _) (.inl rfl) h (by kernel_rfl) (AllP.nil) ?_
  intro a w h
  refine wp_if h (b := (decide ((v76 : Int) < (List.length v74 : Int)))) (by kernel_rfl) (fun hb => ?_) (fun hb => ?_)
  · replace hF := of_t hb hF
    refine wp_skip ?_
    refine wp_seq <| wp_block ?_
    obtain ⟨hc86, hF⟩ := of_if hF
    refine wp_reg_seq tok (orc := orcL []) (fz := []) (l := [0, 1, 5]) (c := _) (.inl rfl) h (by kernel_rfl) (AllP.cons hc86 AllP.nil) ?_
    intro a w h
    refine wp_reg_seq tok (orc := orcL []) (fz := []) (l := [0, 1, 5]) (c := _) (.inl rfl) h (by kernel_rfl) (AllP.nil) ?_
    intro a w h
    obtain ⟨hc85, hF⟩ := of_if hF
    refine wp_reg_seq tok (orc := orcL []) (fz := []) (l := [0, 1, 5]) (c := _) (.inl rfl) h (by kernel_rfl) (AllP.cons hc85 AllP.nil) ?_
    intro a w h
    obtain ⟨v82, hv84, hF⟩ := of_bind hF
    replace h := h.cast (S' := [(0, .val sh47 v82), (1, .val (.int .i64) (IntKind.i64.wrap (v75 + (1 : Int)))), (5, .val (.int .i64) v76)]) (by cases hv84; kernel_rfl)
    refine wp_reg_seq tok (orc := orcL []) (fz := []) (l := [0, 1, 5]) (c := _) (.inl rfl) h (by kernel_rfl) (AllP.nil) ?_
    intro a w h
    obtain ⟨hc83, hF⟩ := of_if hF
    refine wp_reg_seq tok (orc := orcL []) (fz := []) (l := [0, 1, 5]) (c := _) (.inl rfl) h (by kernel_rfl) (AllP.cons hc83 AllP.nil) ?_
    intro a w h
    refine wp_reg tok (orc := orcL []) (fz := []) (l := [0, 1, 5]) (c := _) (.inl rfl) h (by kernel_rfl) (AllP.nil) ?_
    intro a w h
    refine wp_reg tok (orc := orcL []) (fz := []) (l := [0, 1, 5]) (c := _) (.inl rfl) h (by kernel_rfl) (AllP.nil) ?_
    intro a w h
    exact ⟨((List.set v82 (Int.toNat v76) ((List.getD v82 (Int.toNat v76) ((0 : Int), ((0 : Int), (0 : Int)))).1, ((List.getD v82 (Int.toNat v76) ((0 : Int), ((0 : Int), (0 : Int)))).2.1, (IntKind.i64.wrap ((IntKind.i64.wrap (v75 + (1 : Int))) + (1 : Int)))))), (IntKind.i64.wrap ((IntKind.i64.wrap ((IntKind.i64.wrap (v75 + (1 : Int))) + (1 : Int))) + (1 : Int))), (IntKind.i64.wrap (v76 + (1 : Int)))), hF, h.arrive (fz := []) (l := [0, 1, 5]) (.inl rfl) (by kernel_rfl)⟩
  · replace hF := of_f hb hF
    refine wp_exit ?_
    refine wp_reg_seq tok (orc := orcL []) (fz := []) (l := [0, 4]) (c := _) (.inl rfl) h (by kernel_rfl) (AllP.nil) ?_
    intro a w h
    cases hF
    exact wp_ret (retM_ok tok h rfl (by kernel_rfl) (by kernel_rfl)).1

def f89.l110 (k : Nat) : Nat → ((List (Int × (Int × (Int × (Int × (Int × ByteArray)))))) × Int × Int) → Option (Int × (List (Int × (Int × (Int × (Int × (Int × ByteArray)))))))
  | 0, _ => none
  | m110 + 1, (v184, v185, v186) => if (decide ((v186 : Int) < (List.length v184 : Int))) then (if (0 ≤ v186 ∧ v186 < (List.length v184 : Int)) then (if (0 ≤ v186 ∧ v186 < (List.length (List.set v184 (Int.toNat v186) (v185, (List.getD v184 (Int.toNat v186) ((0 : Int), ((0 : Int), ((0 : Int), ((0 : Int), ((0 : Int), (⟨#[]⟩ : ByteArray))))))).2)) : Int)) then ((some ((List.set (List.set v184 (Int.toNat v186) (v185, (List.getD v184 (Int.toNat v186) ((0 : Int), ((0 : Int), ((0 : Int), ((0 : Int), ((0 : Int), (⟨#[]⟩ : ByteArray))))))).2)) (Int.toNat v186) ((List.getD (List.set v184 (Int.toNat v186) (v185, (List.getD v184 (Int.toNat v186) ((0 : Int), ((0 : Int), ((0 : Int), ((0 : Int), ((0 : Int), (⟨#[]⟩ : ByteArray))))))).2)) (Int.toNat v186) ((0 : Int), ((0 : Int), ((0 : Int), ((0 : Int), ((0 : Int), (⟨#[]⟩ : ByteArray))))))).1, ((IntKind.i64.wrap (v185 + (1 : Int))), (List.getD (List.set v184 (Int.toNat v186) (v185, (List.getD v184 (Int.toNat v186) ((0 : Int), ((0 : Int), ((0 : Int), ((0 : Int), ((0 : Int), (⟨#[]⟩ : ByteArray))))))).2)) (Int.toNat v186) ((0 : Int), ((0 : Int), ((0 : Int), ((0 : Int), ((0 : Int), (⟨#[]⟩ : ByteArray))))))).2.2))) : (List (Int × (Int × (Int × (Int × (Int × ByteArray)))))))).bind fun v203 => (if (0 ≤ v186 ∧ v186 < (List.length v203 : Int)) then (if (0 ≤ v186 ∧ v186 < (List.length (List.set v203 (Int.toNat v186) ((List.getD v203 (Int.toNat v186) ((0 : Int), ((0 : Int), ((0 : Int), ((0 : Int), ((0 : Int), (⟨#[]⟩ : ByteArray))))))).1, ((List.getD v203 (Int.toNat v186) ((0 : Int), ((0 : Int), ((0 : Int), ((0 : Int), ((0 : Int), (⟨#[]⟩ : ByteArray))))))).2.1, ((IntKind.i64.wrap ((IntKind.i64.wrap (v185 + (1 : Int))) + (1 : Int))), (List.getD v203 (Int.toNat v186) ((0 : Int), ((0 : Int), ((0 : Int), ((0 : Int), ((0 : Int), (⟨#[]⟩ : ByteArray))))))).2.2.2)))) : Int)) then ((some ((List.set (List.set v203 (Int.toNat v186) ((List.getD v203 (Int.toNat v186) ((0 : Int), ((0 : Int), ((0 : Int), ((0 : Int), ((0 : Int), (⟨#[]⟩ : ByteArray))))))).1, ((List.getD v203 (Int.toNat v186) ((0 : Int), ((0 : Int), ((0 : Int), ((0 : Int), ((0 : Int), (⟨#[]⟩ : ByteArray))))))).2.1, ((IntKind.i64.wrap ((IntKind.i64.wrap (v185 + (1 : Int))) + (1 : Int))), (List.getD v203 (Int.toNat v186) ((0 : Int), ((0 : Int), ((0 : Int), ((0 : Int), ((0 : Int), (⟨#[]⟩ : ByteArray))))))).2.2.2)))) (Int.toNat v186) ((List.getD (List.set v203 (Int.toNat v186) ((List.getD v203 (Int.toNat v186) ((0 : Int), ((0 : Int), ((0 : Int), ((0 : Int), ((0 : Int), (⟨#[]⟩ : ByteArray))))))).1, ((List.getD v203 (Int.toNat v186) ((0 : Int), ((0 : Int), ((0 : Int), ((0 : Int), ((0 : Int), (⟨#[]⟩ : ByteArray))))))).2.1, ((IntKind.i64.wrap ((IntKind.i64.wrap (v185 + (1 : Int))) + (1 : Int))), (List.getD v203 (Int.toNat v186) ((0 : Int), ((0 : Int), ((0 : Int), ((0 : Int), ((0 : Int), (⟨#[]⟩ : ByteArray))))))).2.2.2)))) (Int.toNat v186) ((0 : Int), ((0 : Int), ((0 : Int), ((0 : Int), ((0 : Int), (⟨#[]⟩ : ByteArray))))))).1, ((List.getD (List.set v203 (Int.toNat v186) ((List.getD v203 (Int.toNat v186) ((0 : Int), ((0 : Int), ((0 : Int), ((0 : Int), ((0 : Int), (⟨#[]⟩ : ByteArray))))))).1, ((List.getD v203 (Int.toNat v186) ((0 : Int), ((0 : Int), ((0 : Int), ((0 : Int), ((0 : Int), (⟨#[]⟩ : ByteArray))))))).2.1, ((IntKind.i64.wrap ((IntKind.i64.wrap (v185 + (1 : Int))) + (1 : Int))), (List.getD v203 (Int.toNat v186) ((0 : Int), ((0 : Int), ((0 : Int), ((0 : Int), ((0 : Int), (⟨#[]⟩ : ByteArray))))))).2.2.2)))) (Int.toNat v186) ((0 : Int), ((0 : Int), ((0 : Int), ((0 : Int), ((0 : Int), (⟨#[]⟩ : ByteArray))))))).2.1, ((List.getD (List.set v203 (Int.toNat v186) ((List.getD v203 (Int.toNat v186) ((0 : Int), ((0 : Int), ((0 : Int), ((0 : Int), ((0 : Int), (⟨#[]⟩ : ByteArray))))))).1, ((List.getD v203 (Int.toNat v186) ((0 : Int), ((0 : Int), ((0 : Int), ((0 : Int), ((0 : Int), (⟨#[]⟩ : ByteArray))))))).2.1, ((IntKind.i64.wrap ((IntKind.i64.wrap (v185 + (1 : Int))) + (1 : Int))), (List.getD v203 (Int.toNat v186) ((0 : Int), ((0 : Int), ((0 : Int), ((0 : Int), ((0 : Int), (⟨#[]⟩ : ByteArray))))))).2.2.2)))) (Int.toNat v186) ((0 : Int), ((0 : Int), ((0 : Int), ((0 : Int), ((0 : Int), (⟨#[]⟩ : ByteArray))))))).2.2.1, ((IntKind.i64.wrap ((IntKind.i64.wrap ((IntKind.i64.wrap (v185 + (1 : Int))) + (1 : Int))) + (1 : Int))), (List.getD (List.set v203 (Int.toNat v186) ((List.getD v203 (Int.toNat v186) ((0 : Int), ((0 : Int), ((0 : Int), ((0 : Int), ((0 : Int), (⟨#[]⟩ : ByteArray))))))).1, ((List.getD v203 (Int.toNat v186) ((0 : Int), ((0 : Int), ((0 : Int), ((0 : Int), ((0 : Int), (⟨#[]⟩ : ByteArray))))))).2.1, ((IntKind.i64.wrap ((IntKind.i64.wrap (v185 + (1 : Int))) + (1 : Int))), (List.getD v203 (Int.toNat v186) ((0 : Int), ((0 : Int), ((0 : Int), ((0 : Int), ((0 : Int), (⟨#[]⟩ : ByteArray))))))).2.2.2)))) (Int.toNat v186) ((0 : Int), ((0 : Int), ((0 : Int), ((0 : Int), ((0 : Int), (⟨#[]⟩ : ByteArray))))))).2.2.2.2))))) : (List (Int × (Int × (Int × (Int × (Int × ByteArray)))))))).bind fun v204 => (if (0 ≤ v186 ∧ v186 < (List.length v204 : Int)) then ((some ((List.set v204 (Int.toNat v186) ((List.getD v204 (Int.toNat v186) ((0 : Int), ((0 : Int), ((0 : Int), ((0 : Int), ((0 : Int), (⟨#[]⟩ : ByteArray))))))).1, ((List.getD v204 (Int.toNat v186) ((0 : Int), ((0 : Int), ((0 : Int), ((0 : Int), ((0 : Int), (⟨#[]⟩ : ByteArray))))))).2.1, ((List.getD v204 (Int.toNat v186) ((0 : Int), ((0 : Int), ((0 : Int), ((0 : Int), ((0 : Int), (⟨#[]⟩ : ByteArray))))))).2.2.1, ((List.getD v204 (Int.toNat v186) ((0 : Int), ((0 : Int), ((0 : Int), ((0 : Int), ((0 : Int), (⟨#[]⟩ : ByteArray))))))).2.2.2.1, ((IntKind.i64.wrap ((IntKind.i64.wrap ((IntKind.i64.wrap ((IntKind.i64.wrap (v185 + (1 : Int))) + (1 : Int))) + (1 : Int))) + (1 : Int))), (List.getD v204 (Int.toNat v186) ((0 : Int), ((0 : Int), ((0 : Int), ((0 : Int), ((0 : Int), (⟨#[]⟩ : ByteArray))))))).2.2.2.2.2)))))) : (List (Int × (Int × (Int × (Int × (Int × ByteArray)))))))).bind fun v205 => ((f91 k (IntKind.i64.wrap ((IntKind.i64.wrap ((IntKind.i64.wrap ((IntKind.i64.wrap ((IntKind.i64.wrap (v185 + (1 : Int))) + (1 : Int))) + (1 : Int))) + (1 : Int))) + (1 : Int)))).bind fun r206 => (if (0 ≤ v186 ∧ v186 < (List.length v205 : Int)) then ((some ((List.set v205 (Int.toNat v186) ((List.getD v205 (Int.toNat v186) ((0 : Int), ((0 : Int), ((0 : Int), ((0 : Int), ((0 : Int), (⟨#[]⟩ : ByteArray))))))).1, ((List.getD v205 (Int.toNat v186) ((0 : Int), ((0 : Int), ((0 : Int), ((0 : Int), ((0 : Int), (⟨#[]⟩ : ByteArray))))))).2.1, ((List.getD v205 (Int.toNat v186) ((0 : Int), ((0 : Int), ((0 : Int), ((0 : Int), ((0 : Int), (⟨#[]⟩ : ByteArray))))))).2.2.1, ((List.getD v205 (Int.toNat v186) ((0 : Int), ((0 : Int), ((0 : Int), ((0 : Int), ((0 : Int), (⟨#[]⟩ : ByteArray))))))).2.2.2.1, ((List.getD v205 (Int.toNat v186) ((0 : Int), ((0 : Int), ((0 : Int), ((0 : Int), ((0 : Int), (⟨#[]⟩ : ByteArray))))))).2.2.2.2.1, r206)))))) : (List (Int × (Int × (Int × (Int × (Int × ByteArray)))))))).bind fun v207 => ((f89.l110 k) m110 (v207, (IntKind.i64.wrap ((IntKind.i64.wrap ((IntKind.i64.wrap ((IntKind.i64.wrap ((IntKind.i64.wrap ((IntKind.i64.wrap (v185 + (1 : Int))) + (1 : Int))) + (1 : Int))) + (1 : Int))) + (1 : Int))) + (1 : Int))), (IntKind.i64.wrap (v186 + (1 : Int)))))) else none))) else none)) else none) else none)) else none) else none) else (some (v185, v184))
def f89 (k : Nat) (x0 : (List (Int × (Int × (Int × (Int × (Int × ByteArray))))))) (x1 : Int) : Option (Int × (List (Int × (Int × (Int × (Int × (Int × ByteArray))))))) := f89.l110 k k (x0, x1, (0 : Int))
set_option maxRecDepth 100000 in
/-- 'laws.markRoadS'. -/
theorem c89 (k : Nat) (x0 : (List (Int × (Int × (Int × (Int × (Int × ByteArray))))))) (x1 : Int) (r : (Int × (List (Int × (Int × (Int × (Int × (Int × ByteArray)))))))) (hF : f89 k x0 x1 = some r) : PMut Try.prog 89 [⟨sh48, x0⟩, ⟨(.int .i64), x1⟩] [⟨(.int .i64), r.1⟩] (List.set [⟨sh48, x0⟩, ⟨(.int .i64), x1⟩] 0 ⟨sh48, r.2⟩) := by
  refine pmut_intro (j := 0) (fin := ⟨sh48, r.2⟩) Try.func89 rfl rfl (Nat.le_of_ble_eq_true rfl) (Nat.le_of_ble_eq_true rfl) (by kernel_rfl) ?_
  intro w0 Zi f0 v0 a w h
  rw [f89] at hF
  refine wp_reg_seq tok (orc := orcL []) (fz := []) (l := [0, 1]) (c := _) (.inl rfl) h (by kernel_rfl) (AllP.nil) ?_
  intro a w h
  refine wp_seq ?_
  refine wp_reg_seq tok (orc := orcL []) (fz := []) (l := [0, 1, 5]) (c := _) (.inl rfl) h (by kernel_rfl) (AllP.nil) ?_
  intro a w h
  refine wp_block ?_
  refine wp_loop_fuel (f89.l110 k) (fun ((v184, v185, v186) : ((List (Int × (Int × (Int × (Int × (Int × ByteArray)))))) × Int × Int)) => [(0, .val sh48 v184), (1, .val (.int .i64) v185), (5, .val (.int .i64) v186)]) (fun v h => by obtain ⟨v184, v185, v186⟩ := v; rw [f89.l110] at h; cases h) ?_ hF (h.arrive (fz := []) (l := [0, 1, 5]) (.inl rfl) (by kernel_rfl))
  intro m110 v a w hF h
  obtain ⟨v184, v185, v186⟩ := v
  rw [f89.l110] at hF
  refine wp_seq ?_
  refine wp_reg_seq tok (orc := orcL []) (fz := []) (l := [0, 1, 5, 9]) (c := _) (.inl rfl) h (by kernel_rfl) (AllP.nil) ?_
  intro a w h
  refine wp_if h (b := (decide ((v186 : Int) < (List.length v184 : Int)))) (by kernel_rfl) (fun hb => ?_) (fun hb => ?_)
  · replace hF := of_t hb hF
    refine wp_skip ?_
    refine wp_seq <| wp_block ?_
    obtain ⟨hc218, hF⟩ := of_if hF
    refine wp_reg_seq tok (orc := orcL []) (fz := []) (l := [0, 1, 5]) (c := _) (.inl rfl) h (by kernel_rfl) (AllP.cons hc218 AllP.nil) ?_
    intro a w h
    refine wp_reg_seq tok (orc := orcL []) (fz := []) (l := [0, 1, 5]) (c := _) (.inl rfl) h (by kernel_rfl) (AllP.nil) ?_
    intro a w h
    obtain ⟨hc217, hF⟩ := of_if hF
    refine wp_reg_seq tok (orc := orcL []) (fz := []) (l := [0, 1, 5]) (c := _) (.inl rfl) h (by kernel_rfl) (AllP.cons hc217 AllP.nil) ?_
    intro a w h
    obtain ⟨v203, hv216, hF⟩ := of_bind hF
    replace h := h.cast (S' := [(0, .val sh48 v203), (1, .val (.int .i64) (IntKind.i64.wrap (v185 + (1 : Int)))), (5, .val (.int .i64) v186)]) (by cases hv216; kernel_rfl)
    refine wp_reg_seq tok (orc := orcL []) (fz := []) (l := [0, 1, 5]) (c := _) (.inl rfl) h (by kernel_rfl) (AllP.nil) ?_
    intro a w h
    obtain ⟨hc215, hF⟩ := of_if hF
    refine wp_reg_seq tok (orc := orcL []) (fz := []) (l := [0, 1, 5]) (c := _) (.inl rfl) h (by kernel_rfl) (AllP.cons hc215 AllP.nil) ?_
    intro a w h
    refine wp_reg_seq tok (orc := orcL []) (fz := []) (l := [0, 1, 5]) (c := _) (.inl rfl) h (by kernel_rfl) (AllP.nil) ?_
    intro a w h
    obtain ⟨hc214, hF⟩ := of_if hF
    refine wp_reg_seq tok (orc := orcL []) (fz := []) (l := [0, 1, 5]) (c := _) (.inl rfl) h (by kernel_rfl) (AllP.cons hc214 AllP.nil) ?_
    intro a w h
    obtain ⟨v204, hv213, hF⟩ := of_bind hF
    replace h := h.cast (S' := [(0, .val sh48 v204), (1, .val (.int .i64) (IntKind.i64.wrap ((IntKind.i64.wrap ((IntKind.i64.wrap (v185 + (1 : Int))) + (1 : Int))) + (1 : Int)))), (5, .val (.int .i64) v186)]) (by cases hv213; kernel_rfl)
    refine wp_reg_seq tok (orc := orcL []) (fz := []) (l := [0, 1, 5]) (c := _) (.inl rfl) h (by kernel_rfl) (AllP.nil) ?_
    intro a w h
    obtain ⟨hc212, hF⟩ := of_if hF
    refine wp_reg_seq tok (orc := orcL []) (fz := []) (l := [0, 1, 5]) (c := _) (.inl rfl) h (by kernel_rfl) (AllP.cons hc212 AllP.nil) ?_
    intro a w h
    obtain ⟨v205, hv211, hF⟩ := of_bind hF
    replace h := h.cast (S' := [(0, .val sh48 v205), (1, .val (.int .i64) (IntKind.i64.wrap ((IntKind.i64.wrap ((IntKind.i64.wrap ((IntKind.i64.wrap (v185 + (1 : Int))) + (1 : Int))) + (1 : Int))) + (1 : Int)))), (5, .val (.int .i64) v186)]) (by cases hv211; kernel_rfl)
    refine wp_reg_seq tok (orc := orcL []) (fz := []) (l := [0, 1, 5]) (c := _) (.inl rfl) h (by kernel_rfl) (AllP.nil) ?_
    intro a w h
    obtain ⟨r206, hr209, hF⟩ := of_bind hF
    obtain ⟨hc210, hF⟩ := of_if hF
    refine wp_reg_seq tok (orc := orcL [(50, [⟨.str, r206⟩])]) (fz := []) (l := [0, 1, 5]) (c := _) (.inl rfl) h (by kernel_rfl) (AllP.cons (c91 k (IntKind.i64.wrap ((IntKind.i64.wrap ((IntKind.i64.wrap ((IntKind.i64.wrap ((IntKind.i64.wrap (v185 + (1 : Int))) + (1 : Int))) + (1 : Int))) + (1 : Int))) + (1 : Int))) r206 hr209) (AllP.cons hc210 AllP.nil)) ?_
    intro a w h
    obtain ⟨v207, hv208, hF⟩ := of_bind hF
    replace h := h.cast (S' := [(0, .val sh48 v207), (1, .val (.int .i64) (IntKind.i64.wrap ((IntKind.i64.wrap ((IntKind.i64.wrap ((IntKind.i64.wrap ((IntKind.i64.wrap (v185 + (1 : Int))) + (1 : Int))) + (1 : Int))) + (1 : Int))) + (1 : Int)))), (5, .val (.int .i64) v186)]) (by cases hv208; kernel_rfl)
    refine wp_reg tok (orc := orcL []) (fz := []) (l := [0, 1, 5]) (c := _) (.inl rfl) h (by kernel_rfl) (AllP.nil) ?_
    intro a w h
    refine wp_reg tok (orc := orcL []) (fz := []) (l := [0, 1, 5]) (c := _) (.inl rfl) h (by kernel_rfl) (AllP.nil) ?_
    intro a w h
    exact ⟨(v207, (IntKind.i64.wrap ((IntKind.i64.wrap ((IntKind.i64.wrap ((IntKind.i64.wrap ((IntKind.i64.wrap ((IntKind.i64.wrap (v185 + (1 : Int))) + (1 : Int))) + (1 : Int))) + (1 : Int))) + (1 : Int))) + (1 : Int))), (IntKind.i64.wrap (v186 + (1 : Int)))), hF, h.arrive (fz := []) (l := [0, 1, 5]) (.inl rfl) (by kernel_rfl)⟩
  · replace hF := of_f hb hF
    refine wp_exit ?_
    refine wp_reg_seq tok (orc := orcL []) (fz := []) (l := [0, 4]) (c := _) (.inl rfl) h (by kernel_rfl) (AllP.nil) ?_
    intro a w h
    cases hF
    exact wp_ret (retM_ok tok h rfl (by kernel_rfl) (by kernel_rfl)).1

def f90.l26 (k : Nat) : Nat → ((List (Int × Int)) × Int × Int) → Option (Int × (List (Int × Int)))
  | 0, _ => none
  | m26 + 1, (v44, v45, v46) => if (decide ((v46 : Int) < (List.length v44 : Int))) then (if (0 ≤ v46 ∧ v46 < (List.length v44 : Int)) then (if (0 ≤ v46 ∧ v46 < (List.length (List.set v44 (Int.toNat v46) (v45, (List.getD v44 (Int.toNat v46) ((0 : Int), (0 : Int))).2)) : Int)) then ((f90.l26 k) m26 ((List.set (List.set v44 (Int.toNat v46) (v45, (List.getD v44 (Int.toNat v46) ((0 : Int), (0 : Int))).2)) (Int.toNat v46) ((List.getD (List.set v44 (Int.toNat v46) (v45, (List.getD v44 (Int.toNat v46) ((0 : Int), (0 : Int))).2)) (Int.toNat v46) ((0 : Int), (0 : Int))).1, (IntKind.i64.wrap (v45 + (1 : Int))))), (IntKind.i64.wrap ((IntKind.i64.wrap (v45 + (1 : Int))) + (1 : Int))), (IntKind.i64.wrap (v46 + (1 : Int))))) else none) else none) else (some (v45, v44))
def f90 (k : Nat) (x0 : (List (Int × Int))) (x1 : Int) : Option (Int × (List (Int × Int))) := f90.l26 k k (x0, x1, (0 : Int))
set_option maxRecDepth 100000 in
/-- 'laws.markBanS'. -/
theorem c90 (k : Nat) (x0 : (List (Int × Int))) (x1 : Int) (r : (Int × (List (Int × Int)))) (hF : f90 k x0 x1 = some r) : PMut Try.prog 90 [⟨sh49, x0⟩, ⟨(.int .i64), x1⟩] [⟨(.int .i64), r.1⟩] (List.set [⟨sh49, x0⟩, ⟨(.int .i64), x1⟩] 0 ⟨sh49, r.2⟩) := by
  refine pmut_intro (j := 0) (fin := ⟨sh49, r.2⟩) Try.func90 rfl rfl (Nat.le_of_ble_eq_true rfl) (Nat.le_of_ble_eq_true rfl) (by kernel_rfl) ?_
  intro w0 Zi f0 v0 a w h
  rw [f90] at hF
  refine wp_reg_seq tok (orc := orcL []) (fz := []) (l := [0, 1]) (c := _) (.inl rfl) h (by kernel_rfl) (AllP.nil) ?_
  intro a w h
  refine wp_seq ?_
  refine wp_reg_seq tok (orc := orcL []) (fz := []) (l := [0, 1, 5]) (c := _) (.inl rfl) h (by kernel_rfl) (AllP.nil) ?_
  intro a w h
  refine wp_block ?_
  refine wp_loop_fuel (f90.l26 k) (fun ((v44, v45, v46) : ((List (Int × Int)) × Int × Int)) => [(0, .val sh49 v44), (1, .val (.int .i64) v45), (5, .val (.int .i64) v46)]) (fun v h => by obtain ⟨v44, v45, v46⟩ := v; rw [f90.l26] at h; cases h) ?_ hF (h.arrive (fz := []) (l := [0, 1, 5]) (.inl rfl) (by kernel_rfl))
  intro m26 v a w hF h
  obtain ⟨v44, v45, v46⟩ := v
  rw [f90.l26] at hF
  refine wp_seq ?_
  refine wp_reg_seq tok (orc := orcL []) (fz := []) (l := [0, 1, 5, 9]) (c := _) (.inl rfl) h (by kernel_rfl) (AllP.nil) ?_
  intro a w h
  refine wp_if h (b := (decide ((v46 : Int) < (List.length v44 : Int)))) (by kernel_rfl) (fun hb => ?_) (fun hb => ?_)
  · replace hF := of_t hb hF
    refine wp_skip ?_
    refine wp_seq <| wp_block ?_
    obtain ⟨hc50, hF⟩ := of_if hF
    refine wp_reg_seq tok (orc := orcL []) (fz := []) (l := [0, 1, 5]) (c := _) (.inl rfl) h (by kernel_rfl) (AllP.cons hc50 AllP.nil) ?_
    intro a w h
    refine wp_reg_seq tok (orc := orcL []) (fz := []) (l := [0, 1, 5]) (c := _) (.inl rfl) h (by kernel_rfl) (AllP.nil) ?_
    intro a w h
    obtain ⟨hc49, hF⟩ := of_if hF
    refine wp_reg_seq tok (orc := orcL []) (fz := []) (l := [0, 1, 5]) (c := _) (.inl rfl) h (by kernel_rfl) (AllP.cons hc49 AllP.nil) ?_
    intro a w h
    refine wp_reg tok (orc := orcL []) (fz := []) (l := [0, 1, 5]) (c := _) (.inl rfl) h (by kernel_rfl) (AllP.nil) ?_
    intro a w h
    refine wp_reg tok (orc := orcL []) (fz := []) (l := [0, 1, 5]) (c := _) (.inl rfl) h (by kernel_rfl) (AllP.nil) ?_
    intro a w h
    exact ⟨((List.set (List.set v44 (Int.toNat v46) (v45, (List.getD v44 (Int.toNat v46) ((0 : Int), (0 : Int))).2)) (Int.toNat v46) ((List.getD (List.set v44 (Int.toNat v46) (v45, (List.getD v44 (Int.toNat v46) ((0 : Int), (0 : Int))).2)) (Int.toNat v46) ((0 : Int), (0 : Int))).1, (IntKind.i64.wrap (v45 + (1 : Int))))), (IntKind.i64.wrap ((IntKind.i64.wrap (v45 + (1 : Int))) + (1 : Int))), (IntKind.i64.wrap (v46 + (1 : Int)))), hF, h.arrive (fz := []) (l := [0, 1, 5]) (.inl rfl) (by kernel_rfl)⟩
  · replace hF := of_f hb hF
    refine wp_exit ?_
    refine wp_reg_seq tok (orc := orcL []) (fz := []) (l := [0, 4]) (c := _) (.inl rfl) h (by kernel_rfl) (AllP.nil) ?_
    intro a w h
    cases hF
    exact wp_ret (retM_ok tok h rfl (by kernel_rfl) (by kernel_rfl)).1

def f22 (k : Nat) (x0 : ((List (Int × (Int × Int))) × ((List (Int × (Int × (Int × (Int × (Int × ByteArray)))))) × (List (Int × Int))))) (x1 : Int) : Option (Int × ((List (Int × (Int × Int))) × ((List (Int × (Int × (Int × (Int × (Int × ByteArray)))))) × (List (Int × Int))))) := (f88 k x0.1 x1).bind fun r1 => ((f89 k x0.2.1 r1.1).bind fun r2 => ((f90 k x0.2.2 r2.1).bind fun r3 => (some (r3.1, (r1.2, (r2.2, r3.2))))))
set_option maxRecDepth 100000 in
/-- 'laws.markGraph'. -/
theorem c22 (k : Nat) (x0 : ((List (Int × (Int × Int))) × ((List (Int × (Int × (Int × (Int × (Int × ByteArray)))))) × (List (Int × Int))))) (x1 : Int) (r : (Int × ((List (Int × (Int × Int))) × ((List (Int × (Int × (Int × (Int × (Int × ByteArray)))))) × (List (Int × Int)))))) (hF : f22 k x0 x1 = some r) : PMut Try.prog 22 [⟨sh31, x0⟩, ⟨(.int .i64), x1⟩] [⟨(.int .i64), r.1⟩] (List.set [⟨sh31, x0⟩, ⟨(.int .i64), x1⟩] 0 ⟨sh31, r.2⟩) := by
  refine pmut_intro (j := 0) (fin := ⟨sh31, r.2⟩) Try.func22 rfl rfl (Nat.le_of_ble_eq_true rfl) (Nat.le_of_ble_eq_true rfl) (by kernel_rfl) ?_
  intro w0 Zi f0 v0 a w h
  rw [f22] at hF
  refine wp_reg_seq tok (orc := orcL []) (fz := []) (l := [0, 1, 2]) (c := _) (.inl rfl) h (by kernel_rfl) (AllP.nil) ?_
  intro a w h
  obtain ⟨r1, hr6, hF⟩ := of_bind hF
  refine wp_reg_seq tok (orc := orcL [(8, [⟨.pt false 4294967295 (.sl true 176 (.st (.pair (.int .i64) (.st (.pair (.int .i64) (.int .i64)))))), some r1.2⟩, ⟨(.int .i64), r1.1⟩])]) (fz := []) (l := [0, 1, 2]) (c := _) (.inl rfl) h (by kernel_rfl) (AllP.cons (c88 k x0.1 x1 r1 hr6) AllP.nil) ?_
  intro a w h
  obtain ⟨r2, hr5, hF⟩ := of_bind hF
  refine wp_reg_seq tok (orc := orcL [(12, [⟨.pt false 4294967295 (.sl true 110 (.st (.pair (.int .i64) (.pair (.int .i64) (.pair (.int .i64) (.pair (.int .i64) (.pair (.int .i64) .str))))))), some r2.2⟩, ⟨(.int .i64), r2.1⟩])]) (fz := []) (l := [0, 1, 2]) (c := _) (.inl rfl) h (by kernel_rfl) (AllP.cons (c89 k x0.2.1 r1.1 r2 hr5) AllP.nil) ?_
  intro a w h
  obtain ⟨r3, hr4, hF⟩ := of_bind hF
  refine wp_reg_seq tok (orc := orcL [(16, [⟨.pt false 4294967295 (.sl true 167 (.st (.pair (.int .i64) (.int .i64)))), some r3.2⟩, ⟨(.int .i64), r3.1⟩])]) (fz := []) (l := [0, 1, 2]) (c := _) (.inl rfl) h (by kernel_rfl) (AllP.cons (c90 k x0.2.2 r2.1 r3 hr4) AllP.nil) ?_
  intro a w h
  refine wp_reg_seq tok (orc := orcL []) (fz := []) (l := [0, 2, 4]) (c := _) (.inl rfl) h (by kernel_rfl) (AllP.nil) ?_
  intro a w h
  cases hF
  exact wp_ret (retMS_ok (d := 2) (t := 35) tok h rfl (by kernel_rfl) (by kernel_rfl)).1

def f128.l28 (k : Nat) (x0 : (List (Int × (Int × Int)))) : Nat → (Int × Int) → Option Int
  | 0, _ => none
  | m28 + 1, (v47, v48) => if (decide ((v48 : Int) < (List.length x0 : Int))) then (if (0 ≤ v48 ∧ v48 < (List.length x0 : Int)) then (if (((List.getD x0 (Int.toNat v48) ((0 : Int), ((0 : Int), (0 : Int)))).1 : Int) != v47) then (some (-1 : Int)) else (if (0 ≤ v48 ∧ v48 < (List.length x0 : Int)) then (if (((List.getD x0 (Int.toNat v48) ((0 : Int), ((0 : Int), (0 : Int)))).2.1 : Int) != (IntKind.i64.wrap (v47 + (1 : Int)))) then (some (-1 : Int)) else (if (0 ≤ v48 ∧ v48 < (List.length x0 : Int)) then (if (((List.getD x0 (Int.toNat v48) ((0 : Int), ((0 : Int), (0 : Int)))).2.2 : Int) != (IntKind.i64.wrap ((IntKind.i64.wrap (v47 + (1 : Int))) + (1 : Int)))) then (some (-1 : Int)) else ((f128.l28 k x0) m28 ((IntKind.i64.wrap ((IntKind.i64.wrap ((IntKind.i64.wrap (v47 + (1 : Int))) + (1 : Int))) + (1 : Int))), (IntKind.i64.wrap (v48 + (1 : Int)))))) else none)) else none)) else none) else (some v47)
def f128 (k : Nat) (x0 : (List (Int × (Int × Int)))) (x1 : Int) : Option Int := f128.l28 k x0 k (x1, (0 : Int))
set_option maxRecDepth 100000 in
/-- 'laws.heldSpotS'. -/
theorem c128 (k : Nat) (x0 : (List (Int × (Int × Int)))) (x1 : Int) (r : Int) (hF : f128 k x0 x1 = some r) : PCall Try.prog 128 [⟨sh40, x0⟩, ⟨(.int .i64), x1⟩] [⟨(.int .i64), r⟩] := by
  refine pcall_intro Try.func128 rfl rfl (Nat.le_of_ble_eq_true rfl) ?_
  intro w0 Zi a w h
  rw [f128] at hF
  refine wp_reg_seq tok (orc := orcL []) (fz := []) (l := [0, 1]) (c := _) (.inr fun i h => h) h (by kernel_rfl) (AllP.nil) ?_
  intro a w h
  refine wp_seq ?_
  refine wp_reg_seq tok (orc := orcL []) (fz := []) (l := [0, 1, 5]) (c := _) (.inr fun i h => h) h (by kernel_rfl) (AllP.nil) ?_
  intro a w h
  refine wp_block ?_
  refine wp_loop_fuel (f128.l28 k x0) (fun ((v47, v48) : (Int × Int)) => [(0, .val sh40 x0), (1, .val (.int .i64) v47), (5, .val (.int .i64) v48)]) (fun v h => by obtain ⟨v47, v48⟩ := v; rw [f128.l28] at h; cases h) ?_ hF (h.arrive (fz := []) (l := [0, 1, 5]) (.inr fun i h => h) (by kernel_rfl))
  intro m28 v a w hF h
  obtain ⟨v47, v48⟩ := v
  rw [f128.l28] at hF
  refine wp_seq ?_
  refine wp_reg_seq tok (orc := orcL []) (fz := []) (l := [0, 1, 5, 9]) (c := _) (.inr fun i h => h) h (by kernel_rfl) (AllP.nil) ?_
  intro a w h
  refine wp_if h (b := (decide ((v48 : Int) < (List.length x0 : Int)))) (by kernel_rfl) (fun hb => ?_) (fun hb => ?_)
  · replace hF := of_t hb hF
    refine wp_skip ?_
    refine wp_seq <| wp_block ?_
    refine wp_seq ?_
    obtain ⟨hc54, hF⟩ := of_if hF
    refine wp_reg_seq tok (orc := orcL []) (fz := []) (l := [0, 1, 5, 18]) (c := _) (.inr fun i h => h) h (by kernel_rfl) (AllP.cons hc54 AllP.nil) ?_
    intro a w h
    refine wp_if h (b := (((List.getD x0 (Int.toNat v48) ((0 : Int), ((0 : Int), (0 : Int)))).1 : Int) != v47)) (by kernel_rfl) (fun hb => ?_) (fun hb => ?_)
    · replace hF := of_t hb hF
      refine wp_reg_seq tok (orc := orcL []) (fz := []) (l := [4]) (c := _) (.inr fun i h => h) h (by kernel_rfl) (AllP.nil) ?_
      intro a w h
      cases hF
      exact wp_ret (ret_okR tok h rfl (by kernel_rfl)).1
    · replace hF := of_f hb hF
      refine wp_skip ?_
      refine wp_reg_seq tok (orc := orcL []) (fz := []) (l := [0, 1, 5]) (c := _) (.inr fun i h => h) h (by kernel_rfl) (AllP.nil) ?_
      intro a w h
      refine wp_seq ?_
      obtain ⟨hc53, hF⟩ := of_if hF
      refine wp_reg_seq tok (orc := orcL []) (fz := []) (l := [0, 1, 5, 28]) (c := _) (.inr fun i h => h) h (by kernel_rfl) (AllP.cons hc53 AllP.nil) ?_
      intro a w h
      refine wp_if h (b := (((List.getD x0 (Int.toNat v48) ((0 : Int), ((0 : Int), (0 : Int)))).2.1 : Int) != (IntKind.i64.wrap (v47 + (1 : Int))))) (by kernel_rfl) (fun hb => ?_) (fun hb => ?_)
      · replace hF := of_t hb hF
        refine wp_reg_seq tok (orc := orcL []) (fz := []) (l := [4]) (c := _) (.inr fun i h => h) h (by kernel_rfl) (AllP.nil) ?_
        intro a w h
        cases hF
        exact wp_ret (ret_okR tok h rfl (by kernel_rfl)).1
      · replace hF := of_f hb hF
        refine wp_skip ?_
        refine wp_reg_seq tok (orc := orcL []) (fz := []) (l := [0, 1, 5]) (c := _) (.inr fun i h => h) h (by kernel_rfl) (AllP.nil) ?_
        intro a w h
        refine wp_seq ?_
        obtain ⟨hc52, hF⟩ := of_if hF
        refine wp_reg_seq tok (orc := orcL []) (fz := []) (l := [0, 1, 5, 38]) (c := _) (.inr fun i h => h) h (by kernel_rfl) (AllP.cons hc52 AllP.nil) ?_
        intro a w h
        refine wp_if h (b := (((List.getD x0 (Int.toNat v48) ((0 : Int), ((0 : Int), (0 : Int)))).2.2 : Int) != (IntKind.i64.wrap ((IntKind.i64.wrap (v47 + (1 : Int))) + (1 : Int))))) (by kernel_rfl) (fun hb => ?_) (fun hb => ?_)
        · replace hF := of_t hb hF
          refine wp_reg_seq tok (orc := orcL []) (fz := []) (l := [4]) (c := _) (.inr fun i h => h) h (by kernel_rfl) (AllP.nil) ?_
          intro a w h
          cases hF
          exact wp_ret (ret_okR tok h rfl (by kernel_rfl)).1
        · replace hF := of_f hb hF
          refine wp_skip ?_
          refine wp_reg tok (orc := orcL []) (fz := []) (l := [0, 1, 5]) (c := _) (.inr fun i h => h) h (by kernel_rfl) (AllP.nil) ?_
          intro a w h
          refine wp_reg tok (orc := orcL []) (fz := []) (l := [0, 1, 5]) (c := _) (.inr fun i h => h) h (by kernel_rfl) (AllP.nil) ?_
          intro a w h
          exact ⟨((IntKind.i64.wrap ((IntKind.i64.wrap ((IntKind.i64.wrap (v47 + (1 : Int))) + (1 : Int))) + (1 : Int))), (IntKind.i64.wrap (v48 + (1 : Int)))), hF, h.arrive (fz := []) (l := [0, 1, 5]) (.inr fun i h => h) (by kernel_rfl)⟩
  · replace hF := of_f hb hF
    refine wp_exit ?_
    refine wp_reg_seq tok (orc := orcL []) (fz := []) (l := [4]) (c := _) (.inr fun i h => h) h (by kernel_rfl) (AllP.nil) ?_
    intro a w h
    cases hF
    exact wp_ret (ret_okR tok h rfl (by kernel_rfl)).1

def f129.l58 (k : Nat) (x0 : (List (Int × (Int × (Int × (Int × (Int × ByteArray))))))) : Nat → (Int × Int) → Option Int
  | 0, _ => none
  | m58 + 1, (v97, v98) => if (decide ((v98 : Int) < (List.length x0 : Int))) then (if (0 ≤ v98 ∧ v98 < (List.length x0 : Int)) then (if (((List.getD x0 (Int.toNat v98) ((0 : Int), ((0 : Int), ((0 : Int), ((0 : Int), ((0 : Int), (⟨#[]⟩ : ByteArray))))))).1 : Int) != v97) then (some (-1 : Int)) else (if (0 ≤ v98 ∧ v98 < (List.length x0 : Int)) then (if (((List.getD x0 (Int.toNat v98) ((0 : Int), ((0 : Int), ((0 : Int), ((0 : Int), ((0 : Int), (⟨#[]⟩ : ByteArray))))))).2.1 : Int) != (IntKind.i64.wrap (v97 + (1 : Int)))) then (some (-1 : Int)) else (if (0 ≤ v98 ∧ v98 < (List.length x0 : Int)) then (if (((List.getD x0 (Int.toNat v98) ((0 : Int), ((0 : Int), ((0 : Int), ((0 : Int), ((0 : Int), (⟨#[]⟩ : ByteArray))))))).2.2.1 : Int) != (IntKind.i64.wrap ((IntKind.i64.wrap (v97 + (1 : Int))) + (1 : Int)))) then (some (-1 : Int)) else (if (0 ≤ v98 ∧ v98 < (List.length x0 : Int)) then (if (((List.getD x0 (Int.toNat v98) ((0 : Int), ((0 : Int), ((0 : Int), ((0 : Int), ((0 : Int), (⟨#[]⟩ : ByteArray))))))).2.2.2.1 : Int) != (IntKind.i64.wrap ((IntKind.i64.wrap ((IntKind.i64.wrap (v97 + (1 : Int))) + (1 : Int))) + (1 : Int)))) then (some (-1 : Int)) else (if (0 ≤ v98 ∧ v98 < (List.length x0 : Int)) then (if (((List.getD x0 (Int.toNat v98) ((0 : Int), ((0 : Int), ((0 : Int), ((0 : Int), ((0 : Int), (⟨#[]⟩ : ByteArray))))))).2.2.2.2.1 : Int) != (IntKind.i64.wrap ((IntKind.i64.wrap ((IntKind.i64.wrap ((IntKind.i64.wrap (v97 + (1 : Int))) + (1 : Int))) + (1 : Int))) + (1 : Int)))) then (some (-1 : Int)) else (if (0 ≤ v98 ∧ v98 < (List.length x0 : Int)) then ((f91 k (IntKind.i64.wrap ((IntKind.i64.wrap ((IntKind.i64.wrap ((IntKind.i64.wrap ((IntKind.i64.wrap (v97 + (1 : Int))) + (1 : Int))) + (1 : Int))) + (1 : Int))) + (1 : Int)))).bind fun r107 => (if (!(ByteArray.toList (List.getD x0 (Int.toNat v98) ((0 : Int), ((0 : Int), ((0 : Int), ((0 : Int), ((0 : Int), (⟨#[]⟩ : ByteArray))))))).2.2.2.2.2 == ByteArray.toList r107)) then (some (-1 : Int)) else ((f129.l58 k x0) m58 ((IntKind.i64.wrap ((IntKind.i64.wrap ((IntKind.i64.wrap ((IntKind.i64.wrap ((IntKind.i64.wrap ((IntKind.i64.wrap (v97 + (1 : Int))) + (1 : Int))) + (1 : Int))) + (1 : Int))) + (1 : Int))) + (1 : Int))), (IntKind.i64.wrap (v98 + (1 : Int))))))) else none)) else none)) else none)) else none)) else none)) else none) else (some v97)
def f129 (k : Nat) (x0 : (List (Int × (Int × (Int × (Int × (Int × ByteArray))))))) (x1 : Int) : Option Int := f129.l58 k x0 k (x1, (0 : Int))
set_option maxRecDepth 100000 in
/-- 'laws.heldRoadS'. -/
theorem c129 (k : Nat) (x0 : (List (Int × (Int × (Int × (Int × (Int × ByteArray))))))) (x1 : Int) (r : Int) (hF : f129 k x0 x1 = some r) : PCall Try.prog 129 [⟨sh41, x0⟩, ⟨(.int .i64), x1⟩] [⟨(.int .i64), r⟩] := by
  refine pcall_intro Try.func129 rfl rfl (Nat.le_of_ble_eq_true rfl) ?_
  intro w0 Zi a w h
  rw [f129] at hF
  refine wp_reg_seq tok (orc := orcL []) (fz := []) (l := [0, 1]) (c := _) (.inr fun i h => h) h (by kernel_rfl) (AllP.nil) ?_
  intro a w h
  refine wp_seq ?_
  refine wp_reg_seq tok (orc := orcL []) (fz := []) (l := [0, 1, 5]) (c := _) (.inr fun i h => h) h (by kernel_rfl) (AllP.nil) ?_
  intro a w h
  refine wp_block ?_
  refine wp_loop_fuel (f129.l58 k x0) (fun ((v97, v98) : (Int × Int)) => [(0, .val sh41 x0), (1, .val (.int .i64) v97), (5, .val (.int .i64) v98)]) (fun v h => by obtain ⟨v97, v98⟩ := v; rw [f129.l58] at h; cases h) ?_ hF (h.arrive (fz := []) (l := [0, 1, 5]) (.inr fun i h => h) (by kernel_rfl))
  intro m58 v a w hF h
  obtain ⟨v97, v98⟩ := v
  rw [f129.l58] at hF
  refine wp_seq ?_
  refine wp_reg_seq tok (orc := orcL []) (fz := []) (l := [0, 1, 5, 9]) (c := _) (.inr fun i h => h) h (by kernel_rfl) (AllP.nil) ?_
  intro a w h
  refine wp_if h (b := (decide ((v98 : Int) < (List.length x0 : Int)))) (by kernel_rfl) (fun hb => ?_) (fun hb => ?_)
  · replace hF := of_t hb hF
    refine wp_skip ?_
    refine wp_seq <| wp_block ?_
    refine wp_seq ?_
    obtain ⟨hc114, hF⟩ := of_if hF
    refine wp_reg_seq tok (orc := orcL []) (fz := []) (l := [0, 1, 5, 18]) (c := _) (.inr fun i h => h) h (by kernel_rfl) (AllP.cons hc114 AllP.nil) ?_
    intro a w h
    refine wp_if h (b := (((List.getD x0 (Int.toNat v98) ((0 : Int), ((0 : Int), ((0 : Int), ((0 : Int), ((0 : Int), (⟨#[]⟩ : ByteArray))))))).1 : Int) != v97)) (by kernel_rfl) (fun hb => ?_) (fun hb => ?_)
    · replace hF := of_t hb hF
      refine wp_reg_seq tok (orc := orcL []) (fz := []) (l := [4]) (c := _) (.inr fun i h => h) h (by kernel_rfl) (AllP.nil) ?_
      intro a w h
      cases hF
      exact wp_ret (ret_okR tok h rfl (by kernel_rfl)).1
    · replace hF := of_f hb hF
      refine wp_skip ?_
      refine wp_reg_seq tok (orc := orcL []) (fz := []) (l := [0, 1, 5]) (c := _) (.inr fun i h => h) h (by kernel_rfl) (AllP.nil) ?_
      intro a w h
      refine wp_seq ?_
      obtain ⟨hc113, hF⟩ := of_if hF
      refine wp_reg_seq tok (orc := orcL []) (fz := []) (l := [0, 1, 5, 27]) (c := _) (.inr fun i h => h) h (by kernel_rfl) (AllP.cons hc113 AllP.nil) ?_
      intro a w h
      refine wp_if h (b := (((List.getD x0 (Int.toNat v98) ((0 : Int), ((0 : Int), ((0 : Int), ((0 : Int), ((0 : Int), (⟨#[]⟩ : ByteArray))))))).2.1 : Int) != (IntKind.i64.wrap (v97 + (1 : Int))))) (by kernel_rfl) (fun hb => ?_) (fun hb => ?_)
      · replace hF := of_t hb hF
        refine wp_reg_seq tok (orc := orcL []) (fz := []) (l := [4]) (c := _) (.inr fun i h => h) h (by kernel_rfl) (AllP.nil) ?_
        intro a w h
        cases hF
        exact wp_ret (ret_okR tok h rfl (by kernel_rfl)).1
      · replace hF := of_f hb hF
        refine wp_skip ?_
        refine wp_reg_seq tok (orc := orcL []) (fz := []) (l := [0, 1, 5]) (c := _) (.inr fun i h => h) h (by kernel_rfl) (AllP.nil) ?_
        intro a w h
        refine wp_seq ?_
        obtain ⟨hc112, hF⟩ := of_if hF
        refine wp_reg_seq tok (orc := orcL []) (fz := []) (l := [0, 1, 5, 36]) (c := _) (.inr fun i h => h) h (by kernel_rfl) (AllP.cons hc112 AllP.nil) ?_
        intro a w h
        refine wp_if h (b := (((List.getD x0 (Int.toNat v98) ((0 : Int), ((0 : Int), ((0 : Int), ((0 : Int), ((0 : Int), (⟨#[]⟩ : ByteArray))))))).2.2.1 : Int) != (IntKind.i64.wrap ((IntKind.i64.wrap (v97 + (1 : Int))) + (1 : Int))))) (by kernel_rfl) (fun hb => ?_) (fun hb => ?_)
        · replace hF := of_t hb hF
          refine wp_reg_seq tok (orc := orcL []) (fz := []) (l := [4]) (c := _) (.inr fun i h => h) h (by kernel_rfl) (AllP.nil) ?_
          intro a w h
          cases hF
          exact wp_ret (ret_okR tok h rfl (by kernel_rfl)).1
        · replace hF := of_f hb hF
          refine wp_skip ?_
          refine wp_reg_seq tok (orc := orcL []) (fz := []) (l := [0, 1, 5]) (c := _) (.inr fun i h => h) h (by kernel_rfl) (AllP.nil) ?_
          intro a w h
          refine wp_seq ?_
          obtain ⟨hc111, hF⟩ := of_if hF
          refine wp_reg_seq tok (orc := orcL []) (fz := []) (l := [0, 1, 5, 45]) (c := _) (.inr fun i h => h) h (by kernel_rfl) (AllP.cons hc111 AllP.nil) ?_
          intro a w h
          refine wp_if h (b := (((List.getD x0 (Int.toNat v98) ((0 : Int), ((0 : Int), ((0 : Int), ((0 : Int), ((0 : Int), (⟨#[]⟩ : ByteArray))))))).2.2.2.1 : Int) != (IntKind.i64.wrap ((IntKind.i64.wrap ((IntKind.i64.wrap (v97 + (1 : Int))) + (1 : Int))) + (1 : Int))))) (by kernel_rfl) (fun hb => ?_) (fun hb => ?_)
          · replace hF := of_t hb hF
            refine wp_reg_seq tok (orc := orcL []) (fz := []) (l := [4]) (c := _) (.inr fun i h => h) h (by kernel_rfl) (AllP.nil) ?_
            intro a w h
            cases hF
            exact wp_ret (ret_okR tok h rfl (by kernel_rfl)).1
          · replace hF := of_f hb hF
            refine wp_skip ?_
            refine wp_reg_seq tok (orc := orcL []) (fz := []) (l := [0, 1, 5]) (c := _) (.inr fun i h => h) h (by kernel_rfl) (AllP.nil) ?_
            intro a w h
            refine wp_seq ?_
            obtain ⟨hc110, hF⟩ := of_if hF
            refine wp_reg_seq tok (orc := orcL []) (fz := []) (l := [0, 1, 5, 54]) (c := _) (.inr fun i h => h) h (by kernel_rfl) (AllP.cons hc110 AllP.nil) ?_
            intro a w h
            refine wp_if h (b := (((List.getD x0 (Int.toNat v98) ((0 : Int), ((0 : Int), ((0 : Int), ((0 : Int), ((0 : Int), (⟨#[]⟩ : ByteArray))))))).2.2.2.2.1 : Int) != (IntKind.i64.wrap ((IntKind.i64.wrap ((IntKind.i64.wrap ((IntKind.i64.wrap (v97 + (1 : Int))) + (1 : Int))) + (1 : Int))) + (1 : Int))))) (by kernel_rfl) (fun hb => ?_) (fun hb => ?_)
            · replace hF := of_t hb hF
              refine wp_reg_seq tok (orc := orcL []) (fz := []) (l := [4]) (c := _) (.inr fun i h => h) h (by kernel_rfl) (AllP.nil) ?_
              intro a w h
              cases hF
              exact wp_ret (ret_okR tok h rfl (by kernel_rfl)).1
            · replace hF := of_f hb hF
              refine wp_skip ?_
              refine wp_reg_seq tok (orc := orcL []) (fz := []) (l := [0, 1, 5]) (c := _) (.inr fun i h => h) h (by kernel_rfl) (AllP.nil) ?_
              intro a w h
              refine wp_seq ?_
              obtain ⟨hc108, hF⟩ := of_if hF
              obtain ⟨r107, hr109, hF⟩ := of_bind hF
              refine wp_regy_seq tok (orc := orcL [(63, [⟨.str, r107⟩])]) (fz := []) (l := [0, 1, 5, 64]) (c := _) ([], [], [], []) 8 (.inr fun i h => h) h (by kernel_rfl) (by kernel_rfl) (AllP.cons hc108 (AllP.cons (c91 k (IntKind.i64.wrap ((IntKind.i64.wrap ((IntKind.i64.wrap ((IntKind.i64.wrap ((IntKind.i64.wrap (v97 + (1 : Int))) + (1 : Int))) + (1 : Int))) + (1 : Int))) + (1 : Int))) r107 hr109) AllP.nil)) ?_
              intro a w h
              refine wp_if h (b := (!(ByteArray.toList (List.getD x0 (Int.toNat v98) ((0 : Int), ((0 : Int), ((0 : Int), ((0 : Int), ((0 : Int), (⟨#[]⟩ : ByteArray))))))).2.2.2.2.2 == ByteArray.toList r107))) (by kernel_rfl) (fun hb => ?_) (fun hb => ?_)
              · replace hF := of_t hb hF
                refine wp_reg_seq tok (orc := orcL []) (fz := []) (l := [4]) (c := _) (.inr fun i h => h) h (by kernel_rfl) (AllP.nil) ?_
                intro a w h
                cases hF
                exact wp_ret (ret_okR tok h rfl (by kernel_rfl)).1
              · replace hF := of_f hb hF
                refine wp_skip ?_
                refine wp_reg tok (orc := orcL []) (fz := []) (l := [0, 1, 5]) (c := _) (.inr fun i h => h) h (by kernel_rfl) (AllP.nil) ?_
                intro a w h
                refine wp_reg tok (orc := orcL []) (fz := []) (l := [0, 1, 5]) (c := _) (.inr fun i h => h) h (by kernel_rfl) (AllP.nil) ?_
                intro a w h
                exact ⟨((IntKind.i64.wrap ((IntKind.i64.wrap ((IntKind.i64.wrap ((IntKind.i64.wrap ((IntKind.i64.wrap ((IntKind.i64.wrap (v97 + (1 : Int))) + (1 : Int))) + (1 : Int))) + (1 : Int))) + (1 : Int))) + (1 : Int))), (IntKind.i64.wrap (v98 + (1 : Int)))), hF, h.arrive (fz := []) (l := [0, 1, 5]) (.inr fun i h => h) (by kernel_rfl)⟩
  · replace hF := of_f hb hF
    refine wp_exit ?_
    refine wp_reg_seq tok (orc := orcL []) (fz := []) (l := [4]) (c := _) (.inr fun i h => h) h (by kernel_rfl) (AllP.nil) ?_
    intro a w h
    cases hF
    exact wp_ret (ret_okR tok h rfl (by kernel_rfl)).1

def f130.l22 (k : Nat) (x0 : (List (Int × Int))) : Nat → (Int × Int) → Option Int
  | 0, _ => none
  | m22 + 1, (v37, v38) => if (decide ((v38 : Int) < (List.length x0 : Int))) then (if (0 ≤ v38 ∧ v38 < (List.length x0 : Int)) then (if (((List.getD x0 (Int.toNat v38) ((0 : Int), (0 : Int))).1 : Int) != v37) then (some (-1 : Int)) else (if (0 ≤ v38 ∧ v38 < (List.length x0 : Int)) then (if (((List.getD x0 (Int.toNat v38) ((0 : Int), (0 : Int))).2 : Int) != (IntKind.i64.wrap (v37 + (1 : Int)))) then (some (-1 : Int)) else ((f130.l22 k x0) m22 ((IntKind.i64.wrap ((IntKind.i64.wrap (v37 + (1 : Int))) + (1 : Int))), (IntKind.i64.wrap (v38 + (1 : Int)))))) else none)) else none) else (some v37)
def f130 (k : Nat) (x0 : (List (Int × Int))) (x1 : Int) : Option Int := f130.l22 k x0 k (x1, (0 : Int))
set_option maxRecDepth 100000 in
/-- 'laws.heldBanS'. -/
theorem c130 (k : Nat) (x0 : (List (Int × Int))) (x1 : Int) (r : Int) (hF : f130 k x0 x1 = some r) : PCall Try.prog 130 [⟨sh42, x0⟩, ⟨(.int .i64), x1⟩] [⟨(.int .i64), r⟩] := by
  refine pcall_intro Try.func130 rfl rfl (Nat.le_of_ble_eq_true rfl) ?_
  intro w0 Zi a w h
  rw [f130] at hF
  refine wp_reg_seq tok (orc := orcL []) (fz := []) (l := [0, 1]) (c := _) (.inr fun i h => h) h (by kernel_rfl) (AllP.nil) ?_
  intro a w h
  refine wp_seq ?_
  refine wp_reg_seq tok (orc := orcL []) (fz := []) (l := [0, 1, 5]) (c := _) (.inr fun i h => h) h (by kernel_rfl) (AllP.nil) ?_
  intro a w h
  refine wp_block ?_
  refine wp_loop_fuel (f130.l22 k x0) (fun ((v37, v38) : (Int × Int)) => [(0, .val sh42 x0), (1, .val (.int .i64) v37), (5, .val (.int .i64) v38)]) (fun v h => by obtain ⟨v37, v38⟩ := v; rw [f130.l22] at h; cases h) ?_ hF (h.arrive (fz := []) (l := [0, 1, 5]) (.inr fun i h => h) (by kernel_rfl))
  intro m22 v a w hF h
  obtain ⟨v37, v38⟩ := v
  rw [f130.l22] at hF
  refine wp_seq ?_
  refine wp_reg_seq tok (orc := orcL []) (fz := []) (l := [0, 1, 5, 9]) (c := _) (.inr fun i h => h) h (by kernel_rfl) (AllP.nil) ?_
  intro a w h
  refine wp_if h (b := (decide ((v38 : Int) < (List.length x0 : Int)))) (by kernel_rfl) (fun hb => ?_) (fun hb => ?_)
  · replace hF := of_t hb hF
    refine wp_skip ?_
    refine wp_seq <| wp_block ?_
    refine wp_seq ?_
    obtain ⟨hc42, hF⟩ := of_if hF
    refine wp_reg_seq tok (orc := orcL []) (fz := []) (l := [0, 1, 5, 18]) (c := _) (.inr fun i h => h) h (by kernel_rfl) (AllP.cons hc42 AllP.nil) ?_
    intro a w h
    refine wp_if h (b := (((List.getD x0 (Int.toNat v38) ((0 : Int), (0 : Int))).1 : Int) != v37)) (by kernel_rfl) (fun hb => ?_) (fun hb => ?_)
    · replace hF := of_t hb hF
      refine wp_reg_seq tok (orc := orcL []) (fz := []) (l := [4]) (c := _) (.inr fun i h => h) h (by kernel_rfl) (AllP.nil) ?_
      intro a w h
      cases hF
      exact wp_ret (ret_okR tok h rfl (by kernel_rfl)).1
    · replace hF := of_f hb hF
      refine wp_skip ?_
      refine wp_reg_seq tok (orc := orcL []) (fz := []) (l := [0, 1, 5]) (c := _) (.inr fun i h => h) h (by kernel_rfl) (AllP.nil) ?_
      intro a w h
      refine wp_seq ?_
      obtain ⟨hc41, hF⟩ := of_if hF
      refine wp_reg_seq tok (orc := orcL []) (fz := []) (l := [0, 1, 5, 27]) (c := _) (.inr fun i h => h) h (by kernel_rfl) (AllP.cons hc41 AllP.nil) ?_
      intro a w h
      refine wp_if h (b := (((List.getD x0 (Int.toNat v38) ((0 : Int), (0 : Int))).2 : Int) != (IntKind.i64.wrap (v37 + (1 : Int))))) (by kernel_rfl) (fun hb => ?_) (fun hb => ?_)
      · replace hF := of_t hb hF
        refine wp_reg_seq tok (orc := orcL []) (fz := []) (l := [4]) (c := _) (.inr fun i h => h) h (by kernel_rfl) (AllP.nil) ?_
        intro a w h
        cases hF
        exact wp_ret (ret_okR tok h rfl (by kernel_rfl)).1
      · replace hF := of_f hb hF
        refine wp_skip ?_
        refine wp_reg tok (orc := orcL []) (fz := []) (l := [0, 1, 5]) (c := _) (.inr fun i h => h) h (by kernel_rfl) (AllP.nil) ?_
        intro a w h
        refine wp_reg tok (orc := orcL []) (fz := []) (l := [0, 1, 5]) (c := _) (.inr fun i h => h) h (by kernel_rfl) (AllP.nil) ?_
        intro a w h
        exact ⟨((IntKind.i64.wrap ((IntKind.i64.wrap (v37 + (1 : Int))) + (1 : Int))), (IntKind.i64.wrap (v38 + (1 : Int)))), hF, h.arrive (fz := []) (l := [0, 1, 5]) (.inr fun i h => h) (by kernel_rfl)⟩
  · replace hF := of_f hb hF
    refine wp_exit ?_
    refine wp_reg_seq tok (orc := orcL []) (fz := []) (l := [4]) (c := _) (.inr fun i h => h) h (by kernel_rfl) (AllP.nil) ?_
    intro a w h
    cases hF
    exact wp_ret (ret_okR tok h rfl (by kernel_rfl)).1

def f57 (k : Nat) (x0 : ((List (Int × (Int × Int))) × ((List (Int × (Int × (Int × (Int × (Int × ByteArray)))))) × (List (Int × Int))))) (x1 : Int) : Option Int := (f128 k x0.1 x1).bind fun r1 => (if (decide ((r1 : Int) < (0 : Int))) then (some (-1 : Int)) else ((f129 k x0.2.1 r1).bind fun r2 => (if (decide ((r2 : Int) < (0 : Int))) then (some (-1 : Int)) else ((f130 k x0.2.2 r2).bind fun r3 => (if (decide ((r3 : Int) < (0 : Int))) then (some (-1 : Int)) else (some r3))))))
set_option maxRecDepth 100000 in
/-- 'laws.heldGraph'. -/
theorem c57 (k : Nat) (x0 : ((List (Int × (Int × Int))) × ((List (Int × (Int × (Int × (Int × (Int × ByteArray)))))) × (List (Int × Int))))) (x1 : Int) (r : Int) (hF : f57 k x0 x1 = some r) : PCall Try.prog 57 [⟨sh29, x0⟩, ⟨(.int .i64), x1⟩] [⟨(.int .i64), r⟩] := by
  refine pcall_intro Try.func57 rfl rfl (Nat.le_of_ble_eq_true rfl) ?_
  intro w0 Zi a w h
  rw [f57] at hF
  refine wp_reg_seq tok (orc := orcL []) (fz := []) (l := [1, 2]) (c := _) (.inr fun i h => h) h (by kernel_rfl) (AllP.nil) ?_
  intro a w h
  obtain ⟨r1, hr6, hF⟩ := of_bind hF
  refine wp_reg_seq tok (orc := orcL [(8, [⟨(.int .i64), r1⟩])]) (fz := []) (l := [1, 2]) (c := _) (.inr fun i h => h) h (by kernel_rfl) (AllP.cons (c128 k x0.1 x1 r1 hr6) AllP.nil) ?_
  intro a w h
  refine wp_seq ?_
  refine wp_reg_seq tok (orc := orcL []) (fz := []) (l := [1, 2, 10]) (c := _) (.inr fun i h => h) h (by kernel_rfl) (AllP.nil) ?_
  intro a w h
  refine wp_if h (b := (decide ((r1 : Int) < (0 : Int)))) (by kernel_rfl) (fun hb => ?_) (fun hb => ?_)
  · replace hF := of_t hb hF
    refine wp_reg_seq tok (orc := orcL []) (fz := []) (l := [4]) (c := _) (.inr fun i h => h) h (by kernel_rfl) (AllP.nil) ?_
    intro a w h
    cases hF
    exact wp_ret (ret_okR tok h rfl (by kernel_rfl)).1
  · replace hF := of_f hb hF
    refine wp_skip ?_
    obtain ⟨r2, hr5, hF⟩ := of_bind hF
    refine wp_reg_seq tok (orc := orcL [(14, [⟨(.int .i64), r2⟩])]) (fz := []) (l := [1, 2]) (c := _) (.inr fun i h => h) h (by kernel_rfl) (AllP.cons (c129 k x0.2.1 r1 r2 hr5) AllP.nil) ?_
    intro a w h
    refine wp_seq ?_
    refine wp_reg_seq tok (orc := orcL []) (fz := []) (l := [1, 2, 16]) (c := _) (.inr fun i h => h) h (by kernel_rfl) (AllP.nil) ?_
    intro a w h
    refine wp_if h (b := (decide ((r2 : Int) < (0 : Int)))) (by kernel_rfl) (fun hb => ?_) (fun hb => ?_)
    · replace hF := of_t hb hF
      refine wp_reg_seq tok (orc := orcL []) (fz := []) (l := [4]) (c := _) (.inr fun i h => h) h (by kernel_rfl) (AllP.nil) ?_
      intro a w h
      cases hF
      exact wp_ret (ret_okR tok h rfl (by kernel_rfl)).1
    · replace hF := of_f hb hF
      refine wp_skip ?_
      obtain ⟨r3, hr4, hF⟩ := of_bind hF
      refine wp_reg_seq tok (orc := orcL [(20, [⟨(.int .i64), r3⟩])]) (fz := []) (l := [1]) (c := _) (.inr fun i h => h) h (by kernel_rfl) (AllP.cons (c130 k x0.2.2 r2 r3 hr4) AllP.nil) ?_
      intro a w h
      refine wp_seq ?_
      refine wp_reg_seq tok (orc := orcL []) (fz := []) (l := [1, 22]) (c := _) (.inr fun i h => h) h (by kernel_rfl) (AllP.nil) ?_
      intro a w h
      refine wp_if h (b := (decide ((r3 : Int) < (0 : Int)))) (by kernel_rfl) (fun hb => ?_) (fun hb => ?_)
      · replace hF := of_t hb hF
        refine wp_reg_seq tok (orc := orcL []) (fz := []) (l := [4]) (c := _) (.inr fun i h => h) h (by kernel_rfl) (AllP.nil) ?_
        intro a w h
        cases hF
        exact wp_ret (ret_okR tok h rfl (by kernel_rfl)).1
      · replace hF := of_f hb hF
        refine wp_skip ?_
        refine wp_reg_seq tok (orc := orcL []) (fz := []) (l := [4]) (c := _) (.inr fun i h => h) h (by kernel_rfl) (AllP.nil) ?_
        intro a w h
        cases hF
        exact wp_ret (ret_okR tok h rfl (by kernel_rfl)).1

def f13 (k : Nat) (x0 : ((List (Int × ((Int × Int) × (List (ByteArray × ByteArray))))) × ((List (Int × ((List Int) × (List (ByteArray × ByteArray))))) × (List (Int × ((List (Int × Bool)) × (List (ByteArray × ByteArray)))))))) (x1 : Int) : Option Bool := (f61 k x0 (1048576 : Int)).bind fun r1 => (if (decide ((r1 : Int) < (0 : Int))) then (some true) else ((f63 k x0).bind fun r2 => ((f62 k r2 x1).bind fun r3 => ((f63 k x0).bind fun r4 => ((f64 k r4 x1).bind fun r5 => ((f20 k r5 r3).bind fun r6 => (if (!r6) then (some false) else ((f63 k x0).bind fun r7 => ((f65 k r4 r7).bind fun r8 => (if (!r8) then (some false) else ((f66 k r4 (1 : Int)).bind fun r9 => ((if ((decide ((r9.1 : Int) < (0 : Int))) = false) then f20 k r5 r3 else some default).bind fun r10 => (if (bif (decide ((r9.1 : Int) < (0 : Int))) then true else (!r10)) then (some false) else ((f22 k r5 (1 : Int)).bind fun r11 => ((f57 k r11.2 (1 : Int)).bind fun r12 => (if (decide ((r12 : Int) < (0 : Int))) then (some false) else (if ((r12 : Int) != r11.1) then (some false) else ((f63 k x0).bind fun r13 => ((f64 k r13 x1).bind fun r14 => ((f20 k r14 r3).bind fun r15 => (if (!r15) then (some false) else ((f57 k r11.2 (1 : Int)).bind fun r16 => (if (decide ((r16 : Int) < (0 : Int))) then (some false) else (if ((r16 : Int) != r11.1) then (some false) else (some true)))))))))))))))))))))))))
set_option maxRecDepth 100000 in
/-- 'laws.FnExactMakeGraph'. -/
theorem c13 (k : Nat) (x0 : ((List (Int × ((Int × Int) × (List (ByteArray × ByteArray))))) × ((List (Int × ((List Int) × (List (ByteArray × ByteArray))))) × (List (Int × ((List (Int × Bool)) × (List (ByteArray × ByteArray)))))))) (x1 : Int) (r : Bool) (hF : f13 k x0 x1 = some r) : PCall Try.prog 13 [⟨sh8, x0⟩, ⟨(.int .i64), x1⟩] [⟨.bool, r⟩] := by
  refine pcall_intro Try.func13 rfl rfl (Nat.le_of_ble_eq_true rfl) ?_
  intro w0 Zi a w h
  rw [f13] at hF
  refine wp_reg_seq tok (orc := orcL []) (fz := []) (l := [1, 2]) (c := _) (.inr fun i h => h) h (by kernel_rfl) (AllP.nil) ?_
  intro a w h
  refine wp_reg_seq tok (orc := orcL []) (fz := []) (l := [1, 2, 5]) (c := _) (.inr fun i h => h) h (by kernel_rfl) (AllP.nil) ?_
  intro a w h
  obtain ⟨r1, hr32, hF⟩ := of_bind hF
  refine wp_reg_seq tok (orc := orcL [(15, [⟨(.int .i64), r1⟩])]) (fz := []) (l := [1, 2, 5]) (c := _) (.inr fun i h => h) h (by kernel_rfl) (AllP.cons (c61 k x0 (1048576 : Int) r1 hr32) AllP.nil) ?_
  intro a w h
  refine wp_seq ?_
  refine wp_reg_seq tok (orc := orcL []) (fz := []) (l := [1, 2, 17]) (c := _) (.inr fun i h => h) h (by kernel_rfl) (AllP.nil) ?_
  intro a w h
  refine wp_if h (b := (decide ((r1 : Int) < (0 : Int)))) (by kernel_rfl) (fun hb => ?_) (fun hb => ?_)
  · replace hF := of_t hb hF
    refine wp_reg_seq tok (orc := orcL []) (fz := []) (l := [4]) (c := _) (.inr fun i h => h) h (by kernel_rfl) (AllP.nil) ?_
    intro a w h
    cases hF
    exact wp_ret (ret_okR tok h rfl (by kernel_rfl)).1
  · replace hF := of_f hb hF
    refine wp_skip ?_
    obtain ⟨r2, hr30, hF⟩ := of_bind hF
    obtain ⟨r3, hr31, hF⟩ := of_bind hF
    refine wp_reg_seq tok (orc := orcL [(19, [⟨sh19, r2⟩]), (21, [⟨sh31, r3⟩])]) (fz := []) (l := [1, 2, 6]) (c := _) (.inr fun i h => h) h (by kernel_rfl) (AllP.cons (c63 k x0 r2 hr30) (AllP.cons (c62 k r2 x1 r3 hr31) AllP.nil)) ?_
    intro a w h
    obtain ⟨r4, hr29, hF⟩ := of_bind hF
    refine wp_reg_seq tok (orc := orcL [(23, [⟨sh19, r4⟩])]) (fz := []) (l := [1, 2, 6, 7]) (c := _) (.inr fun i h => h) h (by kernel_rfl) (AllP.cons (c63 k x0 r4 hr29) AllP.nil) ?_
    intro a w h
    obtain ⟨r5, hr28, hF⟩ := of_bind hF
    refine wp_reg_seq tok (orc := orcL [(26, [⟨sh31, r5⟩])]) (fz := []) (l := [1, 2, 6, 7, 8]) (c := _) (.inr fun i h => h) h (by kernel_rfl) (AllP.cons (c64 k r4 x1 r5 hr28) AllP.nil) ?_
    intro a w h
    refine wp_seq ?_
    obtain ⟨r6, hr27, hF⟩ := of_bind hF
    refine wp_reg_seq tok (orc := orcL [(29, [⟨.bool, r6⟩])]) (fz := []) (l := [1, 2, 6, 7, 8, 30]) (c := _) (.inr fun i h => h) h (by kernel_rfl) (AllP.cons (c20 k r5 r3 r6 hr27) AllP.nil) ?_
    intro a w h
    refine wp_if h (b := (!r6)) (by kernel_rfl) (fun hb => ?_) (fun hb => ?_)
    · replace hF := of_t hb hF
      refine wp_reg_seq tok (orc := orcL []) (fz := []) (l := [4]) (c := _) (.inr fun i h => h) h (by kernel_rfl) (AllP.nil) ?_
      intro a w h
      cases hF
      exact wp_ret (ret_okR tok h rfl (by kernel_rfl)).1
    · replace hF := of_f hb hF
      refine wp_skip ?_
      refine wp_seq ?_
      obtain ⟨r7, hr25, hF⟩ := of_bind hF
      obtain ⟨r8, hr26, hF⟩ := of_bind hF
      refine wp_regy_seq tok (orc := orcL [(33, [⟨sh19, r7⟩]), (34, [⟨.bool, r8⟩])]) (fz := []) (l := [1, 2, 6, 7, 8, 35]) (c := _) ([], [], [], []) 5 (.inr fun i h => h) h (by kernel_rfl) (by kernel_rfl) (AllP.cons (c63 k x0 r7 hr25) (AllP.cons (c65 k r4 r7 r8 hr26) AllP.nil)) ?_
      intro a w h
      refine wp_if h (b := (!r8)) (by kernel_rfl) (fun hb => ?_) (fun hb => ?_)
      · replace hF := of_t hb hF
        refine wp_reg_seq tok (orc := orcL []) (fz := []) (l := [4]) (c := _) (.inr fun i h => h) h (by kernel_rfl) (AllP.nil) ?_
        intro a w h
        cases hF
        exact wp_ret (ret_okR tok h rfl (by kernel_rfl)).1
      · replace hF := of_f hb hF
        refine wp_skip ?_
        refine wp_reg_seq tok (orc := orcL []) (fz := []) (l := [1, 2, 6, 7, 8, 9]) (c := _) (.inr fun i h => h) h (by kernel_rfl) (AllP.nil) ?_
        intro a w h
        obtain ⟨r9, hr24, hF⟩ := of_bind hF
        refine wp_reg_seq tok (orc := orcL [(38, [⟨.pt false 4294967295 (.st (.pair (.sl true 188 (.st (.pair (.int .i64) (.pair (.st (.pair (.int .i64) (.int .i64))) (.sl true 273 (.st (.pair .str .str))))))) (.pair (.sl true 184 (.st (.pair (.int .i64) (.pair (.sl true 2 (.int .i64)) (.sl true 273 (.st (.pair .str .str))))))) (.sl true 270 (.st (.pair (.int .i64) (.pair (.sl true 278 (.st (.pair (.int .i64) .bool))) (.sl true 273 (.st (.pair .str .str)))))))))), some r9.2⟩, ⟨(.int .i64), r9.1⟩])]) (fz := []) (l := [1, 2, 6, 8, 9]) (c := _) (.inr fun i h => h) h (by kernel_rfl) (AllP.cons (c66 k r4 (1 : Int) r9 hr24) AllP.nil) ?_
        intro a w h
        refine wp_seq ?_
        obtain ⟨r10, hr23, hF⟩ := of_bind hF
        refine wp_reg_seq tok (orc := orcL [(44, [⟨.bool, r10⟩])]) (fz := []) (l := [1, 2, 6, 8, 46]) (c := _) (.inr fun i h => h) h (by kernel_rfl) (AllP.cons (fun (hg : ((decide ((r9.1 : Int) < (0 : Int))) = false)) => c20 k r5 r3 r10 (of_g hg hr23)) AllP.nil) ?_
        intro a w h
        refine wp_if h (b := (bif (decide ((r9.1 : Int) < (0 : Int))) then true else (!r10))) (by kernel_rfl) (fun hb => ?_) (fun hb => ?_)
        · replace hF := of_t hb hF
          refine wp_reg_seq tok (orc := orcL []) (fz := []) (l := [4]) (c := _) (.inr fun i h => h) h (by kernel_rfl) (AllP.nil) ?_
          intro a w h
          cases hF
          exact wp_ret (ret_okR tok h rfl (by kernel_rfl)).1
        · replace hF := of_f hb hF
          refine wp_skip ?_
          refine wp_reg_seq tok (orc := orcL []) (fz := []) (l := [1, 2, 6, 8, 10]) (c := _) (.inr fun i h => h) h (by kernel_rfl) (AllP.nil) ?_
          intro a w h
          obtain ⟨r11, hr22, hF⟩ := of_bind hF
          refine wp_reg_seq tok (orc := orcL [(49, [⟨.pt false 4294967295 (.st (.pair (.sl true 176 (.st (.pair (.int .i64) (.st (.pair (.int .i64) (.int .i64)))))) (.pair (.sl true 110 (.st (.pair (.int .i64) (.pair (.int .i64) (.pair (.int .i64) (.pair (.int .i64) (.pair (.int .i64) .str))))))) (.sl true 167 (.st (.pair (.int .i64) (.int .i64))))))), some r11.2⟩, ⟨(.int .i64), r11.1⟩])]) (fz := []) (l := [1, 2, 6, 8, 10]) (c := _) (.inr fun i h => h) h (by kernel_rfl) (AllP.cons (c22 k r5 (1 : Int) r11 hr22) AllP.nil) ?_
          intro a w h
          refine wp_reg_seq tok (orc := orcL []) (fz := []) (l := [1, 2, 6, 8, 10, 11]) (c := _) (.inr fun i h => h) h (by kernel_rfl) (AllP.nil) ?_
          intro a w h
          obtain ⟨r12, hr21, hF⟩ := of_bind hF
          refine wp_reg_seq tok (orc := orcL [(52, [⟨(.int .i64), r12⟩])]) (fz := []) (l := [1, 2, 6, 8, 10, 11]) (c := _) (.inr fun i h => h) h (by kernel_rfl) (AllP.cons (c57 k r11.2 (1 : Int) r12 hr21) AllP.nil) ?_
          intro a w h
          refine wp_seq ?_
          refine wp_reg_seq tok (orc := orcL []) (fz := []) (l := [1, 2, 6, 8, 10, 11, 54]) (c := _) (.inr fun i h => h) h (by kernel_rfl) (AllP.nil) ?_
          intro a w h
          refine wp_if h (b := (decide ((r12 : Int) < (0 : Int)))) (by kernel_rfl) (fun hb => ?_) (fun hb => ?_)
          · replace hF := of_t hb hF
            refine wp_reg_seq tok (orc := orcL []) (fz := []) (l := [4]) (c := _) (.inr fun i h => h) h (by kernel_rfl) (AllP.nil) ?_
            intro a w h
            cases hF
            exact wp_ret (ret_okR tok h rfl (by kernel_rfl)).1
          · replace hF := of_f hb hF
            refine wp_skip ?_
            refine wp_seq ?_
            refine wp_reg_seq tok (orc := orcL []) (fz := []) (l := [1, 2, 6, 8, 10, 57]) (c := _) (.inr fun i h => h) h (by kernel_rfl) (AllP.nil) ?_
            intro a w h
            refine wp_if h (b := ((r12 : Int) != r11.1)) (by kernel_rfl) (fun hb => ?_) (fun hb => ?_)
            · replace hF := of_t hb hF
              refine wp_reg_seq tok (orc := orcL []) (fz := []) (l := [4]) (c := _) (.inr fun i h => h) h (by kernel_rfl) (AllP.nil) ?_
              intro a w h
              cases hF
              exact wp_ret (ret_okR tok h rfl (by kernel_rfl)).1
            · replace hF := of_f hb hF
              refine wp_skip ?_
              obtain ⟨r13, hr19, hF⟩ := of_bind hF
              obtain ⟨r14, hr20, hF⟩ := of_bind hF
              refine wp_reg_seq tok (orc := orcL [(59, [⟨sh19, r13⟩]), (61, [⟨sh31, r14⟩])]) (fz := []) (l := [6, 8, 10, 12]) (c := _) (.inr fun i h => h) h (by kernel_rfl) (AllP.cons (c63 k x0 r13 hr19) (AllP.cons (c64 k r13 x1 r14 hr20) AllP.nil)) ?_
              intro a w h
              refine wp_seq ?_
              obtain ⟨r15, hr18, hF⟩ := of_bind hF
              refine wp_reg_seq tok (orc := orcL [(64, [⟨.bool, r15⟩])]) (fz := []) (l := [8, 10, 65]) (c := _) (.inr fun i h => h) h (by kernel_rfl) (AllP.cons (c20 k r14 r3 r15 hr18) AllP.nil) ?_
              intro a w h
              refine wp_if h (b := (!r15)) (by kernel_rfl) (fun hb => ?_) (fun hb => ?_)
              · replace hF := of_t hb hF
                refine wp_reg_seq tok (orc := orcL []) (fz := []) (l := [4]) (c := _) (.inr fun i h => h) h (by kernel_rfl) (AllP.nil) ?_
                intro a w h
                cases hF
                exact wp_ret (ret_okR tok h rfl (by kernel_rfl)).1
              · replace hF := of_f hb hF
                refine wp_skip ?_
                refine wp_reg_seq tok (orc := orcL []) (fz := []) (l := [8, 10, 11]) (c := _) (.inr fun i h => h) h (by kernel_rfl) (AllP.nil) ?_
                intro a w h
                obtain ⟨r16, hr17, hF⟩ := of_bind hF
                refine wp_reg_seq tok (orc := orcL [(68, [⟨(.int .i64), r16⟩])]) (fz := []) (l := [10, 11]) (c := _) (.inr fun i h => h) h (by kernel_rfl) (AllP.cons (c57 k r11.2 (1 : Int) r16 hr17) AllP.nil) ?_
                intro a w h
                refine wp_seq ?_
                refine wp_reg_seq tok (orc := orcL []) (fz := []) (l := [10, 11, 70]) (c := _) (.inr fun i h => h) h (by kernel_rfl) (AllP.nil) ?_
                intro a w h
                refine wp_if h (b := (decide ((r16 : Int) < (0 : Int)))) (by kernel_rfl) (fun hb => ?_) (fun hb => ?_)
                · replace hF := of_t hb hF
                  refine wp_reg_seq tok (orc := orcL []) (fz := []) (l := [4]) (c := _) (.inr fun i h => h) h (by kernel_rfl) (AllP.nil) ?_
                  intro a w h
                  cases hF
                  exact wp_ret (ret_okR tok h rfl (by kernel_rfl)).1
                · replace hF := of_f hb hF
                  refine wp_skip ?_
                  refine wp_seq ?_
                  refine wp_reg_seq tok (orc := orcL []) (fz := []) (l := [73]) (c := _) (.inr fun i h => h) h (by kernel_rfl) (AllP.nil) ?_
                  intro a w h
                  refine wp_if h (b := ((r16 : Int) != r11.1)) (by kernel_rfl) (fun hb => ?_) (fun hb => ?_)
                  · replace hF := of_t hb hF
                    refine wp_reg_seq tok (orc := orcL []) (fz := []) (l := [4]) (c := _) (.inr fun i h => h) h (by kernel_rfl) (AllP.nil) ?_
                    intro a w h
                    cases hF
                    exact wp_ret (ret_okR tok h rfl (by kernel_rfl)).1
                  · replace hF := of_f hb hF
                    refine wp_skip ?_
                    refine wp_reg_seq tok (orc := orcL []) (fz := []) (l := [4]) (c := _) (.inr fun i h => h) h (by kernel_rfl) (AllP.nil) ?_
                    intro a w h
                    cases hF
                    exact wp_ret (ret_okR tok h rfl (by kernel_rfl)).1
end Go.Proofs.Ytchbpdnaodicaaa.V
