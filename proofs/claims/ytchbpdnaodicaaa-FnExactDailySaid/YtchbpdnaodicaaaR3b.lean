/-
  THE CONTRACTS OF SOME FUNCTIONS OF THIS SEAT, PRINTED BY A PROGRAM OF THIS PROJECT (wip/gen/vgen.py).
-/
import Derived.Test.YtchbpdnaodicaaaProg
import Derived.Test.YtchbpdnaodicaaaVmW
import Derived.Test.YtchbpdnaodicaaaVmZ
import Derived.KernelRfl
import Derived.Test.YtchbpdnaodicaaaR3bA
set_option linter.unusedVariables false
open Go Go.Vm Go.Proofs
namespace Go.Proofs.Ytchbpdnaodicaaa.V
def f80.l126 (k : Nat) (x0 : ((List (Int × (Int × Int))) × ((List (Int × (Int × (Int × (Int × (Int × ByteArray)))))) × (List (Int × Int))))) (v94 : (List (List Int))) (v95 : (List (List Int))) : Nat → ((List ((Int × Int) × Bool)) × Int) → Option (((List (Int × (Int × Int))) × ((List (Int × (Int × (Int × (Int × (Int × ByteArray)))))) × (List (Int × Int)))) × ((List (List Int)) × ((List (List Int)) × (Option (List ((Int × Int) × Bool))))))
  | 0, _ => none
  | m126 + 1, (v137, v138) => if (decide ((v138 : Int) < (List.length x0.2.2 : Int))) then (if (0 ≤ v138 ∧ v138 < (List.length x0.2.2 : Int)) then ((f80.l126 k x0 v94 v95) m126 ((mput (Sh.beq sh5) (List.getD x0.2.2 (Int.toNat v138) ((0 : Int), (0 : Int))) true v137), (IntKind.i64.wrap (v138 + (1 : Int))))) else none) else (some (x0, (v94, (v95, (some v137)))))
def f80.l56 (k : Nat) (x0 : ((List (Int × (Int × Int))) × ((List (Int × (Int × (Int × (Int × (Int × ByteArray)))))) × (List (Int × Int))))) : Nat → ((List (List Int)) × (List (List Int)) × Int) → Option (((List (Int × (Int × Int))) × ((List (Int × (Int × (Int × (Int × (Int × ByteArray)))))) × (List (Int × Int)))) × ((List (List Int)) × ((List (List Int)) × (Option (List ((Int × Int) × Bool))))))
  | 0, _ => none
  | m56 + 1, (v94, v95, v96) => if (decide ((v96 : Int) < (List.length x0.2.1 : Int))) then (if (0 ≤ v96 ∧ v96 < (List.length x0.2.1 : Int)) then (if (0 ≤ (List.getD x0.2.1 (Int.toNat v96) ((0 : Int), ((0 : Int), ((0 : Int), ((0 : Int), ((0 : Int), (⟨#[]⟩ : ByteArray))))))).1 ∧ (List.getD x0.2.1 (Int.toNat v96) ((0 : Int), ((0 : Int), ((0 : Int), ((0 : Int), ((0 : Int), (⟨#[]⟩ : ByteArray))))))).1 < (List.length v94 : Int)) then (if ((List.length (List.getD v94 (Int.toNat (List.getD x0.2.1 (Int.toNat v96) ((0 : Int), ((0 : Int), ((0 : Int), ((0 : Int), ((0 : Int), (⟨#[]⟩ : ByteArray))))))).1) ([] : (List Int))) + List.length [v96]) * 8 ≤ 140737488355328) then (if (0 ≤ (List.getD x0.2.1 (Int.toNat v96) ((0 : Int), ((0 : Int), ((0 : Int), ((0 : Int), ((0 : Int), (⟨#[]⟩ : ByteArray))))))).1 ∧ (List.getD x0.2.1 (Int.toNat v96) ((0 : Int), ((0 : Int), ((0 : Int), ((0 : Int), ((0 : Int), (⟨#[]⟩ : ByteArray))))))).1 < (List.length v94 : Int)) then (if (0 ≤ (List.getD x0.2.1 (Int.toNat v96) ((0 : Int), ((0 : Int), ((0 : Int), ((0 : Int), ((0 : Int), (⟨#[]⟩ : ByteArray))))))).2.1 ∧ (List.getD x0.2.1 (Int.toNat v96) ((0 : Int), ((0 : Int), ((0 : Int), ((0 : Int), ((0 : Int), (⟨#[]⟩ : ByteArray))))))).2.1 < (List.length v95 : Int)) then (if ((List.length (List.getD v95 (Int.toNat (List.getD x0.2.1 (Int.toNat v96) ((0 : Int), ((0 : Int), ((0 : Int), ((0 : Int), ((0 : Int), (⟨#[]⟩ : ByteArray))))))).2.1) ([] : (List Int))) + List.length [v96]) * 8 ≤ 140737488355328) then (if (0 ≤ (List.getD x0.2.1 (Int.toNat v96) ((0 : Int), ((0 : Int), ((0 : Int), ((0 : Int), ((0 : Int), (⟨#[]⟩ : ByteArray))))))).2.1 ∧ (List.getD x0.2.1 (Int.toNat v96) ((0 : Int), ((0 : Int), ((0 : Int), ((0 : Int), ((0 : Int), (⟨#[]⟩ : ByteArray))))))).2.1 < (List.length v95 : Int)) then ((f80.l56 k x0) m56 ((List.set v94 (Int.toNat (List.getD x0.2.1 (Int.toNat v96) ((0 : Int), ((0 : Int), ((0 : Int), ((0 : Int), ((0 : Int), (⟨#[]⟩ : ByteArray))))))).1) (List.append (List.getD v94 (Int.toNat (List.getD x0.2.1 (Int.toNat v96) ((0 : Int), ((0 : Int), ((0 : Int), ((0 : Int), ((0 : Int), (⟨#[]⟩ : ByteArray))))))).1) ([] : (List Int))) [v96])), (List.set v95 (Int.toNat (List.getD x0.2.1 (Int.toNat v96) ((0 : Int), ((0 : Int), ((0 : Int), ((0 : Int), ((0 : Int), (⟨#[]⟩ : ByteArray))))))).2.1) (List.append (List.getD v95 (Int.toNat (List.getD x0.2.1 (Int.toNat v96) ((0 : Int), ((0 : Int), ((0 : Int), ((0 : Int), ((0 : Int), (⟨#[]⟩ : ByteArray))))))).2.1) ([] : (List Int))) [v96])), (IntKind.i64.wrap (v96 + (1 : Int))))) else none) else none) else none) else none) else none) else none) else none) else (f80.l126 k x0 v94 v95 k (([] : (List ((Int × Int) × Bool))), (0 : Int)))
def f80 (k : Nat) (x0 : ((List (Int × (Int × Int))) × ((List (Int × (Int × (Int × (Int × (Int × ByteArray)))))) × (List (Int × Int))))) : Option (((List (Int × (Int × Int))) × ((List (Int × (Int × (Int × (Int × (Int × ByteArray)))))) × (List (Int × Int)))) × ((List (List Int)) × ((List (List Int)) × (Option (List ((Int × Int) × Bool)))))) := if (0 ≤ (List.length x0.1 : Int) ∧ Int.toNat (List.length x0.1 : Int) * 24 ≤ 140737488355328) then (if (0 ≤ (List.length x0.1 : Int) ∧ Int.toNat (List.length x0.1 : Int) * 24 ≤ 140737488355328) then (f80.l56 k x0 k ((List.replicate (Int.toNat (List.length x0.1 : Int)) ([] : (List Int))), (List.replicate (Int.toNat (List.length x0.1 : Int)) ([] : (List Int))), (0 : Int))) else none) else none
set_option maxRecDepth 100000 in
/-- 'impl.myNetOf'. -/
theorem c80 (k : Nat) (x0 : ((List (Int × (Int × Int))) × ((List (Int × (Int × (Int × (Int × (Int × ByteArray)))))) × (List (Int × Int))))) (r : (((List (Int × (Int × Int))) × ((List (Int × (Int × (Int × (Int × (Int × ByteArray)))))) × (List (Int × Int)))) × ((List (List Int)) × ((List (List Int)) × (Option (List ((Int × Int) × Bool))))))) (hF : f80 k x0 = some r) : PCall Try.prog 80 [⟨sh12, x0⟩] [⟨sh26, some r⟩] := by
  refine pcall_intro Try.func80 rfl rfl (Nat.le_of_ble_eq_true rfl) ?_
  intro w0 Zi a w h
  rw [f80] at hF
  refine wp_reg_seq tok (orc := orcL []) (fz := []) (l := [1]) (c := _) (.inr fun i h => h) h (by kernel_rfl) (AllP.nil) ?_
  intro a w h
  obtain ⟨hc141, hF⟩ := of_if hF
  obtain ⟨hc142, hF⟩ := of_if hF
  refine wp_regy_seq tok (orc := orcL []) (fz := []) (l := [1, 3]) (c := _) ([], [], [], []) 10 (.inr fun i h => h) h (by kernel_rfl) (by kernel_rfl) (AllP.cons hc141 (AllP.cons hc142 AllP.nil)) ?_
  intro a w h
  refine wp_seq ?_
  refine wp_reg_seq tok (orc := orcL []) (fz := []) (l := [1, 3, 21, 22, 23]) (c := _) (.inr fun i h => h) h (by kernel_rfl) (AllP.nil) ?_
  intro a w h
  refine wp_block ?_
  refine wp_loop_fuel (f80.l56 k x0) (fun ((v94, v95, v96) : ((List (List Int)) × (List (List Int)) × Int)) => [(1, .val sh11 (some x0)), (3, .val sh26 (some (x0, (v94, (v95, (some ([] : (List ((Int × Int) × Bool))))))))), (21, .val sh24 x0.2.1), (22, .val (.int .i64) (List.length x0.2.1 : Int)), (23, .val (.int .i64) v96)]) (fun v h => by obtain ⟨v94, v95, v96⟩ := v; rw [f80.l56] at h; cases h) ?_ hF (h.arrive (fz := []) (l := [1, 3, 21, 22, 23]) (.inr fun i h => h) (by kernel_rfl))
  intro m56 v a w hF h
  obtain ⟨v94, v95, v96⟩ := v
  rw [f80.l56] at hF
  refine wp_reg_seq tok (orc := orcL []) (fz := []) (l := [1, 3, 21, 22, 23, 24]) (c := _) (.inr fun i h => h) h (by kernel_rfl) (AllP.nil) ?_
  intro a w h
  refine wp_seq <| wp_if h (b := (decide ((v96 : Int) < (List.length x0.2.1 : Int)))) (by kernel_rfl) (fun hb => ?_) (fun hb => ?_)
  · replace hF := of_t hb hF
    refine wp_skip ?_
    refine wp_seq <| wp_block ?_
    obtain ⟨hc110, hF⟩ := of_if hF
    refine wp_reg_seq tok (orc := orcL []) (fz := []) (l := [1, 3, 4, 5, 21, 22, 23]) (c := _) (.inr fun i h => h) h (by kernel_rfl) (AllP.cons hc110 AllP.nil) ?_
    intro a w h
    obtain ⟨hc107, hF⟩ := of_if hF
    obtain ⟨hc108, hF⟩ := of_if hF
    obtain ⟨hc109, hF⟩ := of_if hF
    refine wp_regy_seq tok (orc := orcL [(44, [⟨.pt false 4294967293 .unit, some ()⟩])]) (fz := []) (l := [1, 3, 4, 5, 21, 22, 23]) (c := _) ([], [], [], []) 18 (.inr fun i h => h) h (by kernel_rfl) (by kernel_rfl) (AllP.cons hc107 (AllP.cons (PrefL.mk (l := [[], [], [.der, .snd, .fst], [.der, .snd, .fst], [], [], [.der, .snd, .fst], [.der, .snd, .fst], [.der, .snd, .fst, .idx (Int.toNat (List.getD x0.2.1 (Int.toNat v96) ((0 : Int), ((0 : Int), ((0 : Int), ((0 : Int), ((0 : Int), (⟨#[]⟩ : ByteArray))))))).1)], [.der, .snd, .fst, .idx (Int.toNat (List.getD x0.2.1 (Int.toNat v96) ((0 : Int), ((0 : Int), ((0 : Int), ((0 : Int), ((0 : Int), (⟨#[]⟩ : ByteArray))))))).1)]]) (p := [.der, .snd, .fst, .idx (Int.toNat (List.getD x0.2.1 (Int.toNat v96) ((0 : Int), ((0 : Int), ((0 : Int), ((0 : Int), ((0 : Int), (⟨#[]⟩ : ByteArray))))))).1)]) rfl) (AllP.cons hc108 (AllP.cons hc109 (AllP.cons (show ([.der, .snd, .fst, .idx (Int.toNat (List.getD x0.2.1 (Int.toNat v96) ((0 : Int), ((0 : Int), ((0 : Int), ((0 : Int), ((0 : Int), (⟨#[]⟩ : ByteArray))))))).1)] : Path) = [.der, .snd, .fst, .idx (Int.toNat (List.getD x0.2.1 (Int.toNat v96) ((0 : Int), ((0 : Int), ((0 : Int), ((0 : Int), ((0 : Int), (⟨#[]⟩ : ByteArray))))))).1)] from rfl) AllP.nil))))) ?_
    intro a w h
    obtain ⟨hc104, hF⟩ := of_if hF
    obtain ⟨hc105, hF⟩ := of_if hF
    obtain ⟨hc106, hF⟩ := of_if hF
    refine wp_regy tok (orc := orcL [(62, [⟨.pt false 4294967293 .unit, some ()⟩])]) (fz := []) (l := [1, 3, 21, 22, 23]) (c := _) ([], [], [], []) 18 (.inr fun i h => h) h (by kernel_rfl) (by kernel_rfl) (AllP.cons hc104 (AllP.cons (PrefL.mk (l := [[], [], [.der, .snd, .snd, .fst], [.der, .snd, .snd, .fst], [], [], [.der, .snd, .snd, .fst], [.der, .snd, .snd, .fst], [.der, .snd, .snd, .fst, .idx (Int.toNat (List.getD x0.2.1 (Int.toNat v96) ((0 : Int), ((0 : Int), ((0 : Int), ((0 : Int), ((0 : Int), (⟨#[]⟩ : ByteArray))))))).2.1)], [.der, .snd, .snd, .fst, .idx (Int.toNat (List.getD x0.2.1 (Int.toNat v96) ((0 : Int), ((0 : Int), ((0 : Int), ((0 : Int), ((0 : Int), (⟨#[]⟩ : ByteArray))))))).2.1)]]) (p := [.der, .snd, .snd, .fst, .idx (Int.toNat (List.getD x0.2.1 (Int.toNat v96) ((0 : Int), ((0 : Int), ((0 : Int), ((0 : Int), ((0 : Int), (⟨#[]⟩ : ByteArray))))))).2.1)]) rfl) (AllP.cons hc105 (AllP.cons hc106 (AllP.cons (show ([.der, .snd, .snd, .fst, .idx (Int.toNat (List.getD x0.2.1 (Int.toNat v96) ((0 : Int), ((0 : Int), ((0 : Int), ((0 : Int), ((0 : Int), (⟨#[]⟩ : ByteArray))))))).2.1)] : Path) = [.der, .snd, .snd, .fst, .idx (Int.toNat (List.getD x0.2.1 (Int.toNat v96) ((0 : Int), ((0 : Int), ((0 : Int), ((0 : Int), ((0 : Int), (⟨#[]⟩ : ByteArray))))))).2.1)] from rfl) AllP.nil))))) ?_
    intro a w h
    refine wp_reg tok (orc := orcL []) (fz := []) (l := [1, 3, 21, 22, 23]) (c := _) (.inr fun i h => h) h (by kernel_rfl) (AllP.nil) ?_
    intro a w h
    exact ⟨((List.set v94 (Int.toNat (List.getD x0.2.1 (Int.toNat v96) ((0 : Int), ((0 : Int), ((0 : Int), ((0 : Int), ((0 : Int), (⟨#[]⟩ : ByteArray))))))).1) (List.append (List.getD v94 (Int.toNat (List.getD x0.2.1 (Int.toNat v96) ((0 : Int), ((0 : Int), ((0 : Int), ((0 : Int), ((0 : Int), (⟨#[]⟩ : ByteArray))))))).1) ([] : (List Int))) [v96])), (List.set v95 (Int.toNat (List.getD x0.2.1 (Int.toNat v96) ((0 : Int), ((0 : Int), ((0 : Int), ((0 : Int), ((0 : Int), (⟨#[]⟩ : ByteArray))))))).2.1) (List.append (List.getD v95 (Int.toNat (List.getD x0.2.1 (Int.toNat v96) ((0 : Int), ((0 : Int), ((0 : Int), ((0 : Int), ((0 : Int), (⟨#[]⟩ : ByteArray))))))).2.1) ([] : (List Int))) [v96])), (IntKind.i64.wrap (v96 + (1 : Int)))), hF, h.arrive (fz := []) (l := [1, 3, 21, 22, 23]) (.inr fun i h => h) (by kernel_rfl)⟩
  · replace hF := of_f hb hF
    refine wp_exit ?_
    refine wp_seq ?_
    refine wp_reg_seq tok (orc := orcL []) (fz := []) (l := [3, 66, 67, 68]) (c := _) (.inr fun i h => h) h (by kernel_rfl) (AllP.nil) ?_
    intro a w h
    refine wp_block ?_
    refine wp_loop_fuel (f80.l126 k x0 v94 v95) (fun ((v137, v138) : ((List ((Int × Int) × Bool)) × Int)) => [(3, .val sh26 (some (x0, (v94, (v95, (some v137)))))), (66, .val sh25 x0.2.2), (67, .val (.int .i64) (List.length x0.2.2 : Int)), (68, .val (.int .i64) v138)]) (fun v h => by obtain ⟨v137, v138⟩ := v; rw [f80.l126] at h; cases h) ?_ hF (h.arrive (fz := []) (l := [3, 66, 67, 68]) (.inr fun i h => h) (by kernel_rfl))
    intro m126 v a w hF h
    obtain ⟨v137, v138⟩ := v
    rw [f80.l126] at hF
    refine wp_reg_seq tok (orc := orcL []) (fz := []) (l := [3, 66, 67, 68, 69]) (c := _) (.inr fun i h => h) h (by kernel_rfl) (AllP.nil) ?_
    intro a w h
    refine wp_seq <| wp_if h (b := (decide ((v138 : Int) < (List.length x0.2.2 : Int)))) (by kernel_rfl) (fun hb => ?_) (fun hb => ?_)
    · replace hF := of_t hb hF
      refine wp_skip ?_
      refine wp_seq <| wp_block ?_
      obtain ⟨hc140, hF⟩ := of_if hF
      refine wp_reg_seq tok (orc := orcL []) (fz := []) (l := [3, 7, 66, 67, 68]) (c := _) (.inr fun i h => h) h (by kernel_rfl) (AllP.cons hc140 AllP.nil) ?_
      intro a w h
      refine wp_regy tok (orc := orcL []) (fz := []) (l := [3, 66, 67, 68]) (c := _) ([], [], [], []) 5 (.inr fun i h => h) h (by kernel_rfl) (by kernel_rfl) (AllP.cons (show eqTy Try.prog 9 167 (.st (.pair (.int .i64) (.int .i64))) = true from by kernel_rfl) AllP.nil) ?_
      intro a w h
      refine wp_reg tok (orc := orcL []) (fz := []) (l := [3, 66, 67, 68]) (c := _) (.inr fun i h => h) h (by kernel_rfl) (AllP.nil) ?_
      intro a w h
      exact ⟨((mput (Sh.beq sh5) (List.getD x0.2.2 (Int.toNat v138) ((0 : Int), (0 : Int))) true v137), (IntKind.i64.wrap (v138 + (1 : Int)))), hF, h.arrive (fz := []) (l := [3, 66, 67, 68]) (.inr fun i h => h) (by kernel_rfl)⟩
    · replace hF := of_f hb hF
      refine wp_exit ?_
      refine wp_reg_seq tok (orc := orcL []) (fz := []) (l := [2, 3]) (c := _) (.inr fun i h => h) h (by kernel_rfl) (AllP.nil) ?_
      intro a w h
      cases hF
      exact wp_ret (ret_okR tok h rfl (by kernel_rfl)).1

def f96 (k : Nat) (x0 : (((List (Int × (Int × Int))) × ((List (Int × (Int × (Int × (Int × (Int × ByteArray)))))) × (List (Int × Int)))) × ((List (List Int)) × ((List (List Int)) × (Option (List ((Int × Int) × Bool))))))) (x1 : Int) : Option Bool := some (bif (decide ((x1 : Int) ≥ (0 : Int))) then (decide ((x1 : Int) < (List.length x0.1.1 : Int))) else false)
set_option maxRecDepth 100000 in
/-- 'impl.myNet).place'. -/
theorem c96 (k : Nat) (x0 : (((List (Int × (Int × Int))) × ((List (Int × (Int × (Int × (Int × (Int × ByteArray)))))) × (List (Int × Int)))) × ((List (List Int)) × ((List (List Int)) × (Option (List ((Int × Int) × Bool))))))) (x1 : Int) (r : Bool) (hF : f96 k x0 x1 = some r) : PCall Try.prog 96 [⟨sh27, some x0⟩, ⟨(.int .i64), x1⟩] [⟨.bool, r⟩] := by
  refine pcall_intro Try.func96 rfl rfl (Nat.le_of_ble_eq_true rfl) ?_
  intro w0 Zi a w h
  rw [f96] at hF
  refine wp_reg_seq tok (orc := orcL []) (fz := []) (l := [0, 1]) (c := _) (.inr fun i h => h) h (by kernel_rfl) (AllP.nil) ?_
  intro a w h
  refine wp_reg_seq tok (orc := orcL []) (fz := []) (l := [4]) (c := _) (.inr fun i h => h) h (by kernel_rfl) (AllP.nil) ?_
  intro a w h
  cases hF
  exact wp_ret (ret_okR tok h rfl (by kernel_rfl)).1

def f252 (k : Nat) (x0 : (Int × (Int × Int))) (x1 : (Int × (Int × Int))) : Option Bool := if ((x0.1 : Int) != x1.1) then (some (decide ((x0.1 : Int) < x1.1))) else (if ((x0.2.1 : Int) != x1.2.1) then (some (decide ((x0.2.1 : Int) < x1.2.1))) else (some (decide ((x0.2.2 : Int) < x1.2.2))))
set_option maxRecDepth 100000 in
/-- 'impl.myLess'. -/
theorem c252 (k : Nat) (x0 : (Int × (Int × Int))) (x1 : (Int × (Int × Int))) (r : Bool) (hF : f252 k x0 x1 = some r) : PCall Try.prog 252 [⟨sh28, x0⟩, ⟨sh28, x1⟩] [⟨.bool, r⟩] := by
  refine pcall_intro Try.func252 rfl rfl (Nat.le_of_ble_eq_true rfl) ?_
  intro w0 Zi a w h
  rw [f252] at hF
  refine wp_reg_seq tok (orc := orcL []) (fz := []) (l := [2, 3]) (c := _) (.inr fun i h => h) h (by kernel_rfl) (AllP.nil) ?_
  intro a w h
  refine wp_seq ?_
  refine wp_reg_seq tok (orc := orcL []) (fz := []) (l := [2, 3, 9]) (c := _) (.inr fun i h => h) h (by kernel_rfl) (AllP.nil) ?_
  intro a w h
  refine wp_if h (b := ((x0.1 : Int) != x1.1)) (by kernel_rfl) (fun hb => ?_) (fun hb => ?_)
  · replace hF := of_t hb hF
    refine wp_reg_seq tok (orc := orcL []) (fz := []) (l := [4]) (c := _) (.inr fun i h => h) h (by kernel_rfl) (AllP.nil) ?_
    intro a w h
    cases hF
    exact wp_ret (ret_okR tok h rfl (by kernel_rfl)).1
  · replace hF := of_f hb hF
    refine wp_skip ?_
    refine wp_seq ?_
    refine wp_reg_seq tok (orc := orcL []) (fz := []) (l := [2, 3, 19]) (c := _) (.inr fun i h => h) h (by kernel_rfl) (AllP.nil) ?_
    intro a w h
    refine wp_if h (b := ((x0.2.1 : Int) != x1.2.1)) (by kernel_rfl) (fun hb => ?_) (fun hb => ?_)
    · replace hF := of_t hb hF
      refine wp_reg_seq tok (orc := orcL []) (fz := []) (l := [4]) (c := _) (.inr fun i h => h) h (by kernel_rfl) (AllP.nil) ?_
      intro a w h
      cases hF
      exact wp_ret (ret_okR tok h rfl (by kernel_rfl)).1
    · replace hF := of_f hb hF
      refine wp_skip ?_
      refine wp_reg_seq tok (orc := orcL []) (fz := []) (l := [4]) (c := _) (.inr fun i h => h) h (by kernel_rfl) (AllP.nil) ?_
      intro a w h
      cases hF
      exact wp_ret (ret_okR tok h rfl (by kernel_rfl)).1

def f224.l1 (k : Nat) (x0 : ((List (Int × (Int × Int))) × Unit)) : Nat → ((List (Int × (Int × Int))) × Int) → Option ((List (Int × (Int × Int))) × Unit)
  | 0, _ => none
  | m1 + 1, (v34, v35) => if (((decide ((v35 : Int) > (0 : Int))) = true) → (0 ≤ v35 ∧ v35 < (List.length v34 : Int))) then (if (((decide ((v35 : Int) > (0 : Int))) = true) → (((2 : Int) : Int) ≠ 0)) then (if (((decide ((v35 : Int) > (0 : Int))) = true) → (0 ≤ (IntKind.i64.wrap (Int.tdiv (IntKind.i64.wrap (v35 - (1 : Int))) (2 : Int))) ∧ (IntKind.i64.wrap (Int.tdiv (IntKind.i64.wrap (v35 - (1 : Int))) (2 : Int))) < (List.length v34 : Int))) then ((if ((decide ((v35 : Int) > (0 : Int))) = true) then f252 k (List.getD v34 (Int.toNat v35) ((0 : Int), ((0 : Int), (0 : Int)))) (List.getD v34 (Int.toNat (IntKind.i64.wrap (Int.tdiv (IntKind.i64.wrap (v35 - (1 : Int))) (2 : Int)))) ((0 : Int), ((0 : Int), (0 : Int)))) else some default).bind fun r36 => (if (bif (decide ((v35 : Int) > (0 : Int))) then r36 else false) then (if (((2 : Int) : Int) ≠ 0) then (if (((2 : Int) : Int) ≠ 0) then (if (0 ≤ (IntKind.i64.wrap (Int.tdiv (IntKind.i64.wrap (v35 - (1 : Int))) (2 : Int))) ∧ (IntKind.i64.wrap (Int.tdiv (IntKind.i64.wrap (v35 - (1 : Int))) (2 : Int))) < (List.length v34 : Int)) then (if (0 ≤ v35 ∧ v35 < (List.length v34 : Int)) then (if (0 ≤ v35 ∧ v35 < (List.length v34 : Int)) then (if (0 ≤ (IntKind.i64.wrap (Int.tdiv (IntKind.i64.wrap (v35 - (1 : Int))) (2 : Int))) ∧ (IntKind.i64.wrap (Int.tdiv (IntKind.i64.wrap (v35 - (1 : Int))) (2 : Int))) < (List.length (List.set v34 (Int.toNat v35) (List.getD v34 (Int.toNat (IntKind.i64.wrap (Int.tdiv (IntKind.i64.wrap (v35 - (1 : Int))) (2 : Int)))) ((0 : Int), ((0 : Int), (0 : Int))))) : Int)) then (if (((2 : Int) : Int) ≠ 0) then ((f224.l1 k x0) m1 ((List.set (List.set v34 (Int.toNat v35) (List.getD v34 (Int.toNat (IntKind.i64.wrap (Int.tdiv (IntKind.i64.wrap (v35 - (1 : Int))) (2 : Int)))) ((0 : Int), ((0 : Int), (0 : Int))))) (Int.toNat (IntKind.i64.wrap (Int.tdiv (IntKind.i64.wrap (v35 - (1 : Int))) (2 : Int)))) (List.getD v34 (Int.toNat v35) ((0 : Int), ((0 : Int), (0 : Int))))), (IntKind.i64.wrap (Int.tdiv (IntKind.i64.wrap (v35 - (1 : Int))) (2 : Int))))) else none) else none) else none) else none) else none) else none) else none) else (some (v34, x0.2)))) else none) else none) else none
def f224 (k : Nat) (x0 : ((List (Int × (Int × Int))) × Unit)) (x1 : (Int × (Int × Int))) : Option ((List (Int × (Int × Int))) × Unit) := if ((List.length x0.1 + List.length [x1]) * 24 ≤ 140737488355328) then (f224.l1 k x0 k ((List.append x0.1 [x1]), (IntKind.i64.wrap ((List.length (List.append x0.1 [x1]) : Int) - (1 : Int))))) else none
set_option maxRecDepth 100000 in
/-- 'impl.myHeap).push'. -/
theorem c224 (k : Nat) (x0 : ((List (Int × (Int × Int))) × Unit)) (x1 : (Int × (Int × Int))) (r : ((List (Int × (Int × Int))) × Unit)) (hF : f224 k x0 x1 = some r) : PMut Try.prog 224 [⟨sh29, some x0⟩, ⟨sh28, x1⟩] [] (List.set [⟨sh29, some x0⟩, ⟨sh28, x1⟩] 0 ⟨sh29, some r⟩) := by
  refine pmut_intro (j := 0) (fin := ⟨sh29, some r⟩) Try.func224 rfl rfl (Nat.le_of_ble_eq_true rfl) (Nat.le_of_ble_eq_true rfl) (by kernel_rfl) ?_
  intro w0 Zi f0 v0 a w h
  rw [f224] at hF
  refine wp_reg_seq tok (orc := orcL []) (fz := []) (l := [0, 3]) (c := _) (.inl rfl) h (by kernel_rfl) (AllP.nil) ?_
  intro a w h
  obtain ⟨hc48, hF⟩ := of_if hF
  refine wp_regy_seq tok (orc := orcL [(12, [⟨.pt false 4294967293 .unit, some ()⟩])]) (fz := []) (l := [0]) (c := _) ([], [], [], []) 10 (.inl rfl) h (by kernel_rfl) (by kernel_rfl) (AllP.cons (PrefL.mk (l := [[], [], [], [.der, .fst], [.der, .fst]]) (p := [.der, .fst]) rfl) (AllP.cons hc48 (AllP.cons (show ([.der, .fst] : Path) = [.der, .fst] from rfl) AllP.nil))) ?_
  intro a w h
  refine wp_reg_seq tok (orc := orcL []) (fz := []) (l := [0, 4]) (c := _) (.inl rfl) h (by kernel_rfl) (AllP.nil) ?_
  intro a w h
  refine wp_block ?_
  refine wp_loop_fuel (f224.l1 k x0) (fun ((v34, v35) : ((List (Int × (Int × Int))) × Int)) => [(0, .val sh29 (some (v34, x0.2))), (4, .val (.int .i64) v35)]) (fun v h => by obtain ⟨v34, v35⟩ := v; rw [f224.l1] at h; cases h) ?_ hF (h.arrive (fz := []) (l := [0, 4]) (.inl rfl) (by kernel_rfl))
  intro m1 v a w hF h
  obtain ⟨v34, v35⟩ := v
  rw [f224.l1] at hF
  refine wp_seq ?_
  obtain ⟨hc44, hF⟩ := of_if hF
  obtain ⟨hc45, hF⟩ := of_if hF
  obtain ⟨hc46, hF⟩ := of_if hF
  obtain ⟨r36, hr47, hF⟩ := of_bind hF
  refine wp_regy_seq tok (orc := orcL [(40, [⟨.bool, r36⟩])]) (fz := []) (l := [0, 4, 41]) (c := _) ([], [], [], []) 21 (.inl rfl) h (by kernel_rfl) (by kernel_rfl) (AllP.cons hc44 (AllP.cons hc45 (AllP.cons hc46 (AllP.cons (fun (hg : ((decide ((v35 : Int) > (0 : Int))) = true)) => c252 k (List.getD v34 (Int.toNat v35) ((0 : Int), ((0 : Int), (0 : Int)))) (List.getD v34 (Int.toNat (IntKind.i64.wrap (Int.tdiv (IntKind.i64.wrap (v35 - (1 : Int))) (2 : Int)))) ((0 : Int), ((0 : Int), (0 : Int)))) r36 (of_g hg hr47)) AllP.nil)))) ?_
  intro a w h
  refine wp_if h (b := (bif (decide ((v35 : Int) > (0 : Int))) then r36 else false)) (by kernel_rfl) (fun hb => ?_) (fun hb => ?_)
  · replace hF := of_t hb hF
    refine wp_skip ?_
    refine wp_block ?_
    obtain ⟨hc38, hF⟩ := of_if hF
    obtain ⟨hc39, hF⟩ := of_if hF
    obtain ⟨hc40, hF⟩ := of_if hF
    obtain ⟨hc41, hF⟩ := of_if hF
    obtain ⟨hc42, hF⟩ := of_if hF
    obtain ⟨hc43, hF⟩ := of_if hF
    refine wp_regy_seq tok (orc := orcL [(70, [⟨.pt false 4294967289 .unit, some ()⟩])]) (fz := []) (l := [0, 4]) (c := _) ([(29, 0)], [], [(29, [42, 43, 45, 47, 48, 50, 54, 55, 57, 63, 64, 66])], [(9, [4]), (10, [51]), (11, [52])]) 30 (.inl rfl) h (by kernel_rfl) (by kernel_rfl) (AllP.cons hc38 (AllP.cons hc39 (AllP.cons hc40 (AllP.cons hc41 (AllP.cons hc42 (AllP.cons hc43 AllP.nil)))))) ?_
    intro a w h
    obtain ⟨hc37, hF⟩ := of_if hF
    refine wp_reg tok (orc := orcL []) (fz := []) (l := [0, 4]) (c := _) (.inl rfl) h (by kernel_rfl) (AllP.cons hc37 AllP.nil) ?_
    intro a w h
    exact ⟨((List.set (List.set v34 (Int.toNat v35) (List.getD v34 (Int.toNat (IntKind.i64.wrap (Int.tdiv (IntKind.i64.wrap (v35 - (1 : Int))) (2 : Int)))) ((0 : Int), ((0 : Int), (0 : Int))))) (Int.toNat (IntKind.i64.wrap (Int.tdiv (IntKind.i64.wrap (v35 - (1 : Int))) (2 : Int)))) (List.getD v34 (Int.toNat v35) ((0 : Int), ((0 : Int), (0 : Int))))), (IntKind.i64.wrap (Int.tdiv (IntKind.i64.wrap (v35 - (1 : Int))) (2 : Int)))), hF, h.arrive (fz := []) (l := [0, 4]) (.inl rfl) (by kernel_rfl)⟩
  · replace hF := of_f hb hF
    refine wp_exit ?_
    cases hF
    exact (retM_ok tok h rfl (by kernel_rfl) (by kernel_rfl)).2

def f225.j55 (k : Nat) (x0 : ((List (Int × (Int × Int))) × Unit)) : (List (Int × (Int × Int))) → Option ((Int × (Int × Int)) × ((List (Int × (Int × Int))) × Unit))
  | v54 => some ((List.getD x0.1 (Int.toNat (0 : Int)) ((0 : Int), ((0 : Int), (0 : Int)))), (v54, x0.2))
def f225.j97 (k : Nat) (v93 : (List (Int × (Int × Int)))) (v94 : Int) (q55 : (List (Int × (Int × Int))) → Option ((Int × (Int × Int)) × ((List (Int × (Int × Int))) × Unit))) (q56 : ((List (Int × (Int × Int))) × Int) → Option ((Int × (Int × Int)) × ((List (Int × (Int × Int))) × Unit))) : Int → Option ((Int × (Int × Int)) × ((List (Int × (Int × Int))) × Unit))
  | v96 => if (0 ≤ v96 ∧ v96 < (List.length v93 : Int)) then (if (0 ≤ v94 ∧ v94 < (List.length v93 : Int)) then ((f252 k (List.getD v93 (Int.toNat v96) ((0 : Int), ((0 : Int), (0 : Int)))) (List.getD v93 (Int.toNat v94) ((0 : Int), ((0 : Int), (0 : Int))))).bind fun r98 => (if (!r98) then (q55 v93) else (if (0 ≤ v96 ∧ v96 < (List.length v93 : Int)) then (if (0 ≤ v94 ∧ v94 < (List.length v93 : Int)) then (if (0 ≤ v94 ∧ v94 < (List.length v93 : Int)) then (if (0 ≤ v96 ∧ v96 < (List.length (List.set v93 (Int.toNat v94) (List.getD v93 (Int.toNat v96) ((0 : Int), ((0 : Int), (0 : Int))))) : Int)) then (q56 ((List.set (List.set v93 (Int.toNat v94) (List.getD v93 (Int.toNat v96) ((0 : Int), ((0 : Int), (0 : Int))))) (Int.toNat v96) (List.getD v93 (Int.toNat v94) ((0 : Int), ((0 : Int), (0 : Int))))), v96)) else none) else none) else none) else none))) else none) else none
def f225.l56 (k : Nat) (x0 : ((List (Int × (Int × Int))) × Unit)) (q55 : (List (Int × (Int × Int))) → Option ((Int × (Int × Int)) × ((List (Int × (Int × Int))) × Unit))) : Nat → ((List (Int × (Int × Int))) × Int) → Option ((Int × (Int × Int)) × ((List (Int × (Int × Int))) × Unit))
  | 0, _ => none
  | m56 + 1, (v93, v94) => if (decide (((IntKind.i64.wrap ((IntKind.i64.wrap ((2 : Int) * v94)) + (1 : Int))) : Int) ≥ (IntKind.i64.wrap ((List.length x0.1 : Int) - (1 : Int))))) then (q55 v93) else (if (((decide (((IntKind.i64.wrap ((IntKind.i64.wrap ((IntKind.i64.wrap ((2 : Int) * v94)) + (1 : Int))) + (1 : Int))) : Int) < (IntKind.i64.wrap ((List.length x0.1 : Int) - (1 : Int))))) = true) → (0 ≤ (IntKind.i64.wrap ((IntKind.i64.wrap ((IntKind.i64.wrap ((2 : Int) * v94)) + (1 : Int))) + (1 : Int))) ∧ (IntKind.i64.wrap ((IntKind.i64.wrap ((IntKind.i64.wrap ((2 : Int) * v94)) + (1 : Int))) + (1 : Int))) < (List.length v93 : Int))) then (if (((decide (((IntKind.i64.wrap ((IntKind.i64.wrap ((IntKind.i64.wrap ((2 : Int) * v94)) + (1 : Int))) + (1 : Int))) : Int) < (IntKind.i64.wrap ((List.length x0.1 : Int) - (1 : Int))))) = true) → (0 ≤ (IntKind.i64.wrap ((IntKind.i64.wrap ((2 : Int) * v94)) + (1 : Int))) ∧ (IntKind.i64.wrap ((IntKind.i64.wrap ((2 : Int) * v94)) + (1 : Int))) < (List.length v93 : Int))) then ((if ((decide (((IntKind.i64.wrap ((IntKind.i64.wrap ((IntKind.i64.wrap ((2 : Int) * v94)) + (1 : Int))) + (1 : Int))) : Int) < (IntKind.i64.wrap ((List.length x0.1 : Int) - (1 : Int))))) = true) then f252 k (List.getD v93 (Int.toNat (IntKind.i64.wrap ((IntKind.i64.wrap ((IntKind.i64.wrap ((2 : Int) * v94)) + (1 : Int))) + (1 : Int)))) ((0 : Int), ((0 : Int), (0 : Int)))) (List.getD v93 (Int.toNat (IntKind.i64.wrap ((IntKind.i64.wrap ((2 : Int) * v94)) + (1 : Int)))) ((0 : Int), ((0 : Int), (0 : Int)))) else some default).bind fun r95 => (if (bif (decide (((IntKind.i64.wrap ((IntKind.i64.wrap ((IntKind.i64.wrap ((2 : Int) * v94)) + (1 : Int))) + (1 : Int))) : Int) < (IntKind.i64.wrap ((List.length x0.1 : Int) - (1 : Int))))) then r95 else false) then (f225.j97 k v93 v94 (q55) ((f225.l56 k x0 q55) m56) (IntKind.i64.wrap ((IntKind.i64.wrap ((IntKind.i64.wrap ((2 : Int) * v94)) + (1 : Int))) + (1 : Int)))) else (f225.j97 k v93 v94 (q55) ((f225.l56 k x0 q55) m56) (IntKind.i64.wrap ((IntKind.i64.wrap ((2 : Int) * v94)) + (1 : Int)))))) else none) else none)
def f225 (k : Nat) (x0 : ((List (Int × (Int × Int))) × Unit)) : Option ((Int × (Int × Int)) × ((List (Int × (Int × Int))) × Unit)) := if (0 ≤ (0 : Int) ∧ (0 : Int) < (List.length x0.1 : Int)) then (if (0 ≤ (IntKind.i64.wrap ((List.length x0.1 : Int) - (1 : Int))) ∧ (IntKind.i64.wrap ((List.length x0.1 : Int) - (1 : Int))) < (List.length x0.1 : Int)) then (if (0 ≤ (0 : Int) ∧ (0 : Int) < (List.length x0.1 : Int)) then (if ((0 : Int) ≤ (IntKind.i64.wrap ((List.length x0.1 : Int) - (1 : Int))) ∧ ((IntKind.i64.wrap ((List.length x0.1 : Int) - (1 : Int))) : Int) ≤ (List.length (List.set x0.1 (Int.toNat (0 : Int)) (List.getD x0.1 (Int.toNat (IntKind.i64.wrap ((List.length x0.1 : Int) - (1 : Int)))) ((0 : Int), ((0 : Int), (0 : Int))))) : Int)) then (f225.l56 k x0 (f225.j55 k x0) k ((List.take (Int.toNat (IntKind.i64.wrap ((List.length x0.1 : Int) - (1 : Int)))) (List.set x0.1 (Int.toNat (0 : Int)) (List.getD x0.1 (Int.toNat (IntKind.i64.wrap ((List.length x0.1 : Int) - (1 : Int)))) ((0 : Int), ((0 : Int), (0 : Int)))))), (0 : Int))) else none) else none) else none) else none
set_option maxRecDepth 100000 in
/-- 'impl.myHeap).pop'. -/
theorem c225 (k : Nat) (x0 : ((List (Int × (Int × Int))) × Unit)) (r : ((Int × (Int × Int)) × ((List (Int × (Int × Int))) × Unit))) (hF : f225 k x0 = some r) : PMut Try.prog 225 [⟨sh29, some x0⟩] [⟨sh28, r.1⟩] (List.set [⟨sh29, some x0⟩] 0 ⟨sh29, some r.2⟩) := by
  refine pmut_intro (j := 0) (fin := ⟨sh29, some r.2⟩) Try.func225 rfl rfl (Nat.le_of_ble_eq_true rfl) (Nat.le_of_ble_eq_true rfl) (by kernel_rfl) ?_
  intro w0 Zi f0 v0 a w h
  rw [f225] at hF
  refine wp_reg_seq tok (orc := orcL []) (fz := []) (l := [0, 2]) (c := _) (.inl rfl) h (by kernel_rfl) (AllP.nil) ?_
  intro a w h
  obtain ⟨hc112, hF⟩ := of_if hF
  refine wp_reg_seq tok (orc := orcL []) (fz := []) (l := [0, 2, 3]) (c := _) (.inl rfl) h (by kernel_rfl) (AllP.cons hc112 AllP.nil) ?_
  intro a w h
  refine wp_reg_seq tok (orc := orcL []) (fz := []) (l := [0, 2, 3, 4]) (c := _) (.inl rfl) h (by kernel_rfl) (AllP.nil) ?_
  intro a w h
  obtain ⟨hc110, hF⟩ := of_if hF
  obtain ⟨hc111, hF⟩ := of_if hF
  refine wp_regy_seq tok (orc := orcL []) (fz := []) (l := [0, 2, 3, 4]) (c := _) ([], [], [], []) 12 (.inl rfl) h (by kernel_rfl) (by kernel_rfl) (AllP.cons hc110 (AllP.cons hc111 AllP.nil)) ?_
  intro a w h
  obtain ⟨hc109, hF⟩ := of_if hF
  refine wp_reg_seq tok (orc := orcL [(37, [⟨.pt false 4294967293 .unit, some ()⟩])]) (fz := []) (l := [0, 2, 3, 4]) (c := _) (.inl rfl) h (by kernel_rfl) (AllP.cons hc109 (AllP.cons (show ([.der, .fst] : Path) = [.der, .fst] from rfl) AllP.nil)) ?_
  intro a w h
  refine wp_reg_seq tok (orc := orcL []) (fz := []) (l := [0, 2, 3, 4, 5]) (c := _) (.inl rfl) h (by kernel_rfl) (AllP.nil) ?_
  intro a w h
  refine wp_mid (fun a w => ∃ v : (List (Int × (Int × Int))), f225.j55 k x0 v = some r ∧ Rel w0 f0 Zi ⟨Try.f225.ntmps, [0], fun _ => v0⟩ ((fun (v54 : (List (Int × (Int × Int)))) => ([(0, .val sh29 (some (v54, x0.2))), (2, .val sh30 (some ((0 : Int), ((0 : Int), (0 : Int))))), (3, .val sh30 (some (List.getD x0.1 (Int.toNat (0 : Int)) ((0 : Int), ((0 : Int), (0 : Int))))))] : SS)) v) a w) ?_ ?_
  ·
    refine wp_block ?_
    refine wp_loop_fuel (f225.l56 k x0 (f225.j55 k x0)) (fun ((v93, v94) : ((List (Int × (Int × Int))) × Int)) => [(0, .val sh29 (some (v93, x0.2))), (2, .val sh30 (some ((0 : Int), ((0 : Int), (0 : Int))))), (3, .val sh30 (some (List.getD x0.1 (Int.toNat (0 : Int)) ((0 : Int), ((0 : Int), (0 : Int)))))), (4, .val (.int .i64) (IntKind.i64.wrap ((List.length x0.1 : Int) - (1 : Int)))), (5, .val (.int .i64) v94)]) (fun v h => by obtain ⟨v93, v94⟩ := v; rw [f225.l56] at h; cases h) ?_ hF (h.arrive (fz := []) (l := [0, 2, 3, 4, 5]) (.inl rfl) (by kernel_rfl))
    intro m56 v a w hF h
    obtain ⟨v93, v94⟩ := v
    rw [f225.l56] at hF
    refine wp_block ?_
    refine wp_reg_seq tok (orc := orcL []) (fz := []) (l := [0, 2, 3, 4, 5, 6]) (c := _) (.inl rfl) h (by kernel_rfl) (AllP.nil) ?_
    intro a w h
    refine wp_seq ?_
    refine wp_reg_seq tok (orc := orcL []) (fz := []) (l := [0, 2, 3, 4, 5, 6, 45]) (c := _) (.inl rfl) h (by kernel_rfl) (AllP.nil) ?_
    intro a w h
    refine wp_if h (b := (decide (((IntKind.i64.wrap ((IntKind.i64.wrap ((2 : Int) * v94)) + (1 : Int))) : Int) ≥ (IntKind.i64.wrap ((List.length x0.1 : Int) - (1 : Int)))))) (by kernel_rfl) (fun hb => ?_) (fun hb => ?_)
    · replace hF := of_t hb hF
      refine wp_exit ?_
      exact ⟨v93, hF, h.arrive (fz := []) (l := [0, 2, 3]) (.inl rfl) (by kernel_rfl)⟩
    · replace hF := of_f hb hF
      refine wp_skip ?_
      refine wp_seq ?_
      obtain ⟨hc106, hF⟩ := of_if hF
      obtain ⟨hc107, hF⟩ := of_if hF
      obtain ⟨r95, hr108, hF⟩ := of_bind hF
      refine wp_regy_seq tok (orc := orcL [(66, [⟨.bool, r95⟩])]) (fz := []) (l := [0, 2, 3, 4, 5, 6, 67]) (c := _) ([], [], [], []) 22 (.inl rfl) h (by kernel_rfl) (by kernel_rfl) (AllP.cons hc106 (AllP.cons hc107 (AllP.cons (fun (hg : ((decide (((IntKind.i64.wrap ((IntKind.i64.wrap ((IntKind.i64.wrap ((2 : Int) * v94)) + (1 : Int))) + (1 : Int))) : Int) < (IntKind.i64.wrap ((List.length x0.1 : Int) - (1 : Int))))) = true)) => c252 k (List.getD v93 (Int.toNat (IntKind.i64.wrap ((IntKind.i64.wrap ((IntKind.i64.wrap ((2 : Int) * v94)) + (1 : Int))) + (1 : Int)))) ((0 : Int), ((0 : Int), (0 : Int)))) (List.getD v93 (Int.toNat (IntKind.i64.wrap ((IntKind.i64.wrap ((2 : Int) * v94)) + (1 : Int)))) ((0 : Int), ((0 : Int), (0 : Int)))) r95 (of_g hg hr108)) AllP.nil))) ?_
      intro a w h
      refine wp_midT (fun a w => ∃ v : Int, f225.j97 k v93 v94 (f225.j55 k x0) ((f225.l56 k x0 (f225.j55 k x0)) m56) v = some r ∧ Rel w0 f0 Zi ⟨Try.f225.ntmps, [0], fun _ => v0⟩ ((fun (v96 : Int) => ([(0, .val sh29 (some (v93, x0.2))), (2, .val sh30 (some ((0 : Int), ((0 : Int), (0 : Int))))), (3, .val sh30 (some (List.getD x0.1 (Int.toNat (0 : Int)) ((0 : Int), ((0 : Int), (0 : Int)))))), (4, .val (.int .i64) (IntKind.i64.wrap ((List.length x0.1 : Int) - (1 : Int)))), (5, .val (.int .i64) v94), (6, .val (.int .i64) v96)] : SS)) v) a w) ?_ ?_
      ·
        refine wp_if h (b := (bif (decide (((IntKind.i64.wrap ((IntKind.i64.wrap ((IntKind.i64.wrap ((2 : Int) * v94)) + (1 : Int))) + (1 : Int))) : Int) < (IntKind.i64.wrap ((List.length x0.1 : Int) - (1 : Int))))) then r95 else false)) (by kernel_rfl) (fun hb => ?_) (fun hb => ?_)
        · replace hF := of_t hb hF
          refine wp_reg tok (orc := orcL []) (fz := []) (l := [0, 2, 3, 4, 5, 6]) (c := _) (.inl rfl) h (by kernel_rfl) (AllP.nil) ?_
          intro a w h
          exact ⟨(IntKind.i64.wrap ((IntKind.i64.wrap ((IntKind.i64.wrap ((2 : Int) * v94)) + (1 : Int))) + (1 : Int))), hF, h.arrive (fz := []) (l := [0, 2, 3, 4, 5, 6]) (.inl rfl) (by kernel_rfl)⟩
        · replace hF := of_f hb hF
          refine wp_skip ?_
          exact ⟨(IntKind.i64.wrap ((IntKind.i64.wrap ((2 : Int) * v94)) + (1 : Int))), hF, h.arrive (fz := []) (l := [0, 2, 3, 4, 5, 6]) (.inl rfl) (by kernel_rfl)⟩
      · rintro a w ⟨v96, hF, h⟩
        rw [f225.j97] at hF
        refine wp_seq ?_
        obtain ⟨hc103, hF⟩ := of_if hF
        obtain ⟨hc104, hF⟩ := of_if hF
        obtain ⟨r98, hr105, hF⟩ := of_bind hF
        refine wp_regy_seq tok (orc := orcL [(84, [⟨.bool, r98⟩])]) (fz := []) (l := [0, 2, 3, 4, 5, 6, 85]) (c := _) ([], [], [], []) 16 (.inl rfl) h (by kernel_rfl) (by kernel_rfl) (AllP.cons hc103 (AllP.cons hc104 (AllP.cons (c252 k (List.getD v93 (Int.toNat v96) ((0 : Int), ((0 : Int), (0 : Int)))) (List.getD v93 (Int.toNat v94) ((0 : Int), ((0 : Int), (0 : Int)))) r98 hr105) AllP.nil))) ?_
        intro a w h
        refine wp_if h (b := (!r98)) (by kernel_rfl) (fun hb => ?_) (fun hb => ?_)
        · replace hF := of_t hb hF
          refine wp_exit ?_
          exact ⟨v93, hF, h.arrive (fz := []) (l := [0, 2, 3]) (.inl rfl) (by kernel_rfl)⟩
        · replace hF := of_f hb hF
          refine wp_skip ?_
          obtain ⟨hc99, hF⟩ := of_if hF
          obtain ⟨hc100, hF⟩ := of_if hF
          obtain ⟨hc101, hF⟩ := of_if hF
          obtain ⟨hc102, hF⟩ := of_if hF
          refine wp_regy_seq tok (orc := orcL [(110, [⟨.pt false 4294967289 .unit, some ()⟩])]) (fz := []) (l := [0, 2, 3, 4, 6]) (c := _) ([(25, 0)], [], [(25, [86, 87, 89, 91, 92, 94, 96, 97, 99, 103, 104, 106])], [(9, [6])]) 26 (.inl rfl) h (by kernel_rfl) (by kernel_rfl) (AllP.cons hc99 (AllP.cons hc100 (AllP.cons hc101 (AllP.cons hc102 AllP.nil)))) ?_
          intro a w h
          refine wp_reg tok (orc := orcL []) (fz := []) (l := [0, 2, 3, 4, 5]) (c := _) (.inl rfl) h (by kernel_rfl) (AllP.nil) ?_
          intro a w h
          exact ⟨((List.set (List.set v93 (Int.toNat v94) (List.getD v93 (Int.toNat v96) ((0 : Int), ((0 : Int), (0 : Int))))) (Int.toNat v96) (List.getD v93 (Int.toNat v94) ((0 : Int), ((0 : Int), (0 : Int))))), v96), hF, h.arrive (fz := []) (l := [0, 2, 3, 4, 5]) (.inl rfl) (by kernel_rfl)⟩
  · rintro a w ⟨v54, hF, h⟩
    rw [f225.j55] at hF
    refine wp_reg_seq tok (orc := orcL []) (fz := []) (l := [0, 2]) (c := _) (.inl rfl) h (by kernel_rfl) (AllP.nil) ?_
    intro a w h
    cases hF
    exact wp_ret (retM_ok tok h rfl (by kernel_rfl) (by kernel_rfl)).1

def f268 (k : Nat) (x0 : Int) : Option Int := if (decide ((x0 : Int) < (0 : Int))) then (some (IntKind.i64.wrap (0 - x0))) else (some x0)
set_option maxRecDepth 100000 in
/-- 'impl.abs'. -/
theorem c268 (k : Nat) (x0 : Int) (r : Int) (hF : f268 k x0 = some r) : PCall Try.prog 268 [⟨(.int .i64), x0⟩] [⟨(.int .i64), r⟩] := by
  refine pcall_intro Try.func268 rfl rfl (Nat.le_of_ble_eq_true rfl) ?_
  intro w0 Zi a w h
  rw [f268] at hF
  refine wp_reg_seq tok (orc := orcL []) (fz := []) (l := [0]) (c := _) (.inr fun i h => h) h (by kernel_rfl) (AllP.nil) ?_
  intro a w h
  refine wp_seq ?_
  refine wp_reg_seq tok (orc := orcL []) (fz := []) (l := [0, 4]) (c := _) (.inr fun i h => h) h (by kernel_rfl) (AllP.nil) ?_
  intro a w h
  refine wp_if h (b := (decide ((x0 : Int) < (0 : Int)))) (by kernel_rfl) (fun hb => ?_) (fun hb => ?_)
  · replace hF := of_t hb hF
    refine wp_reg_seq tok (orc := orcL []) (fz := []) (l := [2]) (c := _) (.inr fun i h => h) h (by kernel_rfl) (AllP.nil) ?_
    intro a w h
    cases hF
    exact wp_ret (ret_okR tok h rfl (by kernel_rfl)).1
  · replace hF := of_f hb hF
    refine wp_skip ?_
    refine wp_reg_seq tok (orc := orcL []) (fz := []) (l := [2]) (c := _) (.inr fun i h => h) h (by kernel_rfl) (AllP.nil) ?_
    intro a w h
    cases hF
    exact wp_ret (ret_okR tok h rfl (by kernel_rfl)).1

def f251 (k : Nat) (x0 : (Int × Int)) (x1 : (Int × Int)) : Option Int := (if ((Sh.beq sh5 x0 x1) = false) then f169 k x0 else some default).bind fun r1 => ((if ((bif (Sh.beq sh5 x0 x1) then true else (!r1)) = false) then f169 k x1 else some default).bind fun r2 => (if (bif (bif (Sh.beq sh5 x0 x1) then true else (!r1)) then true else (!r2)) then (some (-1 : Int)) else ((f268 k (IntKind.i64.wrap (x1.1 - x0.1))).bind fun r3 => ((f268 k (IntKind.i64.wrap (x1.2 - x0.2))).bind fun r4 => ((f268 k (IntKind.i64.wrap (x1.1 - x0.1))).bind fun r5 => ((f268 k (IntKind.i64.wrap (x1.2 - x0.2))).bind fun r6 => (if (decide (((IntKind.i64.wrap ((5 : Int) * (if (r6 : Int) < r5 then r6 else r5))) : Int) < (IntKind.i64.wrap ((2 : Int) * (if (r4 : Int) > r3 then r4 else r3))))) then ((f268 k (IntKind.i64.wrap (x1.1 - x0.1))).bind fun r31 => ((f268 k (IntKind.i64.wrap (x1.2 - x0.2))).bind fun r32 => (if (bif (decide ((r31 : Int) > r32)) then (decide (((IntKind.i64.wrap (x1.1 - x0.1)) : Int) > (0 : Int))) else false) then (some (0 : Int)) else ((f268 k (IntKind.i64.wrap (x1.1 - x0.1))).bind fun r33 => ((f268 k (IntKind.i64.wrap (x1.2 - x0.2))).bind fun r34 => (if (decide ((r33 : Int) > r34)) then (some (4 : Int)) else (if (decide (((IntKind.i64.wrap (x1.2 - x0.2)) : Int) > (0 : Int))) then (some (2 : Int)) else (some (6 : Int))))))))) else (if (bif (decide (((IntKind.i64.wrap (x1.1 - x0.1)) : Int) > (0 : Int))) then (decide (((IntKind.i64.wrap (x1.2 - x0.2)) : Int) > (0 : Int))) else false) then (some (1 : Int)) else (if (bif (decide (((IntKind.i64.wrap (x1.1 - x0.1)) : Int) < (0 : Int))) then (decide (((IntKind.i64.wrap (x1.2 - x0.2)) : Int) > (0 : Int))) else false) then (some (3 : Int)) else (if (bif (decide (((IntKind.i64.wrap (x1.1 - x0.1)) : Int) < (0 : Int))) then (decide (((IntKind.i64.wrap (x1.2 - x0.2)) : Int) < (0 : Int))) else false) then (some (5 : Int)) else (some (7 : Int))))))))))))
set_option maxRecDepth 100000 in
/-- 'impl.Heading'. -/
theorem c251 (k : Nat) (x0 : (Int × Int)) (x1 : (Int × Int)) (r : Int) (hF : f251 k x0 x1 = some r) : PCall Try.prog 251 [⟨sh5, x0⟩, ⟨sh5, x1⟩] [⟨(.int .i64), r⟩] := by
  refine pcall_intro Try.func251 rfl rfl (Nat.le_of_ble_eq_true rfl) ?_
  intro w0 Zi a w h
  rw [f251] at hF
  refine wp_reg_seq tok (orc := orcL []) (fz := []) (l := [2, 3]) (c := _) (.inr fun i h => h) h (by kernel_rfl) (AllP.nil) ?_
  intro a w h
  refine wp_seq ?_
  obtain ⟨r1, hr43, hF⟩ := of_bind hF
  obtain ⟨r2, hr44, hF⟩ := of_bind hF
  refine wp_reg_seq tok (orc := orcL [(14, [⟨.bool, r1⟩]), (19, [⟨.bool, r2⟩])]) (fz := []) (l := [2, 3, 21]) (c := _) (.inr fun i h => h) h (by kernel_rfl) (AllP.cons (And.intro (show eqTy Try.prog 9 174 (.st (.pair (.int .i64) (.int .i64))) = true from by kernel_rfl) (show Try.prog.eqGuardType Try.prog.depth 174 = false from by kernel_rfl)) (AllP.cons (fun (hg : ((Sh.beq sh5 x0 x1) = false)) => c169 k x0 r1 (of_g hg hr43)) (AllP.cons (fun (hg : ((bif (Sh.beq sh5 x0 x1) then true else (!r1)) = false)) => c169 k x1 r2 (of_g hg hr44)) AllP.nil))) ?_
  intro a w h
  refine wp_if h (b := (bif (bif (Sh.beq sh5 x0 x1) then true else (!r1)) then true else (!r2))) (by kernel_rfl) (fun hb => ?_) (fun hb => ?_)
  · replace hF := of_t hb hF
    refine wp_reg_seq tok (orc := orcL []) (fz := []) (l := [4]) (c := _) (.inr fun i h => h) h (by kernel_rfl) (AllP.nil) ?_
    intro a w h
    cases hF
    exact wp_ret (ret_okR tok h rfl (by kernel_rfl)).1
  · replace hF := of_f hb hF
    refine wp_skip ?_
    refine wp_regy_seq tok (orc := orcL []) (fz := []) (l := [5, 6]) (c := _) ([], [], [], []) 12 (.inr fun i h => h) h (by kernel_rfl) (by kernel_rfl) (AllP.nil) ?_
    intro a w h
    obtain ⟨r3, hr39, hF⟩ := of_bind hF
    obtain ⟨r4, hr40, hF⟩ := of_bind hF
    obtain ⟨r5, hr41, hF⟩ := of_bind hF
    obtain ⟨r6, hr42, hF⟩ := of_bind hF
    refine wp_reg_seq tok (orc := orcL [(33, [⟨(.int .i64), r3⟩]), (35, [⟨(.int .i64), r4⟩]), (38, [⟨(.int .i64), r5⟩]), (40, [⟨(.int .i64), r6⟩])]) (fz := []) (l := [5, 6, 7, 8]) (c := _) (.inr fun i h => h) h (by kernel_rfl) (AllP.cons (c268 k (IntKind.i64.wrap (x1.1 - x0.1)) r3 hr39) (AllP.cons (c268 k (IntKind.i64.wrap (x1.2 - x0.2)) r4 hr40) (AllP.cons (c268 k (IntKind.i64.wrap (x1.1 - x0.1)) r5 hr41) (AllP.cons (c268 k (IntKind.i64.wrap (x1.2 - x0.2)) r6 hr42) AllP.nil)))) ?_
    intro a w h
    refine wp_seq ?_
    refine wp_reg_seq tok (orc := orcL []) (fz := []) (l := [5, 6, 46]) (c := _) (.inr fun i h => h) h (by kernel_rfl) (AllP.nil) ?_
    intro a w h
    refine wp_if h (b := (decide (((IntKind.i64.wrap ((5 : Int) * (if (r6 : Int) < r5 then r6 else r5))) : Int) < (IntKind.i64.wrap ((2 : Int) * (if (r4 : Int) > r3 then r4 else r3)))))) (by kernel_rfl) (fun hb => ?_) (fun hb => ?_)
    · replace hF := of_t hb hF
      refine wp_seq <| wp_block ?_
      obtain ⟨r31, hr37, hF⟩ := of_bind hF
      obtain ⟨r32, hr38, hF⟩ := of_bind hF
      refine wp_reg_seq tok (orc := orcL [(49, [⟨(.int .i64), r31⟩]), (51, [⟨(.int .i64), r32⟩])]) (fz := []) (l := [5, 6, 47]) (c := _) (.inr fun i h => h) h (by kernel_rfl) (AllP.cons (c268 k (IntKind.i64.wrap (x1.1 - x0.1)) r31 hr37) (AllP.cons (c268 k (IntKind.i64.wrap (x1.2 - x0.2)) r32 hr38) AllP.nil)) ?_
      intro a w h
      refine wp_if h (b := (bif (decide ((r31 : Int) > r32)) then (decide (((IntKind.i64.wrap (x1.1 - x0.1)) : Int) > (0 : Int))) else false)) (by kernel_rfl) (fun hb => ?_) (fun hb => ?_)
      · replace hF := of_t hb hF
        refine wp_reg_seq tok (orc := orcL []) (fz := []) (l := [4]) (c := _) (.inr fun i h => h) h (by kernel_rfl) (AllP.nil) ?_
        intro a w h
        cases hF
        exact wp_ret (ret_okR tok h rfl (by kernel_rfl)).1
      · replace hF := of_f hb hF
        obtain ⟨r33, hr35, hF⟩ := of_bind hF
        obtain ⟨r34, hr36, hF⟩ := of_bind hF
        refine wp_reg_seq tok (orc := orcL [(59, [⟨(.int .i64), r33⟩]), (61, [⟨(.int .i64), r34⟩])]) (fz := []) (l := [6, 57]) (c := _) (.inr fun i h => h) h (by kernel_rfl) (AllP.cons (c268 k (IntKind.i64.wrap (x1.1 - x0.1)) r33 hr35) (AllP.cons (c268 k (IntKind.i64.wrap (x1.2 - x0.2)) r34 hr36) AllP.nil)) ?_
        intro a w h
        refine wp_if h (b := (decide ((r33 : Int) > r34))) (by kernel_rfl) (fun hb => ?_) (fun hb => ?_)
        · replace hF := of_t hb hF
          refine wp_reg_seq tok (orc := orcL []) (fz := []) (l := [4]) (c := _) (.inr fun i h => h) h (by kernel_rfl) (AllP.nil) ?_
          intro a w h
          cases hF
          exact wp_ret (ret_okR tok h rfl (by kernel_rfl)).1
        · replace hF := of_f hb hF
          refine wp_reg_seq tok (orc := orcL []) (fz := []) (l := [63]) (c := _) (.inr fun i h => h) h (by kernel_rfl) (AllP.nil) ?_
          intro a w h
          refine wp_if h (b := (decide (((IntKind.i64.wrap (x1.2 - x0.2)) : Int) > (0 : Int)))) (by kernel_rfl) (fun hb => ?_) (fun hb => ?_)
          · replace hF := of_t hb hF
            refine wp_reg_seq tok (orc := orcL []) (fz := []) (l := [4]) (c := _) (.inr fun i h => h) h (by kernel_rfl) (AllP.nil) ?_
            intro a w h
            cases hF
            exact wp_ret (ret_okR tok h rfl (by kernel_rfl)).1
          · replace hF := of_f hb hF
            refine wp_skip ?_
            refine wp_reg_seq tok (orc := orcL []) (fz := []) (l := [4]) (c := _) (.inr fun i h => h) h (by kernel_rfl) (AllP.nil) ?_
            intro a w h
            cases hF
            exact wp_ret (ret_okR tok h rfl (by kernel_rfl)).1
    · replace hF := of_f hb hF
      refine wp_skip ?_
      refine wp_seq <| wp_block ?_
      refine wp_reg_seq tok (orc := orcL []) (fz := []) (l := [5, 6, 66]) (c := _) (.inr fun i h => h) h (by kernel_rfl) (AllP.nil) ?_
      intro a w h
      refine wp_if h (b := (bif (decide (((IntKind.i64.wrap (x1.1 - x0.1)) : Int) > (0 : Int))) then (decide (((IntKind.i64.wrap (x1.2 - x0.2)) : Int) > (0 : Int))) else false)) (by kernel_rfl) (fun hb => ?_) (fun hb => ?_)
      · replace hF := of_t hb hF
        refine wp_reg_seq tok (orc := orcL []) (fz := []) (l := [4]) (c := _) (.inr fun i h => h) h (by kernel_rfl) (AllP.nil) ?_
        intro a w h
        cases hF
        exact wp_ret (ret_okR tok h rfl (by kernel_rfl)).1
      · replace hF := of_f hb hF
        refine wp_reg_seq tok (orc := orcL []) (fz := []) (l := [5, 6, 73]) (c := _) (.inr fun i h => h) h (by kernel_rfl) (AllP.nil) ?_
        intro a w h
        refine wp_if h (b := (bif (decide (((IntKind.i64.wrap (x1.1 - x0.1)) : Int) < (0 : Int))) then (decide (((IntKind.i64.wrap (x1.2 - x0.2)) : Int) > (0 : Int))) else false)) (by kernel_rfl) (fun hb => ?_) (fun hb => ?_)
        · replace hF := of_t hb hF
          refine wp_reg_seq tok (orc := orcL []) (fz := []) (l := [4]) (c := _) (.inr fun i h => h) h (by kernel_rfl) (AllP.nil) ?_
          intro a w h
          cases hF
          exact wp_ret (ret_okR tok h rfl (by kernel_rfl)).1
        · replace hF := of_f hb hF
          refine wp_reg_seq tok (orc := orcL []) (fz := []) (l := [80]) (c := _) (.inr fun i h => h) h (by kernel_rfl) (AllP.nil) ?_
          intro a w h
          refine wp_if h (b := (bif (decide (((IntKind.i64.wrap (x1.1 - x0.1)) : Int) < (0 : Int))) then (decide (((IntKind.i64.wrap (x1.2 - x0.2)) : Int) < (0 : Int))) else false)) (by kernel_rfl) (fun hb => ?_) (fun hb => ?_)
          · replace hF := of_t hb hF
            refine wp_reg_seq tok (orc := orcL []) (fz := []) (l := [4]) (c := _) (.inr fun i h => h) h (by kernel_rfl) (AllP.nil) ?_
            intro a w h
            cases hF
            exact wp_ret (ret_okR tok h rfl (by kernel_rfl)).1
          · replace hF := of_f hb hF
            refine wp_skip ?_
            refine wp_reg_seq tok (orc := orcL []) (fz := []) (l := [4]) (c := _) (.inr fun i h => h) h (by kernel_rfl) (AllP.nil) ?_
            intro a w h
            cases hF
            exact wp_ret (ret_okR tok h rfl (by kernel_rfl)).1

def f221 (k : Nat) (x0 : (((List (Int × (Int × Int))) × ((List (Int × (Int × (Int × (Int × (Int × ByteArray)))))) × (List (Int × Int)))) × ((List (List Int)) × ((List (List Int)) × (Option (List ((Int × Int) × Bool))))))) (x1 : Int) (x2 : Int) : Option Int := if (0 ≤ x1 ∧ x1 < (List.length x0.1.2.1 : Int)) then (if (0 ≤ x2 ∧ x2 < (List.length x0.1.2.1 : Int)) then (if (0 ≤ (List.getD x0.1.2.1 (Int.toNat x1) ((0 : Int), ((0 : Int), ((0 : Int), ((0 : Int), ((0 : Int), (⟨#[]⟩ : ByteArray))))))).1 ∧ (List.getD x0.1.2.1 (Int.toNat x1) ((0 : Int), ((0 : Int), ((0 : Int), ((0 : Int), ((0 : Int), (⟨#[]⟩ : ByteArray))))))).1 < (List.length x0.1.1 : Int)) then (if (0 ≤ (List.getD x0.1.2.1 (Int.toNat x1) ((0 : Int), ((0 : Int), ((0 : Int), ((0 : Int), ((0 : Int), (⟨#[]⟩ : ByteArray))))))).2.1 ∧ (List.getD x0.1.2.1 (Int.toNat x1) ((0 : Int), ((0 : Int), ((0 : Int), ((0 : Int), ((0 : Int), (⟨#[]⟩ : ByteArray))))))).2.1 < (List.length x0.1.1 : Int)) then ((f251 k (List.getD x0.1.1 (Int.toNat (List.getD x0.1.2.1 (Int.toNat x1) ((0 : Int), ((0 : Int), ((0 : Int), ((0 : Int), ((0 : Int), (⟨#[]⟩ : ByteArray))))))).1) ((0 : Int), ((0 : Int), (0 : Int)))).2 (List.getD x0.1.1 (Int.toNat (List.getD x0.1.2.1 (Int.toNat x1) ((0 : Int), ((0 : Int), ((0 : Int), ((0 : Int), ((0 : Int), (⟨#[]⟩ : ByteArray))))))).2.1) ((0 : Int), ((0 : Int), (0 : Int)))).2).bind fun r1 => (if (0 ≤ (List.getD x0.1.2.1 (Int.toNat x2) ((0 : Int), ((0 : Int), ((0 : Int), ((0 : Int), ((0 : Int), (⟨#[]⟩ : ByteArray))))))).1 ∧ (List.getD x0.1.2.1 (Int.toNat x2) ((0 : Int), ((0 : Int), ((0 : Int), ((0 : Int), ((0 : Int), (⟨#[]⟩ : ByteArray))))))).1 < (List.length x0.1.1 : Int)) then (if (0 ≤ (List.getD x0.1.2.1 (Int.toNat x2) ((0 : Int), ((0 : Int), ((0 : Int), ((0 : Int), ((0 : Int), (⟨#[]⟩ : ByteArray))))))).2.1 ∧ (List.getD x0.1.2.1 (Int.toNat x2) ((0 : Int), ((0 : Int), ((0 : Int), ((0 : Int), ((0 : Int), (⟨#[]⟩ : ByteArray))))))).2.1 < (List.length x0.1.1 : Int)) then ((f251 k (List.getD x0.1.1 (Int.toNat (List.getD x0.1.2.1 (Int.toNat x2) ((0 : Int), ((0 : Int), ((0 : Int), ((0 : Int), ((0 : Int), (⟨#[]⟩ : ByteArray))))))).1) ((0 : Int), ((0 : Int), (0 : Int)))).2 (List.getD x0.1.1 (Int.toNat (List.getD x0.1.2.1 (Int.toNat x2) ((0 : Int), ((0 : Int), ((0 : Int), ((0 : Int), ((0 : Int), (⟨#[]⟩ : ByteArray))))))).2.1) ((0 : Int), ((0 : Int), (0 : Int)))).2).bind fun r2 => (if (bif (decide ((r1 : Int) < (0 : Int))) then true else (decide ((r2 : Int) < (0 : Int)))) then (some (-1 : Int)) else (if (((8 : Int) : Int) ≠ 0) then (some (Int.tmod (IntKind.i64.wrap ((IntKind.i64.wrap (r2 - r1)) + (8 : Int))) (8 : Int))) else none))) else none) else none)) else none) else none) else none) else none
set_option maxRecDepth 100000 in
/-- 'impl.myNet).winds'. -/
theorem c221 (k : Nat) (x0 : (((List (Int × (Int × Int))) × ((List (Int × (Int × (Int × (Int × (Int × ByteArray)))))) × (List (Int × Int)))) × ((List (List Int)) × ((List (List Int)) × (Option (List ((Int × Int) × Bool))))))) (x1 : Int) (x2 : Int) (r : Int) (hF : f221 k x0 x1 x2 = some r) : PCall Try.prog 221 [⟨sh27, some x0⟩, ⟨(.int .i64), x1⟩, ⟨(.int .i64), x2⟩] [⟨(.int .i64), r⟩] := by
  refine pcall_intro Try.func221 rfl rfl (Nat.le_of_ble_eq_true rfl) ?_
  intro w0 Zi a w h
  rw [f221] at hF
  refine wp_reg_seq tok (orc := orcL []) (fz := []) (l := [0, 1, 2]) (c := _) (.inr fun i h => h) h (by kernel_rfl) (AllP.nil) ?_
  intro a w h
  obtain ⟨hc10, hF⟩ := of_if hF
  obtain ⟨hc11, hF⟩ := of_if hF
  refine wp_regy_seq tok (orc := orcL []) (fz := []) (l := [0, 7, 8]) (c := _) ([(18, 7)], [], [], [(8, [0]), (9, [19]), (10, [20]), (11, [21]), (12, [22]), (13, [2]), (14, [23, 24]), (15, [25])]) 19 (.inr fun i h => h) h (by kernel_rfl) (by kernel_rfl) (AllP.cons hc10 (AllP.cons hc11 AllP.nil)) ?_
  intro a w h
  obtain ⟨hc7, hF⟩ := of_if hF
  obtain ⟨hc8, hF⟩ := of_if hF
  obtain ⟨r1, hr9, hF⟩ := of_bind hF
  refine wp_regy_seq tok (orc := orcL [(47, [⟨(.int .i64), r1⟩])]) (fz := []) (l := [0, 8, 9]) (c := _) ([], [], [], []) 22 (.inr fun i h => h) h (by kernel_rfl) (by kernel_rfl) (AllP.cons hc7 (AllP.cons hc8 (AllP.cons (c251 k (List.getD x0.1.1 (Int.toNat (List.getD x0.1.2.1 (Int.toNat x1) ((0 : Int), ((0 : Int), ((0 : Int), ((0 : Int), ((0 : Int), (⟨#[]⟩ : ByteArray))))))).1) ((0 : Int), ((0 : Int), (0 : Int)))).2 (List.getD x0.1.1 (Int.toNat (List.getD x0.1.2.1 (Int.toNat x1) ((0 : Int), ((0 : Int), ((0 : Int), ((0 : Int), ((0 : Int), (⟨#[]⟩ : ByteArray))))))).2.1) ((0 : Int), ((0 : Int), (0 : Int)))).2 r1 hr9) AllP.nil))) ?_
  intro a w h
  obtain ⟨hc4, hF⟩ := of_if hF
  obtain ⟨hc5, hF⟩ := of_if hF
  obtain ⟨r2, hr6, hF⟩ := of_bind hF
  refine wp_regy_seq tok (orc := orcL [(68, [⟨(.int .i64), r2⟩])]) (fz := []) (l := [9, 10]) (c := _) ([], [], [], []) 22 (.inr fun i h => h) h (by kernel_rfl) (by kernel_rfl) (AllP.cons hc4 (AllP.cons hc5 (AllP.cons (c251 k (List.getD x0.1.1 (Int.toNat (List.getD x0.1.2.1 (Int.toNat x2) ((0 : Int), ((0 : Int), ((0 : Int), ((0 : Int), ((0 : Int), (⟨#[]⟩ : ByteArray))))))).1) ((0 : Int), ((0 : Int), (0 : Int)))).2 (List.getD x0.1.1 (Int.toNat (List.getD x0.1.2.1 (Int.toNat x2) ((0 : Int), ((0 : Int), ((0 : Int), ((0 : Int), ((0 : Int), (⟨#[]⟩ : ByteArray))))))).2.1) ((0 : Int), ((0 : Int), (0 : Int)))).2 r2 hr6) AllP.nil))) ?_
  intro a w h
  refine wp_seq ?_
  refine wp_reg_seq tok (orc := orcL []) (fz := []) (l := [9, 10, 74]) (c := _) (.inr fun i h => h) h (by kernel_rfl) (AllP.nil) ?_
  intro a w h
  refine wp_if h (b := (bif (decide ((r1 : Int) < (0 : Int))) then true else (decide ((r2 : Int) < (0 : Int))))) (by kernel_rfl) (fun hb => ?_) (fun hb => ?_)
  · replace hF := of_t hb hF
    refine wp_reg_seq tok (orc := orcL []) (fz := []) (l := [6]) (c := _) (.inr fun i h => h) h (by kernel_rfl) (AllP.nil) ?_
    intro a w h
    cases hF
    exact wp_ret (ret_okR tok h rfl (by kernel_rfl)).1
  · replace hF := of_f hb hF
    refine wp_skip ?_
    obtain ⟨hc3, hF⟩ := of_if hF
    refine wp_reg_seq tok (orc := orcL []) (fz := []) (l := [6]) (c := _) (.inr fun i h => h) h (by kernel_rfl) (AllP.cons hc3 AllP.nil) ?_
    intro a w h
    cases hF
    exact wp_ret (ret_okR tok h rfl (by kernel_rfl)).1

def f170.j9 (k : Nat) : Bool → Option Int
  | v8 => if v8 then (some (3 : Int)) else (some (0 : Int))
def f170.j7 (k : Nat) (r1 : Int) : Bool → Option Int
  | v6 => if v6 then (some (5 : Int)) else (if ((r1 : Int) == (5 : Int)) then (f170.j9 k ((r1 : Int) == (5 : Int))) else (f170.j9 k ((r1 : Int) == (6 : Int))))
def f170 (k : Nat) (x0 : (((List (Int × (Int × Int))) × ((List (Int × (Int × (Int × (Int × (Int × ByteArray)))))) × (List (Int × Int)))) × ((List (List Int)) × ((List (List Int)) × (Option (List ((Int × Int) × Bool))))))) (x1 : Int) (x2 : Int) : Option Int := if (0 ≤ x1 ∧ x1 < (List.length x0.1.2.1 : Int)) then (if (0 ≤ x2 ∧ x2 < (List.length x0.1.2.1 : Int)) then (if (bif (((List.getD x0.1.2.1 (Int.toNat x1) ((0 : Int), ((0 : Int), ((0 : Int), ((0 : Int), ((0 : Int), (⟨#[]⟩ : ByteArray))))))).2.1 : Int) != (List.getD x0.1.2.1 (Int.toNat x2) ((0 : Int), ((0 : Int), ((0 : Int), ((0 : Int), ((0 : Int), (⟨#[]⟩ : ByteArray))))))).1) then true else (mget (Sh.beq sh5) x0.2.2.2 (x1, x2) false)) then (some (-1 : Int)) else (if (((List.getD x0.1.2.1 (Int.toNat x2) ((0 : Int), ((0 : Int), ((0 : Int), ((0 : Int), ((0 : Int), (⟨#[]⟩ : ByteArray))))))).2.1 : Int) == (List.getD x0.1.2.1 (Int.toNat x1) ((0 : Int), ((0 : Int), ((0 : Int), ((0 : Int), ((0 : Int), (⟨#[]⟩ : ByteArray))))))).1) then (some (20 : Int)) else ((f221 k x0 x1 x2).bind fun r1 => (if ((r1 : Int) == (2 : Int)) then (f170.j7 k r1 ((r1 : Int) == (2 : Int))) else (if ((r1 : Int) == (3 : Int)) then (f170.j7 k r1 ((r1 : Int) == (3 : Int))) else (f170.j7 k r1 ((r1 : Int) == (4 : Int)))))))) else none) else none
set_option maxRecDepth 100000 in
/-- 'impl.myNet).turn'. -/
theorem c170 (k : Nat) (x0 : (((List (Int × (Int × Int))) × ((List (Int × (Int × (Int × (Int × (Int × ByteArray)))))) × (List (Int × Int)))) × ((List (List Int)) × ((List (List Int)) × (Option (List ((Int × Int) × Bool))))))) (x1 : Int) (x2 : Int) (r : Int) (hF : f170 k x0 x1 x2 = some r) : PCall Try.prog 170 [⟨sh27, some x0⟩, ⟨(.int .i64), x1⟩, ⟨(.int .i64), x2⟩] [⟨(.int .i64), r⟩] := by
  refine pcall_intro Try.func170 rfl rfl (Nat.le_of_ble_eq_true rfl) ?_
  intro w0 Zi a w h
  rw [f170] at hF
  refine wp_reg_seq tok (orc := orcL []) (fz := []) (l := [0, 1, 2]) (c := _) (.inr fun i h => h) h (by kernel_rfl) (AllP.nil) ?_
  intro a w h
  obtain ⟨hc11, hF⟩ := of_if hF
  obtain ⟨hc12, hF⟩ := of_if hF
  refine wp_regy_seq tok (orc := orcL []) (fz := []) (l := [0, 1, 2, 7, 8]) (c := _) ([(18, 7)], [], [], [(8, [0]), (9, [17]), (10, [18]), (11, [19]), (12, [20]), (13, [2]), (14, [21, 22]), (15, [23])]) 19 (.inr fun i h => h) h (by kernel_rfl) (by kernel_rfl) (AllP.cons hc11 (AllP.cons hc12 AllP.nil)) ?_
  intro a w h
  refine wp_seq ?_
  refine wp_reg_seq tok (orc := orcL []) (fz := []) (l := [0, 1, 2, 7, 8, 39]) (c := _) (.inr fun i h => h) h (by kernel_rfl) (AllP.cons (fun (_ : ((((List.getD x0.1.2.1 (Int.toNat x1) ((0 : Int), ((0 : Int), ((0 : Int), ((0 : Int), ((0 : Int), (⟨#[]⟩ : ByteArray))))))).2.1 : Int) != (List.getD x0.1.2.1 (Int.toNat x2) ((0 : Int), ((0 : Int), ((0 : Int), ((0 : Int), ((0 : Int), (⟨#[]⟩ : ByteArray))))))).1) = false)) => (show eqTy Try.prog 9 167 (.st (.pair (.int .i64) (.int .i64))) = true from by kernel_rfl)) AllP.nil) ?_
  intro a w h
  refine wp_if h (b := (bif (((List.getD x0.1.2.1 (Int.toNat x1) ((0 : Int), ((0 : Int), ((0 : Int), ((0 : Int), ((0 : Int), (⟨#[]⟩ : ByteArray))))))).2.1 : Int) != (List.getD x0.1.2.1 (Int.toNat x2) ((0 : Int), ((0 : Int), ((0 : Int), ((0 : Int), ((0 : Int), (⟨#[]⟩ : ByteArray))))))).1) then true else (mget (Sh.beq sh5) x0.2.2.2 (x1, x2) false))) (by kernel_rfl) (fun hb => ?_) (fun hb => ?_)
  · replace hF := of_t hb hF
    refine wp_reg_seq tok (orc := orcL []) (fz := []) (l := [6]) (c := _) (.inr fun i h => h) h (by kernel_rfl) (AllP.nil) ?_
    intro a w h
    cases hF
    exact wp_ret (ret_okR tok h rfl (by kernel_rfl)).1
  · replace hF := of_f hb hF
    refine wp_skip ?_
    refine wp_seq ?_
    refine wp_reg_seq tok (orc := orcL []) (fz := []) (l := [0, 1, 2, 44]) (c := _) (.inr fun i h => h) h (by kernel_rfl) (AllP.nil) ?_
    intro a w h
    refine wp_if h (b := (((List.getD x0.1.2.1 (Int.toNat x2) ((0 : Int), ((0 : Int), ((0 : Int), ((0 : Int), ((0 : Int), (⟨#[]⟩ : ByteArray))))))).2.1 : Int) == (List.getD x0.1.2.1 (Int.toNat x1) ((0 : Int), ((0 : Int), ((0 : Int), ((0 : Int), ((0 : Int), (⟨#[]⟩ : ByteArray))))))).1)) (by kernel_rfl) (fun hb => ?_) (fun hb => ?_)
    · replace hF := of_t hb hF
      refine wp_reg_seq tok (orc := orcL []) (fz := []) (l := [6]) (c := _) (.inr fun i h => h) h (by kernel_rfl) (AllP.nil) ?_
      intro a w h
      cases hF
      exact wp_ret (ret_okR tok h rfl (by kernel_rfl)).1
    · replace hF := of_f hb hF
      refine wp_skip ?_
      refine wp_seq ?_
      obtain ⟨r1, hr10, hF⟩ := of_bind hF
      refine wp_reg_seq tok (orc := orcL [(48, [⟨(.int .i64), r1⟩])]) (fz := []) (l := [48]) (c := _) (.inr fun i h => h) h (by kernel_rfl) (AllP.cons (c221 k x0 x1 x2 r1 hr10) AllP.nil) ?_
      intro a w h
      refine wp_block ?_
      refine wp_seq ?_
      refine wp_reg_seq tok (orc := orcL []) (fz := []) (l := [48, 49]) (c := _) (.inr fun i h => h) h (by kernel_rfl) (AllP.nil) ?_
      intro a w h
      refine wp_midT (fun a w => ∃ v : Bool, f170.j7 k r1 v = some r ∧ Rel w0 (fun _ => False) Zi Try.f170.ntmps ((fun (v6 : Bool) => ([(48, .val (.int .i64) r1), (49, .val .bool v6)] : SS)) v) a w) ?_ ?_
      ·
        refine wp_if h (b := ((r1 : Int) == (2 : Int))) (by kernel_rfl) (fun hb => ?_) (fun hb => ?_)
        · replace hF := of_t hb hF
          refine wp_skip ?_
          exact ⟨((r1 : Int) == (2 : Int)), hF, h.arrive (fz := []) (l := [48, 49]) (.inr fun i h => h) (by kernel_rfl)⟩
        · replace hF := of_f hb hF
          refine wp_reg_seq tok (orc := orcL []) (fz := []) (l := [48, 49]) (c := _) (.inr fun i h => h) h (by kernel_rfl) (AllP.nil) ?_
          intro a w h
          refine wp_if h (b := ((r1 : Int) == (3 : Int))) (by kernel_rfl) (fun hb => ?_) (fun hb => ?_)
          · replace hF := of_t hb hF
            refine wp_skip ?_
            exact ⟨((r1 : Int) == (3 : Int)), hF, h.arrive (fz := []) (l := [48, 49]) (.inr fun i h => h) (by kernel_rfl)⟩
          · replace hF := of_f hb hF
            refine wp_reg tok (orc := orcL []) (fz := []) (l := [48, 49]) (c := _) (.inr fun i h => h) h (by kernel_rfl) (AllP.nil) ?_
            intro a w h
            exact ⟨((r1 : Int) == (4 : Int)), hF, h.arrive (fz := []) (l := [48, 49]) (.inr fun i h => h) (by kernel_rfl)⟩
      · rintro a w ⟨v6, hF, h⟩
        rw [f170.j7] at hF
        refine wp_if h (b := v6) (by kernel_rfl) (fun hb => ?_) (fun hb => ?_)
        · replace hF := of_t hb hF
          refine wp_reg_seq tok (orc := orcL []) (fz := []) (l := [6]) (c := _) (.inr fun i h => h) h (by kernel_rfl) (AllP.nil) ?_
          intro a w h
          cases hF
          exact wp_ret (ret_okR tok h rfl (by kernel_rfl)).1
        · replace hF := of_f hb hF
          refine wp_seq ?_
          refine wp_reg_seq tok (orc := orcL []) (fz := []) (l := [48, 53]) (c := _) (.inr fun i h => h) h (by kernel_rfl) (AllP.nil) ?_
          intro a w h
          refine wp_midT (fun a w => ∃ v : Bool, f170.j9 k v = some r ∧ Rel w0 (fun _ => False) Zi Try.f170.ntmps ((fun (v8 : Bool) => ([(53, .val .bool v8)] : SS)) v) a w) ?_ ?_
          ·
            refine wp_if h (b := ((r1 : Int) == (5 : Int))) (by kernel_rfl) (fun hb => ?_) (fun hb => ?_)
            · replace hF := of_t hb hF
              refine wp_skip ?_
              exact ⟨((r1 : Int) == (5 : Int)), hF, h.arrive (fz := []) (l := [53]) (.inr fun i h => h) (by kernel_rfl)⟩
            · replace hF := of_f hb hF
              refine wp_reg tok (orc := orcL []) (fz := []) (l := [53]) (c := _) (.inr fun i h => h) h (by kernel_rfl) (AllP.nil) ?_
              intro a w h
              exact ⟨((r1 : Int) == (6 : Int)), hF, h.arrive (fz := []) (l := [53]) (.inr fun i h => h) (by kernel_rfl)⟩
          · rintro a w ⟨v8, hF, h⟩
            rw [f170.j9] at hF
            refine wp_if h (b := v8) (by kernel_rfl) (fun hb => ?_) (fun hb => ?_)
            · replace hF := of_t hb hF
              refine wp_reg_seq tok (orc := orcL []) (fz := []) (l := [6]) (c := _) (.inr fun i h => h) h (by kernel_rfl) (AllP.nil) ?_
              intro a w h
              cases hF
              exact wp_ret (ret_okR tok h rfl (by kernel_rfl)).1
            · replace hF := of_f hb hF
              refine wp_skip ?_
              refine wp_reg_seq tok (orc := orcL []) (fz := []) (l := [6]) (c := _) (.inr fun i h => h) h (by kernel_rfl) (AllP.nil) ?_
              intro a w h
              cases hF
              exact wp_ret (ret_okR tok h rfl (by kernel_rfl)).1

def f185.j143 (k : Nat) (v134 : Int) (q90 : ((List Int) × (List Int) × ((List (Int × (Int × Int))) × Unit) × Int) → Option ((List Int) × (List Int))) : ((List Int) × (List Int) × ((List (Int × (Int × Int))) × Unit)) → Option ((List Int) × (List Int))
  | (v140, v141, v142) => q90 (v140, v141, v142, (IntKind.i64.wrap (v134 + (1 : Int))))
def f185.j982 (k : Nat) (v961 : Int) (q869 : ((List Int) × (List Int) × ((List (Int × (Int × Int))) × Unit) × Int) → Option ((List Int) × (List Int))) : ((List Int) × (List Int) × ((List (Int × (Int × Int))) × Unit)) → Option ((List Int) × (List Int))
  | (v979, v980, v981) => q869 (v979, v980, v981, (IntKind.i64.wrap (v961 + (1 : Int))))
def f185.l869 (k : Nat) (x0 : (((List (Int × (Int × Int))) × ((List (Int × (Int × (Int × (Int × (Int × ByteArray)))))) × (List (Int × Int)))) × ((List (List Int)) × ((List (List Int)) × (Option (List ((Int × Int) × Bool))))))) (r868 : ((Int × (Int × Int)) × ((List (Int × (Int × Int))) × Unit))) (v866 : (List Bool)) (q577 : ((List Int) × (List Int) × (List Bool) × ((List (Int × (Int × Int))) × Unit)) → Option ((List Int) × (List Int))) : Nat → ((List Int) × (List Int) × ((List (Int × (Int × Int))) × Unit) × Int) → Option ((List Int) × (List Int))
  | 0, _ => none
  | m869 + 1, (v958, v959, v960, v961) => if (decide ((v961 : Int) < (List.length (List.getD x0.2.2.1 (Int.toNat (List.getD x0.1.2.1 (Int.toNat r868.1.2.2) ((0 : Int), ((0 : Int), ((0 : Int), ((0 : Int), ((0 : Int), (⟨#[]⟩ : ByteArray))))))).1) ([] : (List Int))) : Int))) then (if (0 ≤ v961 ∧ v961 < (List.length (List.getD x0.2.2.1 (Int.toNat (List.getD x0.1.2.1 (Int.toNat r868.1.2.2) ((0 : Int), ((0 : Int), ((0 : Int), ((0 : Int), ((0 : Int), (⟨#[]⟩ : ByteArray))))))).1) ([] : (List Int))) : Int)) then (if (0 ≤ (List.getD (List.getD x0.2.2.1 (Int.toNat (List.getD x0.1.2.1 (Int.toNat r868.1.2.2) ((0 : Int), ((0 : Int), ((0 : Int), ((0 : Int), ((0 : Int), (⟨#[]⟩ : ByteArray))))))).1) ([] : (List Int))) (Int.toNat v961) (0 : Int)) ∧ (List.getD (List.getD x0.2.2.1 (Int.toNat (List.getD x0.1.2.1 (Int.toNat r868.1.2.2) ((0 : Int), ((0 : Int), ((0 : Int), ((0 : Int), ((0 : Int), (⟨#[]⟩ : ByteArray))))))).1) ([] : (List Int))) (Int.toNat v961) (0 : Int)) < (List.length (List.set v866 (Int.toNat r868.1.2.2) true) : Int)) then (if (List.getD (List.set v866 (Int.toNat r868.1.2.2) true) (Int.toNat (List.getD (List.getD x0.2.2.1 (Int.toNat (List.getD x0.1.2.1 (Int.toNat r868.1.2.2) ((0 : Int), ((0 : Int), ((0 : Int), ((0 : Int), ((0 : Int), (⟨#[]⟩ : ByteArray))))))).1) ([] : (List Int))) (Int.toNat v961) (0 : Int))) false) then (f185.j982 k v961 ((f185.l869 k x0 r868 v866 q577) m869) (v958, v959, v960)) else ((f170 k x0 (List.getD (List.getD x0.2.2.1 (Int.toNat (List.getD x0.1.2.1 (Int.toNat r868.1.2.2) ((0 : Int), ((0 : Int), ((0 : Int), ((0 : Int), ((0 : Int), (⟨#[]⟩ : ByteArray))))))).1) ([] : (List Int))) (Int.toNat v961) (0 : Int)) r868.1.2.2).bind fun r983 => (if (decide ((r983 : Int) < (0 : Int))) then (f185.j982 k v961 ((f185.l869 k x0 r868 v866 q577) m869) (v958, v959, v960)) else (if (0 ≤ (List.getD (List.getD x0.2.2.1 (Int.toNat (List.getD x0.1.2.1 (Int.toNat r868.1.2.2) ((0 : Int), ((0 : Int), ((0 : Int), ((0 : Int), ((0 : Int), (⟨#[]⟩ : ByteArray))))))).1) ([] : (List Int))) (Int.toNat v961) (0 : Int)) ∧ (List.getD (List.getD x0.2.2.1 (Int.toNat (List.getD x0.1.2.1 (Int.toNat r868.1.2.2) ((0 : Int), ((0 : Int), ((0 : Int), ((0 : Int), ((0 : Int), (⟨#[]⟩ : ByteArray))))))).1) ([] : (List Int))) (Int.toNat v961) (0 : Int)) < (List.length x0.1.2.1 : Int)) then (if (0 ≤ (List.getD (List.getD x0.2.2.1 (Int.toNat (List.getD x0.1.2.1 (Int.toNat r868.1.2.2) ((0 : Int), ((0 : Int), ((0 : Int), ((0 : Int), ((0 : Int), (⟨#[]⟩ : ByteArray))))))).1) ([] : (List Int))) (Int.toNat v961) (0 : Int)) ∧ (List.getD (List.getD x0.2.2.1 (Int.toNat (List.getD x0.1.2.1 (Int.toNat r868.1.2.2) ((0 : Int), ((0 : Int), ((0 : Int), ((0 : Int), ((0 : Int), (⟨#[]⟩ : ByteArray))))))).1) ([] : (List Int))) (Int.toNat v961) (0 : Int)) < (List.length v958 : Int)) then (if (((decide (((List.getD v958 (Int.toNat (List.getD (List.getD x0.2.2.1 (Int.toNat (List.getD x0.1.2.1 (Int.toNat r868.1.2.2) ((0 : Int), ((0 : Int), ((0 : Int), ((0 : Int), ((0 : Int), (⟨#[]⟩ : ByteArray))))))).1) ([] : (List Int))) (Int.toNat v961) (0 : Int))) (0 : Int)) : Int) < (0 : Int))) = false) → (0 ≤ (List.getD (List.getD x0.2.2.1 (Int.toNat (List.getD x0.1.2.1 (Int.toNat r868.1.2.2) ((0 : Int), ((0 : Int), ((0 : Int), ((0 : Int), ((0 : Int), (⟨#[]⟩ : ByteArray))))))).1) ([] : (List Int))) (Int.toNat v961) (0 : Int)) ∧ (List.getD (List.getD x0.2.2.1 (Int.toNat (List.getD x0.1.2.1 (Int.toNat r868.1.2.2) ((0 : Int), ((0 : Int), ((0 : Int), ((0 : Int), ((0 : Int), (⟨#[]⟩ : ByteArray))))))).1) ([] : (List Int))) (Int.toNat v961) (0 : Int)) < (List.length v958 : Int))) then (if (((bif (decide (((List.getD v958 (Int.toNat (List.getD (List.getD x0.2.2.1 (Int.toNat (List.getD x0.1.2.1 (Int.toNat r868.1.2.2) ((0 : Int), ((0 : Int), ((0 : Int), ((0 : Int), ((0 : Int), (⟨#[]⟩ : ByteArray))))))).1) ([] : (List Int))) (Int.toNat v961) (0 : Int))) (0 : Int)) : Int) < (0 : Int))) then true else (decide (((IntKind.i64.wrap ((IntKind.i64.wrap (r868.1.1 + r983)) + (List.getD x0.1.2.1 (Int.toNat (List.getD (List.getD x0.2.2.1 (Int.toNat (List.getD x0.1.2.1 (Int.toNat r868.1.2.2) ((0 : Int), ((0 : Int), ((0 : Int), ((0 : Int), ((0 : Int), (⟨#[]⟩ : ByteArray))))))).1) ([] : (List Int))) (Int.toNat v961) (0 : Int))) ((0 : Int), ((0 : Int), ((0 : Int), ((0 : Int), ((0 : Int), (⟨#[]⟩ : ByteArray))))))).2.2.2.1)) : Int) < (List.getD v958 (Int.toNat (List.getD (List.getD x0.2.2.1 (Int.toNat (List.getD x0.1.2.1 (Int.toNat r868.1.2.2) ((0 : Int), ((0 : Int), ((0 : Int), ((0 : Int), ((0 : Int), (⟨#[]⟩ : ByteArray))))))).1) ([] : (List Int))) (Int.toNat v961) (0 : Int))) (0 : Int))))) = false) → (0 ≤ (List.getD (List.getD x0.2.2.1 (Int.toNat (List.getD x0.1.2.1 (Int.toNat r868.1.2.2) ((0 : Int), ((0 : Int), ((0 : Int), ((0 : Int), ((0 : Int), (⟨#[]⟩ : ByteArray))))))).1) ([] : (List Int))) (Int.toNat v961) (0 : Int)) ∧ (List.getD (List.getD x0.2.2.1 (Int.toNat (List.getD x0.1.2.1 (Int.toNat r868.1.2.2) ((0 : Int), ((0 : Int), ((0 : Int), ((0 : Int), ((0 : Int), (⟨#[]⟩ : ByteArray))))))).1) ([] : (List Int))) (Int.toNat v961) (0 : Int)) < (List.length v958 : Int))) then (if ((((bif (decide (((List.getD v958 (Int.toNat (List.getD (List.getD x0.2.2.1 (Int.toNat (List.getD x0.1.2.1 (Int.toNat r868.1.2.2) ((0 : Int), ((0 : Int), ((0 : Int), ((0 : Int), ((0 : Int), (⟨#[]⟩ : ByteArray))))))).1) ([] : (List Int))) (Int.toNat v961) (0 : Int))) (0 : Int)) : Int) < (0 : Int))) then true else (decide (((IntKind.i64.wrap ((IntKind.i64.wrap (r868.1.1 + r983)) + (List.getD x0.1.2.1 (Int.toNat (List.getD (List.getD x0.2.2.1 (Int.toNat (List.getD x0.1.2.1 (Int.toNat r868.1.2.2) ((0 : Int), ((0 : Int), ((0 : Int), ((0 : Int), ((0 : Int), (⟨#[]⟩ : ByteArray))))))).1) ([] : (List Int))) (Int.toNat v961) (0 : Int))) ((0 : Int), ((0 : Int), ((0 : Int), ((0 : Int), ((0 : Int), (⟨#[]⟩ : ByteArray))))))).2.2.2.1)) : Int) < (List.getD v958 (Int.toNat (List.getD (List.getD x0.2.2.1 (Int.toNat (List.getD x0.1.2.1 (Int.toNat r868.1.2.2) ((0 : Int), ((0 : Int), ((0 : Int), ((0 : Int), ((0 : Int), (⟨#[]⟩ : ByteArray))))))).1) ([] : (List Int))) (Int.toNat v961) (0 : Int))) (0 : Int))))) = false) ∧ ((((IntKind.i64.wrap ((IntKind.i64.wrap (r868.1.1 + r983)) + (List.getD x0.1.2.1 (Int.toNat (List.getD (List.getD x0.2.2.1 (Int.toNat (List.getD x0.1.2.1 (Int.toNat r868.1.2.2) ((0 : Int), ((0 : Int), ((0 : Int), ((0 : Int), ((0 : Int), (⟨#[]⟩ : ByteArray))))))).1) ([] : (List Int))) (Int.toNat v961) (0 : Int))) ((0 : Int), ((0 : Int), ((0 : Int), ((0 : Int), ((0 : Int), (⟨#[]⟩ : ByteArray))))))).2.2.2.1)) : Int) == (List.getD v958 (Int.toNat (List.getD (List.getD x0.2.2.1 (Int.toNat (List.getD x0.1.2.1 (Int.toNat r868.1.2.2) ((0 : Int), ((0 : Int), ((0 : Int), ((0 : Int), ((0 : Int), (⟨#[]⟩ : ByteArray))))))).1) ([] : (List Int))) (Int.toNat v961) (0 : Int))) (0 : Int))) = true)) → (0 ≤ (List.getD (List.getD x0.2.2.1 (Int.toNat (List.getD x0.1.2.1 (Int.toNat r868.1.2.2) ((0 : Int), ((0 : Int), ((0 : Int), ((0 : Int), ((0 : Int), (⟨#[]⟩ : ByteArray))))))).1) ([] : (List Int))) (Int.toNat v961) (0 : Int)) ∧ (List.getD (List.getD x0.2.2.1 (Int.toNat (List.getD x0.1.2.1 (Int.toNat r868.1.2.2) ((0 : Int), ((0 : Int), ((0 : Int), ((0 : Int), ((0 : Int), (⟨#[]⟩ : ByteArray))))))).1) ([] : (List Int))) (Int.toNat v961) (0 : Int)) < (List.length v959 : Int))) then ((some ((bif (bif (decide (((List.getD v958 (Int.toNat (List.getD (List.getD x0.2.2.1 (Int.toNat (List.getD x0.1.2.1 (Int.toNat r868.1.2.2) ((0 : Int), ((0 : Int), ((0 : Int), ((0 : Int), ((0 : Int), (⟨#[]⟩ : ByteArray))))))).1) ([] : (List Int))) (Int.toNat v961) (0 : Int))) (0 : Int)) : Int) < (0 : Int))) then true else (decide (((IntKind.i64.wrap ((IntKind.i64.wrap (r868.1.1 + r983)) + (List.getD x0.1.2.1 (Int.toNat (List.getD (List.getD x0.2.2.1 (Int.toNat (List.getD x0.1.2.1 (Int.toNat r868.1.2.2) ((0 : Int), ((0 : Int), ((0 : Int), ((0 : Int), ((0 : Int), (⟨#[]⟩ : ByteArray))))))).1) ([] : (List Int))) (Int.toNat v961) (0 : Int))) ((0 : Int), ((0 : Int), ((0 : Int), ((0 : Int), ((0 : Int), (⟨#[]⟩ : ByteArray))))))).2.2.2.1)) : Int) < (List.getD v958 (Int.toNat (List.getD (List.getD x0.2.2.1 (Int.toNat (List.getD x0.1.2.1 (Int.toNat r868.1.2.2) ((0 : Int), ((0 : Int), ((0 : Int), ((0 : Int), ((0 : Int), (⟨#[]⟩ : ByteArray))))))).1) ([] : (List Int))) (Int.toNat v961) (0 : Int))) (0 : Int))))) then true else (bif (((IntKind.i64.wrap ((IntKind.i64.wrap (r868.1.1 + r983)) + (List.getD x0.1.2.1 (Int.toNat (List.getD (List.getD x0.2.2.1 (Int.toNat (List.getD x0.1.2.1 (Int.toNat r868.1.2.2) ((0 : Int), ((0 : Int), ((0 : Int), ((0 : Int), ((0 : Int), (⟨#[]⟩ : ByteArray))))))).1) ([] : (List Int))) (Int.toNat v961) (0 : Int))) ((0 : Int), ((0 : Int), ((0 : Int), ((0 : Int), ((0 : Int), (⟨#[]⟩ : ByteArray))))))).2.2.2.1)) : Int) == (List.getD v958 (Int.toNat (List.getD (List.getD x0.2.2.1 (Int.toNat (List.getD x0.1.2.1 (Int.toNat r868.1.2.2) ((0 : Int), ((0 : Int), ((0 : Int), ((0 : Int), ((0 : Int), (⟨#[]⟩ : ByteArray))))))).1) ([] : (List Int))) (Int.toNat v961) (0 : Int))) (0 : Int))) then (decide (((IntKind.i64.wrap (r868.1.2.1 + (1 : Int))) : Int) < (List.getD v959 (Int.toNat (List.getD (List.getD x0.2.2.1 (Int.toNat (List.getD x0.1.2.1 (Int.toNat r868.1.2.2) ((0 : Int), ((0 : Int), ((0 : Int), ((0 : Int), ((0 : Int), (⟨#[]⟩ : ByteArray))))))).1) ([] : (List Int))) (Int.toNat v961) (0 : Int))) (0 : Int)))) else false)) : Bool)).bind fun v984 => (if v984 then (if (0 ≤ (List.getD (List.getD x0.2.2.1 (Int.toNat (List.getD x0.1.2.1 (Int.toNat r868.1.2.2) ((0 : Int), ((0 : Int), ((0 : Int), ((0 : Int), ((0 : Int), (⟨#[]⟩ : ByteArray))))))).1) ([] : (List Int))) (Int.toNat v961) (0 : Int)) ∧ (List.getD (List.getD x0.2.2.1 (Int.toNat (List.getD x0.1.2.1 (Int.toNat r868.1.2.2) ((0 : Int), ((0 : Int), ((0 : Int), ((0 : Int), ((0 : Int), (⟨#[]⟩ : ByteArray))))))).1) ([] : (List Int))) (Int.toNat v961) (0 : Int)) < (List.length v958 : Int)) then (if (0 ≤ (List.getD (List.getD x0.2.2.1 (Int.toNat (List.getD x0.1.2.1 (Int.toNat r868.1.2.2) ((0 : Int), ((0 : Int), ((0 : Int), ((0 : Int), ((0 : Int), (⟨#[]⟩ : ByteArray))))))).1) ([] : (List Int))) (Int.toNat v961) (0 : Int)) ∧ (List.getD (List.getD x0.2.2.1 (Int.toNat (List.getD x0.1.2.1 (Int.toNat r868.1.2.2) ((0 : Int), ((0 : Int), ((0 : Int), ((0 : Int), ((0 : Int), (⟨#[]⟩ : ByteArray))))))).1) ([] : (List Int))) (Int.toNat v961) (0 : Int)) < (List.length v959 : Int)) then ((some ((List.set v958 (Int.toNat (List.getD (List.getD x0.2.2.1 (Int.toNat (List.getD x0.1.2.1 (Int.toNat r868.1.2.2) ((0 : Int), ((0 : Int), ((0 : Int), ((0 : Int), ((0 : Int), (⟨#[]⟩ : ByteArray))))))).1) ([] : (List Int))) (Int.toNat v961) (0 : Int))) (IntKind.i64.wrap ((IntKind.i64.wrap (r868.1.1 + r983)) + (List.getD x0.1.2.1 (Int.toNat (List.getD (List.getD x0.2.2.1 (Int.toNat (List.getD x0.1.2.1 (Int.toNat r868.1.2.2) ((0 : Int), ((0 : Int), ((0 : Int), ((0 : Int), ((0 : Int), (⟨#[]⟩ : ByteArray))))))).1) ([] : (List Int))) (Int.toNat v961) (0 : Int))) ((0 : Int), ((0 : Int), ((0 : Int), ((0 : Int), ((0 : Int), (⟨#[]⟩ : ByteArray))))))).2.2.2.1))) : (List Int))).bind fun v985 => ((f224 k v960 ((IntKind.i64.wrap ((IntKind.i64.wrap (r868.1.1 + r983)) + (List.getD x0.1.2.1 (Int.toNat (List.getD (List.getD x0.2.2.1 (Int.toNat (List.getD x0.1.2.1 (Int.toNat r868.1.2.2) ((0 : Int), ((0 : Int), ((0 : Int), ((0 : Int), ((0 : Int), (⟨#[]⟩ : ByteArray))))))).1) ([] : (List Int))) (Int.toNat v961) (0 : Int))) ((0 : Int), ((0 : Int), ((0 : Int), ((0 : Int), ((0 : Int), (⟨#[]⟩ : ByteArray))))))).2.2.2.1)), ((IntKind.i64.wrap (r868.1.2.1 + (1 : Int))), (List.getD (List.getD x0.2.2.1 (Int.toNat (List.getD x0.1.2.1 (Int.toNat r868.1.2.2) ((0 : Int), ((0 : Int), ((0 : Int), ((0 : Int), ((0 : Int), (⟨#[]⟩ : ByteArray))))))).1) ([] : (List Int))) (Int.toNat v961) (0 : Int))))).bind fun r986 => (f185.j982 k v961 ((f185.l869 k x0 r868 v866 q577) m869) (v985, (List.set v959 (Int.toNat (List.getD (List.getD x0.2.2.1 (Int.toNat (List.getD x0.1.2.1 (Int.toNat r868.1.2.2) ((0 : Int), ((0 : Int), ((0 : Int), ((0 : Int), ((0 : Int), (⟨#[]⟩ : ByteArray))))))).1) ([] : (List Int))) (Int.toNat v961) (0 : Int))) (IntKind.i64.wrap (r868.1.2.1 + (1 : Int)))), r986)))) else none) else none) else (f185.j982 k v961 ((f185.l869 k x0 r868 v866 q577) m869) (v958, v959, v960)))) else none) else none) else none) else none) else none)))) else none) else none) else (q577 (v958, v959, (List.set v866 (Int.toNat r868.1.2.2) true), v960))
def f185.l577 (k : Nat) (x0 : (((List (Int × (Int × Int))) × ((List (Int × (Int × (Int × (Int × (Int × ByteArray)))))) × (List (Int × Int)))) × ((List (List Int)) × ((List (List Int)) × (Option (List ((Int × Int) × Bool))))))) : Nat → ((List Int) × (List Int) × (List Bool) × ((List (Int × (Int × Int))) × Unit)) → Option ((List Int) × (List Int))
  | 0, _ => none
  | m577 + 1, (v864, v865, v866, v867) => if (decide (((List.length v867.1 : Int) : Int) > (0 : Int))) then ((f225 k v867).bind fun r868 => (if (0 ≤ r868.1.2.2 ∧ r868.1.2.2 < (List.length v866 : Int)) then (if (List.getD v866 (Int.toNat r868.1.2.2) false) then ((f185.l577 k x0) m577 (v864, v865, v866, r868.2)) else (if (0 ≤ r868.1.2.2 ∧ r868.1.2.2 < (List.length v866 : Int)) then (if (0 ≤ r868.1.2.2 ∧ r868.1.2.2 < (List.length x0.1.2.1 : Int)) then (if (0 ≤ (List.getD x0.1.2.1 (Int.toNat r868.1.2.2) ((0 : Int), ((0 : Int), ((0 : Int), ((0 : Int), ((0 : Int), (⟨#[]⟩ : ByteArray))))))).1 ∧ (List.getD x0.1.2.1 (Int.toNat r868.1.2.2) ((0 : Int), ((0 : Int), ((0 : Int), ((0 : Int), ((0 : Int), (⟨#[]⟩ : ByteArray))))))).1 < (List.length x0.2.2.1 : Int)) then (f185.l869 k x0 r868 v866 ((f185.l577 k x0) m577) k (v864, v865, r868.2, (0 : Int))) else none) else none) else none)) else none)) else (some (v864, v865))
def f185.l90 (k : Nat) (x0 : (((List (Int × (Int × Int))) × ((List (Int × (Int × (Int × (Int × (Int × ByteArray)))))) × (List (Int × Int)))) × ((List (List Int)) × ((List (List Int)) × (Option (List ((Int × Int) × Bool))))))) (x1 : Int) : Nat → ((List Int) × (List Int) × ((List (Int × (Int × Int))) × Unit) × Int) → Option ((List Int) × (List Int))
  | 0, _ => none
  | m90 + 1, (v131, v132, v133, v134) => if (decide ((v134 : Int) < (List.length x0.1.2.1 : Int))) then (if (0 ≤ v134 ∧ v134 < (List.length x0.1.2.1 : Int)) then (if (((List.getD x0.1.2.1 (Int.toNat v134) ((0 : Int), ((0 : Int), ((0 : Int), ((0 : Int), ((0 : Int), (⟨#[]⟩ : ByteArray))))))).2.1 : Int) == x1) then (if (0 ≤ v134 ∧ v134 < (List.length v131 : Int)) then (if (0 ≤ v134 ∧ v134 < (List.length v132 : Int)) then ((f224 k v133 ((List.getD x0.1.2.1 (Int.toNat v134) ((0 : Int), ((0 : Int), ((0 : Int), ((0 : Int), ((0 : Int), (⟨#[]⟩ : ByteArray))))))).2.2.2.1, ((1 : Int), v134))).bind fun r144 => (f185.j143 k v134 ((f185.l90 k x0 x1) m90) ((List.set v131 (Int.toNat v134) (List.getD x0.1.2.1 (Int.toNat v134) ((0 : Int), ((0 : Int), ((0 : Int), ((0 : Int), ((0 : Int), (⟨#[]⟩ : ByteArray))))))).2.2.2.1), (List.set v132 (Int.toNat v134) (1 : Int)), r144))) else none) else none) else (f185.j143 k v134 ((f185.l90 k x0 x1) m90) (v131, v132, v133))) else none) else (f185.l577 k x0 k (v131, v132, (List.replicate (Int.toNat (List.length x0.1.2.1 : Int)) false), v133))
def f185.l16 (k : Nat) (x0 : (((List (Int × (Int × Int))) × ((List (Int × (Int × (Int × (Int × (Int × ByteArray)))))) × (List (Int × Int)))) × ((List (List Int)) × ((List (List Int)) × (Option (List ((Int × Int) × Bool))))))) (x1 : Int) : Nat → ((List Int) × Int) → Option ((List Int) × (List Int))
  | 0, _ => none
  | m16 + 1, (v27, v28) => if (decide ((v28 : Int) < (List.length (List.replicate (Int.toNat (List.length x0.1.2.1 : Int)) (0 : Int)) : Int))) then (if (0 ≤ v28 ∧ v28 < (List.length v27 : Int)) then ((f185.l16 k x0 x1) m16 ((List.set v27 (Int.toNat v28) (-1 : Int)), (IntKind.i64.wrap (v28 + (1 : Int))))) else none) else (f185.l90 k x0 x1 k (v27, (List.replicate (Int.toNat (List.length x0.1.2.1 : Int)) (0 : Int)), (([] : (List (Int × (Int × Int)))), ()), (0 : Int)))
def f185 (k : Nat) (x0 : (((List (Int × (Int × Int))) × ((List (Int × (Int × (Int × (Int × (Int × ByteArray)))))) × (List (Int × Int)))) × ((List (List Int)) × ((List (List Int)) × (Option (List ((Int × Int) × Bool))))))) (x1 : Int) : Option ((List Int) × (List Int)) := if (0 ≤ (List.length x0.1.2.1 : Int) ∧ Int.toNat (List.length x0.1.2.1 : Int) * 8 ≤ 140737488355328) then (if (0 ≤ (List.length x0.1.2.1 : Int) ∧ Int.toNat (List.length x0.1.2.1 : Int) * 8 ≤ 140737488355328) then (if (0 ≤ (List.length x0.1.2.1 : Int) ∧ Int.toNat (List.length x0.1.2.1 : Int) * 1 ≤ 140737488355328) then (f185.l16 k x0 x1 k ((List.replicate (Int.toNat (List.length x0.1.2.1 : Int)) (0 : Int)), (0 : Int))) else none) else none) else none
set_option maxRecDepth 100000 in
/-- 'impl.myNet).back'. -/
theorem c185 (k : Nat) (x0 : (((List (Int × (Int × Int))) × ((List (Int × (Int × (Int × (Int × (Int × ByteArray)))))) × (List (Int × Int)))) × ((List (List Int)) × ((List (List Int)) × (Option (List ((Int × Int) × Bool))))))) (x1 : Int) (r : ((List Int) × (List Int))) (hF : f185 k x0 x1 = some r) : PCall Try.prog 185 [⟨sh27, some x0⟩, ⟨(.int .i64), x1⟩] [⟨(.sl true 2 (.int .i64)), r.1⟩, ⟨(.sl true 2 (.int .i64)), r.2⟩] := by
  refine pcall_intro Try.func185 rfl rfl (Nat.le_of_ble_eq_true rfl) ?_
  intro w0 Zi a w h
  rw [f185] at hF
  refine wp_reg_seq tok (orc := orcL []) (fz := []) (l := [0, 1]) (c := _) (.inr fun i h => h) h (by kernel_rfl) (AllP.nil) ?_
  intro a w h
  refine wp_reg_seq tok (orc := orcL []) (fz := []) (l := [0, 1, 6]) (c := _) (.inr fun i h => h) h (by kernel_rfl) (AllP.nil) ?_
  intro a w h
  obtain ⟨hc1005, hF⟩ := of_if hF
  obtain ⟨hc1006, hF⟩ := of_if hF
  obtain ⟨hc1007, hF⟩ := of_if hF
  refine wp_regy_seq tok (orc := orcL []) (fz := []) (l := [0, 1, 7, 8, 9]) (c := _) ([], [(6, [27]), (7, [29])], [], [(2, [6]), (3, [28]), (4, [6]), (5, [30])]) 8 (.inr fun i h => h) h (by kernel_rfl) (by kernel_rfl) (AllP.cons hc1005 (AllP.cons hc1006 (AllP.cons hc1007 AllP.nil))) ?_
  intro a w h
  refine wp_seq ?_
  refine wp_reg_seq tok (orc := orcL []) (fz := []) (l := [0, 1, 7, 8, 9, 33, 34]) (c := _) (.inr fun i h => h) h (by kernel_rfl) (AllP.nil) ?_
  intro a w h
  refine wp_block ?_
  refine wp_loop_fuel (f185.l16 k x0 x1) (fun ((v27, v28) : ((List Int) × Int)) => [(0, .val sh27 (some x0)), (1, .val (.int .i64) x1), (7, .val (.sl true 2 (.int .i64)) v27), (8, .val (.sl true 2 (.int .i64)) (List.replicate (Int.toNat (List.length x0.1.2.1 : Int)) (0 : Int))), (9, .val (.sl true 4 .bool) (List.replicate (Int.toNat (List.length x0.1.2.1 : Int)) false)), (33, .val (.int .i64) (List.length (List.replicate (Int.toNat (List.length x0.1.2.1 : Int)) (0 : Int)) : Int)), (34, .val (.int .i64) v28)]) (fun v h => by obtain ⟨v27, v28⟩ := v; rw [f185.l16] at h; cases h) ?_ hF (h.arrive (fz := []) (l := [0, 1, 7, 8, 9, 33, 34]) (.inr fun i h => h) (by kernel_rfl))
  intro m16 v a w hF h
  obtain ⟨v27, v28⟩ := v
  rw [f185.l16] at hF
  refine wp_reg_seq tok (orc := orcL []) (fz := []) (l := [0, 1, 7, 8, 9, 33, 34, 35]) (c := _) (.inr fun i h => h) h (by kernel_rfl) (AllP.nil) ?_
  intro a w h
  refine wp_seq <| wp_if h (b := (decide ((v28 : Int) < (List.length (List.replicate (Int.toNat (List.length x0.1.2.1 : Int)) (0 : Int)) : Int)))) (by kernel_rfl) (fun hb => ?_) (fun hb => ?_)
  · replace hF := of_t hb hF
    refine wp_skip ?_
    refine wp_seq <| wp_block ?_
    refine wp_reg_seq tok (orc := orcL []) (fz := []) (l := [0, 1, 7, 8, 9, 10, 33, 34]) (c := _) (.inr fun i h => h) h (by kernel_rfl) (AllP.nil) ?_
    intro a w h
    obtain ⟨hc30, hF⟩ := of_if hF
    refine wp_reg tok (orc := orcL []) (fz := []) (l := [0, 1, 7, 8, 9, 33, 34]) (c := _) (.inr fun i h => h) h (by kernel_rfl) (AllP.cons hc30 AllP.nil) ?_
    intro a w h
    refine wp_reg tok (orc := orcL []) (fz := []) (l := [0, 1, 7, 8, 9, 33, 34]) (c := _) (.inr fun i h => h) h (by kernel_rfl) (AllP.nil) ?_
    intro a w h
    exact ⟨((List.set v27 (Int.toNat v28) (-1 : Int)), (IntKind.i64.wrap (v28 + (1 : Int)))), hF, h.arrive (fz := []) (l := [0, 1, 7, 8, 9, 33, 34]) (.inr fun i h => h) (by kernel_rfl)⟩
  · replace hF := of_f hb hF
    refine wp_exit ?_
    refine wp_reg_seq tok (orc := orcL []) (fz := []) (l := [0, 1, 7, 8, 9, 11]) (c := _) (.inr fun i h => h) h (by kernel_rfl) (AllP.nil) ?_
    intro a w h
    refine wp_seq ?_
    refine wp_reg_seq tok (orc := orcL []) (fz := []) (l := [0, 1, 7, 8, 9, 11, 47, 48, 49]) (c := _) (.inr fun i h => h) h (by kernel_rfl) (AllP.nil) ?_
    intro a w h
    refine wp_block ?_
    refine wp_loop_fuel (f185.l90 k x0 x1) (fun ((v131, v132, v133, v134) : ((List Int) × (List Int) × ((List (Int × (Int × Int))) × Unit) × Int)) => [(0, .val sh27 (some x0)), (1, .val (.int .i64) x1), (7, .val (.sl true 2 (.int .i64)) v131), (8, .val (.sl true 2 (.int .i64)) v132), (9, .val (.sl true 4 .bool) (List.replicate (Int.toNat (List.length x0.1.2.1 : Int)) false)), (11, .val sh29 (some v133)), (47, .val sh24 x0.1.2.1), (48, .val (.int .i64) (List.length x0.1.2.1 : Int)), (49, .val (.int .i64) v134)]) (fun v h => by obtain ⟨v131, v132, v133, v134⟩ := v; rw [f185.l90] at h; cases h) ?_ hF (h.arrive (fz := []) (l := [0, 1, 7, 8, 9, 11, 47, 48, 49]) (.inr fun i h => h) (by kernel_rfl))
    intro m90 v a w hF h
    obtain ⟨v131, v132, v133, v134⟩ := v
    rw [f185.l90] at hF
    refine wp_reg_seq tok (orc := orcL []) (fz := []) (l := [0, 1, 7, 8, 9, 11, 47, 48, 49, 50]) (c := _) (.inr fun i h => h) h (by kernel_rfl) (AllP.nil) ?_
    intro a w h
    refine wp_seq <| wp_if h (b := (decide ((v134 : Int) < (List.length x0.1.2.1 : Int)))) (by kernel_rfl) (fun hb => ?_) (fun hb => ?_)
    · replace hF := of_t hb hF
      refine wp_skip ?_
      refine wp_mid (fun a w => ∃ v : ((List Int) × (List Int) × ((List (Int × (Int × Int))) × Unit)), f185.j143 k v134 ((f185.l90 k x0 x1) m90) v = some r ∧ Rel w0 (fun _ => False) Zi Try.f185.ntmps ((fun ((v140, v141, v142) : ((List Int) × (List Int) × ((List (Int × (Int × Int))) × Unit))) => ([(0, .val sh27 (some x0)), (1, .val (.int .i64) x1), (7, .val (.sl true 2 (.int .i64)) v140), (8, .val (.sl true 2 (.int .i64)) v141), (9, .val (.sl true 4 .bool) (List.replicate (Int.toNat (List.length x0.1.2.1 : Int)) false)), (11, .val sh29 (some v142)), (47, .val sh24 x0.1.2.1), (48, .val (.int .i64) (List.length x0.1.2.1 : Int)), (49, .val (.int .i64) v134)] : SS)) v) a w) ?_ ?_
      ·
        refine wp_block ?_
        obtain ⟨hc148, hF⟩ := of_if hF
        refine wp_reg_seq tok (orc := orcL []) (fz := []) (l := [0, 1, 7, 8, 9, 11, 12, 13, 47, 48, 49]) (c := _) (.inr fun i h => h) h (by kernel_rfl) (AllP.cons hc148 AllP.nil) ?_
        intro a w h
        refine wp_reg_seq tok (orc := orcL []) (fz := []) (l := [0, 1, 7, 8, 9, 11, 12, 13, 47, 48, 49, 57]) (c := _) (.inr fun i h => h) h (by kernel_rfl) (AllP.nil) ?_
        intro a w h
        refine wp_if h (b := (((List.getD x0.1.2.1 (Int.toNat v134) ((0 : Int), ((0 : Int), ((0 : Int), ((0 : Int), ((0 : Int), (⟨#[]⟩ : ByteArray))))))).2.1 : Int) == x1)) (by kernel_rfl) (fun hb => ?_) (fun hb => ?_)
        · replace hF := of_t hb hF
          obtain ⟨hc146, hF⟩ := of_if hF
          obtain ⟨hc147, hF⟩ := of_if hF
          refine wp_reg_seq tok (orc := orcL []) (fz := []) (l := [0, 1, 7, 8, 9, 11, 12, 13, 47, 48, 49]) (c := _) (.inr fun i h => h) h (by kernel_rfl) (AllP.cons hc146 (AllP.cons hc147 AllP.nil)) ?_
          intro a w h
          obtain ⟨r144, hr145, hF⟩ := of_bind hF
          refine wp_reg tok (orc := orcL [(71, [⟨.pt false 4294967295 (.pt true 294 (.st (.pair (.sl true 297 (.st (.pair (.int .i64) (.pair (.int .i64) (.int .i64))))) .unit))), some (some r144)⟩])]) (fz := []) (l := [0, 1, 7, 8, 9, 11, 47, 48, 49]) (c := _) (.inr fun i h => h) h (by kernel_rfl) (AllP.cons (c224 k v133 ((List.getD x0.1.2.1 (Int.toNat v134) ((0 : Int), ((0 : Int), ((0 : Int), ((0 : Int), ((0 : Int), (⟨#[]⟩ : ByteArray))))))).2.2.2.1, ((1 : Int), v134)) r144 hr145) AllP.nil) ?_
          intro a w h
          exact ⟨((List.set v131 (Int.toNat v134) (List.getD x0.1.2.1 (Int.toNat v134) ((0 : Int), ((0 : Int), ((0 : Int), ((0 : Int), ((0 : Int), (⟨#[]⟩ : ByteArray))))))).2.2.2.1), (List.set v132 (Int.toNat v134) (1 : Int)), r144), hF, h.arrive (fz := []) (l := [0, 1, 7, 8, 9, 11, 47, 48, 49]) (.inr fun i h => h) (by kernel_rfl)⟩
        · replace hF := of_f hb hF
          refine wp_skip ?_
          exact ⟨(v131, v132, v133), hF, h.arrive (fz := []) (l := [0, 1, 7, 8, 9, 11, 47, 48, 49]) (.inr fun i h => h) (by kernel_rfl)⟩
      · rintro a w ⟨v, hF, h⟩
        obtain ⟨v140, v141, v142⟩ := v
        rw [f185.j143] at hF
        refine wp_reg tok (orc := orcL []) (fz := []) (l := [0, 1, 7, 8, 9, 11, 47, 48, 49]) (c := _) (.inr fun i h => h) h (by kernel_rfl) (AllP.nil) ?_
        intro a w h
        exact ⟨(v140, v141, v142, (IntKind.i64.wrap (v134 + (1 : Int)))), hF, h.arrive (fz := []) (l := [0, 1, 7, 8, 9, 11, 47, 48, 49]) (.inr fun i h => h) (by kernel_rfl)⟩
    · replace hF := of_f hb hF
      refine wp_exit ?_
      refine wp_seq <| wp_block ?_
      refine wp_loop_fuel (f185.l577 k x0) (fun ((v864, v865, v866, v867) : ((List Int) × (List Int) × (List Bool) × ((List (Int × (Int × Int))) × Unit))) => [(0, .val sh27 (some x0)), (7, .val (.sl true 2 (.int .i64)) v864), (8, .val (.sl true 2 (.int .i64)) v865), (9, .val (.sl true 4 .bool) v866), (11, .val sh29 (some v867))]) (fun v h => by obtain ⟨v864, v865, v866, v867⟩ := v; rw [f185.l577] at h; cases h) ?_ hF (h.arrive (fz := []) (l := [0, 7, 8, 9, 11]) (.inr fun i h => h) (by kernel_rfl))
      intro m577 v a w hF h
      obtain ⟨v864, v865, v866, v867⟩ := v
      rw [f185.l577] at hF
      refine wp_seq ?_
      refine wp_reg_seq tok (orc := orcL []) (fz := []) (l := [0, 7, 8, 9, 11, 78]) (c := _) (.inr fun i h => h) h (by kernel_rfl) (AllP.nil) ?_
      intro a w h
      refine wp_if h (b := (decide (((List.length v867.1 : Int) : Int) > (0 : Int)))) (by kernel_rfl) (fun hb => ?_) (fun hb => ?_)
      · replace hF := of_t hb hF
        refine wp_skip ?_
        refine wp_block ?_
        obtain ⟨r868, hr1004, hF⟩ := of_bind hF
        refine wp_reg_seq tok (orc := orcL [(80, [⟨.pt false 4294967295 (.pt true 294 (.st (.pair (.sl true 297 (.st (.pair (.int .i64) (.pair (.int .i64) (.int .i64))))) .unit))), some (some r868.2)⟩, ⟨sh28, r868.1⟩])]) (fz := []) (l := [0, 7, 8, 9, 11, 14]) (c := _) (.inr fun i h => h) h (by kernel_rfl) (AllP.cons (c225 k v867 r868 hr1004) AllP.nil) ?_
        intro a w h
        refine wp_seq ?_
        obtain ⟨hc1003, hF⟩ := of_if hF
        refine wp_reg_seq tok (orc := orcL []) (fz := []) (l := [0, 7, 8, 9, 11, 14, 85]) (c := _) (.inr fun i h => h) h (by kernel_rfl) (AllP.cons hc1003 AllP.nil) ?_
        intro a w h
        refine wp_if h (b := (List.getD v866 (Int.toNat r868.1.2.2) false)) (by kernel_rfl) (fun hb => ?_) (fun hb => ?_)
        · replace hF := of_t hb hF
          refine wp_exit ?_
          exact ⟨(v864, v865, v866, r868.2), hF, h.arrive (fz := []) (l := [0, 7, 8, 9, 11]) (.inr fun i h => h) (by kernel_rfl)⟩
        · replace hF := of_f hb hF
          refine wp_skip ?_
          obtain ⟨hc1002, hF⟩ := of_if hF
          refine wp_reg_seq tok (orc := orcL []) (fz := []) (l := [0, 7, 8, 9, 11, 14]) (c := _) (.inr fun i h => h) h (by kernel_rfl) (AllP.cons hc1002 AllP.nil) ?_
          intro a w h
          obtain ⟨hc1000, hF⟩ := of_if hF
          obtain ⟨hc1001, hF⟩ := of_if hF
          refine wp_regy_seq tok (orc := orcL []) (fz := []) (l := [0, 7, 8, 9, 11, 14, 105, 106, 107]) (c := _) ([], [], [], []) 18 (.inr fun i h => h) h (by kernel_rfl) (by kernel_rfl) (AllP.cons hc1000 (AllP.cons hc1001 AllP.nil)) ?_
          intro a w h
          refine wp_block ?_
          refine wp_loop_fuel (f185.l869 k x0 r868 v866 ((f185.l577 k x0) m577)) (fun ((v958, v959, v960, v961) : ((List Int) × (List Int) × ((List (Int × (Int × Int))) × Unit) × Int)) => [(0, .val sh27 (some x0)), (7, .val (.sl true 2 (.int .i64)) v958), (8, .val (.sl true 2 (.int .i64)) v959), (9, .val (.sl true 4 .bool) (List.set v866 (Int.toNat r868.1.2.2) true)), (11, .val sh29 (some v960)), (14, .val sh30 (some r868.1)), (105, .val (.sl false 2 (.int .i64)) (List.getD x0.2.2.1 (Int.toNat (List.getD x0.1.2.1 (Int.toNat r868.1.2.2) ((0 : Int), ((0 : Int), ((0 : Int), ((0 : Int), ((0 : Int), (⟨#[]⟩ : ByteArray))))))).1) ([] : (List Int)))), (106, .val (.int .i64) (List.length (List.getD x0.2.2.1 (Int.toNat (List.getD x0.1.2.1 (Int.toNat r868.1.2.2) ((0 : Int), ((0 : Int), ((0 : Int), ((0 : Int), ((0 : Int), (⟨#[]⟩ : ByteArray))))))).1) ([] : (List Int))) : Int)), (107, .val (.int .i64) v961)]) (fun v h => by obtain ⟨v958, v959, v960, v961⟩ := v; rw [f185.l869] at h; cases h) ?_ hF (h.arrive (fz := []) (l := [0, 7, 8, 9, 11, 14, 105, 106, 107]) (.inr fun i h => h) (by kernel_rfl))
          intro m869 v a w hF h
          obtain ⟨v958, v959, v960, v961⟩ := v
          rw [f185.l869] at hF
          refine wp_reg_seq tok (orc := orcL []) (fz := []) (l := [0, 7, 8, 9, 11, 14, 105, 106, 107, 108]) (c := _) (.inr fun i h => h) h (by kernel_rfl) (AllP.nil) ?_
          intro a w h
          refine wp_seq <| wp_if h (b := (decide ((v961 : Int) < (List.length (List.getD x0.2.2.1 (Int.toNat (List.getD x0.1.2.1 (Int.toNat r868.1.2.2) ((0 : Int), ((0 : Int), ((0 : Int), ((0 : Int), ((0 : Int), (⟨#[]⟩ : ByteArray))))))).1) ([] : (List Int))) : Int)))) (by kernel_rfl) (fun hb => ?_) (fun hb => ?_)
          · replace hF := of_t hb hF
            refine wp_skip ?_
            refine wp_mid (fun a w => ∃ v : ((List Int) × (List Int) × ((List (Int × (Int × Int))) × Unit)), f185.j982 k v961 ((f185.l869 k x0 r868 v866 ((f185.l577 k x0) m577)) m869) v = some r ∧ Rel w0 (fun _ => False) Zi Try.f185.ntmps ((fun ((v979, v980, v981) : ((List Int) × (List Int) × ((List (Int × (Int × Int))) × Unit))) => ([(0, .val sh27 (some x0)), (7, .val (.sl true 2 (.int .i64)) v979), (8, .val (.sl true 2 (.int .i64)) v980), (9, .val (.sl true 4 .bool) (List.set v866 (Int.toNat r868.1.2.2) true)), (11, .val sh29 (some v981)), (14, .val sh30 (some r868.1)), (105, .val (.sl false 2 (.int .i64)) (List.getD x0.2.2.1 (Int.toNat (List.getD x0.1.2.1 (Int.toNat r868.1.2.2) ((0 : Int), ((0 : Int), ((0 : Int), ((0 : Int), ((0 : Int), (⟨#[]⟩ : ByteArray))))))).1) ([] : (List Int)))), (106, .val (.int .i64) (List.length (List.getD x0.2.2.1 (Int.toNat (List.getD x0.1.2.1 (Int.toNat r868.1.2.2) ((0 : Int), ((0 : Int), ((0 : Int), ((0 : Int), ((0 : Int), (⟨#[]⟩ : ByteArray))))))).1) ([] : (List Int))) : Int)), (107, .val (.int .i64) v961)] : SS)) v) a w) ?_ ?_
            ·
              refine wp_block ?_
              obtain ⟨hc999, hF⟩ := of_if hF
              refine wp_reg_seq tok (orc := orcL []) (fz := []) (l := [0, 7, 8, 9, 11, 14, 16, 105, 106, 107]) (c := _) (.inr fun i h => h) h (by kernel_rfl) (AllP.cons hc999 AllP.nil) ?_
              intro a w h
              refine wp_seq ?_
              obtain ⟨hc998, hF⟩ := of_if hF
              refine wp_reg_seq tok (orc := orcL []) (fz := []) (l := [0, 7, 8, 9, 11, 14, 16, 105, 106, 107, 114]) (c := _) (.inr fun i h => h) h (by kernel_rfl) (AllP.cons hc998 AllP.nil) ?_
              intro a w h
              refine wp_if h (b := (List.getD (List.set v866 (Int.toNat r868.1.2.2) true) (Int.toNat (List.getD (List.getD x0.2.2.1 (Int.toNat (List.getD x0.1.2.1 (Int.toNat r868.1.2.2) ((0 : Int), ((0 : Int), ((0 : Int), ((0 : Int), ((0 : Int), (⟨#[]⟩ : ByteArray))))))).1) ([] : (List Int))) (Int.toNat v961) (0 : Int))) false)) (by kernel_rfl) (fun hb => ?_) (fun hb => ?_)
              · replace hF := of_t hb hF
                refine wp_exit ?_
                exact ⟨(v958, v959, v960), hF, h.arrive (fz := []) (l := [0, 7, 8, 9, 11, 14, 105, 106, 107]) (.inr fun i h => h) (by kernel_rfl)⟩
              · replace hF := of_f hb hF
                refine wp_skip ?_
                obtain ⟨r983, hr997, hF⟩ := of_bind hF
                refine wp_reg_seq tok (orc := orcL [(119, [⟨(.int .i64), r983⟩])]) (fz := []) (l := [0, 7, 8, 9, 11, 14, 16, 17, 105, 106, 107]) (c := _) (.inr fun i h => h) h (by kernel_rfl) (AllP.cons (c170 k x0 (List.getD (List.getD x0.2.2.1 (Int.toNat (List.getD x0.1.2.1 (Int.toNat r868.1.2.2) ((0 : Int), ((0 : Int), ((0 : Int), ((0 : Int), ((0 : Int), (⟨#[]⟩ : ByteArray))))))).1) ([] : (List Int))) (Int.toNat v961) (0 : Int)) r868.1.2.2 r983 hr997) AllP.nil) ?_
                intro a w h
                refine wp_seq ?_
                refine wp_reg_seq tok (orc := orcL []) (fz := []) (l := [0, 7, 8, 9, 11, 14, 16, 17, 105, 106, 107, 121]) (c := _) (.inr fun i h => h) h (by kernel_rfl) (AllP.nil) ?_
                intro a w h
                refine wp_if h (b := (decide ((r983 : Int) < (0 : Int)))) (by kernel_rfl) (fun hb => ?_) (fun hb => ?_)
                · replace hF := of_t hb hF
                  refine wp_exit ?_
                  exact ⟨(v958, v959, v960), hF, h.arrive (fz := []) (l := [0, 7, 8, 9, 11, 14, 105, 106, 107]) (.inr fun i h => h) (by kernel_rfl)⟩
                · replace hF := of_f hb hF
                  refine wp_skip ?_
                  obtain ⟨hc996, hF⟩ := of_if hF
                  refine wp_regy_seq tok (orc := orcL []) (fz := []) (l := [0, 7, 8, 9, 11, 14, 16, 18, 19, 105, 106, 107]) (c := _) ([], [], [], []) 19 (.inr fun i h => h) h (by kernel_rfl) (by kernel_rfl) (AllP.cons hc996 AllP.nil) ?_
                  intro a w h
                  obtain ⟨hc992, hF⟩ := of_if hF
                  obtain ⟨hc993, hF⟩ := of_if hF
                  obtain ⟨hc994, hF⟩ := of_if hF
                  obtain ⟨hc995, hF⟩ := of_if hF
                  refine wp_reg_seq tok (orc := orcL []) (fz := []) (l := [0, 7, 8, 9, 11, 14, 16, 18, 19, 105, 106, 107, 167]) (c := _) (.inr fun i h => h) h (by kernel_rfl) (AllP.cons hc992 (AllP.cons hc993 (AllP.cons hc994 (AllP.cons hc995 AllP.nil)))) ?_
                  intro a w h
                  obtain ⟨v984, hv991, hF⟩ := of_bind hF
                  replace h := h.cast (S' := [(0, .val sh27 (some x0)), (7, .val (.sl true 2 (.int .i64)) v958), (8, .val (.sl true 2 (.int .i64)) v959), (9, .val (.sl true 4 .bool) (List.set v866 (Int.toNat r868.1.2.2) true)), (11, .val sh29 (some v960)), (14, .val sh30 (some r868.1)), (16, .val (.int .i64) (List.getD (List.getD x0.2.2.1 (Int.toNat (List.getD x0.1.2.1 (Int.toNat r868.1.2.2) ((0 : Int), ((0 : Int), ((0 : Int), ((0 : Int), ((0 : Int), (⟨#[]⟩ : ByteArray))))))).1) ([] : (List Int))) (Int.toNat v961) (0 : Int))), (18, .val (.int .i64) (IntKind.i64.wrap ((IntKind.i64.wrap (r868.1.1 + r983)) + (List.getD x0.1.2.1 (Int.toNat (List.getD (List.getD x0.2.2.1 (Int.toNat (List.getD x0.1.2.1 (Int.toNat r868.1.2.2) ((0 : Int), ((0 : Int), ((0 : Int), ((0 : Int), ((0 : Int), (⟨#[]⟩ : ByteArray))))))).1) ([] : (List Int))) (Int.toNat v961) (0 : Int))) ((0 : Int), ((0 : Int), ((0 : Int), ((0 : Int), ((0 : Int), (⟨#[]⟩ : ByteArray))))))).2.2.2.1))), (19, .val (.int .i64) (IntKind.i64.wrap (r868.1.2.1 + (1 : Int)))), (105, .val (.sl false 2 (.int .i64)) (List.getD x0.2.2.1 (Int.toNat (List.getD x0.1.2.1 (Int.toNat r868.1.2.2) ((0 : Int), ((0 : Int), ((0 : Int), ((0 : Int), ((0 : Int), (⟨#[]⟩ : ByteArray))))))).1) ([] : (List Int)))), (106, .val (.int .i64) (List.length (List.getD x0.2.2.1 (Int.toNat (List.getD x0.1.2.1 (Int.toNat r868.1.2.2) ((0 : Int), ((0 : Int), ((0 : Int), ((0 : Int), ((0 : Int), (⟨#[]⟩ : ByteArray))))))).1) ([] : (List Int))) : Int)), (107, .val (.int .i64) v961), (167, .val .bool v984)]) (by cases hv991; kernel_rfl)
                  refine wp_if h (b := v984) (by kernel_rfl) (fun hb => ?_) (fun hb => ?_)
                  · replace hF := of_t hb hF
                    obtain ⟨hc989, hF⟩ := of_if hF
                    obtain ⟨hc990, hF⟩ := of_if hF
                    refine wp_reg_seq tok (orc := orcL []) (fz := []) (l := [0, 7, 8, 9, 11, 14, 16, 18, 19, 105, 106, 107]) (c := _) (.inr fun i h => h) h (by kernel_rfl) (AllP.cons hc989 (AllP.cons hc990 AllP.nil)) ?_
                    intro a w h
                    obtain ⟨v985, hv988, hF⟩ := of_bind hF
                    replace h := h.cast (S' := [(0, .val sh27 (some x0)), (7, .val (.sl true 2 (.int .i64)) v985), (8, .val (.sl true 2 (.int .i64)) (List.set v959 (Int.toNat (List.getD (List.getD x0.2.2.1 (Int.toNat (List.getD x0.1.2.1 (Int.toNat r868.1.2.2) ((0 : Int), ((0 : Int), ((0 : Int), ((0 : Int), ((0 : Int), (⟨#[]⟩ : ByteArray))))))).1) ([] : (List Int))) (Int.toNat v961) (0 : Int))) (IntKind.i64.wrap (r868.1.2.1 + (1 : Int))))), (9, .val (.sl true 4 .bool) (List.set v866 (Int.toNat r868.1.2.2) true)), (11, .val sh29 (some v960)), (14, .val sh30 (some r868.1)), (16, .val (.int .i64) (List.getD (List.getD x0.2.2.1 (Int.toNat (List.getD x0.1.2.1 (Int.toNat r868.1.2.2) ((0 : Int), ((0 : Int), ((0 : Int), ((0 : Int), ((0 : Int), (⟨#[]⟩ : ByteArray))))))).1) ([] : (List Int))) (Int.toNat v961) (0 : Int))), (18, .val (.int .i64) (IntKind.i64.wrap ((IntKind.i64.wrap (r868.1.1 + r983)) + (List.getD x0.1.2.1 (Int.toNat (List.getD (List.getD x0.2.2.1 (Int.toNat (List.getD x0.1.2.1 (Int.toNat r868.1.2.2) ((0 : Int), ((0 : Int), ((0 : Int), ((0 : Int), ((0 : Int), (⟨#[]⟩ : ByteArray))))))).1) ([] : (List Int))) (Int.toNat v961) (0 : Int))) ((0 : Int), ((0 : Int), ((0 : Int), ((0 : Int), ((0 : Int), (⟨#[]⟩ : ByteArray))))))).2.2.2.1))), (19, .val (.int .i64) (IntKind.i64.wrap (r868.1.2.1 + (1 : Int)))), (105, .val (.sl false 2 (.int .i64)) (List.getD x0.2.2.1 (Int.toNat (List.getD x0.1.2.1 (Int.toNat r868.1.2.2) ((0 : Int), ((0 : Int), ((0 : Int), ((0 : Int), ((0 : Int), (⟨#[]⟩ : ByteArray))))))).1) ([] : (List Int)))), (106, .val (.int .i64) (List.length (List.getD x0.2.2.1 (Int.toNat (List.getD x0.1.2.1 (Int.toNat r868.1.2.2) ((0 : Int), ((0 : Int), ((0 : Int), ((0 : Int), ((0 : Int), (⟨#[]⟩ : ByteArray))))))).1) ([] : (List Int))) : Int)), (107, .val (.int .i64) v961)]) (by cases hv988; kernel_rfl)
                    obtain ⟨r986, hr987, hF⟩ := of_bind hF
                    refine wp_reg tok (orc := orcL [(181, [⟨.pt false 4294967295 (.pt true 294 (.st (.pair (.sl true 297 (.st (.pair (.int .i64) (.pair (.int .i64) (.int .i64))))) .unit))), some (some r986)⟩])]) (fz := []) (l := [0, 7, 8, 9, 11, 14, 105, 106, 107]) (c := _) (.inr fun i h => h) h (by kernel_rfl) (AllP.cons (c224 k v960 ((IntKind.i64.wrap ((IntKind.i64.wrap (r868.1.1 + r983)) + (List.getD x0.1.2.1 (Int.toNat (List.getD (List.getD x0.2.2.1 (Int.toNat (List.getD x0.1.2.1 (Int.toNat r868.1.2.2) ((0 : Int), ((0 : Int), ((0 : Int), ((0 : Int), ((0 : Int), (⟨#[]⟩ : ByteArray))))))).1) ([] : (List Int))) (Int.toNat v961) (0 : Int))) ((0 : Int), ((0 : Int), ((0 : Int), ((0 : Int), ((0 : Int), (⟨#[]⟩ : ByteArray))))))).2.2.2.1)), ((IntKind.i64.wrap (r868.1.2.1 + (1 : Int))), (List.getD (List.getD x0.2.2.1 (Int.toNat (List.getD x0.1.2.1 (Int.toNat r868.1.2.2) ((0 : Int), ((0 : Int), ((0 : Int), ((0 : Int), ((0 : Int), (⟨#[]⟩ : ByteArray))))))).1) ([] : (List Int))) (Int.toNat v961) (0 : Int)))) r986 hr987) AllP.nil) ?_
                    intro a w h
                    exact ⟨(v985, (List.set v959 (Int.toNat (List.getD (List.getD x0.2.2.1 (Int.toNat (List.getD x0.1.2.1 (Int.toNat r868.1.2.2) ((0 : Int), ((0 : Int), ((0 : Int), ((0 : Int), ((0 : Int), (⟨#[]⟩ : ByteArray))))))).1) ([] : (List Int))) (Int.toNat v961) (0 : Int))) (IntKind.i64.wrap (r868.1.2.1 + (1 : Int)))), r986), hF, h.arrive (fz := []) (l := [0, 7, 8, 9, 11, 14, 105, 106, 107]) (.inr fun i h => h) (by kernel_rfl)⟩
                  · replace hF := of_f hb hF
                    refine wp_skip ?_
                    exact ⟨(v958, v959, v960), hF, h.arrive (fz := []) (l := [0, 7, 8, 9, 11, 14, 105, 106, 107]) (.inr fun i h => h) (by kernel_rfl)⟩
            · rintro a w ⟨v, hF, h⟩
              obtain ⟨v979, v980, v981⟩ := v
              rw [f185.j982] at hF
              refine wp_reg tok (orc := orcL []) (fz := []) (l := [0, 7, 8, 9, 11, 14, 105, 106, 107]) (c := _) (.inr fun i h => h) h (by kernel_rfl) (AllP.nil) ?_
              intro a w h
              exact ⟨(v979, v980, v981, (IntKind.i64.wrap (v961 + (1 : Int)))), hF, h.arrive (fz := []) (l := [0, 7, 8, 9, 11, 14, 105, 106, 107]) (.inr fun i h => h) (by kernel_rfl)⟩
          · replace hF := of_f hb hF
            refine wp_exit ?_
            exact ⟨(v958, v959, (List.set v866 (Int.toNat r868.1.2.2) true), v960), hF, h.arrive (fz := []) (l := [0, 7, 8, 9, 11]) (.inr fun i h => h) (by kernel_rfl)⟩
      · replace hF := of_f hb hF
        refine wp_exit ?_
        refine wp_reg_seq tok (orc := orcL []) (fz := []) (l := [4, 5, 7, 8]) (c := _) (.inr fun i h => h) h (by kernel_rfl) (AllP.nil) ?_
        intro a w h
        cases hF
        exact wp_ret (ret_okR tok h rfl (by kernel_rfl)).1

def f187 (k : Nat) (x0 : Int) : Option Int := some (0 : Int)
set_option maxRecDepth 100000 in
/-- 'impl.myNet).best$2'. -/
theorem c187 (k : Nat) (x0 : Int) (r : Int) (hF : f187 k x0 = some r) : PCall Try.prog 187 [⟨(.int .i64), x0⟩] [⟨(.int .i64), r⟩] := by
  refine pcall_intro Try.func187 rfl rfl (Nat.le_of_ble_eq_true rfl) ?_
  intro w0 Zi a w h
  rw [f187] at hF
  refine wp_reg_seq tok (orc := orcL []) (fz := []) (l := []) (c := _) (.inr fun i h => h) h (by kernel_rfl) (AllP.nil) ?_
  intro a w h
  refine wp_reg_seq tok (orc := orcL []) (fz := []) (l := [2]) (c := _) (.inr fun i h => h) h (by kernel_rfl) (AllP.nil) ?_
  intro a w h
  cases hF
  exact wp_ret (ret_okR tok h rfl (by kernel_rfl)).1

def f186.j130 (k : Nat) (v120 : Int) (q68 : (Int × Int × Int × Int) → Option Int) : (Int × Int × Int) → Option Int
  | (v127, v128, v129) => q68 (v127, v128, v129, (IntKind.i64.wrap (v120 + (1 : Int))))
def f186.l68 (k : Nat) (x0 : (List Int)) (x2_0 : (List Int)) (x3_0 : (List Int)) : Nat → (Int × Int × Int × Int) → Option Int
  | 0, _ => none
  | m68 + 1, (v117, v118, v119, v120) => if (decide ((v120 : Int) < (List.length x0 : Int))) then (if (0 ≤ v120 ∧ v120 < (List.length x0 : Int)) then ((f187 k (List.getD x0 (Int.toNat v120) (0 : Int))).bind fun r131 => (if (((decide ((r131 : Int) < (0 : Int))) = false) → (0 ≤ (List.getD x0 (Int.toNat v120) (0 : Int)) ∧ (List.getD x0 (Int.toNat v120) (0 : Int)) < (List.length x2_0 : Int))) then (if (bif (decide ((r131 : Int) < (0 : Int))) then true else (decide (((List.getD x2_0 (Int.toNat (List.getD x0 (Int.toNat v120) (0 : Int))) (0 : Int)) : Int) < (0 : Int)))) then (f186.j130 k v120 ((f186.l68 k x0 x2_0 x3_0) m68) (v117, v118, v119)) else (if (0 ≤ (List.getD x0 (Int.toNat v120) (0 : Int)) ∧ (List.getD x0 (Int.toNat v120) (0 : Int)) < (List.length x2_0 : Int)) then (if (0 ≤ (List.getD x0 (Int.toNat v120) (0 : Int)) ∧ (List.getD x0 (Int.toNat v120) (0 : Int)) < (List.length x3_0 : Int)) then (if (bif (bif (decide ((v117 : Int) < (0 : Int))) then true else (decide (((IntKind.i64.wrap ((List.getD x2_0 (Int.toNat (List.getD x0 (Int.toNat v120) (0 : Int))) (0 : Int)) + r131)) : Int) < v118))) then true else (bif (((IntKind.i64.wrap ((List.getD x2_0 (Int.toNat (List.getD x0 (Int.toNat v120) (0 : Int))) (0 : Int)) + r131)) : Int) == v118) then (decide (((List.getD x3_0 (Int.toNat (List.getD x0 (Int.toNat v120) (0 : Int))) (0 : Int)) : Int) < v119)) else false)) then (f186.j130 k v120 ((f186.l68 k x0 x2_0 x3_0) m68) ((List.getD x0 (Int.toNat v120) (0 : Int)), (IntKind.i64.wrap ((List.getD x2_0 (Int.toNat (List.getD x0 (Int.toNat v120) (0 : Int))) (0 : Int)) + r131)), (List.getD x3_0 (Int.toNat (List.getD x0 (Int.toNat v120) (0 : Int))) (0 : Int)))) else (f186.j130 k v120 ((f186.l68 k x0 x2_0 x3_0) m68) (v117, v118, v119))) else none) else none)) else none)) else none) else (some v117)
def f186 (k : Nat) (x0 : (List Int)) (x2_0 : (List Int)) (x3_0 : (List Int)) : Option Int := f186.l68 k x0 x2_0 x3_0 k ((-1 : Int), (0 : Int), (0 : Int), (0 : Int))
set_option maxRecDepth 100000 in
/-- 'impl.myNet).best$1'. -/
theorem c186 (k : Nat) (x0 : (List Int)) (x2_0 : (List Int)) (x3_0 : (List Int)) (r : Int) (hF : f186 k x0 x2_0 x3_0 = some r) : PCall Try.prog 186 [⟨(.sl false 2 (.int .i64)), x0⟩, ⟨(.fn 187 .unit), ()⟩, ⟨sh31, (some x2_0)⟩, ⟨sh31, (some x3_0)⟩] [⟨(.int .i64), r⟩] := by
  refine pcall_intro Try.func186 rfl rfl (Nat.le_of_ble_eq_true rfl) ?_
  intro w0 Zi a w h
  rw [f186] at hF
  refine wp_reg_seq tok (orc := orcL []) (fz := []) (l := [0, 1, 2, 3]) (c := _) (.inr fun i h => h) h (by kernel_rfl) (AllP.nil) ?_
  intro a w h
  refine wp_reg_seq tok (orc := orcL []) (fz := []) (l := [0, 1, 2, 3, 7]) (c := _) (.inr fun i h => h) h (by kernel_rfl) (AllP.nil) ?_
  intro a w h
  refine wp_reg_seq tok (orc := orcL []) (fz := []) (l := [0, 1, 2, 3, 7, 8, 9]) (c := _) (.inr fun i h => h) h (by kernel_rfl) (AllP.nil) ?_
  intro a w h
  refine wp_seq ?_
  refine wp_reg_seq tok (orc := orcL []) (fz := []) (l := [1, 2, 3, 7, 8, 9, 15, 16, 17]) (c := _) (.inr fun i h => h) h (by kernel_rfl) (AllP.nil) ?_
  intro a w h
  refine wp_block ?_
  refine wp_loop_fuel (f186.l68 k x0 x2_0 x3_0) (fun ((v117, v118, v119, v120) : (Int × Int × Int × Int)) => [(1, .val (.fn 187 .unit) ()), (2, .val sh31 (some x2_0)), (3, .val sh31 (some x3_0)), (7, .val (.int .i64) v117), (8, .val (.int .i64) v118), (9, .val (.int .i64) v119), (15, .val (.sl false 2 (.int .i64)) x0), (16, .val (.int .i64) (List.length x0 : Int)), (17, .val (.int .i64) v120)]) (fun v h => by obtain ⟨v117, v118, v119, v120⟩ := v; rw [f186.l68] at h; cases h) ?_ hF (h.arrive (fz := []) (l := [1, 2, 3, 7, 8, 9, 15, 16, 17]) (.inr fun i h => h) (by kernel_rfl))
  intro m68 v a w hF h
  obtain ⟨v117, v118, v119, v120⟩ := v
  rw [f186.l68] at hF
  refine wp_reg_seq tok (orc := orcL []) (fz := []) (l := [1, 2, 3, 7, 8, 9, 15, 16, 17, 18]) (c := _) (.inr fun i h => h) h (by kernel_rfl) (AllP.nil) ?_
  intro a w h
  refine wp_seq <| wp_if h (b := (decide ((v120 : Int) < (List.length x0 : Int)))) (by kernel_rfl) (fun hb => ?_) (fun hb => ?_)
  · replace hF := of_t hb hF
    refine wp_skip ?_
    refine wp_mid (fun a w => ∃ v : (Int × Int × Int), f186.j130 k v120 ((f186.l68 k x0 x2_0 x3_0) m68) v = some r ∧ Rel w0 (fun _ => False) Zi Try.f186.ntmps ((fun ((v127, v128, v129) : (Int × Int × Int)) => ([(1, .val (.fn 187 .unit) ()), (2, .val sh31 (some x2_0)), (3, .val sh31 (some x3_0)), (7, .val (.int .i64) v127), (8, .val (.int .i64) v128), (9, .val (.int .i64) v129), (15, .val (.sl false 2 (.int .i64)) x0), (16, .val (.int .i64) (List.length x0 : Int)), (17, .val (.int .i64) v120)] : SS)) v) a w) ?_ ?_
    ·
      refine wp_block ?_
      obtain ⟨hc136, hF⟩ := of_if hF
      refine wp_reg_seq tok (orc := orcL []) (fz := []) (l := [1, 2, 3, 7, 8, 9, 11, 15, 16, 17]) (c := _) (.inr fun i h => h) h (by kernel_rfl) (AllP.cons hc136 AllP.nil) ?_
      intro a w h
      obtain ⟨r131, hr135, hF⟩ := of_bind hF
      refine wp_reg_seq tok (orc := orcL [(23, [⟨(.int .i64), r131⟩])]) (fz := []) (l := [1, 2, 3, 7, 8, 9, 11, 12, 15, 16, 17]) (c := _) (.inr fun i h => h) h (by kernel_rfl) (AllP.cons (c187 k (List.getD x0 (Int.toNat v120) (0 : Int)) r131 hr135) AllP.nil) ?_
      intro a w h
      refine wp_seq ?_
      obtain ⟨hc134, hF⟩ := of_if hF
      refine wp_reg_seq tok (orc := orcL []) (fz := []) (l := [1, 2, 3, 7, 8, 9, 11, 12, 15, 16, 17, 32]) (c := _) (.inr fun i h => h) h (by kernel_rfl) (AllP.cons hc134 AllP.nil) ?_
      intro a w h
      refine wp_if h (b := (bif (decide ((r131 : Int) < (0 : Int))) then true else (decide (((List.getD x2_0 (Int.toNat (List.getD x0 (Int.toNat v120) (0 : Int))) (0 : Int)) : Int) < (0 : Int))))) (by kernel_rfl) (fun hb => ?_) (fun hb => ?_)
      · replace hF := of_t hb hF
        refine wp_exit ?_
        exact ⟨(v117, v118, v119), hF, h.arrive (fz := []) (l := [1, 2, 3, 7, 8, 9, 15, 16, 17]) (.inr fun i h => h) (by kernel_rfl)⟩
      · replace hF := of_f hb hF
        refine wp_skip ?_
        obtain ⟨hc132, hF⟩ := of_if hF
        obtain ⟨hc133, hF⟩ := of_if hF
        refine wp_regy_seq tok (orc := orcL []) (fz := []) (l := [1, 2, 3, 7, 8, 9, 11, 13, 14, 15, 16, 17]) (c := _) ([], [], [], []) 12 (.inr fun i h => h) h (by kernel_rfl) (by kernel_rfl) (AllP.cons hc132 (AllP.cons hc133 AllP.nil)) ?_
        intro a w h
        refine wp_reg_seq tok (orc := orcL []) (fz := []) (l := [1, 2, 3, 7, 8, 9, 11, 13, 14, 15, 16, 17, 59]) (c := _) (.inr fun i h => h) h (by kernel_rfl) (AllP.nil) ?_
        intro a w h
        refine wp_if h (b := (bif (bif (decide ((v117 : Int) < (0 : Int))) then true else (decide (((IntKind.i64.wrap ((List.getD x2_0 (Int.toNat (List.getD x0 (Int.toNat v120) (0 : Int))) (0 : Int)) + r131)) : Int) < v118))) then true else (bif (((IntKind.i64.wrap ((List.getD x2_0 (Int.toNat (List.getD x0 (Int.toNat v120) (0 : Int))) (0 : Int)) + r131)) : Int) == v118) then (decide (((List.getD x3_0 (Int.toNat (List.getD x0 (Int.toNat v120) (0 : Int))) (0 : Int)) : Int) < v119)) else false))) (by kernel_rfl) (fun hb => ?_) (fun hb => ?_)
        · replace hF := of_t hb hF
          refine wp_reg tok (orc := orcL []) (fz := []) (l := [1, 2, 3, 7, 8, 9, 15, 16, 17]) (c := _) (.inr fun i h => h) h (by kernel_rfl) (AllP.nil) ?_
          intro a w h
          exact ⟨((List.getD x0 (Int.toNat v120) (0 : Int)), (IntKind.i64.wrap ((List.getD x2_0 (Int.toNat (List.getD x0 (Int.toNat v120) (0 : Int))) (0 : Int)) + r131)), (List.getD x3_0 (Int.toNat (List.getD x0 (Int.toNat v120) (0 : Int))) (0 : Int))), hF, h.arrive (fz := []) (l := [1, 2, 3, 7, 8, 9, 15, 16, 17]) (.inr fun i h => h) (by kernel_rfl)⟩
        · replace hF := of_f hb hF
          refine wp_skip ?_
          exact ⟨(v117, v118, v119), hF, h.arrive (fz := []) (l := [1, 2, 3, 7, 8, 9, 15, 16, 17]) (.inr fun i h => h) (by kernel_rfl)⟩
    · rintro a w ⟨v, hF, h⟩
      obtain ⟨v127, v128, v129⟩ := v
      rw [f186.j130] at hF
      refine wp_reg tok (orc := orcL []) (fz := []) (l := [1, 2, 3, 7, 8, 9, 15, 16, 17]) (c := _) (.inr fun i h => h) h (by kernel_rfl) (AllP.nil) ?_
      intro a w h
      exact ⟨(v127, v128, v129, (IntKind.i64.wrap (v120 + (1 : Int)))), hF, h.arrive (fz := []) (l := [1, 2, 3, 7, 8, 9, 15, 16, 17]) (.inr fun i h => h) (by kernel_rfl)⟩
  · replace hF := of_f hb hF
    refine wp_exit ?_
    refine wp_reg_seq tok (orc := orcL []) (fz := []) (l := [6]) (c := _) (.inr fun i h => h) h (by kernel_rfl) (AllP.nil) ?_
    intro a w h
    cases hF
    exact wp_ret (ret_okR tok h rfl (by kernel_rfl)).1

def f188 (k : Nat) (x0 : Int) (x1_0 : (((List (Int × (Int × Int))) × ((List (Int × (Int × (Int × (Int × (Int × ByteArray)))))) × (List (Int × Int)))) × ((List (List Int)) × ((List (List Int)) × (Option (List ((Int × Int) × Bool))))))) (x2_0 : Int) : Option Int := (f170 k x1_0 x2_0 x0).bind fun r1 => (some r1)
set_option maxRecDepth 100000 in
/-- 'impl.myNet).best$3'. -/
theorem c188 (k : Nat) (x0 : Int) (x1_0 : (((List (Int × (Int × Int))) × ((List (Int × (Int × (Int × (Int × (Int × ByteArray)))))) × (List (Int × Int)))) × ((List (List Int)) × ((List (List Int)) × (Option (List ((Int × Int) × Bool))))))) (x2_0 : Int) (r : Int) (hF : f188 k x0 x1_0 x2_0 = some r) : PCall Try.prog 188 [⟨(.int .i64), x0⟩, ⟨sh32, (some (some x1_0))⟩, ⟨(.pt false 0 (.int .i64)), (some x2_0)⟩] [⟨(.int .i64), r⟩] := by
  refine pcall_intro Try.func188 rfl rfl (Nat.le_of_ble_eq_true rfl) ?_
  intro w0 Zi a w h
  rw [f188] at hF
  refine wp_reg_seq tok (orc := orcL []) (fz := []) (l := [0, 1, 2]) (c := _) (.inr fun i h => h) h (by kernel_rfl) (AllP.nil) ?_
  intro a w h
  obtain ⟨r1, hr2, hF⟩ := of_bind hF
  refine wp_reg_seq tok (orc := orcL [(8, [⟨(.int .i64), r1⟩])]) (fz := []) (l := [4]) (c := _) (.inr fun i h => h) h (by kernel_rfl) (AllP.cons (c170 k x1_0 x2_0 x0 r1 hr2) AllP.nil) ?_
  intro a w h
  cases hF
  exact wp_ret (ret_okR tok h rfl (by kernel_rfl)).1

def f186b.j130 (k : Nat) (v120 : Int) (q68 : (Int × Int × Int × Int) → Option Int) : (Int × Int × Int) → Option Int
  | (v127, v128, v129) => q68 (v127, v128, v129, (IntKind.i64.wrap (v120 + (1 : Int))))
def f186b.l68 (k : Nat) (x0 : (List Int)) (x1_0 : (((List (Int × (Int × Int))) × ((List (Int × (Int × (Int × (Int × (Int × ByteArray)))))) × (List (Int × Int)))) × ((List (List Int)) × ((List (List Int)) × (Option (List ((Int × Int) × Bool))))))) (x1_1 : Int) (x2_0 : (List Int)) (x3_0 : (List Int)) : Nat → (Int × Int × Int × Int) → Option Int
  | 0, _ => none
  | m68 + 1, (v117, v118, v119, v120) => if (decide ((v120 : Int) < (List.length x0 : Int))) then (if (0 ≤ v120 ∧ v120 < (List.length x0 : Int)) then ((f188 k (List.getD x0 (Int.toNat v120) (0 : Int)) x1_0 x1_1).bind fun r131 => (if (((decide ((r131 : Int) < (0 : Int))) = false) → (0 ≤ (List.getD x0 (Int.toNat v120) (0 : Int)) ∧ (List.getD x0 (Int.toNat v120) (0 : Int)) < (List.length x2_0 : Int))) then (if (bif (decide ((r131 : Int) < (0 : Int))) then true else (decide (((List.getD x2_0 (Int.toNat (List.getD x0 (Int.toNat v120) (0 : Int))) (0 : Int)) : Int) < (0 : Int)))) then (f186b.j130 k v120 ((f186b.l68 k x0 x1_0 x1_1 x2_0 x3_0) m68) (v117, v118, v119)) else (if (0 ≤ (List.getD x0 (Int.toNat v120) (0 : Int)) ∧ (List.getD x0 (Int.toNat v120) (0 : Int)) < (List.length x2_0 : Int)) then (if (0 ≤ (List.getD x0 (Int.toNat v120) (0 : Int)) ∧ (List.getD x0 (Int.toNat v120) (0 : Int)) < (List.length x3_0 : Int)) then (if (bif (bif (decide ((v117 : Int) < (0 : Int))) then true else (decide (((IntKind.i64.wrap ((List.getD x2_0 (Int.toNat (List.getD x0 (Int.toNat v120) (0 : Int))) (0 : Int)) + r131)) : Int) < v118))) then true else (bif (((IntKind.i64.wrap ((List.getD x2_0 (Int.toNat (List.getD x0 (Int.toNat v120) (0 : Int))) (0 : Int)) + r131)) : Int) == v118) then (decide (((List.getD x3_0 (Int.toNat (List.getD x0 (Int.toNat v120) (0 : Int))) (0 : Int)) : Int) < v119)) else false)) then (f186b.j130 k v120 ((f186b.l68 k x0 x1_0 x1_1 x2_0 x3_0) m68) ((List.getD x0 (Int.toNat v120) (0 : Int)), (IntKind.i64.wrap ((List.getD x2_0 (Int.toNat (List.getD x0 (Int.toNat v120) (0 : Int))) (0 : Int)) + r131)), (List.getD x3_0 (Int.toNat (List.getD x0 (Int.toNat v120) (0 : Int))) (0 : Int)))) else (f186b.j130 k v120 ((f186b.l68 k x0 x1_0 x1_1 x2_0 x3_0) m68) (v117, v118, v119))) else none) else none)) else none)) else none) else (some v117)
def f186b (k : Nat) (x0 : (List Int)) (x1_0 : (((List (Int × (Int × Int))) × ((List (Int × (Int × (Int × (Int × (Int × ByteArray)))))) × (List (Int × Int)))) × ((List (List Int)) × ((List (List Int)) × (Option (List ((Int × Int) × Bool))))))) (x1_1 : Int) (x2_0 : (List Int)) (x3_0 : (List Int)) : Option Int := f186b.l68 k x0 x1_0 x1_1 x2_0 x3_0 k ((-1 : Int), (0 : Int), (0 : Int), (0 : Int))
set_option maxRecDepth 100000 in
/-- 'impl.myNet).best$1'. -/
theorem c186b (k : Nat) (x0 : (List Int)) (x1_0 : (((List (Int × (Int × Int))) × ((List (Int × (Int × (Int × (Int × (Int × ByteArray)))))) × (List (Int × Int)))) × ((List (List Int)) × ((List (List Int)) × (Option (List ((Int × Int) × Bool))))))) (x1_1 : Int) (x2_0 : (List Int)) (x3_0 : (List Int)) (r : Int) (hF : f186b k x0 x1_0 x1_1 x2_0 x3_0 = some r) : PCall Try.prog 186 [⟨(.sl false 2 (.int .i64)), x0⟩, ⟨sh33, ((some (some x1_0)), ((some x1_1), ()))⟩, ⟨sh31, (some x2_0)⟩, ⟨sh31, (some x3_0)⟩] [⟨(.int .i64), r⟩] := by
  refine pcall_intro Try.func186 rfl rfl (Nat.le_of_ble_eq_true rfl) ?_
  intro w0 Zi a w h
  rw [f186b] at hF
  refine wp_reg_seq tok (orc := orcL []) (fz := []) (l := [0, 1, 2, 3]) (c := _) (.inr fun i h => h) h (by kernel_rfl) (AllP.nil) ?_
  intro a w h
  refine wp_reg_seq tok (orc := orcL []) (fz := []) (l := [0, 1, 2, 3, 7]) (c := _) (.inr fun i h => h) h (by kernel_rfl) (AllP.nil) ?_
  intro a w h
  refine wp_reg_seq tok (orc := orcL []) (fz := []) (l := [0, 1, 2, 3, 7, 8, 9]) (c := _) (.inr fun i h => h) h (by kernel_rfl) (AllP.nil) ?_
  intro a w h
  refine wp_seq ?_
  refine wp_reg_seq tok (orc := orcL []) (fz := []) (l := [1, 2, 3, 7, 8, 9, 15, 16, 17]) (c := _) (.inr fun i h => h) h (by kernel_rfl) (AllP.nil) ?_
  intro a w h
  refine wp_block ?_
  refine wp_loop_fuel (f186b.l68 k x0 x1_0 x1_1 x2_0 x3_0) (fun ((v117, v118, v119, v120) : (Int × Int × Int × Int)) => [(1, .val sh33 ((some (some x1_0)), ((some x1_1), ()))), (2, .val sh31 (some x2_0)), (3, .val sh31 (some x3_0)), (7, .val (.int .i64) v117), (8, .val (.int .i64) v118), (9, .val (.int .i64) v119), (15, .val (.sl false 2 (.int .i64)) x0), (16, .val (.int .i64) (List.length x0 : Int)), (17, .val (.int .i64) v120)]) (fun v h => by obtain ⟨v117, v118, v119, v120⟩ := v; rw [f186b.l68] at h; cases h) ?_ hF (h.arrive (fz := []) (l := [1, 2, 3, 7, 8, 9, 15, 16, 17]) (.inr fun i h => h) (by kernel_rfl))
  intro m68 v a w hF h
  obtain ⟨v117, v118, v119, v120⟩ := v
  rw [f186b.l68] at hF
  refine wp_reg_seq tok (orc := orcL []) (fz := []) (l := [1, 2, 3, 7, 8, 9, 15, 16, 17, 18]) (c := _) (.inr fun i h => h) h (by kernel_rfl) (AllP.nil) ?_
  intro a w h
  refine wp_seq <| wp_if h (b := (decide ((v120 : Int) < (List.length x0 : Int)))) (by kernel_rfl) (fun hb => ?_) (fun hb => ?_)
  · replace hF := of_t hb hF
    refine wp_skip ?_
    refine wp_mid (fun a w => ∃ v : (Int × Int × Int), f186b.j130 k v120 ((f186b.l68 k x0 x1_0 x1_1 x2_0 x3_0) m68) v = some r ∧ Rel w0 (fun _ => False) Zi Try.f186.ntmps ((fun ((v127, v128, v129) : (Int × Int × Int)) => ([(1, .val sh33 ((some (some x1_0)), ((some x1_1), ()))), (2, .val sh31 (some x2_0)), (3, .val sh31 (some x3_0)), (7, .val (.int .i64) v127), (8, .val (.int .i64) v128), (9, .val (.int .i64) v129), (15, .val (.sl false 2 (.int .i64)) x0), (16, .val (.int .i64) (List.length x0 : Int)), (17, .val (.int .i64) v120)] : SS)) v) a w) ?_ ?_
    ·
      refine wp_block ?_
      obtain ⟨hc136, hF⟩ := of_if hF
      refine wp_reg_seq tok (orc := orcL []) (fz := []) (l := [1, 2, 3, 7, 8, 9, 11, 15, 16, 17]) (c := _) (.inr fun i h => h) h (by kernel_rfl) (AllP.cons hc136 AllP.nil) ?_
      intro a w h
      obtain ⟨r131, hr135, hF⟩ := of_bind hF
      refine wp_reg_seq tok (orc := orcL [(23, [⟨(.int .i64), r131⟩])]) (fz := []) (l := [1, 2, 3, 7, 8, 9, 11, 12, 15, 16, 17]) (c := _) (.inr fun i h => h) h (by kernel_rfl) (AllP.cons (c188 k (List.getD x0 (Int.toNat v120) (0 : Int)) x1_0 x1_1 r131 hr135) AllP.nil) ?_
      intro a w h
      refine wp_seq ?_
      obtain ⟨hc134, hF⟩ := of_if hF
      refine wp_reg_seq tok (orc := orcL []) (fz := []) (l := [1, 2, 3, 7, 8, 9, 11, 12, 15, 16, 17, 32]) (c := _) (.inr fun i h => h) h (by kernel_rfl) (AllP.cons hc134 AllP.nil) ?_
      intro a w h
      refine wp_if h (b := (bif (decide ((r131 : Int) < (0 : Int))) then true else (decide (((List.getD x2_0 (Int.toNat (List.getD x0 (Int.toNat v120) (0 : Int))) (0 : Int)) : Int) < (0 : Int))))) (by kernel_rfl) (fun hb => ?_) (fun hb => ?_)
      · replace hF := of_t hb hF
        refine wp_exit ?_
        exact ⟨(v117, v118, v119), hF, h.arrive (fz := []) (l := [1, 2, 3, 7, 8, 9, 15, 16, 17]) (.inr fun i h => h) (by kernel_rfl)⟩
      · replace hF := of_f hb hF
        refine wp_skip ?_
        obtain ⟨hc132, hF⟩ := of_if hF
        obtain ⟨hc133, hF⟩ := of_if hF
        refine wp_regy_seq tok (orc := orcL []) (fz := []) (l := [1, 2, 3, 7, 8, 9, 11, 13, 14, 15, 16, 17]) (c := _) ([], [], [], []) 12 (.inr fun i h => h) h (by kernel_rfl) (by kernel_rfl) (AllP.cons hc132 (AllP.cons hc133 AllP.nil)) ?_
        intro a w h
        refine wp_reg_seq tok (orc := orcL []) (fz := []) (l := [1, 2, 3, 7, 8, 9, 11, 13, 14, 15, 16, 17, 59]) (c := _) (.inr fun i h => h) h (by kernel_rfl) (AllP.nil) ?_
        intro a w h
        refine wp_if h (b := (bif (bif (decide ((v117 : Int) < (0 : Int))) then true else (decide (((IntKind.i64.wrap ((List.getD x2_0 (Int.toNat (List.getD x0 (Int.toNat v120) (0 : Int))) (0 : Int)) + r131)) : Int) < v118))) then true else (bif (((IntKind.i64.wrap ((List.getD x2_0 (Int.toNat (List.getD x0 (Int.toNat v120) (0 : Int))) (0 : Int)) + r131)) : Int) == v118) then (decide (((List.getD x3_0 (Int.toNat (List.getD x0 (Int.toNat v120) (0 : Int))) (0 : Int)) : Int) < v119)) else false))) (by kernel_rfl) (fun hb => ?_) (fun hb => ?_)
        · replace hF := of_t hb hF
          refine wp_reg tok (orc := orcL []) (fz := []) (l := [1, 2, 3, 7, 8, 9, 15, 16, 17]) (c := _) (.inr fun i h => h) h (by kernel_rfl) (AllP.nil) ?_
          intro a w h
          exact ⟨((List.getD x0 (Int.toNat v120) (0 : Int)), (IntKind.i64.wrap ((List.getD x2_0 (Int.toNat (List.getD x0 (Int.toNat v120) (0 : Int))) (0 : Int)) + r131)), (List.getD x3_0 (Int.toNat (List.getD x0 (Int.toNat v120) (0 : Int))) (0 : Int))), hF, h.arrive (fz := []) (l := [1, 2, 3, 7, 8, 9, 15, 16, 17]) (.inr fun i h => h) (by kernel_rfl)⟩
        · replace hF := of_f hb hF
          refine wp_skip ?_
          exact ⟨(v117, v118, v119), hF, h.arrive (fz := []) (l := [1, 2, 3, 7, 8, 9, 15, 16, 17]) (.inr fun i h => h) (by kernel_rfl)⟩
    · rintro a w ⟨v, hF, h⟩
      obtain ⟨v127, v128, v129⟩ := v
      rw [f186b.j130] at hF
      refine wp_reg tok (orc := orcL []) (fz := []) (l := [1, 2, 3, 7, 8, 9, 15, 16, 17]) (c := _) (.inr fun i h => h) h (by kernel_rfl) (AllP.nil) ?_
      intro a w h
      exact ⟨(v127, v128, v129, (IntKind.i64.wrap (v120 + (1 : Int)))), hF, h.arrive (fz := []) (l := [1, 2, 3, 7, 8, 9, 15, 16, 17]) (.inr fun i h => h) (by kernel_rfl)⟩
  · replace hF := of_f hb hF
    refine wp_exit ?_
    refine wp_reg_seq tok (orc := orcL []) (fz := []) (l := [6]) (c := _) (.inr fun i h => h) h (by kernel_rfl) (AllP.nil) ?_
    intro a w h
    cases hF
    exact wp_ret (ret_okR tok h rfl (by kernel_rfl)).1

def f113.l3 (k : Nat) (x0 : (((List (Int × (Int × Int))) × ((List (Int × (Int × (Int × (Int × (Int × ByteArray)))))) × (List (Int × Int)))) × ((List (List Int)) × ((List (List Int)) × (Option (List ((Int × Int) × Bool))))))) (x2 : Int) (r1 : ((List Int) × (List Int))) (r2 : Int) : Nat → (Int × (List Int) × Int) → Option (Bool × ((List Int) × (Int × Int)))
  | 0, _ => none
  | m3 + 1, (v27, v28, v29) => if ((List.length v28 + List.length [v27]) * 8 ≤ 140737488355328) then (if (0 ≤ v27 ∧ v27 < (List.length x0.1.2.1 : Int)) then (if (0 ≤ v27 ∧ v27 < (List.length x0.1.2.1 : Int)) then (if (((List.getD x0.1.2.1 (Int.toNat v27) ((0 : Int), ((0 : Int), ((0 : Int), ((0 : Int), ((0 : Int), (⟨#[]⟩ : ByteArray))))))).2.1 : Int) == x2) then (some (true, ((List.append v28 [v27]), ((List.getD r1.1 (Int.toNat r2) (0 : Int)), (IntKind.i64.wrap (v29 + (List.getD x0.1.2.1 (Int.toNat v27) ((0 : Int), ((0 : Int), ((0 : Int), ((0 : Int), ((0 : Int), (⟨#[]⟩ : ByteArray))))))).2.2.2.2.1)))))) else (if (0 ≤ v27 ∧ v27 < (List.length x0.1.2.1 : Int)) then (if (0 ≤ (List.getD x0.1.2.1 (Int.toNat v27) ((0 : Int), ((0 : Int), ((0 : Int), ((0 : Int), ((0 : Int), (⟨#[]⟩ : ByteArray))))))).2.1 ∧ (List.getD x0.1.2.1 (Int.toNat v27) ((0 : Int), ((0 : Int), ((0 : Int), ((0 : Int), ((0 : Int), (⟨#[]⟩ : ByteArray))))))).2.1 < (List.length x0.2.1 : Int)) then ((f186b k (List.getD x0.2.1 (Int.toNat (List.getD x0.1.2.1 (Int.toNat v27) ((0 : Int), ((0 : Int), ((0 : Int), ((0 : Int), ((0 : Int), (⟨#[]⟩ : ByteArray))))))).2.1) ([] : (List Int))) x0 v27 r1.1 r1.2).bind fun r30 => ((f113.l3 k x0 x2 r1 r2) m3 (r30, (List.append v28 [v27]), (IntKind.i64.wrap (v29 + (List.getD x0.1.2.1 (Int.toNat v27) ((0 : Int), ((0 : Int), ((0 : Int), ((0 : Int), ((0 : Int), (⟨#[]⟩ : ByteArray))))))).2.2.2.2.1))))) else none) else none)) else none) else none) else none
def f113 (k : Nat) (x0 : (((List (Int × (Int × Int))) × ((List (Int × (Int × (Int × (Int × (Int × ByteArray)))))) × (List (Int × Int)))) × ((List (List Int)) × ((List (List Int)) × (Option (List ((Int × Int) × Bool))))))) (x1 : Int) (x2 : Int) : Option (Bool × ((List Int) × (Int × Int))) := if ((x1 : Int) == x2) then (some (true, (([] : (List Int)), ((0 : Int), (0 : Int))))) else ((f185 k x0 x2).bind fun r1 => (if (0 ≤ x1 ∧ x1 < (List.length x0.2.1 : Int)) then ((f186 k (List.getD x0.2.1 (Int.toNat x1) ([] : (List Int))) r1.1 r1.2).bind fun r2 => (if (decide ((r2 : Int) < (0 : Int))) then (some (false, (([] : (List Int)), ((0 : Int), (0 : Int))))) else (if (0 ≤ r2 ∧ r2 < (List.length r1.1 : Int)) then (f113.l3 k x0 x2 r1 r2 k (r2, ([] : (List Int)), (0 : Int))) else none))) else none))
set_option maxRecDepth 100000 in
/-- 'impl.myNet).best'. -/
theorem c113 (k : Nat) (x0 : (((List (Int × (Int × Int))) × ((List (Int × (Int × (Int × (Int × (Int × ByteArray)))))) × (List (Int × Int)))) × ((List (List Int)) × ((List (List Int)) × (Option (List ((Int × Int) × Bool))))))) (x1 : Int) (x2 : Int) (r : (Bool × ((List Int) × (Int × Int)))) (hF : f113 k x0 x1 x2 = some r) : PCall Try.prog 113 [⟨sh27, some x0⟩, ⟨(.int .i64), x1⟩, ⟨(.int .i64), x2⟩] [⟨sh22, r⟩] := by
  refine pcall_intro Try.func113 rfl rfl (Nat.le_of_ble_eq_true rfl) ?_
  intro w0 Zi a w h
  rw [f113] at hF
  refine wp_reg_seq tok (orc := orcL []) (fz := []) (l := [1, 2, 3, 6]) (c := _) (.inr fun i h => h) h (by kernel_rfl) (AllP.nil) ?_
  intro a w h
  refine wp_seq ?_
  refine wp_reg_seq tok (orc := orcL []) (fz := []) (l := [1, 2, 3, 6, 15]) (c := _) (.inr fun i h => h) h (by kernel_rfl) (AllP.nil) ?_
  intro a w h
  refine wp_if h (b := ((x1 : Int) == x2)) (by kernel_rfl) (fun hb => ?_) (fun hb => ?_)
  · replace hF := of_t hb hF
    refine wp_reg_seq tok (orc := orcL []) (fz := []) (l := [6]) (c := _) (.inr fun i h => h) h (by kernel_rfl) (AllP.nil) ?_
    intro a w h
    cases hF
    exact wp_ret (ret_okR tok h rfl (by kernel_rfl)).1
  · replace hF := of_f hb hF
    refine wp_skip ?_
    obtain ⟨r1, hr40, hF⟩ := of_bind hF
    refine wp_reg_seq tok (orc := orcL [(20, [⟨(.sl true 2 (.int .i64)), r1.1⟩, ⟨(.sl true 2 (.int .i64)), r1.2⟩]), (17, [⟨.pt false 4294967292 .unit, some ()⟩])]) (fz := []) (l := [1, 2, 3, 6, 7, 8]) (c := _) (.inr fun i h => h) h (by kernel_rfl) (AllP.cons (c185 k x0 x2 r1 hr40) AllP.nil) ?_
    intro a w h
    refine wp_reg_seq tok (orc := orcL []) (fz := []) (l := [1, 2, 3, 6, 7, 8, 9]) (c := _) (.inr fun i h => h) h (by kernel_rfl) (AllP.nil) ?_
    intro a w h
    obtain ⟨hc38, hF⟩ := of_if hF
    obtain ⟨r2, hr39, hF⟩ := of_bind hF
    refine wp_reg_seq tok (orc := orcL [(32, [⟨(.int .i64), r2⟩])]) (fz := []) (l := [2, 3, 6, 7, 8, 9, 10]) (c := _) (.inr fun i h => h) h (by kernel_rfl) (AllP.cons hc38 (AllP.cons (c186 k (List.getD x0.2.1 (Int.toNat x1) ([] : (List Int))) r1.1 r1.2 r2 hr39) AllP.nil)) ?_
    intro a w h
    refine wp_seq ?_
    refine wp_reg_seq tok (orc := orcL []) (fz := []) (l := [2, 3, 6, 7, 8, 9, 10, 34]) (c := _) (.inr fun i h => h) h (by kernel_rfl) (AllP.nil) ?_
    intro a w h
    refine wp_if h (b := (decide ((r2 : Int) < (0 : Int)))) (by kernel_rfl) (fun hb => ?_) (fun hb => ?_)
    · replace hF := of_t hb hF
      refine wp_reg_seq tok (orc := orcL []) (fz := []) (l := [6]) (c := _) (.inr fun i h => h) h (by kernel_rfl) (AllP.nil) ?_
      intro a w h
      cases hF
      exact wp_ret (ret_okR tok h rfl (by kernel_rfl)).1
    · replace hF := of_f hb hF
      refine wp_skip ?_
      obtain ⟨hc37, hF⟩ := of_if hF
      refine wp_reg_seq tok (orc := orcL []) (fz := []) (l := [2, 3, 6, 7, 8, 9, 10, 11]) (c := _) (.inr fun i h => h) h (by kernel_rfl) (AllP.cons hc37 AllP.nil) ?_
      intro a w h
      refine wp_block ?_
      refine wp_loop_fuel (f113.l3 k x0 x2 r1 r2) (fun ((v27, v28, v29) : (Int × (List Int) × Int)) => [(2, .val (.int .i64) x2), (3, .val sh34 (some (some x0))), (6, .val sh13 (some (false, (([] : (List Int)), ((0 : Int), (0 : Int)))))), (7, .val sh35 (some r1.1)), (8, .val sh35 (some r1.2)), (9, .clo 186 [(7, []), (8, [])]), (10, .val (.int .i64) v27), (11, .val sh13 (some (true, (v28, ((List.getD r1.1 (Int.toNat r2) (0 : Int)), v29)))))]) (fun v h => by obtain ⟨v27, v28, v29⟩ := v; rw [f113.l3] at h; cases h) ?_ hF (h.arrive (fz := []) (l := [2, 3, 6, 7, 8, 9, 10, 11]) (.inr fun i h => h) (by kernel_rfl))
      intro m3 v a w hF h
      obtain ⟨v27, v28, v29⟩ := v
      rw [f113.l3] at hF
      refine wp_block ?_
      obtain ⟨hc36, hF⟩ := of_if hF
      refine wp_reg_seq tok (orc := orcL [(45, [⟨.pt false 4294967293 .unit, some ()⟩])]) (fz := []) (l := [2, 3, 6, 7, 8, 9, 10, 11]) (c := _) (.inr fun i h => h) h (by kernel_rfl) (AllP.cons (PrefL.mk (l := [[.der, .snd, .fst], [.der, .snd, .fst]]) (p := [.der, .snd, .fst]) rfl) (AllP.cons hc36 (AllP.cons (show ([.der, .snd, .fst] : Path) = [.der, .snd, .fst] from rfl) AllP.nil))) ?_
      intro a w h
      obtain ⟨hc35, hF⟩ := of_if hF
      refine wp_regy_seq tok (orc := orcL []) (fz := []) (l := [2, 3, 6, 7, 8, 9, 10, 11]) (c := _) ([], [], [], []) 13 (.inr fun i h => h) h (by kernel_rfl) (by kernel_rfl) (AllP.cons hc35 AllP.nil) ?_
      intro a w h
      refine wp_seq ?_
      obtain ⟨hc34, hF⟩ := of_if hF
      refine wp_reg_seq tok (orc := orcL []) (fz := []) (l := [2, 3, 6, 7, 8, 9, 10, 11, 70]) (c := _) (.inr fun i h => h) h (by kernel_rfl) (AllP.cons hc34 AllP.nil) ?_
      intro a w h
      refine wp_if h (b := (((List.getD x0.1.2.1 (Int.toNat v27) ((0 : Int), ((0 : Int), ((0 : Int), ((0 : Int), ((0 : Int), (⟨#[]⟩ : ByteArray))))))).2.1 : Int) == x2)) (by kernel_rfl) (fun hb => ?_) (fun hb => ?_)
      · replace hF := of_t hb hF
        refine wp_reg_seq tok (orc := orcL []) (fz := []) (l := [6]) (c := _) (.inr fun i h => h) h (by kernel_rfl) (AllP.nil) ?_
        intro a w h
        cases hF
        exact wp_ret (ret_okR tok h rfl (by kernel_rfl)).1
      · replace hF := of_f hb hF
        refine wp_skip ?_
        refine wp_reg_seq tok (orc := orcL []) (fz := []) (l := [2, 3, 6, 7, 8, 9, 10, 11, 12]) (c := _) (.inr fun i h => h) h (by kernel_rfl) (AllP.nil) ?_
        intro a w h
        obtain ⟨hc31, hF⟩ := of_if hF
        obtain ⟨hc32, hF⟩ := of_if hF
        obtain ⟨r30, hr33, hF⟩ := of_bind hF
        refine wp_regy tok (orc := orcL [(90, [⟨(.int .i64), r30⟩])]) (fz := []) (l := [2, 3, 6, 7, 8, 9, 10, 11]) (c := _) ([], [], [], []) 19 (.inr fun i h => h) h (by kernel_rfl) (by kernel_rfl) (AllP.cons hc31 (AllP.cons hc32 (AllP.cons (c186b k (List.getD x0.2.1 (Int.toNat (List.getD x0.1.2.1 (Int.toNat v27) ((0 : Int), ((0 : Int), ((0 : Int), ((0 : Int), ((0 : Int), (⟨#[]⟩ : ByteArray))))))).2.1) ([] : (List Int))) x0 v27 r1.1 r1.2 r30 hr33) AllP.nil))) ?_
        intro a w h
        exact ⟨(r30, (List.append v28 [v27]), (IntKind.i64.wrap (v29 + (List.getD x0.1.2.1 (Int.toNat v27) ((0 : Int), ((0 : Int), ((0 : Int), ((0 : Int), ((0 : Int), (⟨#[]⟩ : ByteArray))))))).2.2.2.2.1))), hF, h.arrive (fz := []) (l := [2, 3, 6, 7, 8, 9, 10, 11]) (.inr fun i h => h) (by kernel_rfl)⟩

def f119 (k : Nat) (x0 : ((List (Int × (Int × Int))) × ((List (Int × (Int × (Int × (Int × (Int × ByteArray)))))) × (List (Int × Int))))) (x1 : Int) (x2 : Int) : Option (Bool × ((List Int) × (Int × Int))) := (f79 k x0).bind fun r1 => (if (!r1) then (some (false, (([] : (List Int)), ((0 : Int), (0 : Int))))) else ((f80 k x0).bind fun r2 => ((f96 k r2 x1).bind fun r3 => ((if ((!r3) = false) then f96 k r2 x2 else some default).bind fun r4 => (if (bif (!r3) then true else (!r4)) then (some (false, (([] : (List Int)), ((0 : Int), (0 : Int))))) else ((f113 k r2 x1 x2).bind fun r5 => (some r5)))))))
set_option maxRecDepth 100000 in
/-- 'impl.BestPath'. -/
theorem c119 (k : Nat) (x0 : ((List (Int × (Int × Int))) × ((List (Int × (Int × (Int × (Int × (Int × ByteArray)))))) × (List (Int × Int))))) (x1 : Int) (x2 : Int) (r : (Bool × ((List Int) × (Int × Int)))) (hF : f119 k x0 x1 x2 = some r) : PCall Try.prog 119 [⟨sh12, x0⟩, ⟨(.int .i64), x1⟩, ⟨(.int .i64), x2⟩] [⟨sh22, r⟩] := by
  refine pcall_intro Try.func119 rfl rfl (Nat.le_of_ble_eq_true rfl) ?_
  intro w0 Zi a w h
  rw [f119] at hF
  refine wp_reg_seq tok (orc := orcL []) (fz := []) (l := [1, 2, 3, 6]) (c := _) (.inr fun i h => h) h (by kernel_rfl) (AllP.nil) ?_
  intro a w h
  refine wp_seq ?_
  obtain ⟨r1, hr10, hF⟩ := of_bind hF
  refine wp_reg_seq tok (orc := orcL [(9, [⟨.bool, r1⟩])]) (fz := []) (l := [1, 2, 3, 6, 10]) (c := _) (.inr fun i h => h) h (by kernel_rfl) (AllP.cons (c79 k x0 r1 hr10) AllP.nil) ?_
  intro a w h
  refine wp_if h (b := (!r1)) (by kernel_rfl) (fun hb => ?_) (fun hb => ?_)
  · replace hF := of_t hb hF
    refine wp_reg_seq tok (orc := orcL []) (fz := []) (l := [6]) (c := _) (.inr fun i h => h) h (by kernel_rfl) (AllP.nil) ?_
    intro a w h
    cases hF
    exact wp_ret (ret_okR tok h rfl (by kernel_rfl)).1
  · replace hF := of_f hb hF
    refine wp_skip ?_
    obtain ⟨r2, hr9, hF⟩ := of_bind hF
    refine wp_reg_seq tok (orc := orcL [(13, [⟨sh26, some r2⟩])]) (fz := []) (l := [1, 2, 6, 7]) (c := _) (.inr fun i h => h) h (by kernel_rfl) (AllP.cons (c80 k x0 r2 hr9) AllP.nil) ?_
    intro a w h
    refine wp_seq ?_
    obtain ⟨r3, hr7, hF⟩ := of_bind hF
    obtain ⟨r4, hr8, hF⟩ := of_bind hF
    refine wp_reg_seq tok (orc := orcL [(16, [⟨.bool, r3⟩]), (21, [⟨.bool, r4⟩])]) (fz := []) (l := [1, 2, 6, 7, 23]) (c := _) (.inr fun i h => h) h (by kernel_rfl) (AllP.cons (c96 k r2 x1 r3 hr7) (AllP.cons (fun (hg : ((!r3) = false)) => c96 k r2 x2 r4 (of_g hg hr8)) AllP.nil)) ?_
    intro a w h
    refine wp_if h (b := (bif (!r3) then true else (!r4))) (by kernel_rfl) (fun hb => ?_) (fun hb => ?_)
    · replace hF := of_t hb hF
      refine wp_reg_seq tok (orc := orcL []) (fz := []) (l := [6]) (c := _) (.inr fun i h => h) h (by kernel_rfl) (AllP.nil) ?_
      intro a w h
      cases hF
      exact wp_ret (ret_okR tok h rfl (by kernel_rfl)).1
    · replace hF := of_f hb hF
      refine wp_skip ?_
      obtain ⟨r5, hr6, hF⟩ := of_bind hF
      refine wp_reg_seq tok (orc := orcL [(28, [⟨sh22, r5⟩])]) (fz := []) (l := [6]) (c := _) (.inr fun i h => h) h (by kernel_rfl) (AllP.cons (c113 k r2 x1 x2 r5 hr6) AllP.nil) ?_
      intro a w h
      cases hF
      exact wp_ret (ret_okR tok h rfl (by kernel_rfl)).1

def f47.l82 (k : Nat) (r24 : ((List (Int × (Int × Int))) × ((List (Int × (Int × (Int × (Int × (Int × ByteArray)))))) × (List (Int × Int))))) (x4 : Int) (x1 : (List Int)) (x2 : Int) (x3 : Int) : Nat → (((List (Int × (Int × Int))) × ((List (Int × (Int × (Int × (Int × (Int × ByteArray)))))) × (List (Int × Int)))) × Int) → Option (Bool × ((List Int) × (Int × Int)))
  | 0, _ => none
  | m82 + 1, (v121, v122) => if (decide ((v122 : Int) < (List.length r24.2.1 : Int))) then (if (0 ≤ v122 ∧ v122 < (List.length v121.2.1 : Int)) then (if (((3600 : Int) : Int) ≠ 0) then (if (0 ≤ (IntKind.i64.wrap (Int.tdiv x4 (3600 : Int))) ∧ (IntKind.i64.wrap (Int.tdiv x4 (3600 : Int))) < (List.length x1 : Int)) then ((f118 k (List.getD v121.2.1 (Int.toNat v122) ((0 : Int), ((0 : Int), ((0 : Int), ((0 : Int), ((0 : Int), (⟨#[]⟩ : ByteArray))))))).2.2.2.1 (List.getD x1 (Int.toNat (IntKind.i64.wrap (Int.tdiv x4 (3600 : Int)))) (0 : Int))).bind fun r131 => (if (0 ≤ v122 ∧ v122 < (List.length v121.2.1 : Int)) then ((some ((List.set v121.2.1 (Int.toNat v122) ((List.getD v121.2.1 (Int.toNat v122) ((0 : Int), ((0 : Int), ((0 : Int), ((0 : Int), ((0 : Int), (⟨#[]⟩ : ByteArray))))))).1, ((List.getD v121.2.1 (Int.toNat v122) ((0 : Int), ((0 : Int), ((0 : Int), ((0 : Int), ((0 : Int), (⟨#[]⟩ : ByteArray))))))).2.1, ((List.getD v121.2.1 (Int.toNat v122) ((0 : Int), ((0 : Int), ((0 : Int), ((0 : Int), ((0 : Int), (⟨#[]⟩ : ByteArray))))))).2.2.1, (r131, (List.getD v121.2.1 (Int.toNat v122) ((0 : Int), ((0 : Int), ((0 : Int), ((0 : Int), ((0 : Int), (⟨#[]⟩ : ByteArray))))))).2.2.2.2))))) : (List (Int × (Int × (Int × (Int × (Int × ByteArray)))))))).bind fun v132 => ((f47.l82 k r24 x4 x1 x2 x3) m82 ((v121.1, (v132, v121.2.2)), (IntKind.i64.wrap (v122 + (1 : Int)))))) else none)) else none) else none) else none) else ((f119 k v121 x2 x3).bind fun r139 => (some r139))
def f47.l13 (k : Nat) (x1 : (List Int)) (x0 : ((List (Int × (Int × Int))) × ((List (Int × (Int × (Int × (Int × (Int × ByteArray)))))) × (List (Int × Int))))) (x4 : Int) (x2 : Int) (x3 : Int) : Nat → Int → Option (Bool × ((List Int) × (Int × Int)))
  | 0, _ => none
  | m13 + 1, v21 => if (decide ((v21 : Int) < (List.length x1 : Int))) then (if (0 ≤ v21 ∧ v21 < (List.length x1 : Int)) then (if (bif (decide (((List.getD x1 (Int.toNat v21) (0 : Int)) : Int) < (1 : Int))) then true else (decide (((List.getD x1 (Int.toNat v21) (0 : Int)) : Int) > (10000 : Int)))) then (some (false, (([] : (List Int)), ((0 : Int), (0 : Int))))) else ((f47.l13 k x1 x0 x4 x2 x3) m13 (IntKind.i64.wrap (v21 + (1 : Int))))) else none) else ((f117 k x0).bind fun r24 => (f47.l82 k r24 x4 x1 x2 x3 k (r24, (0 : Int))))
def f47 (k : Nat) (x0 : ((List (Int × (Int × Int))) × ((List (Int × (Int × (Int × (Int × (Int × ByteArray)))))) × (List (Int × Int))))) (x1 : (List Int)) (x2 : Int) (x3 : Int) (x4 : Int) : Option (Bool × ((List Int) × (Int × Int))) := (f79 k x0).bind fun r1 => (if (bif (bif (bif (!r1) then true else (((List.length x1 : Int) : Int) != (24 : Int))) then true else (decide ((x4 : Int) < (0 : Int)))) then true else (decide ((x4 : Int) > (86399 : Int)))) then (some (false, (([] : (List Int)), ((0 : Int), (0 : Int))))) else (f47.l13 k x1 x0 x4 x2 x3 k (0 : Int)))
set_option maxRecDepth 100000 in
/-- 'impl.Daily'. -/
theorem c47 (k : Nat) (x0 : ((List (Int × (Int × Int))) × ((List (Int × (Int × (Int × (Int × (Int × ByteArray)))))) × (List (Int × Int))))) (x1 : (List Int)) (x2 : Int) (x3 : Int) (x4 : Int) (r : (Bool × ((List Int) × (Int × Int)))) (hF : f47 k x0 x1 x2 x3 x4 = some r) : PCall Try.prog 47 [⟨sh12, x0⟩, ⟨(.sl false 2 (.int .i64)), x1⟩, ⟨(.int .i64), x2⟩, ⟨(.int .i64), x3⟩, ⟨(.int .i64), x4⟩] [⟨sh22, r⟩] := by
  refine pcall_intro Try.func47 rfl rfl (Nat.le_of_ble_eq_true rfl) ?_
  intro w0 Zi a w h
  rw [f47] at hF
  refine wp_reg_seq tok (orc := orcL []) (fz := []) (l := [1, 2, 3, 4, 5, 10]) (c := _) (.inr fun i h => h) h (by kernel_rfl) (AllP.nil) ?_
  intro a w h
  refine wp_seq ?_
  obtain ⟨r1, hr142, hF⟩ := of_bind hF
  refine wp_reg_seq tok (orc := orcL [(16, [⟨.bool, r1⟩])]) (fz := []) (l := [1, 2, 3, 4, 5, 10, 30]) (c := _) (.inr fun i h => h) h (by kernel_rfl) (AllP.cons (c79 k x0 r1 hr142) AllP.nil) ?_
  intro a w h
  refine wp_if h (b := (bif (bif (bif (!r1) then true else (((List.length x1 : Int) : Int) != (24 : Int))) then true else (decide ((x4 : Int) < (0 : Int)))) then true else (decide ((x4 : Int) > (86399 : Int))))) (by kernel_rfl) (fun hb => ?_) (fun hb => ?_)
  · replace hF := of_t hb hF
    refine wp_reg_seq tok (orc := orcL []) (fz := []) (l := [10]) (c := _) (.inr fun i h => h) h (by kernel_rfl) (AllP.nil) ?_
    intro a w h
    cases hF
    exact wp_ret (ret_okR tok h rfl (by kernel_rfl)).1
  · replace hF := of_f hb hF
    refine wp_skip ?_
    refine wp_seq ?_
    refine wp_reg_seq tok (orc := orcL []) (fz := []) (l := [1, 2, 3, 4, 5, 10, 32, 33, 34]) (c := _) (.inr fun i h => h) h (by kernel_rfl) (AllP.nil) ?_
    intro a w h
    refine wp_block ?_
    refine wp_loop_fuel (f47.l13 k x1 x0 x4 x2 x3) (fun (v21 : Int) => [(1, .val (.sl false 2 (.int .i64)) x1), (2, .val (.int .i64) x2), (3, .val (.int .i64) x3), (4, .val (.int .i64) x4), (5, .val sh11 (some x0)), (10, .val sh13 (some (false, (([] : (List Int)), ((0 : Int), (0 : Int)))))), (32, .val (.sl false 2 (.int .i64)) x1), (33, .val (.int .i64) (List.length x1 : Int)), (34, .val (.int .i64) v21)]) (fun v h => by rw [f47.l13] at h; cases h) ?_ hF (h.arrive (fz := []) (l := [1, 2, 3, 4, 5, 10, 32, 33, 34]) (.inr fun i h => h) (by kernel_rfl))
    intro m13 v21 a w hF h
    rw [f47.l13] at hF
    refine wp_reg_seq tok (orc := orcL []) (fz := []) (l := [1, 2, 3, 4, 5, 10, 32, 33, 34, 35]) (c := _) (.inr fun i h => h) h (by kernel_rfl) (AllP.nil) ?_
    intro a w h
    refine wp_seq <| wp_if h (b := (decide ((v21 : Int) < (List.length x1 : Int)))) (by kernel_rfl) (fun hb => ?_) (fun hb => ?_)
    · replace hF := of_t hb hF
      refine wp_skip ?_
      refine wp_seq <| wp_block ?_
      obtain ⟨hc23, hF⟩ := of_if hF
      refine wp_reg_seq tok (orc := orcL []) (fz := []) (l := [1, 2, 3, 4, 5, 10, 12, 32, 33, 34]) (c := _) (.inr fun i h => h) h (by kernel_rfl) (AllP.cons hc23 AllP.nil) ?_
      intro a w h
      refine wp_reg_seq tok (orc := orcL []) (fz := []) (l := [1, 2, 3, 4, 5, 10, 32, 33, 34, 43]) (c := _) (.inr fun i h => h) h (by kernel_rfl) (AllP.nil) ?_
      intro a w h
      refine wp_if h (b := (bif (decide (((List.getD x1 (Int.toNat v21) (0 : Int)) : Int) < (1 : Int))) then true else (decide (((List.getD x1 (Int.toNat v21) (0 : Int)) : Int) > (10000 : Int))))) (by kernel_rfl) (fun hb => ?_) (fun hb => ?_)
      · replace hF := of_t hb hF
        refine wp_reg_seq tok (orc := orcL []) (fz := []) (l := [10]) (c := _) (.inr fun i h => h) h (by kernel_rfl) (AllP.nil) ?_
        intro a w h
        cases hF
        exact wp_ret (ret_okR tok h rfl (by kernel_rfl)).1
      · replace hF := of_f hb hF
        refine wp_skip ?_
        refine wp_reg tok (orc := orcL []) (fz := []) (l := [1, 2, 3, 4, 5, 10, 32, 33, 34]) (c := _) (.inr fun i h => h) h (by kernel_rfl) (AllP.nil) ?_
        intro a w h
        exact ⟨(IntKind.i64.wrap (v21 + (1 : Int))), hF, h.arrive (fz := []) (l := [1, 2, 3, 4, 5, 10, 32, 33, 34]) (.inr fun i h => h) (by kernel_rfl)⟩
    · replace hF := of_f hb hF
      refine wp_exit ?_
      obtain ⟨r24, hr141, hF⟩ := of_bind hF
      refine wp_reg_seq tok (orc := orcL [(47, [⟨sh10, r24⟩])]) (fz := []) (l := [1, 2, 3, 4, 10, 13]) (c := _) (.inr fun i h => h) h (by kernel_rfl) (AllP.cons (c117 k x0 r24 hr141) AllP.nil) ?_
      intro a w h
      refine wp_seq ?_
      refine wp_reg_seq tok (orc := orcL []) (fz := []) (l := [1, 2, 3, 4, 10, 13, 50, 51]) (c := _) (.inr fun i h => h) h (by kernel_rfl) (AllP.nil) ?_
      intro a w h
      refine wp_block ?_
      refine wp_loop_fuel (f47.l82 k r24 x4 x1 x2 x3) (fun ((v121, v122) : (((List (Int × (Int × Int))) × ((List (Int × (Int × (Int × (Int × (Int × ByteArray)))))) × (List (Int × Int)))) × Int)) => [(1, .val (.sl false 2 (.int .i64)) x1), (2, .val (.int .i64) x2), (3, .val (.int .i64) x3), (4, .val (.int .i64) x4), (10, .val sh13 (some (false, (([] : (List Int)), ((0 : Int), (0 : Int)))))), (13, .val sh14 (some v121)), (50, .val (.int .i64) (List.length r24.2.1 : Int)), (51, .val (.int .i64) v122)]) (fun v h => by obtain ⟨v121, v122⟩ := v; rw [f47.l82] at h; cases h) ?_ hF (h.arrive (fz := []) (l := [1, 2, 3, 4, 10, 13, 50, 51]) (.inr fun i h => h) (by kernel_rfl))
      intro m82 v a w hF h
      obtain ⟨v121, v122⟩ := v
      rw [f47.l82] at hF
      refine wp_reg_seq tok (orc := orcL []) (fz := []) (l := [1, 2, 3, 4, 10, 13, 50, 51, 52]) (c := _) (.inr fun i h => h) h (by kernel_rfl) (AllP.nil) ?_
      intro a w h
      refine wp_seq <| wp_if h (b := (decide ((v122 : Int) < (List.length r24.2.1 : Int)))) (by kernel_rfl) (fun hb => ?_) (fun hb => ?_)
      · replace hF := of_t hb hF
        refine wp_skip ?_
        refine wp_seq <| wp_block ?_
        refine wp_reg_seq tok (orc := orcL []) (fz := []) (l := [1, 2, 3, 4, 10, 13, 14, 50, 51]) (c := _) (.inr fun i h => h) h (by kernel_rfl) (AllP.nil) ?_
        intro a w h
        obtain ⟨hc134, hF⟩ := of_if hF
        obtain ⟨hc135, hF⟩ := of_if hF
        obtain ⟨hc136, hF⟩ := of_if hF
        obtain ⟨r131, hr137, hF⟩ := of_bind hF
        obtain ⟨hc138, hF⟩ := of_if hF
        refine wp_regy tok (orc := orcL [(68, [⟨(.int .i64), r131⟩])]) (fz := []) (l := [1, 2, 3, 4, 10, 13, 50, 51]) (c := _) ([], [], [], []) 17 (.inr fun i h => h) h (by kernel_rfl) (by kernel_rfl) (AllP.cons hc134 (AllP.cons hc135 (AllP.cons hc136 (AllP.cons (c118 k (List.getD v121.2.1 (Int.toNat v122) ((0 : Int), ((0 : Int), ((0 : Int), ((0 : Int), ((0 : Int), (⟨#[]⟩ : ByteArray))))))).2.2.2.1 (List.getD x1 (Int.toNat (IntKind.i64.wrap (Int.tdiv x4 (3600 : Int)))) (0 : Int)) r131 hr137) (AllP.cons hc138 AllP.nil))))) ?_
        intro a w h
        obtain ⟨v132, hv133, hF⟩ := of_bind hF
        replace h := h.cast (S' := [(1, .val (.sl false 2 (.int .i64)) x1), (2, .val (.int .i64) x2), (3, .val (.int .i64) x3), (4, .val (.int .i64) x4), (10, .val sh13 (some (false, (([] : (List Int)), ((0 : Int), (0 : Int)))))), (13, .val sh14 (some (v121.1, (v132, v121.2.2)))), (50, .val (.int .i64) (List.length r24.2.1 : Int)), (51, .val (.int .i64) v122)]) (by cases hv133; kernel_rfl)
        refine wp_reg tok (orc := orcL []) (fz := []) (l := [1, 2, 3, 4, 10, 13, 50, 51]) (c := _) (.inr fun i h => h) h (by kernel_rfl) (AllP.nil) ?_
        intro a w h
        exact ⟨((v121.1, (v132, v121.2.2)), (IntKind.i64.wrap (v122 + (1 : Int)))), hF, h.arrive (fz := []) (l := [1, 2, 3, 4, 10, 13, 50, 51]) (.inr fun i h => h) (by kernel_rfl)⟩
      · replace hF := of_f hb hF
        refine wp_exit ?_
        obtain ⟨r139, hr140, hF⟩ := of_bind hF
        refine wp_reg_seq tok (orc := orcL [(75, [⟨sh22, r139⟩])]) (fz := []) (l := [10]) (c := _) (.inr fun i h => h) h (by kernel_rfl) (AllP.cons (c119 k v121 x2 x3 r139 hr140) AllP.nil) ?_
        intro a w h
        cases hF
        exact wp_ret (ret_okR tok h rfl (by kernel_rfl)).1

def f21.l18 (k : Nat) (x0 : (List Int)) (x1 : (List Int)) : Nat → Int → Option Bool
  | 0, _ => none
  | m18 + 1, v30 => if (decide ((v30 : Int) < (List.length x0 : Int))) then (if (0 ≤ v30 ∧ v30 < (List.length x0 : Int)) then (if (0 ≤ v30 ∧ v30 < (List.length x1 : Int)) then (if (((List.getD x0 (Int.toNat v30) (0 : Int)) : Int) != (List.getD x1 (Int.toNat v30) (0 : Int))) then (some false) else ((f21.l18 k x0 x1) m18 (IntKind.i64.wrap (v30 + (1 : Int))))) else none) else none) else (some true)
def f21 (k : Nat) (x0 : (List Int)) (x1 : (List Int)) : Option Bool := if (((List.length x0 : Int) : Int) != (List.length x1 : Int)) then (some false) else (f21.l18 k x0 x1 k (0 : Int))
set_option maxRecDepth 100000 in
/-- 'laws.eqInt64S'. -/
theorem c21 (k : Nat) (x0 : (List Int)) (x1 : (List Int)) (r : Bool) (hF : f21 k x0 x1 = some r) : PCall Try.prog 21 [⟨(.sl false 2 (.int .i64)), x0⟩, ⟨(.sl false 2 (.int .i64)), x1⟩] [⟨.bool, r⟩] := by
  refine pcall_intro Try.func21 rfl rfl (Nat.le_of_ble_eq_true rfl) ?_
  intro w0 Zi a w h
  rw [f21] at hF
  refine wp_reg_seq tok (orc := orcL []) (fz := []) (l := [0, 1]) (c := _) (.inr fun i h => h) h (by kernel_rfl) (AllP.nil) ?_
  intro a w h
  refine wp_seq ?_
  refine wp_reg_seq tok (orc := orcL []) (fz := []) (l := [0, 1, 10]) (c := _) (.inr fun i h => h) h (by kernel_rfl) (AllP.nil) ?_
  intro a w h
  refine wp_if h (b := (((List.length x0 : Int) : Int) != (List.length x1 : Int))) (by kernel_rfl) (fun hb => ?_) (fun hb => ?_)
  · replace hF := of_t hb hF
    refine wp_reg_seq tok (orc := orcL []) (fz := []) (l := [4]) (c := _) (.inr fun i h => h) h (by kernel_rfl) (AllP.nil) ?_
    intro a w h
    cases hF
    exact wp_ret (ret_okR tok h rfl (by kernel_rfl)).1
  · replace hF := of_f hb hF
    refine wp_skip ?_
    refine wp_seq ?_
    refine wp_reg_seq tok (orc := orcL []) (fz := []) (l := [0, 1, 5]) (c := _) (.inr fun i h => h) h (by kernel_rfl) (AllP.nil) ?_
    intro a w h
    refine wp_block ?_
    refine wp_loop_fuel (f21.l18 k x0 x1) (fun (v30 : Int) => [(0, .val (.sl false 2 (.int .i64)) x0), (1, .val (.sl false 2 (.int .i64)) x1), (5, .val (.int .i64) v30)]) (fun v h => by rw [f21.l18] at h; cases h) ?_ hF (h.arrive (fz := []) (l := [0, 1, 5]) (.inr fun i h => h) (by kernel_rfl))
    intro m18 v30 a w hF h
    rw [f21.l18] at hF
    refine wp_seq ?_
    refine wp_reg_seq tok (orc := orcL []) (fz := []) (l := [0, 1, 5, 14]) (c := _) (.inr fun i h => h) h (by kernel_rfl) (AllP.nil) ?_
    intro a w h
    refine wp_if h (b := (decide ((v30 : Int) < (List.length x0 : Int)))) (by kernel_rfl) (fun hb => ?_) (fun hb => ?_)
    · replace hF := of_t hb hF
      refine wp_skip ?_
      refine wp_seq <| wp_block ?_
      obtain ⟨hc33, hF⟩ := of_if hF
      obtain ⟨hc34, hF⟩ := of_if hF
      refine wp_regy_seq tok (orc := orcL []) (fz := []) (l := [0, 1, 5, 25]) (c := _) ([], [], [], []) 9 (.inr fun i h => h) h (by kernel_rfl) (by kernel_rfl) (AllP.cons hc33 (AllP.cons hc34 AllP.nil)) ?_
      intro a w h
      refine wp_if h (b := (((List.getD x0 (Int.toNat v30) (0 : Int)) : Int) != (List.getD x1 (Int.toNat v30) (0 : Int)))) (by kernel_rfl) (fun hb => ?_) (fun hb => ?_)
      · replace hF := of_t hb hF
        refine wp_reg_seq tok (orc := orcL []) (fz := []) (l := [4]) (c := _) (.inr fun i h => h) h (by kernel_rfl) (AllP.nil) ?_
        intro a w h
        cases hF
        exact wp_ret (ret_okR tok h rfl (by kernel_rfl)).1
      · replace hF := of_f hb hF
        refine wp_skip ?_
        refine wp_reg tok (orc := orcL []) (fz := []) (l := [0, 1, 5]) (c := _) (.inr fun i h => h) h (by kernel_rfl) (AllP.nil) ?_
        intro a w h
        exact ⟨(IntKind.i64.wrap (v30 + (1 : Int))), hF, h.arrive (fz := []) (l := [0, 1, 5]) (.inr fun i h => h) (by kernel_rfl)⟩
    · replace hF := of_f hb hF
      refine wp_exit ?_
      refine wp_reg_seq tok (orc := orcL []) (fz := []) (l := [4]) (c := _) (.inr fun i h => h) h (by kernel_rfl) (AllP.nil) ?_
      intro a w h
      cases hF
      exact wp_ret (ret_okR tok h rfl (by kernel_rfl)).1

def f43 (k : Nat) (x0 : (Bool × ((List Int) × (Int × Int)))) (x1 : (Bool × ((List Int) × (Int × Int)))) : Option Bool := if (!((x0.1 : Bool) == x1.1)) then (some false) else ((f21 k x0.2.1 x1.2.1).bind fun r1 => (if (!r1) then (some false) else (if ((x0.2.2.1 : Int) != x1.2.2.1) then (some false) else (if ((x0.2.2.2 : Int) != x1.2.2.2) then (some false) else (some true)))))
set_option maxRecDepth 100000 in
/-- 'laws.eqPath'. -/
theorem c43 (k : Nat) (x0 : (Bool × ((List Int) × (Int × Int)))) (x1 : (Bool × ((List Int) × (Int × Int)))) (r : Bool) (hF : f43 k x0 x1 = some r) : PCall Try.prog 43 [⟨sh36, x0⟩, ⟨sh36, x1⟩] [⟨.bool, r⟩] := by
  refine pcall_intro Try.func43 rfl rfl (Nat.le_of_ble_eq_true rfl) ?_
  intro w0 Zi a w h
  rw [f43] at hF
  refine wp_reg_seq tok (orc := orcL []) (fz := []) (l := [2, 3]) (c := _) (.inr fun i h => h) h (by kernel_rfl) (AllP.nil) ?_
  intro a w h
  refine wp_seq ?_
  refine wp_reg_seq tok (orc := orcL []) (fz := []) (l := [2, 3, 9]) (c := _) (.inr fun i h => h) h (by kernel_rfl) (AllP.nil) ?_
  intro a w h
  refine wp_if h (b := (!((x0.1 : Bool) == x1.1))) (by kernel_rfl) (fun hb => ?_) (fun hb => ?_)
  · replace hF := of_t hb hF
    refine wp_reg_seq tok (orc := orcL []) (fz := []) (l := [4]) (c := _) (.inr fun i h => h) h (by kernel_rfl) (AllP.nil) ?_
    intro a w h
    cases hF
    exact wp_ret (ret_okR tok h rfl (by kernel_rfl)).1
  · replace hF := of_f hb hF
    refine wp_skip ?_
    refine wp_seq ?_
    obtain ⟨r1, hr2, hF⟩ := of_bind hF
    refine wp_reg_seq tok (orc := orcL [(14, [⟨.bool, r1⟩])]) (fz := []) (l := [2, 3, 15]) (c := _) (.inr fun i h => h) h (by kernel_rfl) (AllP.cons (c21 k x0.2.1 x1.2.1 r1 hr2) AllP.nil) ?_
    intro a w h
    refine wp_if h (b := (!r1)) (by kernel_rfl) (fun hb => ?_) (fun hb => ?_)
    · replace hF := of_t hb hF
      refine wp_reg_seq tok (orc := orcL []) (fz := []) (l := [4]) (c := _) (.inr fun i h => h) h (by kernel_rfl) (AllP.nil) ?_
      intro a w h
      cases hF
      exact wp_ret (ret_okR tok h rfl (by kernel_rfl)).1
    · replace hF := of_f hb hF
      refine wp_skip ?_
      refine wp_seq ?_
      refine wp_reg_seq tok (orc := orcL []) (fz := []) (l := [2, 3, 20]) (c := _) (.inr fun i h => h) h (by kernel_rfl) (AllP.nil) ?_
      intro a w h
      refine wp_if h (b := ((x0.2.2.1 : Int) != x1.2.2.1)) (by kernel_rfl) (fun hb => ?_) (fun hb => ?_)
      · replace hF := of_t hb hF
        refine wp_reg_seq tok (orc := orcL []) (fz := []) (l := [4]) (c := _) (.inr fun i h => h) h (by kernel_rfl) (AllP.nil) ?_
        intro a w h
        cases hF
        exact wp_ret (ret_okR tok h rfl (by kernel_rfl)).1
      · replace hF := of_f hb hF
        refine wp_skip ?_
        refine wp_seq ?_
        refine wp_reg_seq tok (orc := orcL []) (fz := []) (l := [25]) (c := _) (.inr fun i h => h) h (by kernel_rfl) (AllP.nil) ?_
        intro a w h
        refine wp_if h (b := ((x0.2.2.2 : Int) != x1.2.2.2)) (by kernel_rfl) (fun hb => ?_) (fun hb => ?_)
        · replace hF := of_t hb hF
          refine wp_reg_seq tok (orc := orcL []) (fz := []) (l := [4]) (c := _) (.inr fun i h => h) h (by kernel_rfl) (AllP.nil) ?_
          intro a w h
          cases hF
          exact wp_ret (ret_okR tok h rfl (by kernel_rfl)).1
        · replace hF := of_f hb hF
          refine wp_skip ?_
          refine wp_reg_seq tok (orc := orcL []) (fz := []) (l := [4]) (c := _) (.inr fun i h => h) h (by kernel_rfl) (AllP.nil) ?_
          intro a w h
          cases hF
          exact wp_ret (ret_okR tok h rfl (by kernel_rfl)).1

def f222 (k : Nat) (x0 : (Int × Int)) (x1 : (Int × Int)) : Option Bool := if ((x0.1 : Int) != x1.1) then (some false) else (if ((x0.2 : Int) != x1.2) then (some false) else (some true))
set_option maxRecDepth 100000 in
/-- 'laws.eqPoint'. -/
theorem c222 (k : Nat) (x0 : (Int × Int)) (x1 : (Int × Int)) (r : Bool) (hF : f222 k x0 x1 = some r) : PCall Try.prog 222 [⟨sh5, x0⟩, ⟨sh5, x1⟩] [⟨.bool, r⟩] := by
  refine pcall_intro Try.func222 rfl rfl (Nat.le_of_ble_eq_true rfl) ?_
  intro w0 Zi a w h
  rw [f222] at hF
  refine wp_reg_seq tok (orc := orcL []) (fz := []) (l := [2, 3]) (c := _) (.inr fun i h => h) h (by kernel_rfl) (AllP.nil) ?_
  intro a w h
  refine wp_seq ?_
  refine wp_reg_seq tok (orc := orcL []) (fz := []) (l := [2, 3, 9]) (c := _) (.inr fun i h => h) h (by kernel_rfl) (AllP.nil) ?_
  intro a w h
  refine wp_if h (b := ((x0.1 : Int) != x1.1)) (by kernel_rfl) (fun hb => ?_) (fun hb => ?_)
  · replace hF := of_t hb hF
    refine wp_reg_seq tok (orc := orcL []) (fz := []) (l := [4]) (c := _) (.inr fun i h => h) h (by kernel_rfl) (AllP.nil) ?_
    intro a w h
    cases hF
    exact wp_ret (ret_okR tok h rfl (by kernel_rfl)).1
  · replace hF := of_f hb hF
    refine wp_skip ?_
    refine wp_seq ?_
    refine wp_reg_seq tok (orc := orcL []) (fz := []) (l := [14]) (c := _) (.inr fun i h => h) h (by kernel_rfl) (AllP.nil) ?_
    intro a w h
    refine wp_if h (b := ((x0.2 : Int) != x1.2)) (by kernel_rfl) (fun hb => ?_) (fun hb => ?_)
    · replace hF := of_t hb hF
      refine wp_reg_seq tok (orc := orcL []) (fz := []) (l := [4]) (c := _) (.inr fun i h => h) h (by kernel_rfl) (AllP.nil) ?_
      intro a w h
      cases hF
      exact wp_ret (ret_okR tok h rfl (by kernel_rfl)).1
    · replace hF := of_f hb hF
      refine wp_skip ?_
      refine wp_reg_seq tok (orc := orcL []) (fz := []) (l := [4]) (c := _) (.inr fun i h => h) h (by kernel_rfl) (AllP.nil) ?_
      intro a w h
      cases hF
      exact wp_ret (ret_okR tok h rfl (by kernel_rfl)).1

def f174 (k : Nat) (x0 : (Int × (Int × Int))) (x1 : (Int × (Int × Int))) : Option Bool := if ((x0.1 : Int) != x1.1) then (some false) else ((f222 k x0.2 x1.2).bind fun r1 => (if (!r1) then (some false) else (some true)))
set_option maxRecDepth 100000 in
/-- 'laws.eqSpot'. -/
theorem c174 (k : Nat) (x0 : (Int × (Int × Int))) (x1 : (Int × (Int × Int))) (r : Bool) (hF : f174 k x0 x1 = some r) : PCall Try.prog 174 [⟨sh6, x0⟩, ⟨sh6, x1⟩] [⟨.bool, r⟩] := by
  refine pcall_intro Try.func174 rfl rfl (Nat.le_of_ble_eq_true rfl) ?_
  intro w0 Zi a w h
  rw [f174] at hF
  refine wp_reg_seq tok (orc := orcL []) (fz := []) (l := [2, 3]) (c := _) (.inr fun i h => h) h (by kernel_rfl) (AllP.nil) ?_
  intro a w h
  refine wp_seq ?_
  refine wp_reg_seq tok (orc := orcL []) (fz := []) (l := [2, 3, 9]) (c := _) (.inr fun i h => h) h (by kernel_rfl) (AllP.nil) ?_
  intro a w h
  refine wp_if h (b := ((x0.1 : Int) != x1.1)) (by kernel_rfl) (fun hb => ?_) (fun hb => ?_)
  · replace hF := of_t hb hF
    refine wp_reg_seq tok (orc := orcL []) (fz := []) (l := [4]) (c := _) (.inr fun i h => h) h (by kernel_rfl) (AllP.nil) ?_
    intro a w h
    cases hF
    exact wp_ret (ret_okR tok h rfl (by kernel_rfl)).1
  · replace hF := of_f hb hF
    refine wp_skip ?_
    refine wp_seq ?_
    obtain ⟨r1, hr2, hF⟩ := of_bind hF
    refine wp_reg_seq tok (orc := orcL [(14, [⟨.bool, r1⟩])]) (fz := []) (l := [15]) (c := _) (.inr fun i h => h) h (by kernel_rfl) (AllP.cons (c222 k x0.2 x1.2 r1 hr2) AllP.nil) ?_
    intro a w h
    refine wp_if h (b := (!r1)) (by kernel_rfl) (fun hb => ?_) (fun hb => ?_)
    · replace hF := of_t hb hF
      refine wp_reg_seq tok (orc := orcL []) (fz := []) (l := [4]) (c := _) (.inr fun i h => h) h (by kernel_rfl) (AllP.nil) ?_
      intro a w h
      cases hF
      exact wp_ret (ret_okR tok h rfl (by kernel_rfl)).1
    · replace hF := of_f hb hF
      refine wp_skip ?_
      refine wp_reg_seq tok (orc := orcL []) (fz := []) (l := [4]) (c := _) (.inr fun i h => h) h (by kernel_rfl) (AllP.nil) ?_
      intro a w h
      cases hF
      exact wp_ret (ret_okR tok h rfl (by kernel_rfl)).1

def f85.l30 (k : Nat) (x0 : (List (Int × (Int × Int)))) (x1 : (List (Int × (Int × Int)))) : Nat → Int → Option Bool
  | 0, _ => none
  | m30 + 1, v50 => if (decide ((v50 : Int) < (List.length x0 : Int))) then (if (0 ≤ v50 ∧ v50 < (List.length x0 : Int)) then (if (0 ≤ v50 ∧ v50 < (List.length x1 : Int)) then ((f174 k (List.getD x0 (Int.toNat v50) ((0 : Int), ((0 : Int), (0 : Int)))) (List.getD x1 (Int.toNat v50) ((0 : Int), ((0 : Int), (0 : Int))))).bind fun r55 => (if (!r55) then (some false) else ((f85.l30 k x0 x1) m30 (IntKind.i64.wrap (v50 + (1 : Int)))))) else none) else none) else (some true)
def f85 (k : Nat) (x0 : (List (Int × (Int × Int)))) (x1 : (List (Int × (Int × Int)))) : Option Bool := if (((List.length x0 : Int) : Int) != (List.length x1 : Int)) then (some false) else (f85.l30 k x0 x1 k (0 : Int))
set_option maxRecDepth 100000 in
/-- 'laws.eqSpotS'. -/
theorem c85 (k : Nat) (x0 : (List (Int × (Int × Int)))) (x1 : (List (Int × (Int × Int)))) (r : Bool) (hF : f85 k x0 x1 = some r) : PCall Try.prog 85 [⟨sh23, x0⟩, ⟨sh23, x1⟩] [⟨.bool, r⟩] := by
  refine pcall_intro Try.func85 rfl rfl (Nat.le_of_ble_eq_true rfl) ?_
  intro w0 Zi a w h
  rw [f85] at hF
  refine wp_reg_seq tok (orc := orcL []) (fz := []) (l := [0, 1]) (c := _) (.inr fun i h => h) h (by kernel_rfl) (AllP.nil) ?_
  intro a w h
  refine wp_seq ?_
  refine wp_reg_seq tok (orc := orcL []) (fz := []) (l := [0, 1, 10]) (c := _) (.inr fun i h => h) h (by kernel_rfl) (AllP.nil) ?_
  intro a w h
  refine wp_if h (b := (((List.length x0 : Int) : Int) != (List.length x1 : Int))) (by kernel_rfl) (fun hb => ?_) (fun hb => ?_)
  · replace hF := of_t hb hF
    refine wp_reg_seq tok (orc := orcL []) (fz := []) (l := [4]) (c := _) (.inr fun i h => h) h (by kernel_rfl) (AllP.nil) ?_
    intro a w h
    cases hF
    exact wp_ret (ret_okR tok h rfl (by kernel_rfl)).1
  · replace hF := of_f hb hF
    refine wp_skip ?_
    refine wp_seq ?_
    refine wp_reg_seq tok (orc := orcL []) (fz := []) (l := [0, 1, 5]) (c := _) (.inr fun i h => h) h (by kernel_rfl) (AllP.nil) ?_
    intro a w h
    refine wp_block ?_
    refine wp_loop_fuel (f85.l30 k x0 x1) (fun (v50 : Int) => [(0, .val sh23 x0), (1, .val sh23 x1), (5, .val (.int .i64) v50)]) (fun v h => by rw [f85.l30] at h; cases h) ?_ hF (h.arrive (fz := []) (l := [0, 1, 5]) (.inr fun i h => h) (by kernel_rfl))
    intro m30 v50 a w hF h
    rw [f85.l30] at hF
    refine wp_seq ?_
    refine wp_reg_seq tok (orc := orcL []) (fz := []) (l := [0, 1, 5, 14]) (c := _) (.inr fun i h => h) h (by kernel_rfl) (AllP.nil) ?_
    intro a w h
    refine wp_if h (b := (decide ((v50 : Int) < (List.length x0 : Int)))) (by kernel_rfl) (fun hb => ?_) (fun hb => ?_)
    · replace hF := of_t hb hF
      refine wp_skip ?_
      refine wp_seq <| wp_block ?_
      obtain ⟨hc56, hF⟩ := of_if hF
      obtain ⟨hc57, hF⟩ := of_if hF
      obtain ⟨r55, hr58, hF⟩ := of_bind hF
      refine wp_regy_seq tok (orc := orcL [(25, [⟨.bool, r55⟩])]) (fz := []) (l := [0, 1, 5, 26]) (c := _) ([], [], [], []) 10 (.inr fun i h => h) h (by kernel_rfl) (by kernel_rfl) (AllP.cons hc56 (AllP.cons hc57 (AllP.cons (c174 k (List.getD x0 (Int.toNat v50) ((0 : Int), ((0 : Int), (0 : Int)))) (List.getD x1 (Int.toNat v50) ((0 : Int), ((0 : Int), (0 : Int)))) r55 hr58) AllP.nil))) ?_
      intro a w h
      refine wp_if h (b := (!r55)) (by kernel_rfl) (fun hb => ?_) (fun hb => ?_)
      · replace hF := of_t hb hF
        refine wp_reg_seq tok (orc := orcL []) (fz := []) (l := [4]) (c := _) (.inr fun i h => h) h (by kernel_rfl) (AllP.nil) ?_
        intro a w h
        cases hF
        exact wp_ret (ret_okR tok h rfl (by kernel_rfl)).1
      · replace hF := of_f hb hF
        refine wp_skip ?_
        refine wp_reg tok (orc := orcL []) (fz := []) (l := [0, 1, 5]) (c := _) (.inr fun i h => h) h (by kernel_rfl) (AllP.nil) ?_
        intro a w h
        exact ⟨(IntKind.i64.wrap (v50 + (1 : Int))), hF, h.arrive (fz := []) (l := [0, 1, 5]) (.inr fun i h => h) (by kernel_rfl)⟩
    · replace hF := of_f hb hF
      refine wp_exit ?_
      refine wp_reg_seq tok (orc := orcL []) (fz := []) (l := [4]) (c := _) (.inr fun i h => h) h (by kernel_rfl) (AllP.nil) ?_
      intro a w h
      cases hF
      exact wp_ret (ret_okR tok h rfl (by kernel_rfl)).1

def f175 (k : Nat) (x0 : (Int × (Int × (Int × (Int × (Int × ByteArray)))))) (x1 : (Int × (Int × (Int × (Int × (Int × ByteArray)))))) : Option Bool := if ((x0.1 : Int) != x1.1) then (some false) else (if ((x0.2.1 : Int) != x1.2.1) then (some false) else (if ((x0.2.2.1 : Int) != x1.2.2.1) then (some false) else (if ((x0.2.2.2.1 : Int) != x1.2.2.2.1) then (some false) else (if ((x0.2.2.2.2.1 : Int) != x1.2.2.2.2.1) then (some false) else (if (!(ByteArray.toList x0.2.2.2.2.2 == ByteArray.toList x1.2.2.2.2.2)) then (some false) else (some true))))))
set_option maxRecDepth 100000 in
/-- 'laws.eqRoad'. -/
theorem c175 (k : Nat) (x0 : (Int × (Int × (Int × (Int × (Int × ByteArray)))))) (x1 : (Int × (Int × (Int × (Int × (Int × ByteArray)))))) (r : Bool) (hF : f175 k x0 x1 = some r) : PCall Try.prog 175 [⟨sh1, x0⟩, ⟨sh1, x1⟩] [⟨.bool, r⟩] := by
  refine pcall_intro Try.func175 rfl rfl (Nat.le_of_ble_eq_true rfl) ?_
  intro w0 Zi a w h
  rw [f175] at hF
  refine wp_reg_seq tok (orc := orcL []) (fz := []) (l := [2, 3]) (c := _) (.inr fun i h => h) h (by kernel_rfl) (AllP.nil) ?_
  intro a w h
  refine wp_seq ?_
  refine wp_reg_seq tok (orc := orcL []) (fz := []) (l := [2, 3, 9]) (c := _) (.inr fun i h => h) h (by kernel_rfl) (AllP.nil) ?_
  intro a w h
  refine wp_if h (b := ((x0.1 : Int) != x1.1)) (by kernel_rfl) (fun hb => ?_) (fun hb => ?_)
  · replace hF := of_t hb hF
    refine wp_reg_seq tok (orc := orcL []) (fz := []) (l := [4]) (c := _) (.inr fun i h => h) h (by kernel_rfl) (AllP.nil) ?_
    intro a w h
    cases hF
    exact wp_ret (ret_okR tok h rfl (by kernel_rfl)).1
  · replace hF := of_f hb hF
    refine wp_skip ?_
    refine wp_seq ?_
    refine wp_reg_seq tok (orc := orcL []) (fz := []) (l := [2, 3, 14]) (c := _) (.inr fun i h => h) h (by kernel_rfl) (AllP.nil) ?_
    intro a w h
    refine wp_if h (b := ((x0.2.1 : Int) != x1.2.1)) (by kernel_rfl) (fun hb => ?_) (fun hb => ?_)
    · replace hF := of_t hb hF
      refine wp_reg_seq tok (orc := orcL []) (fz := []) (l := [4]) (c := _) (.inr fun i h => h) h (by kernel_rfl) (AllP.nil) ?_
      intro a w h
      cases hF
      exact wp_ret (ret_okR tok h rfl (by kernel_rfl)).1
    · replace hF := of_f hb hF
      refine wp_skip ?_
      refine wp_seq ?_
      refine wp_reg_seq tok (orc := orcL []) (fz := []) (l := [2, 3, 19]) (c := _) (.inr fun i h => h) h (by kernel_rfl) (AllP.nil) ?_
      intro a w h
      refine wp_if h (b := ((x0.2.2.1 : Int) != x1.2.2.1)) (by kernel_rfl) (fun hb => ?_) (fun hb => ?_)
      · replace hF := of_t hb hF
        refine wp_reg_seq tok (orc := orcL []) (fz := []) (l := [4]) (c := _) (.inr fun i h => h) h (by kernel_rfl) (AllP.nil) ?_
        intro a w h
        cases hF
        exact wp_ret (ret_okR tok h rfl (by kernel_rfl)).1
      · replace hF := of_f hb hF
        refine wp_skip ?_
        refine wp_seq ?_
        refine wp_reg_seq tok (orc := orcL []) (fz := []) (l := [2, 3, 24]) (c := _) (.inr fun i h => h) h (by kernel_rfl) (AllP.nil) ?_
        intro a w h
        refine wp_if h (b := ((x0.2.2.2.1 : Int) != x1.2.2.2.1)) (by kernel_rfl) (fun hb => ?_) (fun hb => ?_)
        · replace hF := of_t hb hF
          refine wp_reg_seq tok (orc := orcL []) (fz := []) (l := [4]) (c := _) (.inr fun i h => h) h (by kernel_rfl) (AllP.nil) ?_
          intro a w h
          cases hF
          exact wp_ret (ret_okR tok h rfl (by kernel_rfl)).1
        · replace hF := of_f hb hF
          refine wp_skip ?_
          refine wp_seq ?_
          refine wp_reg_seq tok (orc := orcL []) (fz := []) (l := [2, 3, 29]) (c := _) (.inr fun i h => h) h (by kernel_rfl) (AllP.nil) ?_
          intro a w h
          refine wp_if h (b := ((x0.2.2.2.2.1 : Int) != x1.2.2.2.2.1)) (by kernel_rfl) (fun hb => ?_) (fun hb => ?_)
          · replace hF := of_t hb hF
            refine wp_reg_seq tok (orc := orcL []) (fz := []) (l := [4]) (c := _) (.inr fun i h => h) h (by kernel_rfl) (AllP.nil) ?_
            intro a w h
            cases hF
            exact wp_ret (ret_okR tok h rfl (by kernel_rfl)).1
          · replace hF := of_f hb hF
            refine wp_skip ?_
            refine wp_seq ?_
            refine wp_reg_seq tok (orc := orcL []) (fz := []) (l := [34]) (c := _) (.inr fun i h => h) h (by kernel_rfl) (AllP.nil) ?_
            intro a w h
            refine wp_if h (b := (!(ByteArray.toList x0.2.2.2.2.2 == ByteArray.toList x1.2.2.2.2.2))) (by kernel_rfl) (fun hb => ?_) (fun hb => ?_)
            · replace hF := of_t hb hF
              refine wp_reg_seq tok (orc := orcL []) (fz := []) (l := [4]) (c := _) (.inr fun i h => h) h (by kernel_rfl) (AllP.nil) ?_
              intro a w h
              cases hF
              exact wp_ret (ret_okR tok h rfl (by kernel_rfl)).1
            · replace hF := of_f hb hF
              refine wp_skip ?_
              refine wp_reg_seq tok (orc := orcL []) (fz := []) (l := [4]) (c := _) (.inr fun i h => h) h (by kernel_rfl) (AllP.nil) ?_
              intro a w h
              cases hF
              exact wp_ret (ret_okR tok h rfl (by kernel_rfl)).1

def f86.l30 (k : Nat) (x0 : (List (Int × (Int × (Int × (Int × (Int × ByteArray))))))) (x1 : (List (Int × (Int × (Int × (Int × (Int × ByteArray))))))) : Nat → Int → Option Bool
  | 0, _ => none
  | m30 + 1, v50 => if (decide ((v50 : Int) < (List.length x0 : Int))) then (if (0 ≤ v50 ∧ v50 < (List.length x0 : Int)) then (if (0 ≤ v50 ∧ v50 < (List.length x1 : Int)) then ((f175 k (List.getD x0 (Int.toNat v50) ((0 : Int), ((0 : Int), ((0 : Int), ((0 : Int), ((0 : Int), (⟨#[]⟩ : ByteArray))))))) (List.getD x1 (Int.toNat v50) ((0 : Int), ((0 : Int), ((0 : Int), ((0 : Int), ((0 : Int), (⟨#[]⟩ : ByteArray)))))))).bind fun r55 => (if (!r55) then (some false) else ((f86.l30 k x0 x1) m30 (IntKind.i64.wrap (v50 + (1 : Int)))))) else none) else none) else (some true)
def f86 (k : Nat) (x0 : (List (Int × (Int × (Int × (Int × (Int × ByteArray))))))) (x1 : (List (Int × (Int × (Int × (Int × (Int × ByteArray))))))) : Option Bool := if (((List.length x0 : Int) : Int) != (List.length x1 : Int)) then (some false) else (f86.l30 k x0 x1 k (0 : Int))
set_option maxRecDepth 100000 in
/-- 'laws.eqRoadS'. -/
theorem c86 (k : Nat) (x0 : (List (Int × (Int × (Int × (Int × (Int × ByteArray))))))) (x1 : (List (Int × (Int × (Int × (Int × (Int × ByteArray))))))) (r : Bool) (hF : f86 k x0 x1 = some r) : PCall Try.prog 86 [⟨sh24, x0⟩, ⟨sh24, x1⟩] [⟨.bool, r⟩] := by
  refine pcall_intro Try.func86 rfl rfl (Nat.le_of_ble_eq_true rfl) ?_
  intro w0 Zi a w h
  rw [f86] at hF
  refine wp_reg_seq tok (orc := orcL []) (fz := []) (l := [0, 1]) (c := _) (.inr fun i h => h) h (by kernel_rfl) (AllP.nil) ?_
  intro a w h
  refine wp_seq ?_
  refine wp_reg_seq tok (orc := orcL []) (fz := []) (l := [0, 1, 10]) (c := _) (.inr fun i h => h) h (by kernel_rfl) (AllP.nil) ?_
  intro a w h
  refine wp_if h (b := (((List.length x0 : Int) : Int) != (List.length x1 : Int))) (by kernel_rfl) (fun hb => ?_) (fun hb => ?_)
  · replace hF := of_t hb hF
    refine wp_reg_seq tok (orc := orcL []) (fz := []) (l := [4]) (c := _) (.inr fun i h => h) h (by kernel_rfl) (AllP.nil) ?_
    intro a w h
    cases hF
    exact wp_ret (ret_okR tok h rfl (by kernel_rfl)).1
  · replace hF := of_f hb hF
    refine wp_skip ?_
    refine wp_seq ?_
    refine wp_reg_seq tok (orc := orcL []) (fz := []) (l := [0, 1, 5]) (c := _) (.inr fun i h => h) h (by kernel_rfl) (AllP.nil) ?_
    intro a w h
    refine wp_block ?_
    refine wp_loop_fuel (f86.l30 k x0 x1) (fun (v50 : Int) => [(0, .val sh24 x0), (1, .val sh24 x1), (5, .val (.int .i64) v50)]) (fun v h => by rw [f86.l30] at h; cases h) ?_ hF (h.arrive (fz := []) (l := [0, 1, 5]) (.inr fun i h => h) (by kernel_rfl))
    intro m30 v50 a w hF h
    rw [f86.l30] at hF
    refine wp_seq ?_
    refine wp_reg_seq tok (orc := orcL []) (fz := []) (l := [0, 1, 5, 14]) (c := _) (.inr fun i h => h) h (by kernel_rfl) (AllP.nil) ?_
    intro a w h
    refine wp_if h (b := (decide ((v50 : Int) < (List.length x0 : Int)))) (by kernel_rfl) (fun hb => ?_) (fun hb => ?_)
    · replace hF := of_t hb hF
      refine wp_skip ?_
      refine wp_seq <| wp_block ?_
      obtain ⟨hc56, hF⟩ := of_if hF
      obtain ⟨hc57, hF⟩ := of_if hF
      obtain ⟨r55, hr58, hF⟩ := of_bind hF
      refine wp_regy_seq tok (orc := orcL [(25, [⟨.bool, r55⟩])]) (fz := []) (l := [0, 1, 5, 26]) (c := _) ([], [], [], []) 10 (.inr fun i h => h) h (by kernel_rfl) (by kernel_rfl) (AllP.cons hc56 (AllP.cons hc57 (AllP.cons (c175 k (List.getD x0 (Int.toNat v50) ((0 : Int), ((0 : Int), ((0 : Int), ((0 : Int), ((0 : Int), (⟨#[]⟩ : ByteArray))))))) (List.getD x1 (Int.toNat v50) ((0 : Int), ((0 : Int), ((0 : Int), ((0 : Int), ((0 : Int), (⟨#[]⟩ : ByteArray))))))) r55 hr58) AllP.nil))) ?_
      intro a w h
      refine wp_if h (b := (!r55)) (by kernel_rfl) (fun hb => ?_) (fun hb => ?_)
      · replace hF := of_t hb hF
        refine wp_reg_seq tok (orc := orcL []) (fz := []) (l := [4]) (c := _) (.inr fun i h => h) h (by kernel_rfl) (AllP.nil) ?_
        intro a w h
        cases hF
        exact wp_ret (ret_okR tok h rfl (by kernel_rfl)).1
      · replace hF := of_f hb hF
        refine wp_skip ?_
        refine wp_reg tok (orc := orcL []) (fz := []) (l := [0, 1, 5]) (c := _) (.inr fun i h => h) h (by kernel_rfl) (AllP.nil) ?_
        intro a w h
        exact ⟨(IntKind.i64.wrap (v50 + (1 : Int))), hF, h.arrive (fz := []) (l := [0, 1, 5]) (.inr fun i h => h) (by kernel_rfl)⟩
    · replace hF := of_f hb hF
      refine wp_exit ?_
      refine wp_reg_seq tok (orc := orcL []) (fz := []) (l := [4]) (c := _) (.inr fun i h => h) h (by kernel_rfl) (AllP.nil) ?_
      intro a w h
      cases hF
      exact wp_ret (ret_okR tok h rfl (by kernel_rfl)).1

def f176 (k : Nat) (x0 : (Int × Int)) (x1 : (Int × Int)) : Option Bool := if ((x0.1 : Int) != x1.1) then (some false) else (if ((x0.2 : Int) != x1.2) then (some false) else (some true))
set_option maxRecDepth 100000 in
/-- 'laws.eqBan'. -/
theorem c176 (k : Nat) (x0 : (Int × Int)) (x1 : (Int × Int)) (r : Bool) (hF : f176 k x0 x1 = some r) : PCall Try.prog 176 [⟨sh5, x0⟩, ⟨sh5, x1⟩] [⟨.bool, r⟩] := by
  refine pcall_intro Try.func176 rfl rfl (Nat.le_of_ble_eq_true rfl) ?_
  intro w0 Zi a w h
  rw [f176] at hF
  refine wp_reg_seq tok (orc := orcL []) (fz := []) (l := [2, 3]) (c := _) (.inr fun i h => h) h (by kernel_rfl) (AllP.nil) ?_
  intro a w h
  refine wp_seq ?_
  refine wp_reg_seq tok (orc := orcL []) (fz := []) (l := [2, 3, 9]) (c := _) (.inr fun i h => h) h (by kernel_rfl) (AllP.nil) ?_
  intro a w h
  refine wp_if h (b := ((x0.1 : Int) != x1.1)) (by kernel_rfl) (fun hb => ?_) (fun hb => ?_)
  · replace hF := of_t hb hF
    refine wp_reg_seq tok (orc := orcL []) (fz := []) (l := [4]) (c := _) (.inr fun i h => h) h (by kernel_rfl) (AllP.nil) ?_
    intro a w h
    cases hF
    exact wp_ret (ret_okR tok h rfl (by kernel_rfl)).1
  · replace hF := of_f hb hF
    refine wp_skip ?_
    refine wp_seq ?_
    refine wp_reg_seq tok (orc := orcL []) (fz := []) (l := [14]) (c := _) (.inr fun i h => h) h (by kernel_rfl) (AllP.nil) ?_
    intro a w h
    refine wp_if h (b := ((x0.2 : Int) != x1.2)) (by kernel_rfl) (fun hb => ?_) (fun hb => ?_)
    · replace hF := of_t hb hF
      refine wp_reg_seq tok (orc := orcL []) (fz := []) (l := [4]) (c := _) (.inr fun i h => h) h (by kernel_rfl) (AllP.nil) ?_
      intro a w h
      cases hF
      exact wp_ret (ret_okR tok h rfl (by kernel_rfl)).1
    · replace hF := of_f hb hF
      refine wp_skip ?_
      refine wp_reg_seq tok (orc := orcL []) (fz := []) (l := [4]) (c := _) (.inr fun i h => h) h (by kernel_rfl) (AllP.nil) ?_
      intro a w h
      cases hF
      exact wp_ret (ret_okR tok h rfl (by kernel_rfl)).1

def f87.l30 (k : Nat) (x0 : (List (Int × Int))) (x1 : (List (Int × Int))) : Nat → Int → Option Bool
  | 0, _ => none
  | m30 + 1, v50 => if (decide ((v50 : Int) < (List.length x0 : Int))) then (if (0 ≤ v50 ∧ v50 < (List.length x0 : Int)) then (if (0 ≤ v50 ∧ v50 < (List.length x1 : Int)) then ((f176 k (List.getD x0 (Int.toNat v50) ((0 : Int), (0 : Int))) (List.getD x1 (Int.toNat v50) ((0 : Int), (0 : Int)))).bind fun r55 => (if (!r55) then (some false) else ((f87.l30 k x0 x1) m30 (IntKind.i64.wrap (v50 + (1 : Int)))))) else none) else none) else (some true)
def f87 (k : Nat) (x0 : (List (Int × Int))) (x1 : (List (Int × Int))) : Option Bool := if (((List.length x0 : Int) : Int) != (List.length x1 : Int)) then (some false) else (f87.l30 k x0 x1 k (0 : Int))
set_option maxRecDepth 100000 in
/-- 'laws.eqBanS'. -/
theorem c87 (k : Nat) (x0 : (List (Int × Int))) (x1 : (List (Int × Int))) (r : Bool) (hF : f87 k x0 x1 = some r) : PCall Try.prog 87 [⟨sh25, x0⟩, ⟨sh25, x1⟩] [⟨.bool, r⟩] := by
  refine pcall_intro Try.func87 rfl rfl (Nat.le_of_ble_eq_true rfl) ?_
  intro w0 Zi a w h
  rw [f87] at hF
  refine wp_reg_seq tok (orc := orcL []) (fz := []) (l := [0, 1]) (c := _) (.inr fun i h => h) h (by kernel_rfl) (AllP.nil) ?_
  intro a w h
  refine wp_seq ?_
  refine wp_reg_seq tok (orc := orcL []) (fz := []) (l := [0, 1, 10]) (c := _) (.inr fun i h => h) h (by kernel_rfl) (AllP.nil) ?_
  intro a w h
  refine wp_if h (b := (((List.length x0 : Int) : Int) != (List.length x1 : Int))) (by kernel_rfl) (fun hb => ?_) (fun hb => ?_)
  · replace hF := of_t hb hF
    refine wp_reg_seq tok (orc := orcL []) (fz := []) (l := [4]) (c := _) (.inr fun i h => h) h (by kernel_rfl) (AllP.nil) ?_
    intro a w h
    cases hF
    exact wp_ret (ret_okR tok h rfl (by kernel_rfl)).1
  · replace hF := of_f hb hF
    refine wp_skip ?_
    refine wp_seq ?_
    refine wp_reg_seq tok (orc := orcL []) (fz := []) (l := [0, 1, 5]) (c := _) (.inr fun i h => h) h (by kernel_rfl) (AllP.nil) ?_
    intro a w h
    refine wp_block ?_
    refine wp_loop_fuel (f87.l30 k x0 x1) (fun (v50 : Int) => [(0, .val sh25 x0), (1, .val sh25 x1), (5, .val (.int .i64) v50)]) (fun v h => by rw [f87.l30] at h; cases h) ?_ hF (h.arrive (fz := []) (l := [0, 1, 5]) (.inr fun i h => h) (by kernel_rfl))
    intro m30 v50 a w hF h
    rw [f87.l30] at hF
    refine wp_seq ?_
    refine wp_reg_seq tok (orc := orcL []) (fz := []) (l := [0, 1, 5, 14]) (c := _) (.inr fun i h => h) h (by kernel_rfl) (AllP.nil) ?_
    intro a w h
    refine wp_if h (b := (decide ((v50 : Int) < (List.length x0 : Int)))) (by kernel_rfl) (fun hb => ?_) (fun hb => ?_)
    · replace hF := of_t hb hF
      refine wp_skip ?_
      refine wp_seq <| wp_block ?_
      obtain ⟨hc56, hF⟩ := of_if hF
      obtain ⟨hc57, hF⟩ := of_if hF
      obtain ⟨r55, hr58, hF⟩ := of_bind hF
      refine wp_regy_seq tok (orc := orcL [(25, [⟨.bool, r55⟩])]) (fz := []) (l := [0, 1, 5, 26]) (c := _) ([], [], [], []) 10 (.inr fun i h => h) h (by kernel_rfl) (by kernel_rfl) (AllP.cons hc56 (AllP.cons hc57 (AllP.cons (c176 k (List.getD x0 (Int.toNat v50) ((0 : Int), (0 : Int))) (List.getD x1 (Int.toNat v50) ((0 : Int), (0 : Int))) r55 hr58) AllP.nil))) ?_
      intro a w h
      refine wp_if h (b := (!r55)) (by kernel_rfl) (fun hb => ?_) (fun hb => ?_)
      · replace hF := of_t hb hF
        refine wp_reg_seq tok (orc := orcL []) (fz := []) (l := [4]) (c := _) (.inr fun i h => h) h (by kernel_rfl) (AllP.nil) ?_
        intro a w h
        cases hF
        exact wp_ret (ret_okR tok h rfl (by kernel_rfl)).1
      · replace hF := of_f hb hF
        refine wp_skip ?_
        refine wp_reg tok (orc := orcL []) (fz := []) (l := [0, 1, 5]) (c := _) (.inr fun i h => h) h (by kernel_rfl) (AllP.nil) ?_
        intro a w h
        exact ⟨(IntKind.i64.wrap (v50 + (1 : Int))), hF, h.arrive (fz := []) (l := [0, 1, 5]) (.inr fun i h => h) (by kernel_rfl)⟩
    · replace hF := of_f hb hF
      refine wp_exit ?_
      refine wp_reg_seq tok (orc := orcL []) (fz := []) (l := [4]) (c := _) (.inr fun i h => h) h (by kernel_rfl) (AllP.nil) ?_
      intro a w h
      cases hF
      exact wp_ret (ret_okR tok h rfl (by kernel_rfl)).1

def f20 (k : Nat) (x0 : ((List (Int × (Int × Int))) × ((List (Int × (Int × (Int × (Int × (Int × ByteArray)))))) × (List (Int × Int))))) (x1 : ((List (Int × (Int × Int))) × ((List (Int × (Int × (Int × (Int × (Int × ByteArray)))))) × (List (Int × Int))))) : Option Bool := (f85 k x0.1 x1.1).bind fun r1 => (if (!r1) then (some false) else ((f86 k x0.2.1 x1.2.1).bind fun r2 => (if (!r2) then (some false) else ((f87 k x0.2.2 x1.2.2).bind fun r3 => (if (!r3) then (some false) else (some true))))))
set_option maxRecDepth 100000 in
/-- 'laws.eqGraph'. -/
theorem c20 (k : Nat) (x0 : ((List (Int × (Int × Int))) × ((List (Int × (Int × (Int × (Int × (Int × ByteArray)))))) × (List (Int × Int))))) (x1 : ((List (Int × (Int × Int))) × ((List (Int × (Int × (Int × (Int × (Int × ByteArray)))))) × (List (Int × Int))))) (r : Bool) (hF : f20 k x0 x1 = some r) : PCall Try.prog 20 [⟨sh12, x0⟩, ⟨sh12, x1⟩] [⟨.bool, r⟩] := by
  refine pcall_intro Try.func20 rfl rfl (Nat.le_of_ble_eq_true rfl) ?_
  intro w0 Zi a w h
  rw [f20] at hF
  refine wp_reg_seq tok (orc := orcL []) (fz := []) (l := [2, 3]) (c := _) (.inr fun i h => h) h (by kernel_rfl) (AllP.nil) ?_
  intro a w h
  refine wp_seq ?_
  obtain ⟨r1, hr6, hF⟩ := of_bind hF
  refine wp_reg_seq tok (orc := orcL [(9, [⟨.bool, r1⟩])]) (fz := []) (l := [2, 3, 10]) (c := _) (.inr fun i h => h) h (by kernel_rfl) (AllP.cons (c85 k x0.1 x1.1 r1 hr6) AllP.nil) ?_
  intro a w h
  refine wp_if h (b := (!r1)) (by kernel_rfl) (fun hb => ?_) (fun hb => ?_)
  · replace hF := of_t hb hF
    refine wp_reg_seq tok (orc := orcL []) (fz := []) (l := [4]) (c := _) (.inr fun i h => h) h (by kernel_rfl) (AllP.nil) ?_
    intro a w h
    cases hF
    exact wp_ret (ret_okR tok h rfl (by kernel_rfl)).1
  · replace hF := of_f hb hF
    refine wp_skip ?_
    refine wp_seq ?_
    obtain ⟨r2, hr5, hF⟩ := of_bind hF
    refine wp_reg_seq tok (orc := orcL [(15, [⟨.bool, r2⟩])]) (fz := []) (l := [2, 3, 16]) (c := _) (.inr fun i h => h) h (by kernel_rfl) (AllP.cons (c86 k x0.2.1 x1.2.1 r2 hr5) AllP.nil) ?_
    intro a w h
    refine wp_if h (b := (!r2)) (by kernel_rfl) (fun hb => ?_) (fun hb => ?_)
    · replace hF := of_t hb hF
      refine wp_reg_seq tok (orc := orcL []) (fz := []) (l := [4]) (c := _) (.inr fun i h => h) h (by kernel_rfl) (AllP.nil) ?_
      intro a w h
      cases hF
      exact wp_ret (ret_okR tok h rfl (by kernel_rfl)).1
    · replace hF := of_f hb hF
      refine wp_skip ?_
      refine wp_seq ?_
      obtain ⟨r3, hr4, hF⟩ := of_bind hF
      refine wp_reg_seq tok (orc := orcL [(21, [⟨.bool, r3⟩])]) (fz := []) (l := [22]) (c := _) (.inr fun i h => h) h (by kernel_rfl) (AllP.cons (c87 k x0.2.2 x1.2.2 r3 hr4) AllP.nil) ?_
      intro a w h
      refine wp_if h (b := (!r3)) (by kernel_rfl) (fun hb => ?_) (fun hb => ?_)
      · replace hF := of_t hb hF
        refine wp_reg_seq tok (orc := orcL []) (fz := []) (l := [4]) (c := _) (.inr fun i h => h) h (by kernel_rfl) (AllP.nil) ?_
        intro a w h
        cases hF
        exact wp_ret (ret_okR tok h rfl (by kernel_rfl)).1
      · replace hF := of_f hb hF
        refine wp_skip ?_
        refine wp_reg_seq tok (orc := orcL []) (fz := []) (l := [4]) (c := _) (.inr fun i h => h) h (by kernel_rfl) (AllP.nil) ?_
        intro a w h
        cases hF
        exact wp_ret (ret_okR tok h rfl (by kernel_rfl)).1

def f88.l44 (k : Nat) : Nat → ((List (Int × (Int × Int))) × Int × Int) → Option (Int × (List (Int × (Int × Int))))
  | 0, _ => none
  | m44 + 1, (v74, v75, v76) => if (decide ((v76 : Int) < (List.length v74 : Int))) then (if (0 ≤ v76 ∧ v76 < (List.length v74 : Int)) then (if (0 ≤ v76 ∧ v76 < (List.length (List.set v74 (Int.toNat v76) (v75, (List.getD v74 (Int.toNat v76) ((0 : Int), ((0 : Int), (0 : Int)))).2)) : Int)) then ((some ((List.set (List.set v74 (Int.toNat v76) (v75, (List.getD v74 (Int.toNat v76) ((0 : Int), ((0 : Int), (0 : Int)))).2)) (Int.toNat v76) ((List.getD (List.set v74 (Int.toNat v76) (v75, (List.getD v74 (Int.toNat v76) ((0 : Int), ((0 : Int), (0 : Int)))).2)) (Int.toNat v76) ((0 : Int), ((0 : Int), (0 : Int)))).1, ((IntKind.i64.wrap (v75 + (1 : Int))), (List.getD (List.set v74 (Int.toNat v76) (v75, (List.getD v74 (Int.toNat v76) ((0 : Int), ((0 : Int), (0 : Int)))).2)) (Int.toNat v76) ((0 : Int), ((0 : Int), (0 : Int)))).2.2))) : (List (Int × (Int × Int))))).bind fun v82 => (if (0 ≤ v76 ∧ v76 < (List.length v82 : Int)) then ((f88.l44 k) m44 ((List.set v82 (Int.toNat v76) ((List.getD v82 (Int.toNat v76) ((0 : Int), ((0 : Int), (0 : Int)))).1, ((List.getD v82 (Int.toNat v76) ((0 : Int), ((0 : Int), (0 : Int)))).2.1, (IntKind.i64.wrap ((IntKind.i64.wrap (v75 + (1 : Int))) + (1 : Int)))))), (IntKind.i64.wrap ((IntKind.i64.wrap ((IntKind.i64.wrap (v75 + (1 : Int))) + (1 : Int))) + (1 : Int))), (IntKind.i64.wrap (v76 + (1 : Int))))) else none)) else none) else none) else (some (v75, v74))
def f88 (k : Nat) (x0 : (List (Int × (Int × Int)))) (x1 : Int) : Option (Int × (List (Int × (Int × Int)))) := f88.l44 k k (x0, x1, (0 : Int))
set_option maxRecDepth 100000 in
/-- 'laws.markSpotS'. -/
theorem c88 (k : Nat) (x0 : (List (Int × (Int × Int)))) (x1 : Int) (r : (Int × (List (Int × (Int × Int))))) (hF : f88 k x0 x1 = some r) : PMut Try.prog 88 [⟨sh7, x0⟩, ⟨(.int .i64), x1⟩] [⟨(.int .i64), r.1⟩] (List.set [⟨sh7, x0⟩, ⟨(.int .i64), x1⟩] 0 ⟨sh7, r.2⟩) := by
  refine pmut_intro (j := 0) (fin := ⟨sh7, r.2⟩) Try.func88 rfl rfl (Nat.le_of_ble_eq_true rfl) (Nat.le_of_ble_eq_true rfl) (by kernel_rfl) ?_
  intro w0 Zi f0 v0 a w h
  rw [f88] at hF
  refine wp_reg_seq tok (orc := orcL []) (fz := []) (l := [0, 1]) (c := _) (.inl rfl) h (by kernel_rfl) (AllP.nil) ?_
  intro a w h
  refine wp_seq ?_
  refine wp_reg_seq tok (orc := orcL []) (fz := []) (l := [0, 1, 5]) (c := _) (.inl rfl) h (by kernel_rfl) (AllP.nil) ?_
  intro a w h
  refine wp_block ?_
  refine wp_loop_fuel (f88.l44 k) (fun ((v74, v75, v76) : ((List (Int × (Int × Int))) × Int × Int)) => [(0, .val sh7 v74), (1, .val (.int .i64) v75), (5, .val (.int .i64) v76)]) (fun v h => by obtain ⟨v74, v75, v76⟩ := v; rw [f88.l44] at h; cases h) ?_ hF (h.arrive (fz := []) (l := [0, 1, 5]) (.inl rfl) (by kernel_rfl))
  intro m44 v a w hF h
  obtain ⟨v74, v75, v76⟩ := v
  rw [f88.l44] at hF
  refine wp_seq ?_
  refine wp_reg_seq tok (orc := orcL []) (fz := []) (l := [0, 1, 5, 9]) (c := _) (.inl rfl) h (by kernel_rfl) (AllP.nil) ?_
  intro a w h
  refine wp_if h (b := (decide ((v76 : Int) < (List.length v74 : Int)))) (by kernel_rfl) (fun hb => ?_) (fun hb => ?_)
  · replace hF := of_t hb hF
    refine wp_skip ?_
    refine wp_seq <| wp_block ?_
    obtain ⟨hc86, hF⟩ := of_if hF
    refine wp_reg_seq tok (orc := orcL []) (fz := []) (l := [0, 1, 5]) (c := _) (.inl rfl) h (by kernel_rfl) (AllP.cons hc86 AllP.nil) ?_
    intro a w h
    refine wp_reg_seq tok (orc := orcL []) (fz := []) (l := [0, 1, 5]) (c := _) (.inl rfl) h (by kernel_rfl) (AllP.nil) ?_
    intro a w h
    obtain ⟨hc85, hF⟩ := of_if hF
    refine wp_reg_seq tok (orc := orcL []) (fz := []) (l := [0, 1, 5]) (c := _) (.inl rfl) h (by kernel_rfl) (AllP.cons hc85 AllP.nil) ?_
    intro a w h
    obtain ⟨v82, hv84, hF⟩ := of_bind hF
    replace h := h.cast (S' := [(0, .val sh7 v82), (1, .val (.int .i64) (IntKind.i64.wrap (v75 + (1 : Int)))), (5, .val (.int .i64) v76)]) (by cases hv84; kernel_rfl)
    refine wp_reg_seq tok (orc := orcL []) (fz := []) (l := [0, 1, 5]) (c := _) (.inl rfl) h (by kernel_rfl) (AllP.nil) ?_
    intro a w h
    obtain ⟨hc83, hF⟩ := of_if hF
    refine wp_reg_seq tok (orc := orcL []) (fz := []) (l := [0, 1, 5]) (c := _) (.inl rfl) h (by kernel_rfl) (AllP.cons hc83 AllP.nil) ?_
    intro a w h
    refine wp_reg tok (orc := orcL []) (fz := []) (l := [0, 1, 5]) (c := _) (.inl rfl) h (by kernel_rfl) (AllP.nil) ?_
    intro a w h
    refine wp_reg tok (orc := orcL []) (fz := []) (l := [0, 1, 5]) (c := _) (.inl rfl) h (by kernel_rfl) (AllP.nil) ?_
    intro a w h
    exact ⟨((List.set v82 (Int.toNat v76) ((List.getD v82 (Int.toNat v76) ((0 : Int), ((0 : Int), (0 : Int)))).1, ((List.getD v82 (Int.toNat v76) ((0 : Int), ((0 : Int), (0 : Int)))).2.1, (IntKind.i64.wrap ((IntKind.i64.wrap (v75 + (1 : Int))) + (1 : Int)))))), (IntKind.i64.wrap ((IntKind.i64.wrap ((IntKind.i64.wrap (v75 + (1 : Int))) + (1 : Int))) + (1 : Int))), (IntKind.i64.wrap (v76 + (1 : Int)))), hF, h.arrive (fz := []) (l := [0, 1, 5]) (.inl rfl) (by kernel_rfl)⟩
  · replace hF := of_f hb hF
    refine wp_exit ?_
    refine wp_reg_seq tok (orc := orcL []) (fz := []) (l := [0, 4]) (c := _) (.inl rfl) h (by kernel_rfl) (AllP.nil) ?_
    intro a w h
    cases hF
    exact wp_ret (retM_ok tok h rfl (by kernel_rfl) (by kernel_rfl)).1

def f91.l19 (k : Nat) : Nat → (Int × ByteArray) → Option ByteArray
  | 0, _ => none
  | m19 + 1, (v32, v33) => if (decide ((v32 : Int) > (0 : Int))) then (if (((10 : Int) : Int) ≠ 0) then (if (ByteArray.size (strOfNums [(IntKind.u8.wrap (IntKind.i64.wrap ((48 : Int) + (Int.tmod v32 (10 : Int)))))]) + ByteArray.size v33 ≤ 9223372036854775807) then (if (((10 : Int) : Int) ≠ 0) then ((f91.l19 k) m19 ((IntKind.i64.wrap (Int.tdiv v32 (10 : Int))), ((strOfNums [(IntKind.u8.wrap (IntKind.i64.wrap ((48 : Int) + (Int.tmod v32 (10 : Int)))))]) ++ v33))) else none) else none) else none) else (if (ByteArray.size (⟨#[109]⟩ : ByteArray) + ByteArray.size v33 ≤ 9223372036854775807) then (some ((⟨#[109]⟩ : ByteArray) ++ v33)) else none)
def f91 (k : Nat) (x0 : Int) : Option ByteArray := if (decide ((x0 : Int) ≤ (0 : Int))) then (some (⟨#[109, 48]⟩ : ByteArray)) else (f91.l19 k k (x0, (⟨#[]⟩ : ByteArray)))
set_option maxRecDepth 100000 in
/-- 'laws.markText'. -/
theorem c91 (k : Nat) (x0 : Int) (r : ByteArray) (hF : f91 k x0 = some r) : PCall Try.prog 91 [⟨(.int .i64), x0⟩] [⟨.str, r⟩] := by
  refine pcall_intro Try.func91 rfl rfl (Nat.le_of_ble_eq_true rfl) ?_
  intro w0 Zi a w h
  rw [f91] at hF
  refine wp_reg_seq tok (orc := orcL []) (fz := []) (l := [0]) (c := _) (.inr fun i h => h) h (by kernel_rfl) (AllP.nil) ?_
  intro a w h
  refine wp_seq ?_
  refine wp_reg_seq tok (orc := orcL []) (fz := []) (l := [0, 5]) (c := _) (.inr fun i h => h) h (by kernel_rfl) (AllP.nil) ?_
  intro a w h
  refine wp_if h (b := (decide ((x0 : Int) ≤ (0 : Int)))) (by kernel_rfl) (fun hb => ?_) (fun hb => ?_)
  · replace hF := of_t hb hF
    refine wp_reg_seq tok (orc := orcL []) (fz := []) (l := [2]) (c := _) (.inr fun i h => h) h (by kernel_rfl) (AllP.nil) ?_
    intro a w h
    cases hF
    exact wp_ret (ret_okR tok h rfl (by kernel_rfl)).1
  · replace hF := of_f hb hF
    refine wp_skip ?_
    refine wp_reg_seq tok (orc := orcL []) (fz := []) (l := [0, 3]) (c := _) (.inr fun i h => h) h (by kernel_rfl) (AllP.nil) ?_
    intro a w h
    refine wp_seq <| wp_block ?_
    refine wp_loop_fuel (f91.l19 k) (fun ((v32, v33) : (Int × ByteArray)) => [(0, .val (.int .i64) v32), (3, .val .str v33)]) (fun v h => by obtain ⟨v32, v33⟩ := v; rw [f91.l19] at h; cases h) ?_ hF (h.arrive (fz := []) (l := [0, 3]) (.inr fun i h => h) (by kernel_rfl))
    intro m19 v a w hF h
    obtain ⟨v32, v33⟩ := v
    rw [f91.l19] at hF
    refine wp_seq ?_
    refine wp_reg_seq tok (orc := orcL []) (fz := []) (l := [0, 3, 7]) (c := _) (.inr fun i h => h) h (by kernel_rfl) (AllP.nil) ?_
    intro a w h
    refine wp_if h (b := (decide ((v32 : Int) > (0 : Int)))) (by kernel_rfl) (fun hb => ?_) (fun hb => ?_)
    · replace hF := of_t hb hF
      refine wp_skip ?_
      refine wp_block ?_
      obtain ⟨hc35, hF⟩ := of_if hF
      obtain ⟨hc36, hF⟩ := of_if hF
      refine wp_reg_seq tok (orc := orcL []) (fz := []) (l := [0, 3]) (c := _) (.inr fun i h => h) h (by kernel_rfl) (AllP.cons hc35 (AllP.cons hc36 AllP.nil)) ?_
      intro a w h
      obtain ⟨hc34, hF⟩ := of_if hF
      refine wp_reg tok (orc := orcL []) (fz := []) (l := [0, 3]) (c := _) (.inr fun i h => h) h (by kernel_rfl) (AllP.cons hc34 AllP.nil) ?_
      intro a w h
      exact ⟨((IntKind.i64.wrap (Int.tdiv v32 (10 : Int))), ((strOfNums [(IntKind.u8.wrap (IntKind.i64.wrap ((48 : Int) + (Int.tmod v32 (10 : Int)))))]) ++ v33)), hF, h.arrive (fz := []) (l := [0, 3]) (.inr fun i h => h) (by kernel_rfl)⟩
    · replace hF := of_f hb hF
      refine wp_exit ?_
      obtain ⟨hc37, hF⟩ := of_if hF
      refine wp_reg_seq tok (orc := orcL []) (fz := []) (l := [2]) (c := _) (.inr fun i h => h) h (by kernel_rfl) (AllP.cons hc37 AllP.nil) ?_
      intro a w h
      cases hF
      exact wp_ret (ret_okR tok h rfl (by kernel_rfl)).1

def f89.l110 (k : Nat) : Nat → ((List (Int × (Int × (Int × (Int × (Int × ByteArray)))))) × Int × Int) → Option (Int × (List (Int × (Int × (Int × (Int × (Int × ByteArray)))))))
  | 0, _ => none
  | m110 + 1, (v184, v185, v186) => if (decide ((v186 : Int) < (List.length v184 : Int))) then (if (0 ≤ v186 ∧ v186 < (List.length v184 : Int)) then (if (0 ≤ v186 ∧ v186 < (List.length (List.set v184 (Int.toNat v186) (v185, (List.getD v184 (Int.toNat v186) ((0 : Int), ((0 : Int), ((0 : Int), ((0 : Int), ((0 : Int), (⟨#[]⟩ : ByteArray))))))).2)) : Int)) then ((some ((List.set (List.set v184 (Int.toNat v186) (v185, (List.getD v184 (Int.toNat v186) ((0 : Int), ((0 : Int), ((0 : Int), ((0 : Int), ((0 : Int), (⟨#[]⟩ : ByteArray))))))).2)) (Int.toNat v186) ((List.getD (List.set v184 (Int.toNat v186) (v185, (List.getD v184 (Int.toNat v186) ((0 : Int), ((0 : Int), ((0 : Int), ((0 : Int), ((0 : Int), (⟨#[]⟩ : ByteArray))))))).2)) (Int.toNat v186) ((0 : Int), ((0 : Int), ((0 : Int), ((0 : Int), ((0 : Int), (⟨#[]⟩ : ByteArray))))))).1, ((IntKind.i64.wrap (v185 + (1 : Int))), (List.getD (List.set v184 (Int.toNat v186) (v185, (List.getD v184 (Int.toNat v186) ((0 : Int), ((0 : Int), ((0 : Int), ((0 : Int), ((0 : Int), (⟨#[]⟩ : ByteArray))))))).2)) (Int.toNat v186) ((0 : Int), ((0 : Int), ((0 : Int), ((0 : Int), ((0 : Int), (⟨#[]⟩ : ByteArray))))))).2.2))) : (List (Int × (Int × (Int × (Int × (Int × ByteArray)))))))).bind fun v203 => (if (0 ≤ v186 ∧ v186 < (List.length v203 : Int)) then (if (0 ≤ v186 ∧ v186 < (List.length (List.set v203 (Int.toNat v186) ((List.getD v203 (Int.toNat v186) ((0 : Int), ((0 : Int), ((0 : Int), ((0 : Int), ((0 : Int), (⟨#[]⟩ : ByteArray))))))).1, ((List.getD v203 (Int.toNat v186) ((0 : Int), ((0 : Int), ((0 : Int), ((0 : Int), ((0 : Int), (⟨#[]⟩ : ByteArray))))))).2.1, ((IntKind.i64.wrap ((IntKind.i64.wrap (v185 + (1 : Int))) + (1 : Int))), (List.getD v203 (Int.toNat v186) ((0 : Int), ((0 : Int), ((0 : Int), ((0 : Int), ((0 : Int), (⟨#[]⟩ : ByteArray))))))).2.2.2)))) : Int)) then ((some ((List.set (List.set v203 (Int.toNat v186) ((List.getD v203 (Int.toNat v186) ((0 : Int), ((0 : Int), ((0 : Int), ((0 : Int), ((0 : Int), (⟨#[]⟩ : ByteArray))))))).1, ((List.getD v203 (Int.toNat v186) ((0 : Int), ((0 : Int), ((0 : Int), ((0 : Int), ((0 : Int), (⟨#[]⟩ : ByteArray))))))).2.1, ((IntKind.i64.wrap ((IntKind.i64.wrap (v185 + (1 : Int))) + (1 : Int))), (List.getD v203 (Int.toNat v186) ((0 : Int), ((0 : Int), ((0 : Int), ((0 : Int), ((0 : Int), (⟨#[]⟩ : ByteArray))))))).2.2.2)))) (Int.toNat v186) ((List.getD (List.set v203 (Int.toNat v186) ((List.getD v203 (Int.toNat v186) ((0 : Int), ((0 : Int), ((0 : Int), ((0 : Int), ((0 : Int), (⟨#[]⟩ : ByteArray))))))).1, ((List.getD v203 (Int.toNat v186) ((0 : Int), ((0 : Int), ((0 : Int), ((0 : Int), ((0 : Int), (⟨#[]⟩ : ByteArray))))))).2.1, ((IntKind.i64.wrap ((IntKind.i64.wrap (v185 + (1 : Int))) + (1 : Int))), (List.getD v203 (Int.toNat v186) ((0 : Int), ((0 : Int), ((0 : Int), ((0 : Int), ((0 : Int), (⟨#[]⟩ : ByteArray))))))).2.2.2)))) (Int.toNat v186) ((0 : Int), ((0 : Int), ((0 : Int), ((0 : Int), ((0 : Int), (⟨#[]⟩ : ByteArray))))))).1, ((List.getD (List.set v203 (Int.toNat v186) ((List.getD v203 (Int.toNat v186) ((0 : Int), ((0 : Int), ((0 : Int), ((0 : Int), ((0 : Int), (⟨#[]⟩ : ByteArray))))))).1, ((List.getD v203 (Int.toNat v186) ((0 : Int), ((0 : Int), ((0 : Int), ((0 : Int), ((0 : Int), (⟨#[]⟩ : ByteArray))))))).2.1, ((IntKind.i64.wrap ((IntKind.i64.wrap (v185 + (1 : Int))) + (1 : Int))), (List.getD v203 (Int.toNat v186) ((0 : Int), ((0 : Int), ((0 : Int), ((0 : Int), ((0 : Int), (⟨#[]⟩ : ByteArray))))))).2.2.2)))) (Int.toNat v186) ((0 : Int), ((0 : Int), ((0 : Int), ((0 : Int), ((0 : Int), (⟨#[]⟩ : ByteArray))))))).2.1, ((List.getD (List.set v203 (Int.toNat v186) ((List.getD v203 (Int.toNat v186) ((0 : Int), ((0 : Int), ((0 : Int), ((0 : Int), ((0 : Int), (⟨#[]⟩ : ByteArray))))))).1, ((List.getD v203 (Int.toNat v186) ((0 : Int), ((0 : Int), ((0 : Int), ((0 : Int), ((0 : Int), (⟨#[]⟩ : ByteArray))))))).2.1, ((IntKind.i64.wrap ((IntKind.i64.wrap (v185 + (1 : Int))) + (1 : Int))), (List.getD v203 (Int.toNat v186) ((0 : Int), ((0 : Int), ((0 : Int), ((0 : Int), ((0 : Int), (⟨#[]⟩ : ByteArray))))))).2.2.2)))) (Int.toNat v186) ((0 : Int), ((0 : Int), ((0 : Int), ((0 : Int), ((0 : Int), (⟨#[]⟩ : ByteArray))))))).2.2.1, ((IntKind.i64.wrap ((IntKind.i64.wrap ((IntKind.i64.wrap (v185 + (1 : Int))) + (1 : Int))) + (1 : Int))), (List.getD (List.set v203 (Int.toNat v186) ((List.getD v203 (Int.toNat v186) ((0 : Int), ((0 : Int), ((0 : Int), ((0 : Int), ((0 : Int), (⟨#[]⟩ : ByteArray))))))).1, ((List.getD v203 (Int.toNat v186) ((0 : Int), ((0 : Int), ((0 : Int), ((0 : Int), ((0 : Int), (⟨#[]⟩ : ByteArray))))))).2.1, ((IntKind.i64.wrap ((IntKind.i64.wrap (v185 + (1 : Int))) + (1 : Int))), (List.getD v203 (Int.toNat v186) ((0 : Int), ((0 : Int), ((0 : Int), ((0 : Int), ((0 : Int), (⟨#[]⟩ : ByteArray))))))).2.2.2)))) (Int.toNat v186) ((0 : Int), ((0 : Int), ((0 : Int), ((0 : Int), ((0 : Int), (⟨#[]⟩ : ByteArray))))))).2.2.2.2))))) : (List (Int × (Int × (Int × (Int × (Int × ByteArray)))))))).bind fun v204 => (if (0 ≤ v186 ∧ v186 < (List.length v204 : Int)) then ((some ((List.set v204 (Int.toNat v186) ((List.getD v204 (Int.toNat v186) ((0 : Int), ((0 : Int), ((0 : Int), ((0 : Int), ((0 : Int), (⟨#[]⟩ : ByteArray))))))).1, ((List.getD v204 (Int.toNat v186) ((0 : Int), ((0 : Int), ((0 : Int), ((0 : Int), ((0 : Int), (⟨#[]⟩ : ByteArray))))))).2.1, ((List.getD v204 (Int.toNat v186) ((0 : Int), ((0 : Int), ((0 : Int), ((0 : Int), ((0 : Int), (⟨#[]⟩ : ByteArray))))))).2.2.1, ((List.getD v204 (Int.toNat v186) ((0 : Int), ((0 : Int), ((0 : Int), ((0 : Int), ((0 : Int), (⟨#[]⟩ : ByteArray))))))).2.2.2.1, ((IntKind.i64.wrap ((IntKind.i64.wrap ((IntKind.i64.wrap ((IntKind.i64.wrap (v185 + (1 : Int))) + (1 : Int))) + (1 : Int))) + (1 : Int))), (List.getD v204 (Int.toNat v186) ((0 : Int), ((0 : Int), ((0 : Int), ((0 : Int), ((0 : Int), (⟨#[]⟩ : ByteArray))))))).2.2.2.2.2)))))) : (List (Int × (Int × (Int × (Int × (Int × ByteArray)))))))).bind fun v205 => ((f91 k (IntKind.i64.wrap ((IntKind.i64.wrap ((IntKind.i64.wrap ((IntKind.i64.wrap ((IntKind.i64.wrap (v185 + (1 : Int))) + (1 : Int))) + (1 : Int))) + (1 : Int))) + (1 : Int)))).bind fun r206 => (if (0 ≤ v186 ∧ v186 < (List.length v205 : Int)) then ((some ((List.set v205 (Int.toNat v186) ((List.getD v205 (Int.toNat v186) ((0 : Int), ((0 : Int), ((0 : Int), ((0 : Int), ((0 : Int), (⟨#[]⟩ : ByteArray))))))).1, ((List.getD v205 (Int.toNat v186) ((0 : Int), ((0 : Int), ((0 : Int), ((0 : Int), ((0 : Int), (⟨#[]⟩ : ByteArray))))))).2.1, ((List.getD v205 (Int.toNat v186) ((0 : Int), ((0 : Int), ((0 : Int), ((0 : Int), ((0 : Int), (⟨#[]⟩ : ByteArray))))))).2.2.1, ((List.getD v205 (Int.toNat v186) ((0 : Int), ((0 : Int), ((0 : Int), ((0 : Int), ((0 : Int), (⟨#[]⟩ : ByteArray))))))).2.2.2.1, ((List.getD v205 (Int.toNat v186) ((0 : Int), ((0 : Int), ((0 : Int), ((0 : Int), ((0 : Int), (⟨#[]⟩ : ByteArray))))))).2.2.2.2.1, r206)))))) : (List (Int × (Int × (Int × (Int × (Int × ByteArray)))))))).bind fun v207 => ((f89.l110 k) m110 (v207, (IntKind.i64.wrap ((IntKind.i64.wrap ((IntKind.i64.wrap ((IntKind.i64.wrap ((IntKind.i64.wrap ((IntKind.i64.wrap (v185 + (1 : Int))) + (1 : Int))) + (1 : Int))) + (1 : Int))) + (1 : Int))) + (1 : Int))), (IntKind.i64.wrap (v186 + (1 : Int)))))) else none))) else none)) else none) else none)) else none) else none) else (some (v185, v184))
def f89 (k : Nat) (x0 : (List (Int × (Int × (Int × (Int × (Int × ByteArray))))))) (x1 : Int) : Option (Int × (List (Int × (Int × (Int × (Int × (Int × ByteArray))))))) := f89.l110 k k (x0, x1, (0 : Int))
set_option maxRecDepth 100000 in
/-- 'laws.markRoadS'. -/
theorem c89 (k : Nat) (x0 : (List (Int × (Int × (Int × (Int × (Int × ByteArray))))))) (x1 : Int) (r : (Int × (List (Int × (Int × (Int × (Int × (Int × ByteArray)))))))) (hF : f89 k x0 x1 = some r) : PMut Try.prog 89 [⟨sh8, x0⟩, ⟨(.int .i64), x1⟩] [⟨(.int .i64), r.1⟩] (List.set [⟨sh8, x0⟩, ⟨(.int .i64), x1⟩] 0 ⟨sh8, r.2⟩) := by
  refine pmut_intro (j := 0) (fin := ⟨sh8, r.2⟩) Try.func89 rfl rfl (Nat.le_of_ble_eq_true rfl) (Nat.le_of_ble_eq_true rfl) (by kernel_rfl) ?_
  intro w0 Zi f0 v0 a w h
  rw [f89] at hF
  refine wp_reg_seq tok (orc := orcL []) (fz := []) (l := [0, 1]) (c := _) (.inl rfl) h (by kernel_rfl) (AllP.nil) ?_
  intro a w h
  refine wp_seq ?_
  refine wp_reg_seq tok (orc := orcL []) (fz := []) (l := [0, 1, 5]) (c := _) (.inl rfl) h (by kernel_rfl) (AllP.nil) ?_
  intro a w h
  refine wp_block ?_
  refine wp_loop_fuel (f89.l110 k) (fun ((v184, v185, v186) : ((List (Int × (Int × (Int × (Int × (Int × ByteArray)))))) × Int × Int)) => [(0, .val sh8 v184), (1, .val (.int .i64) v185), (5, .val (.int .i64) v186)]) (fun v h => by obtain ⟨v184, v185, v186⟩ := v; rw [f89.l110] at h; cases h) ?_ hF (h.arrive (fz := []) (l := [0, 1, 5]) (.inl rfl) (by kernel_rfl))
  intro m110 v a w hF h
  obtain ⟨v184, v185, v186⟩ := v
  rw [f89.l110] at hF
  refine wp_seq ?_
  refine wp_reg_seq tok (orc := orcL []) (fz := []) (l := [0, 1, 5, 9]) (c := _) (.inl rfl) h (by kernel_rfl) (AllP.nil) ?_
  intro a w h
  refine wp_if h (b := (decide ((v186 : Int) < (List.length v184 : Int)))) (by kernel_rfl) (fun hb => ?_) (fun hb => ?_)
  · replace hF := of_t hb hF
    refine wp_skip ?_
    refine wp_seq <| wp_block ?_
    obtain ⟨hc218, hF⟩ := of_if hF
    refine wp_reg_seq tok (orc := orcL []) (fz := []) (l := [0, 1, 5]) (c := _) (.inl rfl) h (by kernel_rfl) (AllP.cons hc218 AllP.nil) ?_
    intro a w h
    refine wp_reg_seq tok (orc := orcL []) (fz := []) (l := [0, 1, 5]) (c := _) (.inl rfl) h (by kernel_rfl) (AllP.nil) ?_
    intro a w h
    obtain ⟨hc217, hF⟩ := of_if hF
    refine wp_reg_seq tok (orc := orcL []) (fz := []) (l := [0, 1, 5]) (c := _) (.inl rfl) h (by kernel_rfl) (AllP.cons hc217 AllP.nil) ?_
    intro a w h
    obtain ⟨v203, hv216, hF⟩ := of_bind hF
    replace h := h.cast (S' := [(0, .val sh8 v203), (1, .val (.int .i64) (IntKind.i64.wrap (v185 + (1 : Int)))), (5, .val (.int .i64) v186)]) (by cases hv216; kernel_rfl)
    refine wp_reg_seq tok (orc := orcL []) (fz := []) (l := [0, 1, 5]) (c := _) (.inl rfl) h (by kernel_rfl) (AllP.nil) ?_
    intro a w h
    obtain ⟨hc215, hF⟩ := of_if hF
    refine wp_reg_seq tok (orc := orcL []) (fz := []) (l := [0, 1, 5]) (c := _) (.inl rfl) h (by kernel_rfl) (AllP.cons hc215 AllP.nil) ?_
    intro a w h
    refine wp_reg_seq tok (orc := orcL []) (fz := []) (l := [0, 1, 5]) (c := _) (.inl rfl) h (by kernel_rfl) (AllP.nil) ?_
    intro a w h
    obtain ⟨hc214, hF⟩ := of_if hF
    refine wp_reg_seq tok (orc := orcL []) (fz := []) (l := [0, 1, 5]) (c := _) (.inl rfl) h (by kernel_rfl) (AllP.cons hc214 AllP.nil) ?_
    intro a w h
    obtain ⟨v204, hv213, hF⟩ := of_bind hF
    replace h := h.cast (S' := [(0, .val sh8 v204), (1, .val (.int .i64) (IntKind.i64.wrap ((IntKind.i64.wrap ((IntKind.i64.wrap (v185 + (1 : Int))) + (1 : Int))) + (1 : Int)))), (5, .val (.int .i64) v186)]) (by cases hv213; kernel_rfl)
    refine wp_reg_seq tok (orc := orcL []) (fz := []) (l := [0, 1, 5]) (c := _) (.inl rfl) h (by kernel_rfl) (AllP.nil) ?_
    intro a w h
    obtain ⟨hc212, hF⟩ := of_if hF
    refine wp_reg_seq tok (orc := orcL []) (fz := []) (l := [0, 1, 5]) (c := _) (.inl rfl) h (by kernel_rfl) (AllP.cons hc212 AllP.nil) ?_
    intro a w h
    obtain ⟨v205, hv211, hF⟩ := of_bind hF
    replace h := h.cast (S' := [(0, .val sh8 v205), (1, .val (.int .i64) (IntKind.i64.wrap ((IntKind.i64.wrap ((IntKind.i64.wrap ((IntKind.i64.wrap (v185 + (1 : Int))) + (1 : Int))) + (1 : Int))) + (1 : Int)))), (5, .val (.int .i64) v186)]) (by cases hv211; kernel_rfl)
    refine wp_reg_seq tok (orc := orcL []) (fz := []) (l := [0, 1, 5]) (c := _) (.inl rfl) h (by kernel_rfl) (AllP.nil) ?_
    intro a w h
    obtain ⟨r206, hr209, hF⟩ := of_bind hF
    obtain ⟨hc210, hF⟩ := of_if hF
    refine wp_reg_seq tok (orc := orcL [(50, [⟨.str, r206⟩])]) (fz := []) (l := [0, 1, 5]) (c := _) (.inl rfl) h (by kernel_rfl) (AllP.cons (c91 k (IntKind.i64.wrap ((IntKind.i64.wrap ((IntKind.i64.wrap ((IntKind.i64.wrap ((IntKind.i64.wrap (v185 + (1 : Int))) + (1 : Int))) + (1 : Int))) + (1 : Int))) + (1 : Int))) r206 hr209) (AllP.cons hc210 AllP.nil)) ?_
    intro a w h
    obtain ⟨v207, hv208, hF⟩ := of_bind hF
    replace h := h.cast (S' := [(0, .val sh8 v207), (1, .val (.int .i64) (IntKind.i64.wrap ((IntKind.i64.wrap ((IntKind.i64.wrap ((IntKind.i64.wrap ((IntKind.i64.wrap (v185 + (1 : Int))) + (1 : Int))) + (1 : Int))) + (1 : Int))) + (1 : Int)))), (5, .val (.int .i64) v186)]) (by cases hv208; kernel_rfl)
    refine wp_reg tok (orc := orcL []) (fz := []) (l := [0, 1, 5]) (c := _) (.inl rfl) h (by kernel_rfl) (AllP.nil) ?_
    intro a w h
    refine wp_reg tok (orc := orcL []) (fz := []) (l := [0, 1, 5]) (c := _) (.inl rfl) h (by kernel_rfl) (AllP.nil) ?_
    intro a w h
    exact ⟨(v207, (IntKind.i64.wrap ((IntKind.i64.wrap ((IntKind.i64.wrap ((IntKind.i64.wrap ((IntKind.i64.wrap ((IntKind.i64.wrap (v185 + (1 : Int))) + (1 : Int))) + (1 : Int))) + (1 : Int))) + (1 : Int))) + (1 : Int))), (IntKind.i64.wrap (v186 + (1 : Int)))), hF, h.arrive (fz := []) (l := [0, 1, 5]) (.inl rfl) (by kernel_rfl)⟩
  · replace hF := of_f hb hF
    refine wp_exit ?_
    refine wp_reg_seq tok (orc := orcL []) (fz := []) (l := [0, 4]) (c := _) (.inl rfl) h (by kernel_rfl) (AllP.nil) ?_
    intro a w h
    cases hF
    exact wp_ret (retM_ok tok h rfl (by kernel_rfl) (by kernel_rfl)).1

def f90.l26 (k : Nat) : Nat → ((List (Int × Int)) × Int × Int) → Option (Int × (List (Int × Int)))
  | 0, _ => none
  | m26 + 1, (v44, v45, v46) => if (decide ((v46 : Int) < (List.length v44 : Int))) then (if (0 ≤ v46 ∧ v46 < (List.length v44 : Int)) then (if (0 ≤ v46 ∧ v46 < (List.length (List.set v44 (Int.toNat v46) (v45, (List.getD v44 (Int.toNat v46) ((0 : Int), (0 : Int))).2)) : Int)) then ((f90.l26 k) m26 ((List.set (List.set v44 (Int.toNat v46) (v45, (List.getD v44 (Int.toNat v46) ((0 : Int), (0 : Int))).2)) (Int.toNat v46) ((List.getD (List.set v44 (Int.toNat v46) (v45, (List.getD v44 (Int.toNat v46) ((0 : Int), (0 : Int))).2)) (Int.toNat v46) ((0 : Int), (0 : Int))).1, (IntKind.i64.wrap (v45 + (1 : Int))))), (IntKind.i64.wrap ((IntKind.i64.wrap (v45 + (1 : Int))) + (1 : Int))), (IntKind.i64.wrap (v46 + (1 : Int))))) else none) else none) else (some (v45, v44))
def f90 (k : Nat) (x0 : (List (Int × Int))) (x1 : Int) : Option (Int × (List (Int × Int))) := f90.l26 k k (x0, x1, (0 : Int))
set_option maxRecDepth 100000 in
/-- 'laws.markBanS'. -/
theorem c90 (k : Nat) (x0 : (List (Int × Int))) (x1 : Int) (r : (Int × (List (Int × Int)))) (hF : f90 k x0 x1 = some r) : PMut Try.prog 90 [⟨sh9, x0⟩, ⟨(.int .i64), x1⟩] [⟨(.int .i64), r.1⟩] (List.set [⟨sh9, x0⟩, ⟨(.int .i64), x1⟩] 0 ⟨sh9, r.2⟩) := by
  refine pmut_intro (j := 0) (fin := ⟨sh9, r.2⟩) Try.func90 rfl rfl (Nat.le_of_ble_eq_true rfl) (Nat.le_of_ble_eq_true rfl) (by kernel_rfl) ?_
  intro w0 Zi f0 v0 a w h
  rw [f90] at hF
  refine wp_reg_seq tok (orc := orcL []) (fz := []) (l := [0, 1]) (c := _) (.inl rfl) h (by kernel_rfl) (AllP.nil) ?_
  intro a w h
  refine wp_seq ?_
  refine wp_reg_seq tok (orc := orcL []) (fz := []) (l := [0, 1, 5]) (c := _) (.inl rfl) h (by kernel_rfl) (AllP.nil) ?_
  intro a w h
  refine wp_block ?_
  refine wp_loop_fuel (f90.l26 k) (fun ((v44, v45, v46) : ((List (Int × Int)) × Int × Int)) => [(0, .val sh9 v44), (1, .val (.int .i64) v45), (5, .val (.int .i64) v46)]) (fun v h => by obtain ⟨v44, v45, v46⟩ := v; rw [f90.l26] at h; cases h) ?_ hF (h.arrive (fz := []) (l := [0, 1, 5]) (.inl rfl) (by kernel_rfl))
  intro m26 v a w hF h
  obtain ⟨v44, v45, v46⟩ := v
  rw [f90.l26] at hF
  refine wp_seq ?_
  refine wp_reg_seq tok (orc := orcL []) (fz := []) (l := [0, 1, 5, 9]) (c := _) (.inl rfl) h (by kernel_rfl) (AllP.nil) ?_
  intro a w h
  refine wp_if h (b := (decide ((v46 : Int) < (List.length v44 : Int)))) (by kernel_rfl) (fun hb => ?_) (fun hb => ?_)
  · replace hF := of_t hb hF
    refine wp_skip ?_
    refine wp_seq <| wp_block ?_
    obtain ⟨hc50, hF⟩ := of_if hF
    refine wp_reg_seq tok (orc := orcL []) (fz := []) (l := [0, 1, 5]) (c := _) (.inl rfl) h (by kernel_rfl) (AllP.cons hc50 AllP.nil) ?_
    intro a w h
    refine wp_reg_seq tok (orc := orcL []) (fz := []) (l := [0, 1, 5]) (c := _) (.inl rfl) h (by kernel_rfl) (AllP.nil) ?_
    intro a w h
    obtain ⟨hc49, hF⟩ := of_if hF
    refine wp_reg_seq tok (orc := orcL []) (fz := []) (l := [0, 1, 5]) (c := _) (.inl rfl) h (by kernel_rfl) (AllP.cons hc49 AllP.nil) ?_
    intro a w h
    refine wp_reg tok (orc := orcL []) (fz := []) (l := [0, 1, 5]) (c := _) (.inl rfl) h (by kernel_rfl) (AllP.nil) ?_
    intro a w h
    refine wp_reg tok (orc := orcL []) (fz := []) (l := [0, 1, 5]) (c := _) (.inl rfl) h (by kernel_rfl) (AllP.nil) ?_
    intro a w h
    exact ⟨((List.set (List.set v44 (Int.toNat v46) (v45, (List.getD v44 (Int.toNat v46) ((0 : Int), (0 : Int))).2)) (Int.toNat v46) ((List.getD (List.set v44 (Int.toNat v46) (v45, (List.getD v44 (Int.toNat v46) ((0 : Int), (0 : Int))).2)) (Int.toNat v46) ((0 : Int), (0 : Int))).1, (IntKind.i64.wrap (v45 + (1 : Int))))), (IntKind.i64.wrap ((IntKind.i64.wrap (v45 + (1 : Int))) + (1 : Int))), (IntKind.i64.wrap (v46 + (1 : Int)))), hF, h.arrive (fz := []) (l := [0, 1, 5]) (.inl rfl) (by kernel_rfl)⟩
  · replace hF := of_f hb hF
    refine wp_exit ?_
    refine wp_reg_seq tok (orc := orcL []) (fz := []) (l := [0, 4]) (c := _) (.inl rfl) h (by kernel_rfl) (AllP.nil) ?_
    intro a w h
    cases hF
    exact wp_ret (retM_ok tok h rfl (by kernel_rfl) (by kernel_rfl)).1

def f22 (k : Nat) (x0 : ((List (Int × (Int × Int))) × ((List (Int × (Int × (Int × (Int × (Int × ByteArray)))))) × (List (Int × Int))))) (x1 : Int) : Option (Int × ((List (Int × (Int × Int))) × ((List (Int × (Int × (Int × (Int × (Int × ByteArray)))))) × (List (Int × Int))))) := (f88 k x0.1 x1).bind fun r1 => ((f89 k x0.2.1 r1.1).bind fun r2 => ((f90 k x0.2.2 r2.1).bind fun r3 => (some (r3.1, (r1.2, (r2.2, r3.2))))))
set_option maxRecDepth 100000 in
/-- 'laws.markGraph'. -/
theorem c22 (k : Nat) (x0 : ((List (Int × (Int × Int))) × ((List (Int × (Int × (Int × (Int × (Int × ByteArray)))))) × (List (Int × Int))))) (x1 : Int) (r : (Int × ((List (Int × (Int × Int))) × ((List (Int × (Int × (Int × (Int × (Int × ByteArray)))))) × (List (Int × Int)))))) (hF : f22 k x0 x1 = some r) : PMut Try.prog 22 [⟨sh10, x0⟩, ⟨(.int .i64), x1⟩] [⟨(.int .i64), r.1⟩] (List.set [⟨sh10, x0⟩, ⟨(.int .i64), x1⟩] 0 ⟨sh10, r.2⟩) := by
  refine pmut_intro (j := 0) (fin := ⟨sh10, r.2⟩) Try.func22 rfl rfl (Nat.le_of_ble_eq_true rfl) (Nat.le_of_ble_eq_true rfl) (by kernel_rfl) ?_
  intro w0 Zi f0 v0 a w h
  rw [f22] at hF
  refine wp_reg_seq tok (orc := orcL []) (fz := []) (l := [0, 1, 2]) (c := _) (.inl rfl) h (by kernel_rfl) (AllP.nil) ?_
  intro a w h
  obtain ⟨r1, hr6, hF⟩ := of_bind hF
  refine wp_reg_seq tok (orc := orcL [(8, [⟨.pt false 4294967295 (.sl true 176 (.st (.pair (.int .i64) (.st (.pair (.int .i64) (.int .i64)))))), some r1.2⟩, ⟨(.int .i64), r1.1⟩])]) (fz := []) (l := [0, 1, 2]) (c := _) (.inl rfl) h (by kernel_rfl) (AllP.cons (c88 k x0.1 x1 r1 hr6) AllP.nil) ?_
  intro a w h
  obtain ⟨r2, hr5, hF⟩ := of_bind hF
  refine wp_reg_seq tok (orc := orcL [(12, [⟨.pt false 4294967295 (.sl true 110 (.st (.pair (.int .i64) (.pair (.int .i64) (.pair (.int .i64) (.pair (.int .i64) (.pair (.int .i64) .str))))))), some r2.2⟩, ⟨(.int .i64), r2.1⟩])]) (fz := []) (l := [0, 1, 2]) (c := _) (.inl rfl) h (by kernel_rfl) (AllP.cons (c89 k x0.2.1 r1.1 r2 hr5) AllP.nil) ?_
  intro a w h
  obtain ⟨r3, hr4, hF⟩ := of_bind hF
  refine wp_reg_seq tok (orc := orcL [(16, [⟨.pt false 4294967295 (.sl true 167 (.st (.pair (.int .i64) (.int .i64)))), some r3.2⟩, ⟨(.int .i64), r3.1⟩])]) (fz := []) (l := [0, 1, 2]) (c := _) (.inl rfl) h (by kernel_rfl) (AllP.cons (c90 k x0.2.2 r2.1 r3 hr4) AllP.nil) ?_
  intro a w h
  refine wp_reg_seq tok (orc := orcL []) (fz := []) (l := [0, 2, 4]) (c := _) (.inl rfl) h (by kernel_rfl) (AllP.nil) ?_
  intro a w h
  cases hF
  exact wp_ret (retMS_ok (d := 2) (t := 35) tok h rfl (by kernel_rfl) (by kernel_rfl)).1

def f23.l20 (k : Nat) : Nat → ((List Int) × Int × Int) → Option (Int × (List Int))
  | 0, _ => none
  | m20 + 1, (v34, v35, v36) => if (decide ((v36 : Int) < (List.length v34 : Int))) then (if (0 ≤ v36 ∧ v36 < (List.length v34 : Int)) then ((f23.l20 k) m20 ((List.set v34 (Int.toNat v36) v35), (IntKind.i64.wrap (v35 + (1 : Int))), (IntKind.i64.wrap (v36 + (1 : Int))))) else none) else (some (v35, v34))
def f23 (k : Nat) (x0 : (List Int)) (x1 : Int) : Option (Int × (List Int)) := f23.l20 k k (x0, x1, (0 : Int))
set_option maxRecDepth 100000 in
/-- 'laws.markInt64S'. -/
theorem c23 (k : Nat) (x0 : (List Int)) (x1 : Int) (r : (Int × (List Int))) (hF : f23 k x0 x1 = some r) : PMut Try.prog 23 [⟨(.sl true 2 (.int .i64)), x0⟩, ⟨(.int .i64), x1⟩] [⟨(.int .i64), r.1⟩] (List.set [⟨(.sl true 2 (.int .i64)), x0⟩, ⟨(.int .i64), x1⟩] 0 ⟨(.sl true 2 (.int .i64)), r.2⟩) := by
  refine pmut_intro (j := 0) (fin := ⟨(.sl true 2 (.int .i64)), r.2⟩) Try.func23 rfl rfl (Nat.le_of_ble_eq_true rfl) (Nat.le_of_ble_eq_true rfl) (by kernel_rfl) ?_
  intro w0 Zi f0 v0 a w h
  rw [f23] at hF
  refine wp_reg_seq tok (orc := orcL []) (fz := []) (l := [0, 1]) (c := _) (.inl rfl) h (by kernel_rfl) (AllP.nil) ?_
  intro a w h
  refine wp_seq ?_
  refine wp_reg_seq tok (orc := orcL []) (fz := []) (l := [0, 1, 5]) (c := _) (.inl rfl) h (by kernel_rfl) (AllP.nil) ?_
  intro a w h
  refine wp_block ?_
  refine wp_loop_fuel (f23.l20 k) (fun ((v34, v35, v36) : ((List Int) × Int × Int)) => [(0, .val (.sl true 2 (.int .i64)) v34), (1, .val (.int .i64) v35), (5, .val (.int .i64) v36)]) (fun v h => by obtain ⟨v34, v35, v36⟩ := v; rw [f23.l20] at h; cases h) ?_ hF (h.arrive (fz := []) (l := [0, 1, 5]) (.inl rfl) (by kernel_rfl))
  intro m20 v a w hF h
  obtain ⟨v34, v35, v36⟩ := v
  rw [f23.l20] at hF
  refine wp_seq ?_
  refine wp_reg_seq tok (orc := orcL []) (fz := []) (l := [0, 1, 5, 9]) (c := _) (.inl rfl) h (by kernel_rfl) (AllP.nil) ?_
  intro a w h
  refine wp_if h (b := (decide ((v36 : Int) < (List.length v34 : Int)))) (by kernel_rfl) (fun hb => ?_) (fun hb => ?_)
  · replace hF := of_t hb hF
    refine wp_skip ?_
    refine wp_seq <| wp_block ?_
    obtain ⟨hc38, hF⟩ := of_if hF
    refine wp_reg_seq tok (orc := orcL []) (fz := []) (l := [0, 1, 5]) (c := _) (.inl rfl) h (by kernel_rfl) (AllP.cons hc38 AllP.nil) ?_
    intro a w h
    refine wp_reg tok (orc := orcL []) (fz := []) (l := [0, 1, 5]) (c := _) (.inl rfl) h (by kernel_rfl) (AllP.nil) ?_
    intro a w h
    refine wp_reg tok (orc := orcL []) (fz := []) (l := [0, 1, 5]) (c := _) (.inl rfl) h (by kernel_rfl) (AllP.nil) ?_
    intro a w h
    exact ⟨((List.set v34 (Int.toNat v36) v35), (IntKind.i64.wrap (v35 + (1 : Int))), (IntKind.i64.wrap (v36 + (1 : Int)))), hF, h.arrive (fz := []) (l := [0, 1, 5]) (.inl rfl) (by kernel_rfl)⟩
  · replace hF := of_f hb hF
    refine wp_exit ?_
    refine wp_reg_seq tok (orc := orcL []) (fz := []) (l := [0, 4]) (c := _) (.inl rfl) h (by kernel_rfl) (AllP.nil) ?_
    intro a w h
    cases hF
    exact wp_ret (retM_ok tok h rfl (by kernel_rfl) (by kernel_rfl)).1

def f44 (k : Nat) (x0 : (Bool × ((List Int) × (Int × Int)))) (x1 : Int) : Option (Int × (Bool × ((List Int) × (Int × Int)))) := (f23 k x0.2.1 x1).bind fun r1 => (some (r1.1, (x0.1, (r1.2, x0.2.2))))
set_option maxRecDepth 100000 in
/-- 'laws.markPath'. -/
theorem c44 (k : Nat) (x0 : (Bool × ((List Int) × (Int × Int)))) (x1 : Int) (r : (Int × (Bool × ((List Int) × (Int × Int))))) (hF : f44 k x0 x1 = some r) : PMut Try.prog 44 [⟨sh22, x0⟩, ⟨(.int .i64), x1⟩] [⟨(.int .i64), r.1⟩] (List.set [⟨sh22, x0⟩, ⟨(.int .i64), x1⟩] 0 ⟨sh22, r.2⟩) := by
  refine pmut_intro (j := 0) (fin := ⟨sh22, r.2⟩) Try.func44 rfl rfl (Nat.le_of_ble_eq_true rfl) (Nat.le_of_ble_eq_true rfl) (by kernel_rfl) ?_
  intro w0 Zi f0 v0 a w h
  rw [f44] at hF
  refine wp_reg_seq tok (orc := orcL []) (fz := []) (l := [0, 1, 2]) (c := _) (.inl rfl) h (by kernel_rfl) (AllP.nil) ?_
  intro a w h
  obtain ⟨r1, hr2, hF⟩ := of_bind hF
  refine wp_reg_seq tok (orc := orcL [(8, [⟨.pt false 4294967295 (.sl true 2 (.int .i64)), some r1.2⟩, ⟨(.int .i64), r1.1⟩])]) (fz := []) (l := [0, 1, 2]) (c := _) (.inl rfl) h (by kernel_rfl) (AllP.cons (c23 k x0.2.1 x1 r1 hr2) AllP.nil) ?_
  intro a w h
  refine wp_reg_seq tok (orc := orcL []) (fz := []) (l := [0, 2, 4]) (c := _) (.inl rfl) h (by kernel_rfl) (AllP.nil) ?_
  intro a w h
  cases hF
  exact wp_ret (retMS_ok (d := 2) (t := 69) tok h rfl (by kernel_rfl) (by kernel_rfl)).1

def f30.l16 (k : Nat) (x0 : (List Int)) : Nat → (Int × Int) → Option Int
  | 0, _ => none
  | m16 + 1, (v27, v28) => if (decide ((v28 : Int) < (List.length x0 : Int))) then (if (0 ≤ v28 ∧ v28 < (List.length x0 : Int)) then (if (((List.getD x0 (Int.toNat v28) (0 : Int)) : Int) != v27) then (some (-1 : Int)) else ((f30.l16 k x0) m16 ((IntKind.i64.wrap (v27 + (1 : Int))), (IntKind.i64.wrap (v28 + (1 : Int)))))) else none) else (some v27)
def f30 (k : Nat) (x0 : (List Int)) (x1 : Int) : Option Int := f30.l16 k x0 k (x1, (0 : Int))
set_option maxRecDepth 100000 in
/-- 'laws.heldInt64S'. -/
theorem c30 (k : Nat) (x0 : (List Int)) (x1 : Int) (r : Int) (hF : f30 k x0 x1 = some r) : PCall Try.prog 30 [⟨(.sl false 2 (.int .i64)), x0⟩, ⟨(.int .i64), x1⟩] [⟨(.int .i64), r⟩] := by
  refine pcall_intro Try.func30 rfl rfl (Nat.le_of_ble_eq_true rfl) ?_
  intro w0 Zi a w h
  rw [f30] at hF
  refine wp_reg_seq tok (orc := orcL []) (fz := []) (l := [0, 1]) (c := _) (.inr fun i h => h) h (by kernel_rfl) (AllP.nil) ?_
  intro a w h
  refine wp_seq ?_
  refine wp_reg_seq tok (orc := orcL []) (fz := []) (l := [0, 1, 5]) (c := _) (.inr fun i h => h) h (by kernel_rfl) (AllP.nil) ?_
  intro a w h
  refine wp_block ?_
  refine wp_loop_fuel (f30.l16 k x0) (fun ((v27, v28) : (Int × Int)) => [(0, .val (.sl false 2 (.int .i64)) x0), (1, .val (.int .i64) v27), (5, .val (.int .i64) v28)]) (fun v h => by obtain ⟨v27, v28⟩ := v; rw [f30.l16] at h; cases h) ?_ hF (h.arrive (fz := []) (l := [0, 1, 5]) (.inr fun i h => h) (by kernel_rfl))
  intro m16 v a w hF h
  obtain ⟨v27, v28⟩ := v
  rw [f30.l16] at hF
  refine wp_seq ?_
  refine wp_reg_seq tok (orc := orcL []) (fz := []) (l := [0, 1, 5, 9]) (c := _) (.inr fun i h => h) h (by kernel_rfl) (AllP.nil) ?_
  intro a w h
  refine wp_if h (b := (decide ((v28 : Int) < (List.length x0 : Int)))) (by kernel_rfl) (fun hb => ?_) (fun hb => ?_)
  · replace hF := of_t hb hF
    refine wp_skip ?_
    refine wp_seq <| wp_block ?_
    refine wp_seq ?_
    obtain ⟨hc30, hF⟩ := of_if hF
    refine wp_reg_seq tok (orc := orcL []) (fz := []) (l := [0, 1, 5, 17]) (c := _) (.inr fun i h => h) h (by kernel_rfl) (AllP.cons hc30 AllP.nil) ?_
    intro a w h
    refine wp_if h (b := (((List.getD x0 (Int.toNat v28) (0 : Int)) : Int) != v27)) (by kernel_rfl) (fun hb => ?_) (fun hb => ?_)
    · replace hF := of_t hb hF
      refine wp_reg_seq tok (orc := orcL []) (fz := []) (l := [4]) (c := _) (.inr fun i h => h) h (by kernel_rfl) (AllP.nil) ?_
      intro a w h
      cases hF
      exact wp_ret (ret_okR tok h rfl (by kernel_rfl)).1
    · replace hF := of_f hb hF
      refine wp_skip ?_
      refine wp_reg tok (orc := orcL []) (fz := []) (l := [0, 1, 5]) (c := _) (.inr fun i h => h) h (by kernel_rfl) (AllP.nil) ?_
      intro a w h
      refine wp_reg tok (orc := orcL []) (fz := []) (l := [0, 1, 5]) (c := _) (.inr fun i h => h) h (by kernel_rfl) (AllP.nil) ?_
      intro a w h
      exact ⟨((IntKind.i64.wrap (v27 + (1 : Int))), (IntKind.i64.wrap (v28 + (1 : Int)))), hF, h.arrive (fz := []) (l := [0, 1, 5]) (.inr fun i h => h) (by kernel_rfl)⟩
  · replace hF := of_f hb hF
    refine wp_exit ?_
    refine wp_reg_seq tok (orc := orcL []) (fz := []) (l := [4]) (c := _) (.inr fun i h => h) h (by kernel_rfl) (AllP.nil) ?_
    intro a w h
    cases hF
    exact wp_ret (ret_okR tok h rfl (by kernel_rfl)).1

def f45 (k : Nat) (x0 : (Bool × ((List Int) × (Int × Int)))) (x1 : Int) : Option Int := (f30 k x0.2.1 x1).bind fun r1 => (if (decide ((r1 : Int) < (0 : Int))) then (some (-1 : Int)) else (some r1))
set_option maxRecDepth 100000 in
/-- 'laws.heldPath'. -/
theorem c45 (k : Nat) (x0 : (Bool × ((List Int) × (Int × Int)))) (x1 : Int) (r : Int) (hF : f45 k x0 x1 = some r) : PCall Try.prog 45 [⟨sh36, x0⟩, ⟨(.int .i64), x1⟩] [⟨(.int .i64), r⟩] := by
  refine pcall_intro Try.func45 rfl rfl (Nat.le_of_ble_eq_true rfl) ?_
  intro w0 Zi a w h
  rw [f45] at hF
  refine wp_reg_seq tok (orc := orcL []) (fz := []) (l := [1, 2]) (c := _) (.inr fun i h => h) h (by kernel_rfl) (AllP.nil) ?_
  intro a w h
  obtain ⟨r1, hr2, hF⟩ := of_bind hF
  refine wp_reg_seq tok (orc := orcL [(8, [⟨(.int .i64), r1⟩])]) (fz := []) (l := [1]) (c := _) (.inr fun i h => h) h (by kernel_rfl) (AllP.cons (c30 k x0.2.1 x1 r1 hr2) AllP.nil) ?_
  intro a w h
  refine wp_seq ?_
  refine wp_reg_seq tok (orc := orcL []) (fz := []) (l := [1, 10]) (c := _) (.inr fun i h => h) h (by kernel_rfl) (AllP.nil) ?_
  intro a w h
  refine wp_if h (b := (decide ((r1 : Int) < (0 : Int)))) (by kernel_rfl) (fun hb => ?_) (fun hb => ?_)
  · replace hF := of_t hb hF
    refine wp_reg_seq tok (orc := orcL []) (fz := []) (l := [4]) (c := _) (.inr fun i h => h) h (by kernel_rfl) (AllP.nil) ?_
    intro a w h
    cases hF
    exact wp_ret (ret_okR tok h rfl (by kernel_rfl)).1
  · replace hF := of_f hb hF
    refine wp_skip ?_
    refine wp_reg_seq tok (orc := orcL []) (fz := []) (l := [4]) (c := _) (.inr fun i h => h) h (by kernel_rfl) (AllP.nil) ?_
    intro a w h
    cases hF
    exact wp_ret (ret_okR tok h rfl (by kernel_rfl)).1

def f8 (k : Nat) (x0 : ((List (Int × (Int × Int))) × ((List (Int × (Int × (Int × (Int × (Int × ByteArray)))))) × (List (Int × Int))))) (x1 : (List Int)) (x2 : Int) (x3 : Int) (x4 : Int) : Option Bool := if (decide (((List.length x1 : Int) : Int) > (1048576 : Int))) then (some true) else ((f14 k x0 (1048576 : Int)).bind fun r1 => (if (decide ((r1 : Int) < (0 : Int))) then (some true) else ((f16 k x0).bind fun r2 => ((f17 k x1).bind fun r3 => ((f46 k r2 r3 x2 x3 x4).bind fun r4 => ((f16 k x0).bind fun r5 => ((f17 k x1).bind fun r6 => ((f47 k r5 r6 x2 x3 x4).bind fun r7 => ((f43 k r7 r4).bind fun r8 => (if (!r8) then (some false) else ((f16 k x0).bind fun r9 => ((f20 k r5 r9).bind fun r10 => (if (!r10) then (some false) else ((f17 k x1).bind fun r11 => ((f21 k r6 r11).bind fun r12 => (if (!r12) then (some false) else ((f22 k r5 (1 : Int)).bind fun r13 => ((f23 k r6 r13.1).bind fun r14 => ((if ((decide ((r14.1 : Int) < (0 : Int))) = false) then f43 k r7 r4 else some default).bind fun r15 => (if (bif (decide ((r14.1 : Int) < (0 : Int))) then true else (!r15)) then (some false) else ((f44 k r7 (1 : Int)).bind fun r16 => ((f45 k r16.2 (1 : Int)).bind fun r17 => (if (decide ((r17 : Int) < (0 : Int))) then (some false) else (if ((r17 : Int) != r16.1) then (some false) else ((f16 k x0).bind fun r18 => ((f17 k x1).bind fun r19 => ((f47 k r18 r19 x2 x3 x4).bind fun r20 => ((f43 k r20 r4).bind fun r21 => (if (!r21) then (some false) else ((f45 k r16.2 (1 : Int)).bind fun r22 => (if (decide ((r22 : Int) < (0 : Int))) then (some false) else (if ((r22 : Int) != r16.1) then (some false) else (some true)))))))))))))))))))))))))))))))))
set_option maxRecDepth 100000 in
/-- 'laws.FnExactDaily'. -/
theorem c8 (k : Nat) (x0 : ((List (Int × (Int × Int))) × ((List (Int × (Int × (Int × (Int × (Int × ByteArray)))))) × (List (Int × Int))))) (x1 : (List Int)) (x2 : Int) (x3 : Int) (x4 : Int) (r : Bool) (hF : f8 k x0 x1 x2 x3 x4 = some r) : PCall Try.prog 8 [⟨sh4, x0⟩, ⟨(.sl false 2 (.int .i64)), x1⟩, ⟨(.int .i64), x2⟩, ⟨(.int .i64), x3⟩, ⟨(.int .i64), x4⟩] [⟨.bool, r⟩] := by
  refine pcall_intro Try.func8 rfl rfl (Nat.le_of_ble_eq_true rfl) ?_
  intro w0 Zi a w h
  rw [f8] at hF
  refine wp_reg_seq tok (orc := orcL []) (fz := []) (l := [1, 2, 3, 4, 5]) (c := _) (.inr fun i h => h) h (by kernel_rfl) (AllP.nil) ?_
  intro a w h
  refine wp_seq ?_
  refine wp_reg_seq tok (orc := orcL []) (fz := []) (l := [1, 2, 3, 4, 5, 22]) (c := _) (.inr fun i h => h) h (by kernel_rfl) (AllP.nil) ?_
  intro a w h
  refine wp_if h (b := (decide (((List.length x1 : Int) : Int) > (1048576 : Int)))) (by kernel_rfl) (fun hb => ?_) (fun hb => ?_)
  · replace hF := of_t hb hF
    refine wp_reg_seq tok (orc := orcL []) (fz := []) (l := [10]) (c := _) (.inr fun i h => h) h (by kernel_rfl) (AllP.nil) ?_
    intro a w h
    cases hF
    exact wp_ret (ret_okR tok h rfl (by kernel_rfl)).1
  · replace hF := of_f hb hF
    refine wp_skip ?_
    refine wp_reg_seq tok (orc := orcL []) (fz := []) (l := [1, 2, 3, 4, 5, 11]) (c := _) (.inr fun i h => h) h (by kernel_rfl) (AllP.nil) ?_
    intro a w h
    obtain ⟨r1, hr44, hF⟩ := of_bind hF
    refine wp_reg_seq tok (orc := orcL [(25, [⟨(.int .i64), r1⟩])]) (fz := []) (l := [1, 2, 3, 4, 5, 11]) (c := _) (.inr fun i h => h) h (by kernel_rfl) (AllP.cons (c14 k x0 (1048576 : Int) r1 hr44) AllP.nil) ?_
    intro a w h
    refine wp_seq ?_
    refine wp_reg_seq tok (orc := orcL []) (fz := []) (l := [1, 2, 3, 4, 5, 27]) (c := _) (.inr fun i h => h) h (by kernel_rfl) (AllP.nil) ?_
    intro a w h
    refine wp_if h (b := (decide ((r1 : Int) < (0 : Int)))) (by kernel_rfl) (fun hb => ?_) (fun hb => ?_)
    · replace hF := of_t hb hF
      refine wp_reg_seq tok (orc := orcL []) (fz := []) (l := [10]) (c := _) (.inr fun i h => h) h (by kernel_rfl) (AllP.nil) ?_
      intro a w h
      cases hF
      exact wp_ret (ret_okR tok h rfl (by kernel_rfl)).1
    · replace hF := of_f hb hF
      refine wp_skip ?_
      obtain ⟨r2, hr41, hF⟩ := of_bind hF
      obtain ⟨r3, hr42, hF⟩ := of_bind hF
      obtain ⟨r4, hr43, hF⟩ := of_bind hF
      refine wp_reg_seq tok (orc := orcL [(29, [⟨sh10, r2⟩]), (31, [⟨(.sl true 2 (.int .i64)), r3⟩]), (35, [⟨sh22, r4⟩])]) (fz := []) (l := [1, 2, 3, 4, 5, 12]) (c := _) (.inr fun i h => h) h (by kernel_rfl) (AllP.cons (c16 k x0 r2 hr41) (AllP.cons (c17 k x1 r3 hr42) (AllP.cons (c46 k r2 r3 x2 x3 x4 r4 hr43) AllP.nil))) ?_
      intro a w h
      obtain ⟨r5, hr40, hF⟩ := of_bind hF
      refine wp_reg_seq tok (orc := orcL [(37, [⟨sh10, r5⟩])]) (fz := []) (l := [1, 2, 3, 4, 5, 12, 13]) (c := _) (.inr fun i h => h) h (by kernel_rfl) (AllP.cons (c16 k x0 r5 hr40) AllP.nil) ?_
      intro a w h
      obtain ⟨r6, hr39, hF⟩ := of_bind hF
      refine wp_reg_seq tok (orc := orcL [(39, [⟨(.sl true 2 (.int .i64)), r6⟩])]) (fz := []) (l := [1, 2, 3, 4, 5, 12, 13, 14]) (c := _) (.inr fun i h => h) h (by kernel_rfl) (AllP.cons (c17 k x1 r6 hr39) AllP.nil) ?_
      intro a w h
      obtain ⟨r7, hr38, hF⟩ := of_bind hF
      refine wp_reg_seq tok (orc := orcL [(45, [⟨sh22, r7⟩])]) (fz := []) (l := [1, 2, 3, 4, 5, 12, 13, 14, 15]) (c := _) (.inr fun i h => h) h (by kernel_rfl) (AllP.cons (c47 k r5 r6 x2 x3 x4 r7 hr38) AllP.nil) ?_
      intro a w h
      refine wp_seq ?_
      obtain ⟨r8, hr37, hF⟩ := of_bind hF
      refine wp_reg_seq tok (orc := orcL [(48, [⟨.bool, r8⟩])]) (fz := []) (l := [1, 2, 3, 4, 5, 12, 13, 14, 15, 49]) (c := _) (.inr fun i h => h) h (by kernel_rfl) (AllP.cons (c43 k r7 r4 r8 hr37) AllP.nil) ?_
      intro a w h
      refine wp_if h (b := (!r8)) (by kernel_rfl) (fun hb => ?_) (fun hb => ?_)
      · replace hF := of_t hb hF
        refine wp_reg_seq tok (orc := orcL []) (fz := []) (l := [10]) (c := _) (.inr fun i h => h) h (by kernel_rfl) (AllP.nil) ?_
        intro a w h
        cases hF
        exact wp_ret (ret_okR tok h rfl (by kernel_rfl)).1
      · replace hF := of_f hb hF
        refine wp_skip ?_
        refine wp_seq ?_
        obtain ⟨r9, hr35, hF⟩ := of_bind hF
        obtain ⟨r10, hr36, hF⟩ := of_bind hF
        refine wp_regy_seq tok (orc := orcL [(52, [⟨sh10, r9⟩]), (53, [⟨.bool, r10⟩])]) (fz := []) (l := [1, 2, 3, 4, 5, 12, 13, 14, 15, 54]) (c := _) ([], [], [], []) 5 (.inr fun i h => h) h (by kernel_rfl) (by kernel_rfl) (AllP.cons (c16 k x0 r9 hr35) (AllP.cons (c20 k r5 r9 r10 hr36) AllP.nil)) ?_
        intro a w h
        refine wp_if h (b := (!r10)) (by kernel_rfl) (fun hb => ?_) (fun hb => ?_)
        · replace hF := of_t hb hF
          refine wp_reg_seq tok (orc := orcL []) (fz := []) (l := [10]) (c := _) (.inr fun i h => h) h (by kernel_rfl) (AllP.nil) ?_
          intro a w h
          cases hF
          exact wp_ret (ret_okR tok h rfl (by kernel_rfl)).1
        · replace hF := of_f hb hF
          refine wp_skip ?_
          refine wp_seq ?_
          obtain ⟨r11, hr33, hF⟩ := of_bind hF
          obtain ⟨r12, hr34, hF⟩ := of_bind hF
          refine wp_reg_seq tok (orc := orcL [(57, [⟨(.sl true 2 (.int .i64)), r11⟩]), (58, [⟨.bool, r12⟩])]) (fz := []) (l := [1, 2, 3, 4, 5, 12, 13, 14, 15, 59]) (c := _) (.inr fun i h => h) h (by kernel_rfl) (AllP.cons (c17 k x1 r11 hr33) (AllP.cons (c21 k r6 r11 r12 hr34) AllP.nil)) ?_
          intro a w h
          refine wp_if h (b := (!r12)) (by kernel_rfl) (fun hb => ?_) (fun hb => ?_)
          · replace hF := of_t hb hF
            refine wp_reg_seq tok (orc := orcL []) (fz := []) (l := [10]) (c := _) (.inr fun i h => h) h (by kernel_rfl) (AllP.nil) ?_
            intro a w h
            cases hF
            exact wp_ret (ret_okR tok h rfl (by kernel_rfl)).1
          · replace hF := of_f hb hF
            refine wp_skip ?_
            refine wp_reg_seq tok (orc := orcL []) (fz := []) (l := [1, 2, 3, 4, 5, 12, 13, 14, 15, 16]) (c := _) (.inr fun i h => h) h (by kernel_rfl) (AllP.nil) ?_
            intro a w h
            obtain ⟨r13, hr32, hF⟩ := of_bind hF
            refine wp_reg_seq tok (orc := orcL [(62, [⟨.pt false 4294967295 (.st (.pair (.sl true 176 (.st (.pair (.int .i64) (.st (.pair (.int .i64) (.int .i64)))))) (.pair (.sl true 110 (.st (.pair (.int .i64) (.pair (.int .i64) (.pair (.int .i64) (.pair (.int .i64) (.pair (.int .i64) .str))))))) (.sl true 167 (.st (.pair (.int .i64) (.int .i64))))))), some r13.2⟩, ⟨(.int .i64), r13.1⟩])]) (fz := []) (l := [1, 2, 3, 4, 5, 12, 14, 15, 16]) (c := _) (.inr fun i h => h) h (by kernel_rfl) (AllP.cons (c22 k r5 (1 : Int) r13 hr32) AllP.nil) ?_
            intro a w h
            obtain ⟨r14, hr31, hF⟩ := of_bind hF
            refine wp_reg_seq tok (orc := orcL [(65, [⟨.pt false 4294967295 (.sl true 2 (.int .i64)), some r14.2⟩, ⟨(.int .i64), r14.1⟩])]) (fz := []) (l := [1, 2, 3, 4, 5, 12, 15, 16]) (c := _) (.inr fun i h => h) h (by kernel_rfl) (AllP.cons (c23 k r6 r13.1 r14 hr31) AllP.nil) ?_
            intro a w h
            refine wp_seq ?_
            obtain ⟨r15, hr30, hF⟩ := of_bind hF
            refine wp_reg_seq tok (orc := orcL [(71, [⟨.bool, r15⟩])]) (fz := []) (l := [1, 2, 3, 4, 5, 12, 15, 73]) (c := _) (.inr fun i h => h) h (by kernel_rfl) (AllP.cons (fun (hg : ((decide ((r14.1 : Int) < (0 : Int))) = false)) => c43 k r7 r4 r15 (of_g hg hr30)) AllP.nil) ?_
            intro a w h
            refine wp_if h (b := (bif (decide ((r14.1 : Int) < (0 : Int))) then true else (!r15))) (by kernel_rfl) (fun hb => ?_) (fun hb => ?_)
            · replace hF := of_t hb hF
              refine wp_reg_seq tok (orc := orcL []) (fz := []) (l := [10]) (c := _) (.inr fun i h => h) h (by kernel_rfl) (AllP.nil) ?_
              intro a w h
              cases hF
              exact wp_ret (ret_okR tok h rfl (by kernel_rfl)).1
            · replace hF := of_f hb hF
              refine wp_skip ?_
              refine wp_reg_seq tok (orc := orcL []) (fz := []) (l := [1, 2, 3, 4, 5, 12, 15, 17]) (c := _) (.inr fun i h => h) h (by kernel_rfl) (AllP.nil) ?_
              intro a w h
              obtain ⟨r16, hr29, hF⟩ := of_bind hF
              refine wp_reg_seq tok (orc := orcL [(76, [⟨.pt false 4294967295 (.st (.pair .bool (.pair (.sl true 2 (.int .i64)) (.pair (.int .i64) (.int .i64))))), some r16.2⟩, ⟨(.int .i64), r16.1⟩])]) (fz := []) (l := [1, 2, 3, 4, 5, 12, 15, 17]) (c := _) (.inr fun i h => h) h (by kernel_rfl) (AllP.cons (c44 k r7 (1 : Int) r16 hr29) AllP.nil) ?_
              intro a w h
              refine wp_reg_seq tok (orc := orcL []) (fz := []) (l := [1, 2, 3, 4, 5, 12, 15, 17, 18]) (c := _) (.inr fun i h => h) h (by kernel_rfl) (AllP.nil) ?_
              intro a w h
              obtain ⟨r17, hr28, hF⟩ := of_bind hF
              refine wp_reg_seq tok (orc := orcL [(79, [⟨(.int .i64), r17⟩])]) (fz := []) (l := [1, 2, 3, 4, 5, 12, 15, 17, 18]) (c := _) (.inr fun i h => h) h (by kernel_rfl) (AllP.cons (c45 k r16.2 (1 : Int) r17 hr28) AllP.nil) ?_
              intro a w h
              refine wp_seq ?_
              refine wp_reg_seq tok (orc := orcL []) (fz := []) (l := [1, 2, 3, 4, 5, 12, 15, 17, 18, 81]) (c := _) (.inr fun i h => h) h (by kernel_rfl) (AllP.nil) ?_
              intro a w h
              refine wp_if h (b := (decide ((r17 : Int) < (0 : Int)))) (by kernel_rfl) (fun hb => ?_) (fun hb => ?_)
              · replace hF := of_t hb hF
                refine wp_reg_seq tok (orc := orcL []) (fz := []) (l := [10]) (c := _) (.inr fun i h => h) h (by kernel_rfl) (AllP.nil) ?_
                intro a w h
                cases hF
                exact wp_ret (ret_okR tok h rfl (by kernel_rfl)).1
              · replace hF := of_f hb hF
                refine wp_skip ?_
                refine wp_seq ?_
                refine wp_reg_seq tok (orc := orcL []) (fz := []) (l := [1, 2, 3, 4, 5, 12, 15, 17, 84]) (c := _) (.inr fun i h => h) h (by kernel_rfl) (AllP.nil) ?_
                intro a w h
                refine wp_if h (b := ((r17 : Int) != r16.1)) (by kernel_rfl) (fun hb => ?_) (fun hb => ?_)
                · replace hF := of_t hb hF
                  refine wp_reg_seq tok (orc := orcL []) (fz := []) (l := [10]) (c := _) (.inr fun i h => h) h (by kernel_rfl) (AllP.nil) ?_
                  intro a w h
                  cases hF
                  exact wp_ret (ret_okR tok h rfl (by kernel_rfl)).1
                · replace hF := of_f hb hF
                  refine wp_skip ?_
                  obtain ⟨r18, hr25, hF⟩ := of_bind hF
                  obtain ⟨r19, hr26, hF⟩ := of_bind hF
                  obtain ⟨r20, hr27, hF⟩ := of_bind hF
                  refine wp_reg_seq tok (orc := orcL [(86, [⟨sh10, r18⟩]), (88, [⟨(.sl true 2 (.int .i64)), r19⟩]), (92, [⟨sh22, r20⟩])]) (fz := []) (l := [12, 15, 17, 19]) (c := _) (.inr fun i h => h) h (by kernel_rfl) (AllP.cons (c16 k x0 r18 hr25) (AllP.cons (c17 k x1 r19 hr26) (AllP.cons (c47 k r18 r19 x2 x3 x4 r20 hr27) AllP.nil))) ?_
                  intro a w h
                  refine wp_seq ?_
                  obtain ⟨r21, hr24, hF⟩ := of_bind hF
                  refine wp_reg_seq tok (orc := orcL [(95, [⟨.bool, r21⟩])]) (fz := []) (l := [15, 17, 96]) (c := _) (.inr fun i h => h) h (by kernel_rfl) (AllP.cons (c43 k r20 r4 r21 hr24) AllP.nil) ?_
                  intro a w h
                  refine wp_if h (b := (!r21)) (by kernel_rfl) (fun hb => ?_) (fun hb => ?_)
                  · replace hF := of_t hb hF
                    refine wp_reg_seq tok (orc := orcL []) (fz := []) (l := [10]) (c := _) (.inr fun i h => h) h (by kernel_rfl) (AllP.nil) ?_
                    intro a w h
                    cases hF
                    exact wp_ret (ret_okR tok h rfl (by kernel_rfl)).1
                  · replace hF := of_f hb hF
                    refine wp_skip ?_
                    refine wp_reg_seq tok (orc := orcL []) (fz := []) (l := [15, 17, 18]) (c := _) (.inr fun i h => h) h (by kernel_rfl) (AllP.nil) ?_
                    intro a w h
                    obtain ⟨r22, hr23, hF⟩ := of_bind hF
                    refine wp_reg_seq tok (orc := orcL [(99, [⟨(.int .i64), r22⟩])]) (fz := []) (l := [17, 18]) (c := _) (.inr fun i h => h) h (by kernel_rfl) (AllP.cons (c45 k r16.2 (1 : Int) r22 hr23) AllP.nil) ?_
                    intro a w h
                    refine wp_seq ?_
                    refine wp_reg_seq tok (orc := orcL []) (fz := []) (l := [17, 18, 101]) (c := _) (.inr fun i h => h) h (by kernel_rfl) (AllP.nil) ?_
                    intro a w h
                    refine wp_if h (b := (decide ((r22 : Int) < (0 : Int)))) (by kernel_rfl) (fun hb => ?_) (fun hb => ?_)
                    · replace hF := of_t hb hF
                      refine wp_reg_seq tok (orc := orcL []) (fz := []) (l := [10]) (c := _) (.inr fun i h => h) h (by kernel_rfl) (AllP.nil) ?_
                      intro a w h
                      cases hF
                      exact wp_ret (ret_okR tok h rfl (by kernel_rfl)).1
                    · replace hF := of_f hb hF
                      refine wp_skip ?_
                      refine wp_seq ?_
                      refine wp_reg_seq tok (orc := orcL []) (fz := []) (l := [104]) (c := _) (.inr fun i h => h) h (by kernel_rfl) (AllP.nil) ?_
                      intro a w h
                      refine wp_if h (b := ((r22 : Int) != r16.1)) (by kernel_rfl) (fun hb => ?_) (fun hb => ?_)
                      · replace hF := of_t hb hF
                        refine wp_reg_seq tok (orc := orcL []) (fz := []) (l := [10]) (c := _) (.inr fun i h => h) h (by kernel_rfl) (AllP.nil) ?_
                        intro a w h
                        cases hF
                        exact wp_ret (ret_okR tok h rfl (by kernel_rfl)).1
                      · replace hF := of_f hb hF
                        refine wp_skip ?_
                        refine wp_reg_seq tok (orc := orcL []) (fz := []) (l := [10]) (c := _) (.inr fun i h => h) h (by kernel_rfl) (AllP.nil) ?_
                        intro a w h
                        cases hF
                        exact wp_ret (ret_okR tok h rfl (by kernel_rfl)).1
end Go.Proofs.Ytchbpdnaodicaaa.V
