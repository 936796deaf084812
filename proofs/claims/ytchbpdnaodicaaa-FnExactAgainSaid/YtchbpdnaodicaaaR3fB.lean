/-
  THE CONTRACTS OF SOME FUNCTIONS OF THIS SEAT, PRINTED BY A PROGRAM OF THIS PROJECT (wip/gen/vgen.py).
-/
import Derived.Test.YtchbpdnaodicaaaProg
import Derived.Test.YtchbpdnaodicaaaVmW
import Derived.Test.YtchbpdnaodicaaaVmZ
import Derived.KernelRfl
import Derived.Test.YtchbpdnaodicaaaR3fA
set_option linter.unusedVariables false
open Go Go.Vm Go.Proofs
namespace Go.Proofs.Ytchbpdnaodicaaa.V
set_option maxRecDepth 100000
def f184.j143 (k : Nat) (v131 : Int) (q77 : (Int × Int × Int) → Option Int) : (Int × Int) → Option Int
  | (v141, v142) => q77 (v141, v142, (IntKind.i64.wrap (v131 + (1 : Int))))
def f184.l77 (k : Nat) (x1 : (List Int)) (x0 : ((List Int) × (List Int))) (x2 : (List Int)) : Nat → (Int × Int × Int) → Option Int
  | 0, _ => none
  | m77 + 1, (v129, v130, v131) => if (decide ((v131 : Int) < (List.length x1 : Int))) then (if (0 ≤ v131 ∧ v131 < (List.length x1 : Int)) then (if (0 ≤ (List.getD x1 (Int.toNat v131) (0 : Int)) ∧ (List.getD x1 (Int.toNat v131) (0 : Int)) < (List.length x0.1 : Int)) then (if (((decide (((List.getD x0.1 (Int.toNat (List.getD x1 (Int.toNat v131) (0 : Int))) (0 : Int)) : Int) < (0 : Int))) = false) → (0 ≤ v131 ∧ v131 < (List.length x2 : Int))) then (if (bif (decide (((List.getD x0.1 (Int.toNat (List.getD x1 (Int.toNat v131) (0 : Int))) (0 : Int)) : Int) < (0 : Int))) then true else (decide (((List.getD x2 (Int.toNat v131) (0 : Int)) : Int) < (0 : Int)))) then (f184.j143 k v131 ((f184.l77 k x1 x0 x2) m77) (v129, v130)) else (if (0 ≤ (List.getD x1 (Int.toNat v131) (0 : Int)) ∧ (List.getD x1 (Int.toNat v131) (0 : Int)) < (List.length x0.1 : Int)) then (if (0 ≤ v131 ∧ v131 < (List.length x2 : Int)) then (if ((((bif (decide ((v129 : Int) < (0 : Int))) then true else (decide (((IntKind.i64.wrap ((List.getD x0.1 (Int.toNat (List.getD x1 (Int.toNat v131) (0 : Int))) (0 : Int)) + (List.getD x2 (Int.toNat v131) (0 : Int)))) : Int) < v130))) = false) ∧ ((((IntKind.i64.wrap ((List.getD x0.1 (Int.toNat (List.getD x1 (Int.toNat v131) (0 : Int))) (0 : Int)) + (List.getD x2 (Int.toNat v131) (0 : Int)))) : Int) == v130) = true)) → (0 ≤ (List.getD x1 (Int.toNat v131) (0 : Int)) ∧ (List.getD x1 (Int.toNat v131) (0 : Int)) < (List.length x0.2 : Int))) then (if ((((bif (decide ((v129 : Int) < (0 : Int))) then true else (decide (((IntKind.i64.wrap ((List.getD x0.1 (Int.toNat (List.getD x1 (Int.toNat v131) (0 : Int))) (0 : Int)) + (List.getD x2 (Int.toNat v131) (0 : Int)))) : Int) < v130))) = false) ∧ ((((IntKind.i64.wrap ((List.getD x0.1 (Int.toNat (List.getD x1 (Int.toNat v131) (0 : Int))) (0 : Int)) + (List.getD x2 (Int.toNat v131) (0 : Int)))) : Int) == v130) = true)) → (0 ≤ v129 ∧ v129 < (List.length x0.2 : Int))) then ((some ((bif (bif (decide ((v129 : Int) < (0 : Int))) then true else (decide (((IntKind.i64.wrap ((List.getD x0.1 (Int.toNat (List.getD x1 (Int.toNat v131) (0 : Int))) (0 : Int)) + (List.getD x2 (Int.toNat v131) (0 : Int)))) : Int) < v130))) then true else (bif (((IntKind.i64.wrap ((List.getD x0.1 (Int.toNat (List.getD x1 (Int.toNat v131) (0 : Int))) (0 : Int)) + (List.getD x2 (Int.toNat v131) (0 : Int)))) : Int) == v130) then (decide (((List.getD x0.2 (Int.toNat (List.getD x1 (Int.toNat v131) (0 : Int))) (0 : Int)) : Int) < (List.getD x0.2 (Int.toNat v129) (0 : Int)))) else false)) : Bool)).bind fun v144 => (if v144 then (f184.j143 k v131 ((f184.l77 k x1 x0 x2) m77) ((List.getD x1 (Int.toNat v131) (0 : Int)), (IntKind.i64.wrap ((List.getD x0.1 (Int.toNat (List.getD x1 (Int.toNat v131) (0 : Int))) (0 : Int)) + (List.getD x2 (Int.toNat v131) (0 : Int)))))) else (f184.j143 k v131 ((f184.l77 k x1 x0 x2) m77) (v129, v130)))) else none) else none) else none) else none)) else none) else none) else none) else (some v129)
def f184 (k : Nat) (x0 : ((List Int) × (List Int))) (x1 : (List Int)) (x2 : (List Int)) : Option Int := f184.l77 k x1 x0 x2 k ((-1 : Int), (0 : Int), (0 : Int))
theorem c184 (k : Nat) (x0 : ((List Int) × (List Int))) (x1 : (List Int)) (x2 : (List Int)) (r : Int) (hF : f184 k x0 x1 x2 = some r) : PCall Try.prog 184 [⟨sh24, x0⟩, ⟨(.sl false 2 (.int .i64)), x1⟩, ⟨(.sl false 2 (.int .i64)), x2⟩] [⟨(.int .i64), r⟩] := by
  refine pcall_intro Try.func184 rfl rfl (Nat.le_of_ble_eq_true rfl) ?_
  intro w0 Zi a w h
  rw [f184] at hF
  refine wp_reg_seq tok (orc := o0) (l := [1, 2, 3]) nw h (by kernel_rfl) an fun a w h => ?_
  refine wp_reg_seq tok (orc := o0) (l := [1, 2, 3, 7]) nw h (by kernel_rfl) an fun a w h => ?_
  refine wp_reg_seq tok (orc := o0) (l := [1, 2, 3, 7, 8]) nw h (by kernel_rfl) an fun a w h => ?_
  refine wp_seq ?_
  refine wp_reg_seq tok (orc := o0) (l := [1, 2, 3, 7, 8, 9]) nw h (by kernel_rfl) an fun a w h => ?_
  refine wp_block ?_
  refine wp_loop_fuel (f184.l77 k x1 x0 x2) (fun ((v129, v130, v131) : (Int × Int × Int)) => [(1, .val (.sl false 2 (.int .i64)) x1), (2, .val (.sl false 2 (.int .i64)) x2), (3, .val sh23 (some x0)), (7, .val (.int .i64) v129), (8, .val (.int .i64) v130), (9, .val (.int .i64) v131)]) (fun v h => by obtain ⟨v129, v130, v131⟩ := v; rw [f184.l77] at h; cases h) ?_ hF (h.arrive (l := [1, 2, 3, 7, 8, 9]) nw (by kernel_rfl))
  intro m77 v a w hF h
  obtain ⟨v129, v130, v131⟩ := v
  rw [f184.l77] at hF
  refine wp_seq ?_
  refine wp_reg_seq tok (orc := o0) (l := [1, 2, 3, 7, 8, 9, 15]) nw h (by kernel_rfl) an fun a w h => ?_
  refine wp_if h (b := (decide ((v131 : Int) < (List.length x1 : Int)))) (by kernel_rfl) (fun hb => ?_) (fun hb => ?_)
  · replace hF := of_t hb hF
    refine wp_skip ?_
    refine wp_mid (fun a w => ∃ v : (Int × Int), f184.j143 k v131 ((f184.l77 k x1 x0 x2) m77) v = some r ∧ Rel w0 (fun _ => False) Zi Try.f184.ntmps ((fun ((v141, v142) : (Int × Int)) => ([(1, .val (.sl false 2 (.int .i64)) x1), (2, .val (.sl false 2 (.int .i64)) x2), (3, .val sh23 (some x0)), (7, .val (.int .i64) v141), (8, .val (.int .i64) v142), (9, .val (.int .i64) v131)] : SS)) v) a w) ?_ ?_
    ·
      refine wp_block ?_
      obtain ⟨hc152, hF⟩ := of_if hF
      refine wp_reg_seq tok (orc := o0) (l := [1, 2, 3, 7, 8, 9, 10]) nw h (by kernel_rfl) (ac hc152 an) fun a w h => ?_
      refine wp_seq ?_
      obtain ⟨hc150, hF⟩ := of_if hF
      obtain ⟨hc151, hF⟩ := of_if hF
      refine wp_reg_seq tok (orc := o0) (l := [1, 2, 3, 7, 8, 9, 10, 34]) nw h (by kernel_rfl) (ac hc150 (ac hc151 an)) fun a w h => ?_
      refine wp_if h (b := (bif (decide (((gD x0.1 (tZ (gD x1 (tZ v131) iO)) iO) : Int) < iO)) then true else (decide (((gD x2 (tZ v131) iO) : Int) < iO)))) (by kernel_rfl) (fun hb => ?_) (fun hb => ?_)
      · replace hF := of_t hb hF
        refine wp_exit ?_
        exact ⟨(v129, v130), hF, h.arrive (l := [1, 2, 3, 7, 8, 9]) nw (by kernel_rfl)⟩
      · replace hF := of_f hb hF
        refine wp_skip ?_
        obtain ⟨hc148, hF⟩ := of_if hF
        obtain ⟨hc149, hF⟩ := of_if hF
        refine wp_regy_seq tok (orc := o0) (l := [1, 2, 3, 7, 8, 9, 10, 11]) ([], [], [], []) 11 nw h (by kernel_rfl) (by kernel_rfl) (ac hc148 (ac hc149 an)) fun a w h => ?_
        obtain ⟨hc146, hF⟩ := of_if hF
        obtain ⟨hc147, hF⟩ := of_if hF
        refine wp_regy_seq tok (orc := o0) (l := [1, 2, 3, 7, 8, 9, 10, 11, 69]) ([], [], [], []) 25 nw h (by kernel_rfl) (by kernel_rfl) (ac hc146 (ac hc147 an)) fun a w h => ?_
        obtain ⟨v144, hv145, hF⟩ := of_bind hF
        replace h := h.cast (S' := [(1, .val (.sl false 2 (.int .i64)) x1), (2, .val (.sl false 2 (.int .i64)) x2), (3, .val sh23 (some x0)), (7, .val (.int .i64) v129), (8, .val (.int .i64) v130), (9, .val (.int .i64) v131), (10, .val (.int .i64) (gD x1 (tZ v131) iO)), (11, .val (.int .i64) (w64 ((gD x0.1 (tZ (gD x1 (tZ v131) iO)) iO) + (gD x2 (tZ v131) iO)))), (69, .val .bool v144)]) (by cases hv145; kernel_rfl)
        refine wp_if h (b := v144) (by kernel_rfl) (fun hb => ?_) (fun hb => ?_)
        · replace hF := of_t hb hF
          refine wp_reg_seq tok (orc := o0) (l := [1, 2, 3, 7, 9, 11]) nw h (by kernel_rfl) an fun a w h => ?_
          refine wp_reg tok (orc := o0) (l := [1, 2, 3, 7, 8, 9]) nw h (by kernel_rfl) an fun a w h => ?_
          exact ⟨((gD x1 (tZ v131) iO), (w64 ((gD x0.1 (tZ (gD x1 (tZ v131) iO)) iO) + (gD x2 (tZ v131) iO)))), hF, h.arrive (l := [1, 2, 3, 7, 8, 9]) nw (by kernel_rfl)⟩
        · replace hF := of_f hb hF
          refine wp_skip ?_
          exact ⟨(v129, v130), hF, h.arrive (l := [1, 2, 3, 7, 8, 9]) nw (by kernel_rfl)⟩
    · rintro a w ⟨v, hF, h⟩
      obtain ⟨v141, v142⟩ := v
      rw [f184.j143] at hF
      refine wp_reg tok (orc := o0) (l := [1, 2, 3, 7, 8, 9]) nw h (by kernel_rfl) an fun a w h => ?_
      exact ⟨(v141, v142, (w64 (v131 + (1 : Int)))), hF, h.arrive (l := [1, 2, 3, 7, 8, 9]) nw (by kernel_rfl)⟩
  · replace hF := of_f hb hF
    refine wp_exit ?_
    refine wp_reg_seq tok (orc := o0) (l := [6]) nw h (by kernel_rfl) an fun a w h => ?_
    cases hF
    exact wp_ret (ret_okR tok h rfl (by kernel_rfl)).1

def f110.j1317 (k : Nat) (x1 : ((List Int) × (List Int))) (r1 : Int) : ((List Int) × Int) → Option (Bool × ((List Int) × (Int × Int)))
  | (v1315, v1316) => some (true, (v1315, ((List.getD x1.1 (Int.toNat r1) (0 : Int)), v1316)))
def f110.j2612 (k : Nat) (v2591 : (List Int)) (v2592 : Int) (q2520 : ((List Int) × Int) → Option (Bool × ((List Int) × (Int × Int)))) : Int → Option (Bool × ((List Int) × (Int × Int)))
  | v2611 => if ((List.length v2591 + List.length [v2611]) * 8 ≤ 140737488355328) then (q2520 ((v2591 ++ [v2611]), (IntKind.i64.wrap (v2592 + (1 : Int))))) else none
def f110.l2520 (k : Nat) (x2 : (List (List Int))) (x0 : ((List (Int × (Int × Int))) × ((List (Int × (Int × (Int × (Int × (Int × ByteArray)))))) × (List (Int × Int))))) (v2195 : Int) (x1 : ((List Int) × (List Int))) (v2198 : Int) (v2196 : (List Int)) (v2197 : Int) (q1318 : (Int × (List Int) × Int × Int) → Option (Bool × ((List Int) × (Int × Int)))) : Nat → ((List Int) × Int) → Option (Bool × ((List Int) × (Int × Int)))
  | 0, _ => none
  | m2520 + 1, (v2591, v2592) => if (decide ((v2592 : Int) < (List.length (List.getD x2 (Int.toNat (List.getD x0.2.1 (Int.toNat v2195) ((0 : Int), ((0 : Int), ((0 : Int), ((0 : Int), ((0 : Int), (⟨#[]⟩ : ByteArray))))))).2.1) ([] : (List Int))) : Int))) then (if (0 ≤ v2592 ∧ v2592 < (List.length (List.getD x2 (Int.toNat (List.getD x0.2.1 (Int.toNat v2195) ((0 : Int), ((0 : Int), ((0 : Int), ((0 : Int), ((0 : Int), (⟨#[]⟩ : ByteArray))))))).2.1) ([] : (List Int))) : Int)) then ((f162 k x0 v2195 (List.getD (List.getD x2 (Int.toNat (List.getD x0.2.1 (Int.toNat v2195) ((0 : Int), ((0 : Int), ((0 : Int), ((0 : Int), ((0 : Int), (⟨#[]⟩ : ByteArray))))))).2.1) ([] : (List Int))) (Int.toNat v2592) (0 : Int))).bind fun r2609 => (if (0 ≤ v2592 ∧ v2592 < (List.length (List.getD x2 (Int.toNat (List.getD x0.2.1 (Int.toNat v2195) ((0 : Int), ((0 : Int), ((0 : Int), ((0 : Int), ((0 : Int), (⟨#[]⟩ : ByteArray))))))).2.1) ([] : (List Int))) : Int)) then (if (0 ≤ (List.getD (List.getD x2 (Int.toNat (List.getD x0.2.1 (Int.toNat v2195) ((0 : Int), ((0 : Int), ((0 : Int), ((0 : Int), ((0 : Int), (⟨#[]⟩ : ByteArray))))))).2.1) ([] : (List Int))) (Int.toNat v2592) (0 : Int)) ∧ (List.getD (List.getD x2 (Int.toNat (List.getD x0.2.1 (Int.toNat v2195) ((0 : Int), ((0 : Int), ((0 : Int), ((0 : Int), ((0 : Int), (⟨#[]⟩ : ByteArray))))))).2.1) ([] : (List Int))) (Int.toNat v2592) (0 : Int)) < (List.length x1.2 : Int)) then (if (((bif (((List.getD x1.2 (Int.toNat (List.getD (List.getD x2 (Int.toNat (List.getD x0.2.1 (Int.toNat v2195) ((0 : Int), ((0 : Int), ((0 : Int), ((0 : Int), ((0 : Int), (⟨#[]⟩ : ByteArray))))))).2.1) ([] : (List Int))) (Int.toNat v2592) (0 : Int))) (0 : Int)) : Int) != (IntKind.i64.wrap (v2198 - (1 : Int)))) then true else (decide ((r2609 : Int) < (0 : Int)))) = false) → (0 ≤ v2592 ∧ v2592 < (List.length (List.getD x2 (Int.toNat (List.getD x0.2.1 (Int.toNat v2195) ((0 : Int), ((0 : Int), ((0 : Int), ((0 : Int), ((0 : Int), (⟨#[]⟩ : ByteArray))))))).2.1) ([] : (List Int))) : Int))) then (if (((bif (((List.getD x1.2 (Int.toNat (List.getD (List.getD x2 (Int.toNat (List.getD x0.2.1 (Int.toNat v2195) ((0 : Int), ((0 : Int), ((0 : Int), ((0 : Int), ((0 : Int), (⟨#[]⟩ : ByteArray))))))).2.1) ([] : (List Int))) (Int.toNat v2592) (0 : Int))) (0 : Int)) : Int) != (IntKind.i64.wrap (v2198 - (1 : Int)))) then true else (decide ((r2609 : Int) < (0 : Int)))) = false) → (0 ≤ (List.getD (List.getD x2 (Int.toNat (List.getD x0.2.1 (Int.toNat v2195) ((0 : Int), ((0 : Int), ((0 : Int), ((0 : Int), ((0 : Int), (⟨#[]⟩ : ByteArray))))))).2.1) ([] : (List Int))) (Int.toNat v2592) (0 : Int)) ∧ (List.getD (List.getD x2 (Int.toNat (List.getD x0.2.1 (Int.toNat v2195) ((0 : Int), ((0 : Int), ((0 : Int), ((0 : Int), ((0 : Int), (⟨#[]⟩ : ByteArray))))))).2.1) ([] : (List Int))) (Int.toNat v2592) (0 : Int)) < (List.length x1.1 : Int))) then (if (((bif (bif (((List.getD x1.2 (Int.toNat (List.getD (List.getD x2 (Int.toNat (List.getD x0.2.1 (Int.toNat v2195) ((0 : Int), ((0 : Int), ((0 : Int), ((0 : Int), ((0 : Int), (⟨#[]⟩ : ByteArray))))))).2.1) ([] : (List Int))) (Int.toNat v2592) (0 : Int))) (0 : Int)) : Int) != (IntKind.i64.wrap (v2198 - (1 : Int)))) then true else (decide ((r2609 : Int) < (0 : Int)))) then true else (decide (((List.getD x1.1 (Int.toNat (List.getD (List.getD x2 (Int.toNat (List.getD x0.2.1 (Int.toNat v2195) ((0 : Int), ((0 : Int), ((0 : Int), ((0 : Int), ((0 : Int), (⟨#[]⟩ : ByteArray))))))).2.1) ([] : (List Int))) (Int.toNat v2592) (0 : Int))) (0 : Int)) : Int) < (0 : Int)))) = false) → (0 ≤ v2195 ∧ v2195 < (List.length x0.2.1 : Int))) then (if (((bif (bif (((List.getD x1.2 (Int.toNat (List.getD (List.getD x2 (Int.toNat (List.getD x0.2.1 (Int.toNat v2195) ((0 : Int), ((0 : Int), ((0 : Int), ((0 : Int), ((0 : Int), (⟨#[]⟩ : ByteArray))))))).2.1) ([] : (List Int))) (Int.toNat v2592) (0 : Int))) (0 : Int)) : Int) != (IntKind.i64.wrap (v2198 - (1 : Int)))) then true else (decide ((r2609 : Int) < (0 : Int)))) then true else (decide (((List.getD x1.1 (Int.toNat (List.getD (List.getD x2 (Int.toNat (List.getD x0.2.1 (Int.toNat v2195) ((0 : Int), ((0 : Int), ((0 : Int), ((0 : Int), ((0 : Int), (⟨#[]⟩ : ByteArray))))))).2.1) ([] : (List Int))) (Int.toNat v2592) (0 : Int))) (0 : Int)) : Int) < (0 : Int)))) = false) → (0 ≤ v2592 ∧ v2592 < (List.length (List.getD x2 (Int.toNat (List.getD x0.2.1 (Int.toNat v2195) ((0 : Int), ((0 : Int), ((0 : Int), ((0 : Int), ((0 : Int), (⟨#[]⟩ : ByteArray))))))).2.1) ([] : (List Int))) : Int))) then (if (((bif (bif (((List.getD x1.2 (Int.toNat (List.getD (List.getD x2 (Int.toNat (List.getD x0.2.1 (Int.toNat v2195) ((0 : Int), ((0 : Int), ((0 : Int), ((0 : Int), ((0 : Int), (⟨#[]⟩ : ByteArray))))))).2.1) ([] : (List Int))) (Int.toNat v2592) (0 : Int))) (0 : Int)) : Int) != (IntKind.i64.wrap (v2198 - (1 : Int)))) then true else (decide ((r2609 : Int) < (0 : Int)))) then true else (decide (((List.getD x1.1 (Int.toNat (List.getD (List.getD x2 (Int.toNat (List.getD x0.2.1 (Int.toNat v2195) ((0 : Int), ((0 : Int), ((0 : Int), ((0 : Int), ((0 : Int), (⟨#[]⟩ : ByteArray))))))).2.1) ([] : (List Int))) (Int.toNat v2592) (0 : Int))) (0 : Int)) : Int) < (0 : Int)))) = false) → (0 ≤ (List.getD (List.getD x2 (Int.toNat (List.getD x0.2.1 (Int.toNat v2195) ((0 : Int), ((0 : Int), ((0 : Int), ((0 : Int), ((0 : Int), (⟨#[]⟩ : ByteArray))))))).2.1) ([] : (List Int))) (Int.toNat v2592) (0 : Int)) ∧ (List.getD (List.getD x2 (Int.toNat (List.getD x0.2.1 (Int.toNat v2195) ((0 : Int), ((0 : Int), ((0 : Int), ((0 : Int), ((0 : Int), (⟨#[]⟩ : ByteArray))))))).2.1) ([] : (List Int))) (Int.toNat v2592) (0 : Int)) < (List.length x1.1 : Int))) then (if (((bif (bif (((List.getD x1.2 (Int.toNat (List.getD (List.getD x2 (Int.toNat (List.getD x0.2.1 (Int.toNat v2195) ((0 : Int), ((0 : Int), ((0 : Int), ((0 : Int), ((0 : Int), (⟨#[]⟩ : ByteArray))))))).2.1) ([] : (List Int))) (Int.toNat v2592) (0 : Int))) (0 : Int)) : Int) != (IntKind.i64.wrap (v2198 - (1 : Int)))) then true else (decide ((r2609 : Int) < (0 : Int)))) then true else (decide (((List.getD x1.1 (Int.toNat (List.getD (List.getD x2 (Int.toNat (List.getD x0.2.1 (Int.toNat v2195) ((0 : Int), ((0 : Int), ((0 : Int), ((0 : Int), ((0 : Int), (⟨#[]⟩ : ByteArray))))))).2.1) ([] : (List Int))) (Int.toNat v2592) (0 : Int))) (0 : Int)) : Int) < (0 : Int)))) = false) → (0 ≤ v2195 ∧ v2195 < (List.length x1.1 : Int))) then ((some ((bif (bif (bif (((List.getD x1.2 (Int.toNat (List.getD (List.getD x2 (Int.toNat (List.getD x0.2.1 (Int.toNat v2195) ((0 : Int), ((0 : Int), ((0 : Int), ((0 : Int), ((0 : Int), (⟨#[]⟩ : ByteArray))))))).2.1) ([] : (List Int))) (Int.toNat v2592) (0 : Int))) (0 : Int)) : Int) != (IntKind.i64.wrap (v2198 - (1 : Int)))) then true else (decide ((r2609 : Int) < (0 : Int)))) then true else (decide (((List.getD x1.1 (Int.toNat (List.getD (List.getD x2 (Int.toNat (List.getD x0.2.1 (Int.toNat v2195) ((0 : Int), ((0 : Int), ((0 : Int), ((0 : Int), ((0 : Int), (⟨#[]⟩ : ByteArray))))))).2.1) ([] : (List Int))) (Int.toNat v2592) (0 : Int))) (0 : Int)) : Int) < (0 : Int)))) then true else (((IntKind.i64.wrap ((IntKind.i64.wrap ((List.getD x0.2.1 (Int.toNat v2195) ((0 : Int), ((0 : Int), ((0 : Int), ((0 : Int), ((0 : Int), (⟨#[]⟩ : ByteArray))))))).2.2.2.1 + r2609)) + (List.getD x1.1 (Int.toNat (List.getD (List.getD x2 (Int.toNat (List.getD x0.2.1 (Int.toNat v2195) ((0 : Int), ((0 : Int), ((0 : Int), ((0 : Int), ((0 : Int), (⟨#[]⟩ : ByteArray))))))).2.1) ([] : (List Int))) (Int.toNat v2592) (0 : Int))) (0 : Int)))) : Int) != (List.getD x1.1 (Int.toNat v2195) (0 : Int)))) : Bool)).bind fun v2610 => (if v2610 then (f110.j2612 k v2591 v2592 ((f110.l2520 k x2 x0 v2195 x1 v2198 v2196 v2197 q1318) m2520) (-1 : Int)) else (f110.j2612 k v2591 v2592 ((f110.l2520 k x2 x0 v2195 x1 v2198 v2196 v2197 q1318) m2520) r2609))) else none) else none) else none) else none) else none) else none) else none) else none)) else none) else ((f184 k x1 (List.getD x2 (Int.toNat (List.getD x0.2.1 (Int.toNat v2195) ((0 : Int), ((0 : Int), ((0 : Int), ((0 : Int), ((0 : Int), (⟨#[]⟩ : ByteArray))))))).2.1) ([] : (List Int))) v2591).bind fun r2625 => (q1318 (r2625, (List.append v2196 [v2195]), (IntKind.i64.wrap (v2197 + (List.getD x0.2.1 (Int.toNat v2195) ((0 : Int), ((0 : Int), ((0 : Int), ((0 : Int), ((0 : Int), (⟨#[]⟩ : ByteArray))))))).2.2.2.2.1)), (IntKind.i64.wrap (v2198 - (1 : Int))))))
def f110.l1318 (k : Nat) (x0 : ((List (Int × (Int × Int))) × ((List (Int × (Int × (Int × (Int × (Int × ByteArray)))))) × (List (Int × Int))))) (x2 : (List (List Int))) (x1 : ((List Int) × (List Int))) (q1317 : ((List Int) × Int) → Option (Bool × ((List Int) × (Int × Int)))) : Nat → (Int × (List Int) × Int × Int) → Option (Bool × ((List Int) × (Int × Int)))
  | 0, _ => none
  | m1318 + 1, (v2195, v2196, v2197, v2198) => if (decide ((v2198 : Int) > (0 : Int))) then (if ((List.length v2196 + List.length [v2195]) * 8 ≤ 140737488355328) then (if (0 ≤ v2195 ∧ v2195 < (List.length x0.2.1 : Int)) then (if ((v2198 : Int) == (1 : Int)) then (q1317 ((List.append v2196 [v2195]), (IntKind.i64.wrap (v2197 + (List.getD x0.2.1 (Int.toNat v2195) ((0 : Int), ((0 : Int), ((0 : Int), ((0 : Int), ((0 : Int), (⟨#[]⟩ : ByteArray))))))).2.2.2.2.1)))) else (if (0 ≤ v2195 ∧ v2195 < (List.length x0.2.1 : Int)) then (if (0 ≤ (List.getD x0.2.1 (Int.toNat v2195) ((0 : Int), ((0 : Int), ((0 : Int), ((0 : Int), ((0 : Int), (⟨#[]⟩ : ByteArray))))))).2.1 ∧ (List.getD x0.2.1 (Int.toNat v2195) ((0 : Int), ((0 : Int), ((0 : Int), ((0 : Int), ((0 : Int), (⟨#[]⟩ : ByteArray))))))).2.1 < (List.length x2 : Int)) then (f110.l2520 k x2 x0 v2195 x1 v2198 v2196 v2197 ((f110.l1318 k x0 x2 x1 q1317) m1318) k (([] : List Int), (0 : Int))) else none) else none)) else none) else none) else (q1317 (v2196, v2197))
def f110 (k : Nat) (x0 : ((List (Int × (Int × Int))) × ((List (Int × (Int × (Int × (Int × (Int × ByteArray)))))) × (List (Int × Int))))) (x1 : ((List Int) × (List Int))) (x2 : (List (List Int))) (x3 : Int) (x4 : Int) : Option (Bool × ((List Int) × (Int × Int))) := if ((x3 : Int) == x4) then (some (true, (([] : (List Int)), ((0 : Int), (0 : Int))))) else (if (0 ≤ x3 ∧ x3 < (List.length x2 : Int)) then (if (0 ≤ x3 ∧ x3 < (List.length x2 : Int)) then (if (0 ≤ (List.length (List.getD x2 (Int.toNat x3) ([] : (List Int))) : Int) ∧ Int.toNat (List.length (List.getD x2 (Int.toNat x3) ([] : (List Int))) : Int) * 8 ≤ 140737488355328) then ((f184 k x1 (List.getD x2 (Int.toNat x3) ([] : (List Int))) (List.replicate (Int.toNat (List.length (List.getD x2 (Int.toNat x3) ([] : (List Int))) : Int)) (0 : Int))).bind fun r1 => (if (decide ((r1 : Int) < (0 : Int))) then (some (false, (([] : (List Int)), ((0 : Int), (0 : Int))))) else (if (0 ≤ r1 ∧ r1 < (List.length x1.1 : Int)) then (if (0 ≤ r1 ∧ r1 < (List.length x1.2 : Int)) then (f110.l1318 k x0 x2 x1 (f110.j1317 k x1 r1) k (r1, ([] : (List Int)), (0 : Int), (List.getD x1.2 (Int.toNat r1) (0 : Int)))) else none) else none))) else none) else none) else none)
theorem c110 (k : Nat) (x0 : tG) (x1 : ((List Int) × (List Int))) (x2 : (List (List Int))) (x3 : Int) (x4 : Int) (r : (Bool × ((List Int) × (Int × Int)))) (hF : f110 k x0 x1 x2 x3 x4 = some r) : PCall Try.prog 110 [⟨sh15, x0⟩, ⟨sh24, x1⟩, ⟨sh18, x2⟩, ⟨(.int .i64), x3⟩, ⟨(.int .i64), x4⟩] [⟨sh26, r⟩] := by
  refine pcall_intro Try.func110 rfl rfl (Nat.le_of_ble_eq_true rfl) ?_
  intro w0 Zi a w h
  rw [f110] at hF
  refine wp_reg_seq tok (orc := o0) (l := [2, 3, 4, 5, 6, 10]) nw h (by kernel_rfl) an fun a w h => ?_
  refine wp_seq ?_
  refine wp_reg_seq tok (orc := o0) (l := [2, 3, 5, 6, 10, 20]) nw h (by kernel_rfl) an fun a w h => ?_
  refine wp_if h (b := ((x3 : Int) == x4)) (by kernel_rfl) (fun hb => ?_) (fun hb => ?_)
  · replace hF := of_t hb hF
    refine wp_reg_seq tok (orc := o0) (l := [10]) nw h (by kernel_rfl) an fun a w h => ?_
    cases hF
    exact wp_ret (ret_okR tok h rfl (by kernel_rfl)).1
  · replace hF := of_f hb hF
    refine wp_skip ?_
    obtain ⟨hc2633, hF⟩ := of_if hF
    obtain ⟨hc2634, hF⟩ := of_if hF
    obtain ⟨hc2635, hF⟩ := of_if hF
    obtain ⟨r1, hr2636, hF⟩ := of_bind hF
    refine wp_regy_seq tok (orc := orcL [(33, [⟨(.int .i64), r1⟩])]) (l := [2, 5, 6, 10, 11]) ([], [], [], []) 13 nw h (by kernel_rfl) (by kernel_rfl) (ac hc2633 (ac hc2634 (ac hc2635 (ac (c184 k x1 (gD x2 (tZ x3) lO) (List.replicate (tZ (List.length (gD x2 (tZ x3) lO) : Int)) iO) r1 hr2636) an)))) fun a w h => ?_
    refine wp_seq ?_
    refine wp_reg_seq tok (orc := o0) (l := [2, 5, 6, 10, 11, 35]) nw h (by kernel_rfl) an fun a w h => ?_
    refine wp_if h (b := (decide ((r1 : Int) < iO))) (by kernel_rfl) (fun hb => ?_) (fun hb => ?_)
    · replace hF := of_t hb hF
      refine wp_reg_seq tok (orc := o0) (l := [10]) nw h (by kernel_rfl) an fun a w h => ?_
      cases hF
      exact wp_ret (ret_okR tok h rfl (by kernel_rfl)).1
    · replace hF := of_f hb hF
      refine wp_skip ?_
      obtain ⟨hc2632, hF⟩ := of_if hF
      refine wp_reg_seq tok (orc := o0) (l := [2, 5, 6, 10, 11, 12]) nw h (by kernel_rfl) (ac hc2632 an) fun a w h => ?_
      refine wp_seq ?_
      obtain ⟨hc2631, hF⟩ := of_if hF
      refine wp_reg_seq tok (orc := o0) (l := [2, 5, 6, 10, 11, 12, 13]) nw h (by kernel_rfl) (ac hc2631 an) fun a w h => ?_
      refine wp_midT (fun a w => ∃ v : ((List Int) × Int), f110.j1317 k x1 r1 v = some r ∧ Rel w0 (fun _ => False) Zi Try.f110.ntmps ((fun ((v1315, v1316) : ((List Int) × Int)) => ([(10, .val sh25 (some (false, (lO, (iO, iO))))), (12, .val sh25 (some (true, (v1315, ((gD x1.1 (tZ r1) iO), v1316)))))] : SS)) v) a w) ?_ ?_
      ·
        refine wp_block ?_
        refine wp_loop_fuel (f110.l1318 k x0 x2 x1 (f110.j1317 k x1 r1)) (fun ((v2195, v2196, v2197, v2198) : (Int × (List Int) × Int × Int)) => [(2, .val sh18 x2), (5, .val sh14 (some x0)), (6, .val sh23 (some x1)), (10, .val sh25 (some (false, (lO, (iO, iO))))), (11, .val (.int .i64) v2195), (12, .val sh25 (some (true, (v2196, ((gD x1.1 (tZ r1) iO), v2197))))), (13, .val (.int .i64) v2198)]) (fun v h => by obtain ⟨v2195, v2196, v2197, v2198⟩ := v; rw [f110.l1318] at h; cases h) ?_ hF (h.arrive (l := [2, 5, 6, 10, 11, 12, 13]) nw (by kernel_rfl))
        intro m1318 v a w hF h
        obtain ⟨v2195, v2196, v2197, v2198⟩ := v
        rw [f110.l1318] at hF
        refine wp_seq ?_
        refine wp_reg_seq tok (orc := o0) (l := [2, 5, 6, 10, 11, 12, 13, 49]) nw h (by kernel_rfl) an fun a w h => ?_
        refine wp_if h (b := (decide ((v2198 : Int) > iO))) (by kernel_rfl) (fun hb => ?_) (fun hb => ?_)
        · replace hF := of_t hb hF
          refine wp_skip ?_
          refine wp_seq <| wp_block ?_
          obtain ⟨hc2630, hF⟩ := of_if hF
          refine wp_reg_seq tok (orc := orcL [(56, [⟨.pt false 4294967293 .unit, some ()⟩])]) (l := [2, 5, 6, 10, 11, 12, 13]) nw h (by kernel_rfl) (ac (PrefL.mk (l := [[.der, .snd, .fst], [.der, .snd, .fst]]) (p := [.der, .snd, .fst]) rfl) (ac hc2630 (ac (show ([.der, .snd, .fst] : Path) = [.der, .snd, .fst] from rfl) an))) fun a w h => ?_
          obtain ⟨hc2629, hF⟩ := of_if hF
          refine wp_regy_seq tok (orc := o0) (l := [2, 5, 6, 10, 11, 12, 13]) ([], [], [], []) 10 nw h (by kernel_rfl) (by kernel_rfl) (ac hc2629 an) fun a w h => ?_
          refine wp_seq ?_
          refine wp_reg_seq tok (orc := o0) (l := [2, 5, 6, 10, 11, 12, 13, 69]) nw h (by kernel_rfl) an fun a w h => ?_
          refine wp_if h (b := ((v2198 : Int) == (1 : Int))) (by kernel_rfl) (fun hb => ?_) (fun hb => ?_)
          · replace hF := of_t hb hF
            refine wp_exit ?_
            exact ⟨((List.append v2196 [v2195]), (w64 (v2197 + (gD x0.2.1 (tZ v2195) zR).2.2.2.2.1))), hF, h.arrive (l := [10, 12]) nw (by kernel_rfl)⟩
          · replace hF := of_f hb hF
            refine wp_skip ?_
            obtain ⟨hc2627, hF⟩ := of_if hF
            obtain ⟨hc2628, hF⟩ := of_if hF
            refine wp_reg_seq tok (orc := o0) (l := [2, 5, 6, 10, 11, 12, 13, 14]) nw h (by kernel_rfl) (ac hc2627 (ac hc2628 an)) fun a w h => ?_
            refine wp_reg_seq tok (orc := o0) (l := [2, 5, 6, 10, 11, 12, 13, 14, 15]) nw h (by kernel_rfl) an fun a w h => ?_
            refine wp_seq ?_
            refine wp_reg_seq tok (orc := o0) (l := [2, 5, 6, 10, 11, 12, 13, 14, 15, 16]) nw h (by kernel_rfl) an fun a w h => ?_
            refine wp_block ?_
            refine wp_loop_fuel (f110.l2520 k x2 x0 v2195 x1 v2198 v2196 v2197 ((f110.l1318 k x0 x2 x1 (f110.j1317 k x1 r1)) m1318)) (fun ((v2591, v2592) : ((List Int) × Int)) => [(2, .val sh18 x2), (5, .val sh14 (some x0)), (6, .val sh23 (some x1)), (10, .val sh25 (some (false, (lO, (iO, iO))))), (11, .val (.int .i64) v2195), (12, .val sh25 (some (true, ((List.append v2196 [v2195]), ((gD x1.1 (tZ r1) iO), (w64 (v2197 + (gD x0.2.1 (tZ v2195) zR).2.2.2.2.1))))))), (13, .val (.int .i64) v2198), (14, .val (.sl false 2 (.int .i64)) (gD x2 (tZ (gD x0.2.1 (tZ v2195) zR).2.1) lO)), (15, .val (.sl true 2 (.int .i64)) v2591), (16, .val (.int .i64) v2592)]) (fun v h => by obtain ⟨v2591, v2592⟩ := v; rw [f110.l2520] at h; cases h) ?_ hF (h.arrive (l := [2, 5, 6, 10, 11, 12, 13, 14, 15, 16]) nw (by kernel_rfl))
            intro m2520 v a w hF h
            obtain ⟨v2591, v2592⟩ := v
            rw [f110.l2520] at hF
            refine wp_seq ?_
            refine wp_reg_seq tok (orc := o0) (l := [2, 5, 6, 10, 11, 12, 13, 14, 15, 16, 83]) nw h (by kernel_rfl) an fun a w h => ?_
            refine wp_if h (b := (decide ((v2592 : Int) < (List.length (gD x2 (tZ (gD x0.2.1 (tZ v2195) zR).2.1) lO) : Int)))) (by kernel_rfl) (fun hb => ?_) (fun hb => ?_)
            · replace hF := of_t hb hF
              refine wp_skip ?_
              refine wp_seq <| wp_block ?_
              obtain ⟨hc2623, hF⟩ := of_if hF
              obtain ⟨r2609, hr2624, hF⟩ := of_bind hF
              refine wp_regy_seq tok (orc := orcL [(92, [⟨(.int .i64), r2609⟩])]) (l := [2, 5, 6, 10, 11, 12, 13, 14, 15, 16, 17]) ([], [], [], []) 8 nw h (by kernel_rfl) (by kernel_rfl) (ac hc2623 (ac (c162 k x0 v2195 (gD (gD x2 (tZ (gD x0.2.1 (tZ v2195) zR).2.1) lO) (tZ v2592) iO) r2609 hr2624) an)) fun a w h => ?_
              refine wp_seq ?_
              obtain ⟨hc2615, hF⟩ := of_if hF
              obtain ⟨hc2616, hF⟩ := of_if hF
              obtain ⟨hc2617, hF⟩ := of_if hF
              obtain ⟨hc2618, hF⟩ := of_if hF
              obtain ⟨hc2619, hF⟩ := of_if hF
              obtain ⟨hc2620, hF⟩ := of_if hF
              obtain ⟨hc2621, hF⟩ := of_if hF
              obtain ⟨hc2622, hF⟩ := of_if hF
              refine wp_regy_seq tok (orc := o0) (l := [2, 5, 6, 10, 11, 12, 13, 14, 15, 16, 17, 143]) ([], [], [], []) 51 nw h (by kernel_rfl) (by kernel_rfl) (ac hc2615 (ac hc2616 (ac hc2617 (ac hc2618 (ac hc2619 (ac hc2620 (ac hc2621 (ac hc2622 an)))))))) fun a w h => ?_
              obtain ⟨v2610, hv2614, hF⟩ := of_bind hF
              replace h := h.cast (S' := [(2, .val sh18 x2), (5, .val sh14 (some x0)), (6, .val sh23 (some x1)), (10, .val sh25 (some (false, (lO, (iO, iO))))), (11, .val (.int .i64) v2195), (12, .val sh25 (some (true, ((List.append v2196 [v2195]), ((gD x1.1 (tZ r1) iO), (w64 (v2197 + (gD x0.2.1 (tZ v2195) zR).2.2.2.2.1))))))), (13, .val (.int .i64) v2198), (14, .val (.sl false 2 (.int .i64)) (gD x2 (tZ (gD x0.2.1 (tZ v2195) zR).2.1) lO)), (15, .val (.sl true 2 (.int .i64)) v2591), (16, .val (.int .i64) v2592), (17, .val (.int .i64) r2609), (143, .val .bool v2610)]) (by cases hv2614; kernel_rfl)
              refine wp_midT (fun a w => ∃ v : Int, f110.j2612 k v2591 v2592 ((f110.l2520 k x2 x0 v2195 x1 v2198 v2196 v2197 ((f110.l1318 k x0 x2 x1 (f110.j1317 k x1 r1)) m1318)) m2520) v = some r ∧ Rel w0 (fun _ => False) Zi Try.f110.ntmps ((fun (v2611 : Int) => ([(2, .val sh18 x2), (5, .val sh14 (some x0)), (6, .val sh23 (some x1)), (10, .val sh25 (some (false, (lO, (iO, iO))))), (11, .val (.int .i64) v2195), (12, .val sh25 (some (true, ((List.append v2196 [v2195]), ((gD x1.1 (tZ r1) iO), (w64 (v2197 + (gD x0.2.1 (tZ v2195) zR).2.2.2.2.1))))))), (13, .val (.int .i64) v2198), (14, .val (.sl false 2 (.int .i64)) (gD x2 (tZ (gD x0.2.1 (tZ v2195) zR).2.1) lO)), (15, .val (.sl true 2 (.int .i64)) v2591), (16, .val (.int .i64) v2592), (17, .val (.int .i64) v2611)] : SS)) v) a w) ?_ ?_
              ·
                refine wp_if h (b := v2610) (by kernel_rfl) (fun hb => ?_) (fun hb => ?_)
                · replace hF := of_t hb hF
                  refine wp_reg tok (orc := o0) (l := [2, 5, 6, 10, 11, 12, 13, 14, 15, 16, 17]) nw h (by kernel_rfl) an fun a w h => ?_
                  exact ⟨(-1 : Int), hF, h.arrive (l := [2, 5, 6, 10, 11, 12, 13, 14, 15, 16, 17]) nw (by kernel_rfl)⟩
                · replace hF := of_f hb hF
                  refine wp_skip ?_
                  exact ⟨r2609, hF, h.arrive (l := [2, 5, 6, 10, 11, 12, 13, 14, 15, 16, 17]) nw (by kernel_rfl)⟩
              · rintro a w ⟨v2611, hF, h⟩
                rw [f110.j2612] at hF
                obtain ⟨hc2613, hF⟩ := of_if hF
                refine wp_reg tok (orc := o0) (l := [2, 5, 6, 10, 11, 12, 13, 14, 15, 16]) nw h (by kernel_rfl) (ac hc2613 an) fun a w h => ?_
                refine wp_reg tok (orc := o0) (l := [2, 5, 6, 10, 11, 12, 13, 14, 15, 16]) nw h (by kernel_rfl) an fun a w h => ?_
                exact ⟨((v2591 ++ [v2611]), (w64 (v2592 + (1 : Int)))), hF, h.arrive (l := [2, 5, 6, 10, 11, 12, 13, 14, 15, 16]) nw (by kernel_rfl)⟩
            · replace hF := of_f hb hF
              refine wp_exit ?_
              obtain ⟨r2625, hr2626, hF⟩ := of_bind hF
              refine wp_reg tok (orc := orcL [(151, [⟨(.int .i64), r2625⟩])]) (l := [2, 5, 6, 10, 11, 12, 13]) nw h (by kernel_rfl) (ac (c184 k x1 (gD x2 (tZ (gD x0.2.1 (tZ v2195) zR).2.1) lO) v2591 r2625 hr2626) an) fun a w h => ?_
              refine wp_reg tok (orc := o0) (l := [2, 5, 6, 10, 11, 12, 13]) nw h (by kernel_rfl) an fun a w h => ?_
              exact ⟨(r2625, (List.append v2196 [v2195]), (w64 (v2197 + (gD x0.2.1 (tZ v2195) zR).2.2.2.2.1)), (w64 (v2198 - (1 : Int)))), hF, h.arrive (l := [2, 5, 6, 10, 11, 12, 13]) nw (by kernel_rfl)⟩
        · replace hF := of_f hb hF
          refine wp_exit ?_
          exact ⟨(v2196, v2197), hF, h.arrive (l := [10, 12]) nw (by kernel_rfl)⟩
      · rintro a w ⟨v, hF, h⟩
        obtain ⟨v1315, v1316⟩ := v
        rw [f110.j1317] at hF
        refine wp_reg_seq tok (orc := o0) (l := [10]) nw h (by kernel_rfl) an fun a w h => ?_
        cases hF
        exact wp_ret (ret_okR tok h rfl (by kernel_rfl)).1

def f116 (k : Nat) (x0 : ((List (Int × (Int × Int))) × ((List (Int × (Int × (Int × (Int × (Int × ByteArray)))))) × (List (Int × Int))))) (x1 : Int) (x2 : Int) : Option (Bool × ((List Int) × (Int × Int))) := (f70 k x0).bind fun r1 => ((if ((!r1) = false) then f93 k x0 x1 else some default).bind fun r2 => ((if ((bif (!r1) then true else (!r2)) = false) then f93 k x0 x2 else some default).bind fun r3 => (if (bif (bif (!r1) then true else (!r2)) then true else (!r3)) then (some (false, (([] : (List Int)), ((0 : Int), (0 : Int))))) else ((f111 k x0 x2).bind fun r4 => ((f73 k x0 false).bind fun r5 => ((f110 k x0 r4 r5 x1 x2).bind fun r6 => (some r6)))))))
theorem c116 (k : Nat) (x0 : tG) (x1 : Int) (x2 : Int) (r : (Bool × ((List Int) × (Int × Int)))) (hF : f116 k x0 x1 x2 = some r) : PCall Try.prog 116 [⟨sh15, x0⟩, ⟨(.int .i64), x1⟩, ⟨(.int .i64), x2⟩] [⟨sh26, r⟩] := by
  refine pcall_intro Try.func116 rfl rfl (Nat.le_of_ble_eq_true rfl) ?_
  intro w0 Zi a w h
  rw [f116] at hF
  refine wp_reg_seq tok (orc := o0) (l := [1, 2, 3, 6]) nw h (by kernel_rfl) an fun a w h => ?_
  refine wp_seq ?_
  obtain ⟨r1, hr10, hF⟩ := of_bind hF
  obtain ⟨r2, hr11, hF⟩ := of_bind hF
  obtain ⟨r3, hr12, hF⟩ := of_bind hF
  refine wp_reg_seq tok (orc := orcL [(8, [⟨.bool, r1⟩]), (13, [⟨.bool, r2⟩]), (19, [⟨.bool, r3⟩])]) (l := [1, 2, 3, 6, 21]) nw h (by kernel_rfl) (ac (c70 k x0 r1 hr10) (ac (fun (hg : ((!r1) = false)) => c93 k x0 x1 r2 (of_g hg hr11)) (ac (fun (hg : ((bif (!r1) then true else (!r2)) = false)) => c93 k x0 x2 r3 (of_g hg hr12)) an))) fun a w h => ?_
  refine wp_if h (b := (bif (bif (!r1) then true else (!r2)) then true else (!r3))) (by kernel_rfl) (fun hb => ?_) (fun hb => ?_)
  · replace hF := of_t hb hF
    refine wp_reg_seq tok (orc := o0) (l := [6]) nw h (by kernel_rfl) an fun a w h => ?_
    cases hF
    exact wp_ret (ret_okR tok h rfl (by kernel_rfl)).1
  · replace hF := of_f hb hF
    refine wp_skip ?_
    obtain ⟨r4, hr7, hF⟩ := of_bind hF
    obtain ⟨r5, hr8, hF⟩ := of_bind hF
    obtain ⟨r6, hr9, hF⟩ := of_bind hF
    refine wp_regy_seq tok (orc := orcL [(26, [⟨sh22, r4⟩]), (28, [⟨sh16, r5⟩]), (31, [⟨sh26, r6⟩])]) (l := [6]) ([], [], [], []) 9 nw h (by kernel_rfl) (by kernel_rfl) (ac (c111 k x0 x2 r4 hr7) (ac (c73 k x0 false r5 hr8) (ac (c110 k x0 r4 r5 x1 x2 r6 hr9) an))) fun a w h => ?_
    cases hF
    exact wp_ret (ret_okR tok h rfl (by kernel_rfl)).1

def f48.j8 (k : Nat) (x0 : ((List (Int × (Int × Int))) × ((List (Int × (Int × (Int × (Int × (Int × ByteArray)))))) × (List (Int × Int))))) (x4 : Int) : Int → Option (Bool × ((List Int) × (Int × Int)))
  | v7 => (f116 k x0 v7 x4).bind fun r9 => (some r9)
def f48.j4 (k : Nat) (r1 : ((List Int) × Bool)) (x0 : ((List (Int × (Int × Int))) × ((List (Int × (Int × (Int × (Int × (Int × ByteArray)))))) × (List (Int × Int))))) (x4 : Int) (x2 : Int) : Int → Option (Bool × ((List Int) × (Int × Int)))
  | v3 => if (decide ((v3 : Int) > (0 : Int))) then (if (0 ≤ (IntKind.i64.wrap (v3 - (1 : Int))) ∧ (IntKind.i64.wrap (v3 - (1 : Int))) < (List.length r1.1 : Int)) then (if (0 ≤ (List.getD r1.1 (Int.toNat (IntKind.i64.wrap (v3 - (1 : Int)))) (0 : Int)) ∧ (List.getD r1.1 (Int.toNat (IntKind.i64.wrap (v3 - (1 : Int)))) (0 : Int)) < (List.length x0.2.1 : Int)) then (f48.j8 k x0 x4 (List.getD x0.2.1 (Int.toNat (List.getD r1.1 (Int.toNat (IntKind.i64.wrap (v3 - (1 : Int)))) (0 : Int))) ((0 : Int), ((0 : Int), ((0 : Int), ((0 : Int), ((0 : Int), (⟨#[]⟩ : ByteArray))))))).2.1) else none) else none) else (f48.j8 k x0 x4 x2)
def f48 (k : Nat) (x0 : ((List (Int × (Int × Int))) × ((List (Int × (Int × (Int × (Int × (Int × ByteArray)))))) × (List (Int × Int))))) (x1 : (List (Int × (Int × (ByteArray × (Int × Int)))))) (x2 : Int) (x3 : Int) (x4 : Int) : Option (Bool × ((List Int) × (Int × Int))) := (f27 k x0 x2 x1).bind fun r1 => ((if ((bif (!r1.2) then true else (decide ((x3 : Int) < (0 : Int)))) = false) then f93 k x0 x4 else some default).bind fun r2 => (if (bif (bif (!r1.2) then true else (decide ((x3 : Int) < (0 : Int)))) then true else (!r2)) then (some (false, (([] : (List Int)), ((0 : Int), (0 : Int))))) else (if (decide ((x3 : Int) > (List.length r1.1 : Int))) then (f48.j4 k r1 x0 x4 x2 (List.length r1.1 : Int)) else (f48.j4 k r1 x0 x4 x2 x3))))
theorem c48 (k : Nat) (x0 : tG) (x1 : (List (Int × (Int × (ByteArray × (Int × Int)))))) (x2 : Int) (x3 : Int) (x4 : Int) (r : (Bool × ((List Int) × (Int × Int)))) (hF : f48 k x0 x1 x2 x3 x4 = some r) : PCall Try.prog 48 [⟨sh15, x0⟩, ⟨sh20, x1⟩, ⟨(.int .i64), x2⟩, ⟨(.int .i64), x3⟩, ⟨(.int .i64), x4⟩] [⟨sh26, r⟩] := by
  refine pcall_intro Try.func48 rfl rfl (Nat.le_of_ble_eq_true rfl) ?_
  intro w0 Zi a w h
  rw [f48] at hF
  refine wp_reg_seq tok (orc := o0) (l := [1, 2, 3, 4, 5, 10]) nw h (by kernel_rfl) an fun a w h => ?_
  obtain ⟨r1, hr14, hF⟩ := of_bind hF
  refine wp_reg_seq tok (orc := orcL [(18, [⟨(.sl true 2 (.int .i64)), r1.1⟩, ⟨.bool, r1.2⟩]), (14, [⟨.pt false 4294967292 .unit, some ()⟩])]) (l := [2, 3, 4, 5, 10, 11, 12]) nw h (by kernel_rfl) (ac (c27 k x0 x2 x1 r1 hr14) an) fun a w h => ?_
  refine wp_seq ?_
  obtain ⟨r2, hr13, hF⟩ := of_bind hF
  refine wp_reg_seq tok (orc := orcL [(30, [⟨.bool, r2⟩])]) (l := [2, 3, 4, 5, 10, 11, 32]) nw h (by kernel_rfl) (ac (fun (hg : ((bif (!r1.2) then true else (decide ((x3 : Int) < iO))) = false)) => c93 k x0 x4 r2 (of_g hg hr13)) an) fun a w h => ?_
  refine wp_if h (b := (bif (bif (!r1.2) then true else (decide ((x3 : Int) < iO))) then true else (!r2))) (by kernel_rfl) (fun hb => ?_) (fun hb => ?_)
  · replace hF := of_t hb hF
    refine wp_reg_seq tok (orc := o0) (l := [10]) nw h (by kernel_rfl) an fun a w h => ?_
    cases hF
    exact wp_ret (ret_okR tok h rfl (by kernel_rfl)).1
  · replace hF := of_f hb hF
    refine wp_skip ?_
    refine wp_seq ?_
    refine wp_reg_seq tok (orc := o0) (l := [2, 3, 4, 5, 10, 11, 37]) nw h (by kernel_rfl) an fun a w h => ?_
    refine wp_midT (fun a w => ∃ v : Int, f48.j4 k r1 x0 x4 x2 v = some r ∧ Rel w0 (fun _ => False) Zi Try.f48.ntmps ((fun (v3 : Int) => ([(2, .val (.int .i64) x2), (3, .val (.int .i64) v3), (4, .val (.int .i64) x4), (5, .val sh14 (some x0)), (10, .val sh25 (some (false, (lO, (iO, iO))))), (11, .val (.sl true 2 (.int .i64)) r1.1)] : SS)) v) a w) ?_ ?_
    ·
      refine wp_if h (b := (decide ((x3 : Int) > (List.length r1.1 : Int)))) (by kernel_rfl) (fun hb => ?_) (fun hb => ?_)
      · replace hF := of_t hb hF
        refine wp_reg tok (orc := o0) (l := [2, 3, 4, 5, 10, 11]) nw h (by kernel_rfl) an fun a w h => ?_
        exact ⟨(List.length r1.1 : Int), hF, h.arrive (l := [2, 3, 4, 5, 10, 11]) nw (by kernel_rfl)⟩
      · replace hF := of_f hb hF
        refine wp_skip ?_
        exact ⟨x3, hF, h.arrive (l := [2, 3, 4, 5, 10, 11]) nw (by kernel_rfl)⟩
    · rintro a w ⟨v3, hF, h⟩
      rw [f48.j4] at hF
      refine wp_reg_seq tok (orc := o0) (l := [3, 4, 5, 10, 11, 13]) nw h (by kernel_rfl) an fun a w h => ?_
      refine wp_seq ?_
      refine wp_reg_seq tok (orc := o0) (l := [3, 4, 5, 10, 11, 13, 42]) nw h (by kernel_rfl) an fun a w h => ?_
      refine wp_midT (fun a w => ∃ v : Int, f48.j8 k x0 x4 v = some r ∧ Rel w0 (fun _ => False) Zi Try.f48.ntmps ((fun (v7 : Int) => ([(4, .val (.int .i64) x4), (5, .val sh14 (some x0)), (10, .val sh25 (some (false, (lO, (iO, iO))))), (13, .val (.int .i64) v7)] : SS)) v) a w) ?_ ?_
      ·
        refine wp_if h (b := (decide ((v3 : Int) > iO))) (by kernel_rfl) (fun hb => ?_) (fun hb => ?_)
        · replace hF := of_t hb hF
          obtain ⟨hc11, hF⟩ := of_if hF
          obtain ⟨hc12, hF⟩ := of_if hF
          refine wp_regy tok (orc := o0) (l := [4, 5, 10, 13]) ([], [], [], []) 11 nw h (by kernel_rfl) (by kernel_rfl) (ac hc11 (ac hc12 an)) fun a w h => ?_
          exact ⟨(gD x0.2.1 (tZ (gD r1.1 (tZ (w64 (v3 - (1 : Int)))) iO)) zR).2.1, hF, h.arrive (l := [4, 5, 10, 13]) nw (by kernel_rfl)⟩
        · replace hF := of_f hb hF
          refine wp_skip ?_
          exact ⟨x2, hF, h.arrive (l := [4, 5, 10, 13]) nw (by kernel_rfl)⟩
      · rintro a w ⟨v7, hF, h⟩
        rw [f48.j8] at hF
        obtain ⟨r9, hr10, hF⟩ := of_bind hF
        refine wp_reg_seq tok (orc := orcL [(56, [⟨sh26, r9⟩])]) (l := [10]) nw h (by kernel_rfl) (ac (c116 k x0 v7 x4 r9 hr10) an) fun a w h => ?_
        cases hF
        exact wp_ret (ret_okR tok h rfl (by kernel_rfl)).1

def f168 (k : Nat) (x0 : Int) : Option Bool := some (bif (decide ((x0 : Int) ≥ (1 : Int))) then (decide ((x0 : Int) ≤ (1000000000 : Int))) else false)
theorem c168 (k : Nat) (x0 : Int) (r : Bool) (hF : f168 k x0 = some r) : PCall Try.prog 168 [⟨(.int .i64), x0⟩] [⟨.bool, r⟩] := by
  refine pcall_intro Try.func168 rfl rfl (Nat.le_of_ble_eq_true rfl) ?_
  intro w0 Zi a w h
  rw [f168] at hF
  refine wp_reg_seq tok (orc := o0) (l := [0]) nw h (by kernel_rfl) an fun a w h => ?_
  refine wp_reg_seq tok (orc := o0) (l := [2]) nw h (by kernel_rfl) an fun a w h => ?_
  cases hF
  exact wp_ret (ret_okR tok h rfl (by kernel_rfl)).1

def f169 (k : Nat) (x0 : (Int × Int)) : Option Bool := some (bif (bif (bif (decide ((x0.1 : Int) ≥ (-10000000 : Int))) then (decide ((x0.1 : Int) ≤ (10000000 : Int))) else false) then (decide ((x0.2 : Int) ≥ (-10000000 : Int))) else false) then (decide ((x0.2 : Int) ≤ (10000000 : Int))) else false)
theorem c169 (k : Nat) (x0 : (Int × Int)) (r : Bool) (hF : f169 k x0 = some r) : PCall Try.prog 169 [⟨sh7, x0⟩] [⟨.bool, r⟩] := by
  refine pcall_intro Try.func169 rfl rfl (Nat.le_of_ble_eq_true rfl) ?_
  intro w0 Zi a w h
  rw [f169] at hF
  refine wp_reg_seq tok (orc := o0) (l := [1]) nw h (by kernel_rfl) an fun a w h => ?_
  refine wp_reg_seq tok (orc := o0) (l := [2]) nw h (by kernel_rfl) an fun a w h => ?_
  cases hF
  exact wp_ret (ret_okR tok h rfl (by kernel_rfl)).1

def f79.j256 (k : Nat) (v247 : Int) (q209 : Int → Option Bool) : Unit → Option Bool
  | _ => q209 (IntKind.i64.wrap (v247 + (1 : Int)))
def f79.l209 (k : Nat) (x0 : ((List (Int × (Int × Int))) × ((List (Int × (Int × (Int × (Int × (Int × ByteArray)))))) × (List (Int × Int))))) : Nat → Int → Option Bool
  | 0, _ => none
  | m209 + 1, v247 => if (decide ((v247 : Int) < (List.length x0.2.2 : Int))) then (if (0 ≤ v247 ∧ v247 < (List.length x0.2.2 : Int)) then (if (((bif (bif (bif (decide (((List.getD x0.2.2 (Int.toNat v247) ((0 : Int), (0 : Int))).1 : Int) < (0 : Int))) then true else (decide (((List.getD x0.2.2 (Int.toNat v247) ((0 : Int), (0 : Int))).1 : Int) ≥ (List.length x0.2.1 : Int)))) then true else (decide (((List.getD x0.2.2 (Int.toNat v247) ((0 : Int), (0 : Int))).2 : Int) < (0 : Int)))) then true else (decide (((List.getD x0.2.2 (Int.toNat v247) ((0 : Int), (0 : Int))).2 : Int) ≥ (List.length x0.2.1 : Int)))) = false) → (0 ≤ (List.getD x0.2.2 (Int.toNat v247) ((0 : Int), (0 : Int))).1 ∧ (List.getD x0.2.2 (Int.toNat v247) ((0 : Int), (0 : Int))).1 < (List.length x0.2.1 : Int))) then (if (((bif (bif (bif (decide (((List.getD x0.2.2 (Int.toNat v247) ((0 : Int), (0 : Int))).1 : Int) < (0 : Int))) then true else (decide (((List.getD x0.2.2 (Int.toNat v247) ((0 : Int), (0 : Int))).1 : Int) ≥ (List.length x0.2.1 : Int)))) then true else (decide (((List.getD x0.2.2 (Int.toNat v247) ((0 : Int), (0 : Int))).2 : Int) < (0 : Int)))) then true else (decide (((List.getD x0.2.2 (Int.toNat v247) ((0 : Int), (0 : Int))).2 : Int) ≥ (List.length x0.2.1 : Int)))) = false) → (0 ≤ (List.getD x0.2.2 (Int.toNat v247) ((0 : Int), (0 : Int))).2 ∧ (List.getD x0.2.2 (Int.toNat v247) ((0 : Int), (0 : Int))).2 < (List.length x0.2.1 : Int))) then ((some ((bif (bif (bif (bif (decide (((List.getD x0.2.2 (Int.toNat v247) ((0 : Int), (0 : Int))).1 : Int) < (0 : Int))) then true else (decide (((List.getD x0.2.2 (Int.toNat v247) ((0 : Int), (0 : Int))).1 : Int) ≥ (List.length x0.2.1 : Int)))) then true else (decide (((List.getD x0.2.2 (Int.toNat v247) ((0 : Int), (0 : Int))).2 : Int) < (0 : Int)))) then true else (decide (((List.getD x0.2.2 (Int.toNat v247) ((0 : Int), (0 : Int))).2 : Int) ≥ (List.length x0.2.1 : Int)))) then true else (((List.getD x0.2.1 (Int.toNat (List.getD x0.2.2 (Int.toNat v247) ((0 : Int), (0 : Int))).1) ((0 : Int), ((0 : Int), ((0 : Int), ((0 : Int), ((0 : Int), (⟨#[]⟩ : ByteArray))))))).2.1 : Int) != (List.getD x0.2.1 (Int.toNat (List.getD x0.2.2 (Int.toNat v247) ((0 : Int), (0 : Int))).2) ((0 : Int), ((0 : Int), ((0 : Int), ((0 : Int), ((0 : Int), (⟨#[]⟩ : ByteArray))))))).1)) : Bool)).bind fun v257 => (if v257 then (some false) else (if (decide ((v247 : Int) > (0 : Int))) then (if (0 ≤ (IntKind.i64.wrap (v247 - (1 : Int))) ∧ (IntKind.i64.wrap (v247 - (1 : Int))) < (List.length x0.2.2 : Int)) then ((some ((bif (decide (((List.getD x0.2.2 (Int.toNat (IntKind.i64.wrap (v247 - (1 : Int)))) ((0 : Int), (0 : Int))).1 : Int) > (List.getD x0.2.2 (Int.toNat v247) ((0 : Int), (0 : Int))).1)) then true else (bif (((List.getD x0.2.2 (Int.toNat (IntKind.i64.wrap (v247 - (1 : Int)))) ((0 : Int), (0 : Int))).1 : Int) == (List.getD x0.2.2 (Int.toNat v247) ((0 : Int), (0 : Int))).1) then (decide (((List.getD x0.2.2 (Int.toNat (IntKind.i64.wrap (v247 - (1 : Int)))) ((0 : Int), (0 : Int))).2 : Int) ≥ (List.getD x0.2.2 (Int.toNat v247) ((0 : Int), (0 : Int))).2)) else false)) : Bool)).bind fun v258 => (if v258 then (some false) else (f79.j256 k v247 ((f79.l209 k x0) m209) ()))) else none) else (f79.j256 k v247 ((f79.l209 k x0) m209) ())))) else none) else none) else none) else (some true)
def f79.l118 (k : Nat) (x0 : ((List (Int × (Int × Int))) × ((List (Int × (Int × (Int × (Int × (Int × ByteArray)))))) × (List (Int × Int))))) : Nat → Int → Option Bool
  | 0, _ => none
  | m118 + 1, v142 => if (decide ((v142 : Int) < (List.length x0.2.1 : Int))) then (if (0 ≤ v142 ∧ v142 < (List.length x0.2.1 : Int)) then ((if ((bif (bif (bif (decide (((List.getD x0.2.1 (Int.toNat v142) ((0 : Int), ((0 : Int), ((0 : Int), ((0 : Int), ((0 : Int), (⟨#[]⟩ : ByteArray))))))).1 : Int) < (0 : Int))) then true else (decide (((List.getD x0.2.1 (Int.toNat v142) ((0 : Int), ((0 : Int), ((0 : Int), ((0 : Int), ((0 : Int), (⟨#[]⟩ : ByteArray))))))).1 : Int) ≥ (List.length x0.1 : Int)))) then true else (decide (((List.getD x0.2.1 (Int.toNat v142) ((0 : Int), ((0 : Int), ((0 : Int), ((0 : Int), ((0 : Int), (⟨#[]⟩ : ByteArray))))))).2.1 : Int) < (0 : Int)))) then true else (decide (((List.getD x0.2.1 (Int.toNat v142) ((0 : Int), ((0 : Int), ((0 : Int), ((0 : Int), ((0 : Int), (⟨#[]⟩ : ByteArray))))))).2.1 : Int) ≥ (List.length x0.1 : Int)))) = false) then f168 k (List.getD x0.2.1 (Int.toNat v142) ((0 : Int), ((0 : Int), ((0 : Int), ((0 : Int), ((0 : Int), (⟨#[]⟩ : ByteArray))))))).2.2.1 else some default).bind fun r148 => ((some ((bif (bif (bif (bif (bif (bif (bif (bif (decide (((List.getD x0.2.1 (Int.toNat v142) ((0 : Int), ((0 : Int), ((0 : Int), ((0 : Int), ((0 : Int), (⟨#[]⟩ : ByteArray))))))).1 : Int) < (0 : Int))) then true else (decide (((List.getD x0.2.1 (Int.toNat v142) ((0 : Int), ((0 : Int), ((0 : Int), ((0 : Int), ((0 : Int), (⟨#[]⟩ : ByteArray))))))).1 : Int) ≥ (List.length x0.1 : Int)))) then true else (decide (((List.getD x0.2.1 (Int.toNat v142) ((0 : Int), ((0 : Int), ((0 : Int), ((0 : Int), ((0 : Int), (⟨#[]⟩ : ByteArray))))))).2.1 : Int) < (0 : Int)))) then true else (decide (((List.getD x0.2.1 (Int.toNat v142) ((0 : Int), ((0 : Int), ((0 : Int), ((0 : Int), ((0 : Int), (⟨#[]⟩ : ByteArray))))))).2.1 : Int) ≥ (List.length x0.1 : Int)))) then true else (!r148)) then true else (decide (((List.getD x0.2.1 (Int.toNat v142) ((0 : Int), ((0 : Int), ((0 : Int), ((0 : Int), ((0 : Int), (⟨#[]⟩ : ByteArray))))))).2.2.2.1 : Int) < (1 : Int)))) then true else (decide (((List.getD x0.2.1 (Int.toNat v142) ((0 : Int), ((0 : Int), ((0 : Int), ((0 : Int), ((0 : Int), (⟨#[]⟩ : ByteArray))))))).2.2.2.1 : Int) > (1000000 : Int)))) then true else (decide (((List.getD x0.2.1 (Int.toNat v142) ((0 : Int), ((0 : Int), ((0 : Int), ((0 : Int), ((0 : Int), (⟨#[]⟩ : ByteArray))))))).2.2.2.2.1 : Int) < (0 : Int)))) then true else (decide (((List.getD x0.2.1 (Int.toNat v142) ((0 : Int), ((0 : Int), ((0 : Int), ((0 : Int), ((0 : Int), (⟨#[]⟩ : ByteArray))))))).2.2.2.2.1 : Int) > (1000000000 : Int)))) : Bool)).bind fun v149 => (if v149 then (some false) else ((f79.l118 k x0) m118 (IntKind.i64.wrap (v142 + (1 : Int))))))) else none) else (f79.l209 k x0 k (0 : Int))
def f79.l42 (k : Nat) (x0 : ((List (Int × (Int × Int))) × ((List (Int × (Int × (Int × (Int × (Int × ByteArray)))))) × (List (Int × Int))))) : Nat → Int → Option Bool
  | 0, _ => none
  | m42 + 1, v70 => if (decide ((v70 : Int) < (List.length x0.1 : Int))) then (if (0 ≤ v70 ∧ v70 < (List.length x0.1 : Int)) then ((f168 k (List.getD x0.1 (Int.toNat v70) ((0 : Int), ((0 : Int), (0 : Int)))).1).bind fun r77 => ((if ((!r77) = false) then f169 k (List.getD x0.1 (Int.toNat v70) ((0 : Int), ((0 : Int), (0 : Int)))).2 else some default).bind fun r78 => (if ((((bif (!r77) then true else (!r78)) = false) ∧ ((decide ((v70 : Int) > (0 : Int))) = true)) → (0 ≤ (IntKind.i64.wrap (v70 - (1 : Int))) ∧ (IntKind.i64.wrap (v70 - (1 : Int))) < (List.length x0.1 : Int))) then (if (bif (bif (!r77) then true else (!r78)) then true else (bif (decide ((v70 : Int) > (0 : Int))) then (decide (((List.getD x0.1 (Int.toNat (IntKind.i64.wrap (v70 - (1 : Int)))) ((0 : Int), ((0 : Int), (0 : Int)))).1 : Int) ≥ (List.getD x0.1 (Int.toNat v70) ((0 : Int), ((0 : Int), (0 : Int)))).1)) else false)) then (some false) else ((f79.l42 k x0) m42 (IntKind.i64.wrap (v70 + (1 : Int))))) else none))) else none) else (f79.l118 k x0 k (0 : Int))
def f79 (k : Nat) (x0 : ((List (Int × (Int × Int))) × ((List (Int × (Int × (Int × (Int × (Int × ByteArray)))))) × (List (Int × Int))))) : Option Bool := if (bif (bif (decide (((List.length x0.1 : Int) : Int) > (5000 : Int))) then true else (decide (((List.length x0.2.1 : Int) : Int) > (8000 : Int)))) then true else (decide (((List.length x0.2.2 : Int) : Int) > (2000 : Int)))) then (some false) else (f79.l42 k x0 k (0 : Int))
theorem c79 (k : Nat) (x0 : tG) (r : Bool) (hF : f79 k x0 = some r) : PCall Try.prog 79 [⟨sh15, x0⟩] [⟨.bool, r⟩] := by
  refine pcall_intro Try.func79 rfl rfl (Nat.le_of_ble_eq_true rfl) ?_
  intro w0 Zi a w h
  rw [f79] at hF
  refine wp_reg_seq tok (orc := o0) (l := [1]) nw h (by kernel_rfl) an fun a w h => ?_
  refine wp_seq ?_
  refine wp_reg_seq tok (orc := o0) (l := [1, 27]) nw h (by kernel_rfl) an fun a w h => ?_
  refine wp_if h (b := (bif (bif (decide (((List.length x0.1 : Int) : Int) > (5000 : Int))) then true else (decide (((List.length x0.2.1 : Int) : Int) > (8000 : Int)))) then true else (decide (((List.length x0.2.2 : Int) : Int) > (2000 : Int))))) (by kernel_rfl) (fun hb => ?_) (fun hb => ?_)
  · replace hF := of_t hb hF
    refine wp_reg_seq tok (orc := o0) (l := [2]) nw h (by kernel_rfl) an fun a w h => ?_
    cases hF
    exact wp_ret (ret_okR tok h rfl (by kernel_rfl)).1
  · replace hF := of_f hb hF
    refine wp_skip ?_
    refine wp_seq ?_
    refine wp_reg_seq tok (orc := o0) (l := [1, 29, 30, 31]) nw h (by kernel_rfl) an fun a w h => ?_
    refine wp_block ?_
    refine wp_loop_fuel (f79.l42 k x0) (fun (v70 : Int) => [(1, .val sh14 (some x0)), (29, .val sh27 x0.1), (30, .val (.int .i64) (List.length x0.1 : Int)), (31, .val (.int .i64) v70)]) (fun v h => by rw [f79.l42] at h; cases h) ?_ hF (h.arrive (l := [1, 29, 30, 31]) nw (by kernel_rfl))
    intro m42 v70 a w hF h
    rw [f79.l42] at hF
    refine wp_reg_seq tok (orc := o0) (l := [1, 29, 30, 31, 32]) nw h (by kernel_rfl) an fun a w h => ?_
    refine wp_seq <| wp_if h (b := (decide ((v70 : Int) < (List.length x0.1 : Int)))) (by kernel_rfl) (fun hb => ?_) (fun hb => ?_)
    · replace hF := of_t hb hF
      refine wp_skip ?_
      refine wp_seq <| wp_block ?_
      obtain ⟨hc82, hF⟩ := of_if hF
      refine wp_reg_seq tok (orc := o0) (l := [1, 3, 4, 29, 30, 31]) nw h (by kernel_rfl) (ac hc82 an) fun a w h => ?_
      obtain ⟨r77, hr79, hF⟩ := of_bind hF
      obtain ⟨r78, hr80, hF⟩ := of_bind hF
      obtain ⟨hc81, hF⟩ := of_if hF
      refine wp_regy_seq tok (orc := orcL [(38, [⟨.bool, r77⟩]), (43, [⟨.bool, r78⟩])]) (l := [1, 29, 30, 31, 61]) ([], [], [], []) 26 nw h (by kernel_rfl) (by kernel_rfl) (ac (c168 k (gD x0.1 (tZ v70) (iO, (iO, iO))).1 r77 hr79) (ac (fun (hg : ((!r77) = false)) => c169 k (gD x0.1 (tZ v70) (iO, (iO, iO))).2 r78 (of_g hg hr80)) (ac hc81 an))) fun a w h => ?_
      refine wp_if h (b := (bif (bif (!r77) then true else (!r78)) then true else (bif (decide ((v70 : Int) > iO)) then (decide (((gD x0.1 (tZ (w64 (v70 - (1 : Int)))) (iO, (iO, iO))).1 : Int) ≥ (gD x0.1 (tZ v70) (iO, (iO, iO))).1)) else false))) (by kernel_rfl) (fun hb => ?_) (fun hb => ?_)
      · replace hF := of_t hb hF
        refine wp_reg_seq tok (orc := o0) (l := [2]) nw h (by kernel_rfl) an fun a w h => ?_
        cases hF
        exact wp_ret (ret_okR tok h rfl (by kernel_rfl)).1
      · replace hF := of_f hb hF
        refine wp_skip ?_
        refine wp_reg tok (orc := o0) (l := [1, 29, 30, 31]) nw h (by kernel_rfl) an fun a w h => ?_
        exact ⟨(w64 (v70 + (1 : Int))), hF, h.arrive (l := [1, 29, 30, 31]) nw (by kernel_rfl)⟩
    · replace hF := of_f hb hF
      refine wp_exit ?_
      refine wp_reg_seq tok (orc := o0) (l := [1, 5]) nw h (by kernel_rfl) an fun a w h => ?_
      refine wp_seq ?_
      refine wp_reg_seq tok (orc := o0) (l := [1, 5, 67, 68, 69]) nw h (by kernel_rfl) an fun a w h => ?_
      refine wp_block ?_
      refine wp_loop_fuel (f79.l118 k x0) (fun (v142 : Int) => [(1, .val sh14 (some x0)), (5, .val (.int .i64) (List.length x0.1 : Int)), (67, .val sh28 x0.2.1), (68, .val (.int .i64) (List.length x0.2.1 : Int)), (69, .val (.int .i64) v142)]) (fun v h => by rw [f79.l118] at h; cases h) ?_ hF (h.arrive (l := [1, 5, 67, 68, 69]) nw (by kernel_rfl))
      intro m118 v142 a w hF h
      rw [f79.l118] at hF
      refine wp_reg_seq tok (orc := o0) (l := [1, 5, 67, 68, 69, 70]) nw h (by kernel_rfl) an fun a w h => ?_
      refine wp_seq <| wp_if h (b := (decide ((v142 : Int) < (List.length x0.2.1 : Int)))) (by kernel_rfl) (fun hb => ?_) (fun hb => ?_)
      · replace hF := of_t hb hF
        refine wp_skip ?_
        refine wp_seq <| wp_block ?_
        obtain ⟨hc152, hF⟩ := of_if hF
        refine wp_reg_seq tok (orc := o0) (l := [1, 5, 7, 67, 68, 69]) nw h (by kernel_rfl) (ac hc152 an) fun a w h => ?_
        obtain ⟨r148, hr151, hF⟩ := of_bind hF
        refine wp_reg_seq tok (orc := orcL [(96, [⟨.bool, r148⟩])]) (l := [1, 5, 67, 68, 69, 118]) nw h (by kernel_rfl) (ac (fun (hg : ((bif (bif (bif (decide (((gD x0.2.1 (tZ v142) zR).1 : Int) < iO)) then true else (decide (((gD x0.2.1 (tZ v142) zR).1 : Int) ≥ (List.length x0.1 : Int)))) then true else (decide (((gD x0.2.1 (tZ v142) zR).2.1 : Int) < iO))) then true else (decide (((gD x0.2.1 (tZ v142) zR).2.1 : Int) ≥ (List.length x0.1 : Int)))) = false)) => c168 k (gD x0.2.1 (tZ v142) zR).2.2.1 r148 (of_g hg hr151)) an) fun a w h => ?_
        obtain ⟨v149, hv150, hF⟩ := of_bind hF
        replace h := h.cast (S' := [(1, .val sh14 (some x0)), (5, .val (.int .i64) (List.length x0.1 : Int)), (67, .val sh28 x0.2.1), (68, .val (.int .i64) (List.length x0.2.1 : Int)), (69, .val (.int .i64) v142), (118, .val .bool v149)]) (by cases hv150; kernel_rfl)
        refine wp_if h (b := v149) (by kernel_rfl) (fun hb => ?_) (fun hb => ?_)
        · replace hF := of_t hb hF
          refine wp_reg_seq tok (orc := o0) (l := [2]) nw h (by kernel_rfl) an fun a w h => ?_
          cases hF
          exact wp_ret (ret_okR tok h rfl (by kernel_rfl)).1
        · replace hF := of_f hb hF
          refine wp_skip ?_
          refine wp_reg tok (orc := o0) (l := [1, 5, 67, 68, 69]) nw h (by kernel_rfl) an fun a w h => ?_
          exact ⟨(w64 (v142 + (1 : Int))), hF, h.arrive (l := [1, 5, 67, 68, 69]) nw (by kernel_rfl)⟩
      · replace hF := of_f hb hF
        refine wp_exit ?_
        refine wp_reg_seq tok (orc := o0) (l := [1, 8]) nw h (by kernel_rfl) an fun a w h => ?_
        refine wp_seq ?_
        refine wp_reg_seq tok (orc := o0) (l := [1, 8, 124, 125, 126]) nw h (by kernel_rfl) an fun a w h => ?_
        refine wp_block ?_
        refine wp_loop_fuel (f79.l209 k x0) (fun (v247 : Int) => [(1, .val sh14 (some x0)), (8, .val (.int .i64) (List.length x0.2.1 : Int)), (124, .val sh29 x0.2.2), (125, .val (.int .i64) (List.length x0.2.2 : Int)), (126, .val (.int .i64) v247)]) (fun v h => by rw [f79.l209] at h; cases h) ?_ hF (h.arrive (l := [1, 8, 124, 125, 126]) nw (by kernel_rfl))
        intro m209 v247 a w hF h
        rw [f79.l209] at hF
        refine wp_reg_seq tok (orc := o0) (l := [1, 8, 124, 125, 126, 127]) nw h (by kernel_rfl) an fun a w h => ?_
        refine wp_seq <| wp_if h (b := (decide ((v247 : Int) < (List.length x0.2.2 : Int)))) (by kernel_rfl) (fun hb => ?_) (fun hb => ?_)
        · replace hF := of_t hb hF
          refine wp_skip ?_
          refine wp_mid (fun a w => ∃ v : Unit, f79.j256 k v247 ((f79.l209 k x0) m209) v = some r ∧ Rel w0 (fun _ => False) Zi Try.f79.ntmps ((fun (_ : Unit) => ([(1, .val sh14 (some x0)), (8, .val (.int .i64) (List.length x0.2.1 : Int)), (124, .val sh29 x0.2.2), (125, .val (.int .i64) (List.length x0.2.2 : Int)), (126, .val (.int .i64) v247)] : SS)) v) a w) ?_ ?_
          ·
            refine wp_block ?_
            obtain ⟨hc264, hF⟩ := of_if hF
            refine wp_reg_seq tok (orc := o0) (l := [1, 8, 9, 10, 124, 125, 126]) nw h (by kernel_rfl) (ac hc264 an) fun a w h => ?_
            refine wp_seq ?_
            obtain ⟨hc262, hF⟩ := of_if hF
            obtain ⟨hc263, hF⟩ := of_if hF
            refine wp_regy_seq tok (orc := o0) (l := [1, 8, 9, 10, 124, 125, 126, 167]) ([], [], [], []) 37 nw h (by kernel_rfl) (by kernel_rfl) (ac hc262 (ac hc263 an)) fun a w h => ?_
            obtain ⟨v257, hv261, hF⟩ := of_bind hF
            replace h := h.cast (S' := [(1, .val sh14 (some x0)), (8, .val (.int .i64) (List.length x0.2.1 : Int)), (9, .val (.int .i64) v247), (10, .val sh17 (some (gD x0.2.2 (tZ v247) (iO, iO)))), (124, .val sh29 x0.2.2), (125, .val (.int .i64) (List.length x0.2.2 : Int)), (126, .val (.int .i64) v247), (167, .val .bool v257)]) (by cases hv261; kernel_rfl)
            refine wp_if h (b := v257) (by kernel_rfl) (fun hb => ?_) (fun hb => ?_)
            · replace hF := of_t hb hF
              refine wp_reg_seq tok (orc := o0) (l := [2]) nw h (by kernel_rfl) an fun a w h => ?_
              cases hF
              exact wp_ret (ret_okR tok h rfl (by kernel_rfl)).1
            · replace hF := of_f hb hF
              refine wp_skip ?_
              refine wp_reg_seq tok (orc := o0) (l := [1, 8, 9, 10, 124, 125, 126, 169]) nw h (by kernel_rfl) an fun a w h => ?_
              refine wp_if h (b := (decide ((v247 : Int) > iO))) (by kernel_rfl) (fun hb => ?_) (fun hb => ?_)
              · replace hF := of_t hb hF
                obtain ⟨hc260, hF⟩ := of_if hF
                refine wp_reg_seq tok (orc := o0) (l := [1, 8, 10, 11, 124, 125, 126]) nw h (by kernel_rfl) (ac hc260 an) fun a w h => ?_
                refine wp_reg_seq tok (orc := o0) (l := [1, 8, 124, 125, 126, 194]) nw h (by kernel_rfl) an fun a w h => ?_
                obtain ⟨v258, hv259, hF⟩ := of_bind hF
                replace h := h.cast (S' := [(1, .val sh14 (some x0)), (8, .val (.int .i64) (List.length x0.2.1 : Int)), (124, .val sh29 x0.2.2), (125, .val (.int .i64) (List.length x0.2.2 : Int)), (126, .val (.int .i64) v247), (194, .val .bool v258)]) (by cases hv259; kernel_rfl)
                refine wp_if h (b := v258) (by kernel_rfl) (fun hb => ?_) (fun hb => ?_)
                · replace hF := of_t hb hF
                  refine wp_reg_seq tok (orc := o0) (l := [2]) nw h (by kernel_rfl) an fun a w h => ?_
                  cases hF
                  exact wp_ret (ret_okR tok h rfl (by kernel_rfl)).1
                · replace hF := of_f hb hF
                  refine wp_skip ?_
                  exact ⟨(), hF, h.arrive (l := [1, 8, 124, 125, 126]) nw (by kernel_rfl)⟩
              · replace hF := of_f hb hF
                refine wp_skip ?_
                exact ⟨(), hF, h.arrive (l := [1, 8, 124, 125, 126]) nw (by kernel_rfl)⟩
          · rintro a w ⟨v, hF, h⟩
            obtain ⟨⟩ := v
            rw [f79.j256] at hF
            refine wp_reg tok (orc := o0) (l := [1, 8, 124, 125, 126]) nw h (by kernel_rfl) an fun a w h => ?_
            exact ⟨(w64 (v247 + (1 : Int))), hF, h.arrive (l := [1, 8, 124, 125, 126]) nw (by kernel_rfl)⟩
        · replace hF := of_f hb hF
          refine wp_exit ?_
          refine wp_reg_seq tok (orc := o0) (l := [2]) nw h (by kernel_rfl) an fun a w h => ?_
          cases hF
          exact wp_ret (ret_okR tok h rfl (by kernel_rfl)).1

def f80.l126 (k : Nat) (x0 : ((List (Int × (Int × Int))) × ((List (Int × (Int × (Int × (Int × (Int × ByteArray)))))) × (List (Int × Int))))) (v94 : (List (List Int))) (v95 : (List (List Int))) : Nat → ((List ((Int × Int) × Bool)) × Int) → Option (((List (Int × (Int × Int))) × ((List (Int × (Int × (Int × (Int × (Int × ByteArray)))))) × (List (Int × Int)))) × ((List (List Int)) × ((List (List Int)) × (Option (List ((Int × Int) × Bool))))))
  | 0, _ => none
  | m126 + 1, (v137, v138) => if (decide ((v138 : Int) < (List.length x0.2.2 : Int))) then (if (0 ≤ v138 ∧ v138 < (List.length x0.2.2 : Int)) then ((f80.l126 k x0 v94 v95) m126 ((mput (Sh.beq sh7) (List.getD x0.2.2 (Int.toNat v138) ((0 : Int), (0 : Int))) true v137), (IntKind.i64.wrap (v138 + (1 : Int))))) else none) else (some (x0, (v94, (v95, (some v137)))))
def f80.l56 (k : Nat) (x0 : ((List (Int × (Int × Int))) × ((List (Int × (Int × (Int × (Int × (Int × ByteArray)))))) × (List (Int × Int))))) : Nat → ((List (List Int)) × (List (List Int)) × Int) → Option (((List (Int × (Int × Int))) × ((List (Int × (Int × (Int × (Int × (Int × ByteArray)))))) × (List (Int × Int)))) × ((List (List Int)) × ((List (List Int)) × (Option (List ((Int × Int) × Bool))))))
  | 0, _ => none
  | m56 + 1, (v94, v95, v96) => if (decide ((v96 : Int) < (List.length x0.2.1 : Int))) then (if (0 ≤ v96 ∧ v96 < (List.length x0.2.1 : Int)) then (if (0 ≤ (List.getD x0.2.1 (Int.toNat v96) ((0 : Int), ((0 : Int), ((0 : Int), ((0 : Int), ((0 : Int), (⟨#[]⟩ : ByteArray))))))).1 ∧ (List.getD x0.2.1 (Int.toNat v96) ((0 : Int), ((0 : Int), ((0 : Int), ((0 : Int), ((0 : Int), (⟨#[]⟩ : ByteArray))))))).1 < (List.length v94 : Int)) then (if ((List.length (List.getD v94 (Int.toNat (List.getD x0.2.1 (Int.toNat v96) ((0 : Int), ((0 : Int), ((0 : Int), ((0 : Int), ((0 : Int), (⟨#[]⟩ : ByteArray))))))).1) ([] : (List Int))) + List.length [v96]) * 8 ≤ 140737488355328) then (if (0 ≤ (List.getD x0.2.1 (Int.toNat v96) ((0 : Int), ((0 : Int), ((0 : Int), ((0 : Int), ((0 : Int), (⟨#[]⟩ : ByteArray))))))).1 ∧ (List.getD x0.2.1 (Int.toNat v96) ((0 : Int), ((0 : Int), ((0 : Int), ((0 : Int), ((0 : Int), (⟨#[]⟩ : ByteArray))))))).1 < (List.length v94 : Int)) then (if (0 ≤ (List.getD x0.2.1 (Int.toNat v96) ((0 : Int), ((0 : Int), ((0 : Int), ((0 : Int), ((0 : Int), (⟨#[]⟩ : ByteArray))))))).2.1 ∧ (List.getD x0.2.1 (Int.toNat v96) ((0 : Int), ((0 : Int), ((0 : Int), ((0 : Int), ((0 : Int), (⟨#[]⟩ : ByteArray))))))).2.1 < (List.length v95 : Int)) then (if ((List.length (List.getD v95 (Int.toNat (List.getD x0.2.1 (Int.toNat v96) ((0 : Int), ((0 : Int), ((0 : Int), ((0 : Int), ((0 : Int), (⟨#[]⟩ : ByteArray))))))).2.1) ([] : (List Int))) + List.length [v96]) * 8 ≤ 140737488355328) then (if (0 ≤ (List.getD x0.2.1 (Int.toNat v96) ((0 : Int), ((0 : Int), ((0 : Int), ((0 : Int), ((0 : Int), (⟨#[]⟩ : ByteArray))))))).2.1 ∧ (List.getD x0.2.1 (Int.toNat v96) ((0 : Int), ((0 : Int), ((0 : Int), ((0 : Int), ((0 : Int), (⟨#[]⟩ : ByteArray))))))).2.1 < (List.length v95 : Int)) then ((f80.l56 k x0) m56 ((List.set v94 (Int.toNat (List.getD x0.2.1 (Int.toNat v96) ((0 : Int), ((0 : Int), ((0 : Int), ((0 : Int), ((0 : Int), (⟨#[]⟩ : ByteArray))))))).1) (List.append (List.getD v94 (Int.toNat (List.getD x0.2.1 (Int.toNat v96) ((0 : Int), ((0 : Int), ((0 : Int), ((0 : Int), ((0 : Int), (⟨#[]⟩ : ByteArray))))))).1) ([] : (List Int))) [v96])), (List.set v95 (Int.toNat (List.getD x0.2.1 (Int.toNat v96) ((0 : Int), ((0 : Int), ((0 : Int), ((0 : Int), ((0 : Int), (⟨#[]⟩ : ByteArray))))))).2.1) (List.append (List.getD v95 (Int.toNat (List.getD x0.2.1 (Int.toNat v96) ((0 : Int), ((0 : Int), ((0 : Int), ((0 : Int), ((0 : Int), (⟨#[]⟩ : ByteArray))))))).2.1) ([] : (List Int))) [v96])), (IntKind.i64.wrap (v96 + (1 : Int))))) else none) else none) else none) else none) else none) else none) else none) else (f80.l126 k x0 v94 v95 k (([] : (List ((Int × Int) × Bool))), (0 : Int)))
def f80 (k : Nat) (x0 : ((List (Int × (Int × Int))) × ((List (Int × (Int × (Int × (Int × (Int × ByteArray)))))) × (List (Int × Int))))) : Option (((List (Int × (Int × Int))) × ((List (Int × (Int × (Int × (Int × (Int × ByteArray)))))) × (List (Int × Int)))) × ((List (List Int)) × ((List (List Int)) × (Option (List ((Int × Int) × Bool)))))) := if (0 ≤ (List.length x0.1 : Int) ∧ Int.toNat (List.length x0.1 : Int) * 24 ≤ 140737488355328) then (if (0 ≤ (List.length x0.1 : Int) ∧ Int.toNat (List.length x0.1 : Int) * 24 ≤ 140737488355328) then (f80.l56 k x0 k ((List.replicate (Int.toNat (List.length x0.1 : Int)) ([] : (List Int))), (List.replicate (Int.toNat (List.length x0.1 : Int)) ([] : (List Int))), (0 : Int))) else none) else none
theorem c80 (k : Nat) (x0 : tG) (r : tN) (hF : f80 k x0 = some r) : PCall Try.prog 80 [⟨sh15, x0⟩] [⟨sh30, some r⟩] := by
  refine pcall_intro Try.func80 rfl rfl (Nat.le_of_ble_eq_true rfl) ?_
  intro w0 Zi a w h
  rw [f80] at hF
  refine wp_reg_seq tok (orc := o0) (l := [1]) nw h (by kernel_rfl) an fun a w h => ?_
  obtain ⟨hc141, hF⟩ := of_if hF
  obtain ⟨hc142, hF⟩ := of_if hF
  refine wp_regy_seq tok (orc := o0) (l := [1, 3]) ([], [], [], []) 10 nw h (by kernel_rfl) (by kernel_rfl) (ac hc141 (ac hc142 an)) fun a w h => ?_
  refine wp_seq ?_
  refine wp_reg_seq tok (orc := o0) (l := [1, 3, 21, 22, 23]) nw h (by kernel_rfl) an fun a w h => ?_
  refine wp_block ?_
  refine wp_loop_fuel (f80.l56 k x0) (fun ((v94, v95, v96) : ((List (List Int)) × (List (List Int)) × Int)) => [(1, .val sh14 (some x0)), (3, .val sh30 (some (x0, (v94, (v95, (some ([] : (List ((Int × Int) × Bool))))))))), (21, .val sh28 x0.2.1), (22, .val (.int .i64) (List.length x0.2.1 : Int)), (23, .val (.int .i64) v96)]) (fun v h => by obtain ⟨v94, v95, v96⟩ := v; rw [f80.l56] at h; cases h) ?_ hF (h.arrive (l := [1, 3, 21, 22, 23]) nw (by kernel_rfl))
  intro m56 v a w hF h
  obtain ⟨v94, v95, v96⟩ := v
  rw [f80.l56] at hF
  refine wp_reg_seq tok (orc := o0) (l := [1, 3, 21, 22, 23, 24]) nw h (by kernel_rfl) an fun a w h => ?_
  refine wp_seq <| wp_if h (b := (decide ((v96 : Int) < (List.length x0.2.1 : Int)))) (by kernel_rfl) (fun hb => ?_) (fun hb => ?_)
  · replace hF := of_t hb hF
    refine wp_skip ?_
    refine wp_seq <| wp_block ?_
    obtain ⟨hc110, hF⟩ := of_if hF
    refine wp_reg_seq tok (orc := o0) (l := [1, 3, 4, 5, 21, 22, 23]) nw h (by kernel_rfl) (ac hc110 an) fun a w h => ?_
    obtain ⟨hc107, hF⟩ := of_if hF
    obtain ⟨hc108, hF⟩ := of_if hF
    obtain ⟨hc109, hF⟩ := of_if hF
    refine wp_regy_seq tok (orc := orcL [(44, [⟨.pt false 4294967293 .unit, some ()⟩])]) (l := [1, 3, 4, 5, 21, 22, 23]) ([], [], [], []) 18 nw h (by kernel_rfl) (by kernel_rfl) (ac hc107 (ac (PrefL.mk (l := [[], [], [.der, .snd, .fst], [.der, .snd, .fst], [], [], [.der, .snd, .fst], [.der, .snd, .fst], [.der, .snd, .fst, .idx (tZ (gD x0.2.1 (tZ v96) zR).1)], [.der, .snd, .fst, .idx (tZ (gD x0.2.1 (tZ v96) zR).1)]]) (p := [.der, .snd, .fst, .idx (tZ (gD x0.2.1 (tZ v96) zR).1)]) rfl) (ac hc108 (ac hc109 (ac (show ([.der, .snd, .fst, .idx (tZ (gD x0.2.1 (tZ v96) zR).1)] : Path) = [.der, .snd, .fst, .idx (tZ (gD x0.2.1 (tZ v96) zR).1)] from rfl) an))))) fun a w h => ?_
    obtain ⟨hc104, hF⟩ := of_if hF
    obtain ⟨hc105, hF⟩ := of_if hF
    obtain ⟨hc106, hF⟩ := of_if hF
    refine wp_regy tok (orc := orcL [(62, [⟨.pt false 4294967293 .unit, some ()⟩])]) (l := [1, 3, 21, 22, 23]) ([], [], [], []) 18 nw h (by kernel_rfl) (by kernel_rfl) (ac hc104 (ac (PrefL.mk (l := [[], [], [.der, .snd, .snd, .fst], [.der, .snd, .snd, .fst], [], [], [.der, .snd, .snd, .fst], [.der, .snd, .snd, .fst], [.der, .snd, .snd, .fst, .idx (tZ (gD x0.2.1 (tZ v96) zR).2.1)], [.der, .snd, .snd, .fst, .idx (tZ (gD x0.2.1 (tZ v96) zR).2.1)]]) (p := [.der, .snd, .snd, .fst, .idx (tZ (gD x0.2.1 (tZ v96) zR).2.1)]) rfl) (ac hc105 (ac hc106 (ac (show ([.der, .snd, .snd, .fst, .idx (tZ (gD x0.2.1 (tZ v96) zR).2.1)] : Path) = [.der, .snd, .snd, .fst, .idx (tZ (gD x0.2.1 (tZ v96) zR).2.1)] from rfl) an))))) fun a w h => ?_
    refine wp_reg tok (orc := o0) (l := [1, 3, 21, 22, 23]) nw h (by kernel_rfl) an fun a w h => ?_
    exact ⟨((List.set v94 (tZ (gD x0.2.1 (tZ v96) zR).1) (List.append (gD v94 (tZ (gD x0.2.1 (tZ v96) zR).1) lO) [v96])), (List.set v95 (tZ (gD x0.2.1 (tZ v96) zR).2.1) (List.append (gD v95 (tZ (gD x0.2.1 (tZ v96) zR).2.1) lO) [v96])), (w64 (v96 + (1 : Int)))), hF, h.arrive (l := [1, 3, 21, 22, 23]) nw (by kernel_rfl)⟩
  · replace hF := of_f hb hF
    refine wp_exit ?_
    refine wp_seq ?_
    refine wp_reg_seq tok (orc := o0) (l := [3, 66, 67, 68]) nw h (by kernel_rfl) an fun a w h => ?_
    refine wp_block ?_
    refine wp_loop_fuel (f80.l126 k x0 v94 v95) (fun ((v137, v138) : ((List ((Int × Int) × Bool)) × Int)) => [(3, .val sh30 (some (x0, (v94, (v95, (some v137)))))), (66, .val sh29 x0.2.2), (67, .val (.int .i64) (List.length x0.2.2 : Int)), (68, .val (.int .i64) v138)]) (fun v h => by obtain ⟨v137, v138⟩ := v; rw [f80.l126] at h; cases h) ?_ hF (h.arrive (l := [3, 66, 67, 68]) nw (by kernel_rfl))
    intro m126 v a w hF h
    obtain ⟨v137, v138⟩ := v
    rw [f80.l126] at hF
    refine wp_reg_seq tok (orc := o0) (l := [3, 66, 67, 68, 69]) nw h (by kernel_rfl) an fun a w h => ?_
    refine wp_seq <| wp_if h (b := (decide ((v138 : Int) < (List.length x0.2.2 : Int)))) (by kernel_rfl) (fun hb => ?_) (fun hb => ?_)
    · replace hF := of_t hb hF
      refine wp_skip ?_
      refine wp_seq <| wp_block ?_
      obtain ⟨hc140, hF⟩ := of_if hF
      refine wp_reg_seq tok (orc := o0) (l := [3, 7, 66, 67, 68]) nw h (by kernel_rfl) (ac hc140 an) fun a w h => ?_
      refine wp_regy tok (orc := o0) (l := [3, 66, 67, 68]) ([], [], [], []) 5 nw h (by kernel_rfl) (by kernel_rfl) (ac (show eqTy Try.prog 9 167 (.st (.pair (.int .i64) (.int .i64))) = true from by kernel_rfl) an) fun a w h => ?_
      refine wp_reg tok (orc := o0) (l := [3, 66, 67, 68]) nw h (by kernel_rfl) an fun a w h => ?_
      exact ⟨((mput (Sh.beq sh7) (gD x0.2.2 (tZ v138) (iO, iO)) true v137), (w64 (v138 + (1 : Int)))), hF, h.arrive (l := [3, 66, 67, 68]) nw (by kernel_rfl)⟩
    · replace hF := of_f hb hF
      refine wp_exit ?_
      refine wp_reg_seq tok (orc := o0) (l := [2, 3]) nw h (by kernel_rfl) an fun a w h => ?_
      cases hF
      exact wp_ret (ret_okR tok h rfl (by kernel_rfl)).1

def f96 (k : Nat) (x0 : (((List (Int × (Int × Int))) × ((List (Int × (Int × (Int × (Int × (Int × ByteArray)))))) × (List (Int × Int)))) × ((List (List Int)) × ((List (List Int)) × (Option (List ((Int × Int) × Bool))))))) (x1 : Int) : Option Bool := some (bif (decide ((x1 : Int) ≥ (0 : Int))) then (decide ((x1 : Int) < (List.length x0.1.1 : Int))) else false)
theorem c96 (k : Nat) (x0 : tN) (x1 : Int) (r : Bool) (hF : f96 k x0 x1 = some r) : PCall Try.prog 96 [⟨sh31, some x0⟩, ⟨(.int .i64), x1⟩] [⟨.bool, r⟩] := by
  refine pcall_intro Try.func96 rfl rfl (Nat.le_of_ble_eq_true rfl) ?_
  intro w0 Zi a w h
  rw [f96] at hF
  refine wp_reg_seq tok (orc := o0) (l := [0, 1]) nw h (by kernel_rfl) an fun a w h => ?_
  refine wp_reg_seq tok (orc := o0) (l := [4]) nw h (by kernel_rfl) an fun a w h => ?_
  cases hF
  exact wp_ret (ret_okR tok h rfl (by kernel_rfl)).1

def f173.j52 (k : Nat) (v48 : Int) (q28 : ((List Int) × Int) → Option (List Int)) : (List Int) → Option (List Int)
  | v51 => q28 (v51, (IntKind.i64.wrap (v48 + (1 : Int))))
def f173.l28 (k : Nat) (x0 : (((List (Int × (Int × Int))) × ((List (Int × (Int × (Int × (Int × (Int × ByteArray)))))) × (List (Int × Int)))) × ((List (List Int)) × ((List (List Int)) × (Option (List ((Int × Int) × Bool))))))) (x1 : Int) : Nat → ((List Int) × Int) → Option (List Int)
  | 0, _ => none
  | m28 + 1, (v47, v48) => if (decide ((v48 : Int) < (List.length (List.getD x0.2.1 (Int.toNat (List.getD x0.1.2.1 (Int.toNat x1) ((0 : Int), ((0 : Int), ((0 : Int), ((0 : Int), ((0 : Int), (⟨#[]⟩ : ByteArray))))))).2.1) ([] : (List Int))) : Int))) then (if (0 ≤ v48 ∧ v48 < (List.length (List.getD x0.2.1 (Int.toNat (List.getD x0.1.2.1 (Int.toNat x1) ((0 : Int), ((0 : Int), ((0 : Int), ((0 : Int), ((0 : Int), (⟨#[]⟩ : ByteArray))))))).2.1) ([] : (List Int))) : Int)) then (if (!(mget (Sh.beq sh7) x0.2.2.2 (x1, (List.getD (List.getD x0.2.1 (Int.toNat (List.getD x0.1.2.1 (Int.toNat x1) ((0 : Int), ((0 : Int), ((0 : Int), ((0 : Int), ((0 : Int), (⟨#[]⟩ : ByteArray))))))).2.1) ([] : (List Int))) (Int.toNat v48) (0 : Int))) false)) then (if ((List.length v47 + List.length [(List.getD (List.getD x0.2.1 (Int.toNat (List.getD x0.1.2.1 (Int.toNat x1) ((0 : Int), ((0 : Int), ((0 : Int), ((0 : Int), ((0 : Int), (⟨#[]⟩ : ByteArray))))))).2.1) ([] : (List Int))) (Int.toNat v48) (0 : Int))]) * 8 ≤ 140737488355328) then (f173.j52 k v48 ((f173.l28 k x0 x1) m28) (v47 ++ [(List.getD (List.getD x0.2.1 (Int.toNat (List.getD x0.1.2.1 (Int.toNat x1) ((0 : Int), ((0 : Int), ((0 : Int), ((0 : Int), ((0 : Int), (⟨#[]⟩ : ByteArray))))))).2.1) ([] : (List Int))) (Int.toNat v48) (0 : Int))])) else none) else (f173.j52 k v48 ((f173.l28 k x0 x1) m28) v47)) else none) else (some v47)
def f173 (k : Nat) (x0 : (((List (Int × (Int × Int))) × ((List (Int × (Int × (Int × (Int × (Int × ByteArray)))))) × (List (Int × Int)))) × ((List (List Int)) × ((List (List Int)) × (Option (List ((Int × Int) × Bool))))))) (x1 : Int) : Option (List Int) := if (0 ≤ x1 ∧ x1 < (List.length x0.1.2.1 : Int)) then (if (0 ≤ (List.getD x0.1.2.1 (Int.toNat x1) ((0 : Int), ((0 : Int), ((0 : Int), ((0 : Int), ((0 : Int), (⟨#[]⟩ : ByteArray))))))).2.1 ∧ (List.getD x0.1.2.1 (Int.toNat x1) ((0 : Int), ((0 : Int), ((0 : Int), ((0 : Int), ((0 : Int), (⟨#[]⟩ : ByteArray))))))).2.1 < (List.length x0.2.1 : Int)) then (f173.l28 k x0 x1 k (([] : (List Int)), (0 : Int))) else none) else none
theorem c173 (k : Nat) (x0 : tN) (x1 : Int) (r : (List Int)) (hF : f173 k x0 x1 = some r) : PCall Try.prog 173 [⟨sh31, some x0⟩, ⟨(.int .i64), x1⟩] [⟨(.sl true 2 (.int .i64)), r⟩] := by
  refine pcall_intro Try.func173 rfl rfl (Nat.le_of_ble_eq_true rfl) ?_
  intro w0 Zi a w h
  rw [f173] at hF
  refine wp_reg_seq tok (orc := o0) (l := [0, 1]) nw h (by kernel_rfl) an fun a w h => ?_
  refine wp_reg_seq tok (orc := o0) (l := [0, 1, 5]) nw h (by kernel_rfl) an fun a w h => ?_
  refine wp_seq ?_
  obtain ⟨hc55, hF⟩ := of_if hF
  obtain ⟨hc56, hF⟩ := of_if hF
  refine wp_regy_seq tok (orc := o0) (l := [0, 1, 5, 22, 23, 24]) ([], [], [], []) 17 nw h (by kernel_rfl) (by kernel_rfl) (ac hc55 (ac hc56 an)) fun a w h => ?_
  refine wp_block ?_
  refine wp_loop_fuel (f173.l28 k x0 x1) (fun ((v47, v48) : ((List Int) × Int)) => [(0, .val sh31 (some x0)), (1, .val (.int .i64) x1), (5, .val (.sl true 2 (.int .i64)) v47), (22, .val (.sl false 2 (.int .i64)) (gD x0.2.1 (tZ (gD x0.1.2.1 (tZ x1) zR).2.1) lO)), (23, .val (.int .i64) (List.length (gD x0.2.1 (tZ (gD x0.1.2.1 (tZ x1) zR).2.1) lO) : Int)), (24, .val (.int .i64) v48)]) (fun v h => by obtain ⟨v47, v48⟩ := v; rw [f173.l28] at h; cases h) ?_ hF (h.arrive (l := [0, 1, 5, 22, 23, 24]) nw (by kernel_rfl))
  intro m28 v a w hF h
  obtain ⟨v47, v48⟩ := v
  rw [f173.l28] at hF
  refine wp_reg_seq tok (orc := o0) (l := [0, 1, 5, 22, 23, 24, 25]) nw h (by kernel_rfl) an fun a w h => ?_
  refine wp_seq <| wp_if h (b := (decide ((v48 : Int) < (List.length (gD x0.2.1 (tZ (gD x0.1.2.1 (tZ x1) zR).2.1) lO) : Int)))) (by kernel_rfl) (fun hb => ?_) (fun hb => ?_)
  · replace hF := of_t hb hF
    refine wp_skip ?_
    refine wp_mid (fun a w => ∃ v : (List Int), f173.j52 k v48 ((f173.l28 k x0 x1) m28) v = some r ∧ Rel w0 (fun _ => False) Zi Try.f173.ntmps ((fun (v51 : (List Int)) => ([(0, .val sh31 (some x0)), (1, .val (.int .i64) x1), (5, .val (.sl true 2 (.int .i64)) v51), (22, .val (.sl false 2 (.int .i64)) (gD x0.2.1 (tZ (gD x0.1.2.1 (tZ x1) zR).2.1) lO)), (23, .val (.int .i64) (List.length (gD x0.2.1 (tZ (gD x0.1.2.1 (tZ x1) zR).2.1) lO) : Int)), (24, .val (.int .i64) v48)] : SS)) v) a w) ?_ ?_
    ·
      refine wp_block ?_
      obtain ⟨hc54, hF⟩ := of_if hF
      refine wp_reg_seq tok (orc := o0) (l := [0, 1, 5, 7, 22, 23, 24]) nw h (by kernel_rfl) (ac hc54 an) fun a w h => ?_
      refine wp_reg_seq tok (orc := o0) (l := [0, 1, 5, 7, 22, 23, 24, 36]) nw h (by kernel_rfl) (ac (show eqTy Try.prog 9 167 (.st (.pair (.int .i64) (.int .i64))) = true from by kernel_rfl) an) fun a w h => ?_
      refine wp_if h (b := (!(mget (Sh.beq sh7) x0.2.2.2 (x1, (gD (gD x0.2.1 (tZ (gD x0.1.2.1 (tZ x1) zR).2.1) lO) (tZ v48) iO)) false))) (by kernel_rfl) (fun hb => ?_) (fun hb => ?_)
      · replace hF := of_t hb hF
        obtain ⟨hc53, hF⟩ := of_if hF
        refine wp_reg tok (orc := o0) (l := [0, 1, 5, 22, 23, 24]) nw h (by kernel_rfl) (ac hc53 an) fun a w h => ?_
        exact ⟨(v47 ++ [(gD (gD x0.2.1 (tZ (gD x0.1.2.1 (tZ x1) zR).2.1) lO) (tZ v48) iO)]), hF, h.arrive (l := [0, 1, 5, 22, 23, 24]) nw (by kernel_rfl)⟩
      · replace hF := of_f hb hF
        refine wp_skip ?_
        exact ⟨v47, hF, h.arrive (l := [0, 1, 5, 22, 23, 24]) nw (by kernel_rfl)⟩
    · rintro a w ⟨v51, hF, h⟩
      rw [f173.j52] at hF
      refine wp_reg tok (orc := o0) (l := [0, 1, 5, 22, 23, 24]) nw h (by kernel_rfl) an fun a w h => ?_
      exact ⟨(v51, (w64 (v48 + (1 : Int)))), hF, h.arrive (l := [0, 1, 5, 22, 23, 24]) nw (by kernel_rfl)⟩
  · replace hF := of_f hb hF
    refine wp_exit ?_
    refine wp_reg_seq tok (orc := o0) (l := [4, 5]) nw h (by kernel_rfl) an fun a w h => ?_
    cases hF
    exact wp_ret (ret_okR tok h rfl (by kernel_rfl)).1

def f268 (k : Nat) (x0 : Int) : Option Int := if (decide ((x0 : Int) < (0 : Int))) then (some (IntKind.i64.wrap (0 - x0))) else (some x0)
theorem c268 (k : Nat) (x0 : Int) (r : Int) (hF : f268 k x0 = some r) : PCall Try.prog 268 [⟨(.int .i64), x0⟩] [⟨(.int .i64), r⟩] := by
  refine pcall_intro Try.func268 rfl rfl (Nat.le_of_ble_eq_true rfl) ?_
  intro w0 Zi a w h
  rw [f268] at hF
  refine wp_reg_seq tok (orc := o0) (l := [0]) nw h (by kernel_rfl) an fun a w h => ?_
  refine wp_seq ?_
  refine wp_reg_seq tok (orc := o0) (l := [0, 4]) nw h (by kernel_rfl) an fun a w h => ?_
  refine wp_if h (b := (decide ((x0 : Int) < iO))) (by kernel_rfl) (fun hb => ?_) (fun hb => ?_)
  · replace hF := of_t hb hF
    refine wp_reg_seq tok (orc := o0) (l := [2]) nw h (by kernel_rfl) an fun a w h => ?_
    cases hF
    exact wp_ret (ret_okR tok h rfl (by kernel_rfl)).1
  · replace hF := of_f hb hF
    refine wp_skip ?_
    refine wp_reg_seq tok (orc := o0) (l := [2]) nw h (by kernel_rfl) an fun a w h => ?_
    cases hF
    exact wp_ret (ret_okR tok h rfl (by kernel_rfl)).1

def f251 (k : Nat) (x0 : (Int × Int)) (x1 : (Int × Int)) : Option Int := (if ((Sh.beq sh7 x0 x1) = false) then f169 k x0 else some default).bind fun r1 => ((if ((bif (Sh.beq sh7 x0 x1) then true else (!r1)) = false) then f169 k x1 else some default).bind fun r2 => (if (bif (bif (Sh.beq sh7 x0 x1) then true else (!r1)) then true else (!r2)) then (some (-1 : Int)) else ((f268 k (IntKind.i64.wrap (x1.1 - x0.1))).bind fun r3 => ((f268 k (IntKind.i64.wrap (x1.2 - x0.2))).bind fun r4 => ((f268 k (IntKind.i64.wrap (x1.1 - x0.1))).bind fun r5 => ((f268 k (IntKind.i64.wrap (x1.2 - x0.2))).bind fun r6 => (if (decide (((IntKind.i64.wrap ((5 : Int) * (if (r6 : Int) < r5 then r6 else r5))) : Int) < (IntKind.i64.wrap ((2 : Int) * (if (r4 : Int) > r3 then r4 else r3))))) then ((f268 k (IntKind.i64.wrap (x1.1 - x0.1))).bind fun r31 => ((f268 k (IntKind.i64.wrap (x1.2 - x0.2))).bind fun r32 => (if (bif (decide ((r31 : Int) > r32)) then (decide (((IntKind.i64.wrap (x1.1 - x0.1)) : Int) > (0 : Int))) else false) then (some (0 : Int)) else ((f268 k (IntKind.i64.wrap (x1.1 - x0.1))).bind fun r33 => ((f268 k (IntKind.i64.wrap (x1.2 - x0.2))).bind fun r34 => (if (decide ((r33 : Int) > r34)) then (some (4 : Int)) else (if (decide (((IntKind.i64.wrap (x1.2 - x0.2)) : Int) > (0 : Int))) then (some (2 : Int)) else (some (6 : Int))))))))) else (if (bif (decide (((IntKind.i64.wrap (x1.1 - x0.1)) : Int) > (0 : Int))) then (decide (((IntKind.i64.wrap (x1.2 - x0.2)) : Int) > (0 : Int))) else false) then (some (1 : Int)) else (if (bif (decide (((IntKind.i64.wrap (x1.1 - x0.1)) : Int) < (0 : Int))) then (decide (((IntKind.i64.wrap (x1.2 - x0.2)) : Int) > (0 : Int))) else false) then (some (3 : Int)) else (if (bif (decide (((IntKind.i64.wrap (x1.1 - x0.1)) : Int) < (0 : Int))) then (decide (((IntKind.i64.wrap (x1.2 - x0.2)) : Int) < (0 : Int))) else false) then (some (5 : Int)) else (some (7 : Int))))))))))))
theorem c251 (k : Nat) (x0 : (Int × Int)) (x1 : (Int × Int)) (r : Int) (hF : f251 k x0 x1 = some r) : PCall Try.prog 251 [⟨sh7, x0⟩, ⟨sh7, x1⟩] [⟨(.int .i64), r⟩] := by
  refine pcall_intro Try.func251 rfl rfl (Nat.le_of_ble_eq_true rfl) ?_
  intro w0 Zi a w h
  rw [f251] at hF
  refine wp_reg_seq tok (orc := o0) (l := [2, 3]) nw h (by kernel_rfl) an fun a w h => ?_
  refine wp_seq ?_
  obtain ⟨r1, hr43, hF⟩ := of_bind hF
  obtain ⟨r2, hr44, hF⟩ := of_bind hF
  refine wp_reg_seq tok (orc := orcL [(14, [⟨.bool, r1⟩]), (19, [⟨.bool, r2⟩])]) (l := [2, 3, 21]) nw h (by kernel_rfl) (ac (And.intro (show eqTy Try.prog 9 174 (.st (.pair (.int .i64) (.int .i64))) = true from by kernel_rfl) (show Try.prog.eqGuardType Try.prog.depth 174 = false from by kernel_rfl)) (ac (fun (hg : ((Sh.beq sh7 x0 x1) = false)) => c169 k x0 r1 (of_g hg hr43)) (ac (fun (hg : ((bif (Sh.beq sh7 x0 x1) then true else (!r1)) = false)) => c169 k x1 r2 (of_g hg hr44)) an))) fun a w h => ?_
  refine wp_if h (b := (bif (bif (Sh.beq sh7 x0 x1) then true else (!r1)) then true else (!r2))) (by kernel_rfl) (fun hb => ?_) (fun hb => ?_)
  · replace hF := of_t hb hF
    refine wp_reg_seq tok (orc := o0) (l := [4]) nw h (by kernel_rfl) an fun a w h => ?_
    cases hF
    exact wp_ret (ret_okR tok h rfl (by kernel_rfl)).1
  · replace hF := of_f hb hF
    refine wp_skip ?_
    refine wp_regy_seq tok (orc := o0) (l := [5, 6]) ([], [], [], []) 12 nw h (by kernel_rfl) (by kernel_rfl) an fun a w h => ?_
    obtain ⟨r3, hr39, hF⟩ := of_bind hF
    obtain ⟨r4, hr40, hF⟩ := of_bind hF
    obtain ⟨r5, hr41, hF⟩ := of_bind hF
    obtain ⟨r6, hr42, hF⟩ := of_bind hF
    refine wp_reg_seq tok (orc := orcL [(33, [⟨(.int .i64), r3⟩]), (35, [⟨(.int .i64), r4⟩]), (38, [⟨(.int .i64), r5⟩]), (40, [⟨(.int .i64), r6⟩])]) (l := [5, 6, 7, 8]) nw h (by kernel_rfl) (ac (c268 k (w64 (x1.1 - x0.1)) r3 hr39) (ac (c268 k (w64 (x1.2 - x0.2)) r4 hr40) (ac (c268 k (w64 (x1.1 - x0.1)) r5 hr41) (ac (c268 k (w64 (x1.2 - x0.2)) r6 hr42) an)))) fun a w h => ?_
    refine wp_seq ?_
    refine wp_reg_seq tok (orc := o0) (l := [5, 6, 46]) nw h (by kernel_rfl) an fun a w h => ?_
    refine wp_if h (b := (decide (((w64 ((5 : Int) * (if (r6 : Int) < r5 then r6 else r5))) : Int) < (w64 ((2 : Int) * (if (r4 : Int) > r3 then r4 else r3)))))) (by kernel_rfl) (fun hb => ?_) (fun hb => ?_)
    · replace hF := of_t hb hF
      refine wp_seq <| wp_block ?_
      obtain ⟨r31, hr37, hF⟩ := of_bind hF
      obtain ⟨r32, hr38, hF⟩ := of_bind hF
      refine wp_reg_seq tok (orc := orcL [(49, [⟨(.int .i64), r31⟩]), (51, [⟨(.int .i64), r32⟩])]) (l := [5, 6, 47]) nw h (by kernel_rfl) (ac (c268 k (w64 (x1.1 - x0.1)) r31 hr37) (ac (c268 k (w64 (x1.2 - x0.2)) r32 hr38) an)) fun a w h => ?_
      refine wp_if h (b := (bif (decide ((r31 : Int) > r32)) then (decide (((w64 (x1.1 - x0.1)) : Int) > iO)) else false)) (by kernel_rfl) (fun hb => ?_) (fun hb => ?_)
      · replace hF := of_t hb hF
        refine wp_reg_seq tok (orc := o0) (l := [4]) nw h (by kernel_rfl) an fun a w h => ?_
        cases hF
        exact wp_ret (ret_okR tok h rfl (by kernel_rfl)).1
      · replace hF := of_f hb hF
        obtain ⟨r33, hr35, hF⟩ := of_bind hF
        obtain ⟨r34, hr36, hF⟩ := of_bind hF
        refine wp_reg_seq tok (orc := orcL [(59, [⟨(.int .i64), r33⟩]), (61, [⟨(.int .i64), r34⟩])]) (l := [6, 57]) nw h (by kernel_rfl) (ac (c268 k (w64 (x1.1 - x0.1)) r33 hr35) (ac (c268 k (w64 (x1.2 - x0.2)) r34 hr36) an)) fun a w h => ?_
        refine wp_if h (b := (decide ((r33 : Int) > r34))) (by kernel_rfl) (fun hb => ?_) (fun hb => ?_)
        · replace hF := of_t hb hF
          refine wp_reg_seq tok (orc := o0) (l := [4]) nw h (by kernel_rfl) an fun a w h => ?_
          cases hF
          exact wp_ret (ret_okR tok h rfl (by kernel_rfl)).1
        · replace hF := of_f hb hF
          refine wp_reg_seq tok (orc := o0) (l := [63]) nw h (by kernel_rfl) an fun a w h => ?_
          refine wp_if h (b := (decide (((w64 (x1.2 - x0.2)) : Int) > iO))) (by kernel_rfl) (fun hb => ?_) (fun hb => ?_)
          · replace hF := of_t hb hF
            refine wp_reg_seq tok (orc := o0) (l := [4]) nw h (by kernel_rfl) an fun a w h => ?_
            cases hF
            exact wp_ret (ret_okR tok h rfl (by kernel_rfl)).1
          · replace hF := of_f hb hF
            refine wp_skip ?_
            refine wp_reg_seq tok (orc := o0) (l := [4]) nw h (by kernel_rfl) an fun a w h => ?_
            cases hF
            exact wp_ret (ret_okR tok h rfl (by kernel_rfl)).1
    · replace hF := of_f hb hF
      refine wp_skip ?_
      refine wp_seq <| wp_block ?_
      refine wp_reg_seq tok (orc := o0) (l := [5, 6, 66]) nw h (by kernel_rfl) an fun a w h => ?_
      refine wp_if h (b := (bif (decide (((w64 (x1.1 - x0.1)) : Int) > iO)) then (decide (((w64 (x1.2 - x0.2)) : Int) > iO)) else false)) (by kernel_rfl) (fun hb => ?_) (fun hb => ?_)
      · replace hF := of_t hb hF
        refine wp_reg_seq tok (orc := o0) (l := [4]) nw h (by kernel_rfl) an fun a w h => ?_
        cases hF
        exact wp_ret (ret_okR tok h rfl (by kernel_rfl)).1
      · replace hF := of_f hb hF
        refine wp_reg_seq tok (orc := o0) (l := [5, 6, 73]) nw h (by kernel_rfl) an fun a w h => ?_
        refine wp_if h (b := (bif (decide (((w64 (x1.1 - x0.1)) : Int) < iO)) then (decide (((w64 (x1.2 - x0.2)) : Int) > iO)) else false)) (by kernel_rfl) (fun hb => ?_) (fun hb => ?_)
        · replace hF := of_t hb hF
          refine wp_reg_seq tok (orc := o0) (l := [4]) nw h (by kernel_rfl) an fun a w h => ?_
          cases hF
          exact wp_ret (ret_okR tok h rfl (by kernel_rfl)).1
        · replace hF := of_f hb hF
          refine wp_reg_seq tok (orc := o0) (l := [80]) nw h (by kernel_rfl) an fun a w h => ?_
          refine wp_if h (b := (bif (decide (((w64 (x1.1 - x0.1)) : Int) < iO)) then (decide (((w64 (x1.2 - x0.2)) : Int) < iO)) else false)) (by kernel_rfl) (fun hb => ?_) (fun hb => ?_)
          · replace hF := of_t hb hF
            refine wp_reg_seq tok (orc := o0) (l := [4]) nw h (by kernel_rfl) an fun a w h => ?_
            cases hF
            exact wp_ret (ret_okR tok h rfl (by kernel_rfl)).1
          · replace hF := of_f hb hF
            refine wp_skip ?_
            refine wp_reg_seq tok (orc := o0) (l := [4]) nw h (by kernel_rfl) an fun a w h => ?_
            cases hF
            exact wp_ret (ret_okR tok h rfl (by kernel_rfl)).1

def f221 (k : Nat) (x0 : (((List (Int × (Int × Int))) × ((List (Int × (Int × (Int × (Int × (Int × ByteArray)))))) × (List (Int × Int)))) × ((List (List Int)) × ((List (List Int)) × (Option (List ((Int × Int) × Bool))))))) (x1 : Int) (x2 : Int) : Option Int := if (0 ≤ x1 ∧ x1 < (List.length x0.1.2.1 : Int)) then (if (0 ≤ x2 ∧ x2 < (List.length x0.1.2.1 : Int)) then (if (0 ≤ (List.getD x0.1.2.1 (Int.toNat x1) ((0 : Int), ((0 : Int), ((0 : Int), ((0 : Int), ((0 : Int), (⟨#[]⟩ : ByteArray))))))).1 ∧ (List.getD x0.1.2.1 (Int.toNat x1) ((0 : Int), ((0 : Int), ((0 : Int), ((0 : Int), ((0 : Int), (⟨#[]⟩ : ByteArray))))))).1 < (List.length x0.1.1 : Int)) then (if (0 ≤ (List.getD x0.1.2.1 (Int.toNat x1) ((0 : Int), ((0 : Int), ((0 : Int), ((0 : Int), ((0 : Int), (⟨#[]⟩ : ByteArray))))))).2.1 ∧ (List.getD x0.1.2.1 (Int.toNat x1) ((0 : Int), ((0 : Int), ((0 : Int), ((0 : Int), ((0 : Int), (⟨#[]⟩ : ByteArray))))))).2.1 < (List.length x0.1.1 : Int)) then ((f251 k (List.getD x0.1.1 (Int.toNat (List.getD x0.1.2.1 (Int.toNat x1) ((0 : Int), ((0 : Int), ((0 : Int), ((0 : Int), ((0 : Int), (⟨#[]⟩ : ByteArray))))))).1) ((0 : Int), ((0 : Int), (0 : Int)))).2 (List.getD x0.1.1 (Int.toNat (List.getD x0.1.2.1 (Int.toNat x1) ((0 : Int), ((0 : Int), ((0 : Int), ((0 : Int), ((0 : Int), (⟨#[]⟩ : ByteArray))))))).2.1) ((0 : Int), ((0 : Int), (0 : Int)))).2).bind fun r1 => (if (0 ≤ (List.getD x0.1.2.1 (Int.toNat x2) ((0 : Int), ((0 : Int), ((0 : Int), ((0 : Int), ((0 : Int), (⟨#[]⟩ : ByteArray))))))).1 ∧ (List.getD x0.1.2.1 (Int.toNat x2) ((0 : Int), ((0 : Int), ((0 : Int), ((0 : Int), ((0 : Int), (⟨#[]⟩ : ByteArray))))))).1 < (List.length x0.1.1 : Int)) then (if (0 ≤ (List.getD x0.1.2.1 (Int.toNat x2) ((0 : Int), ((0 : Int), ((0 : Int), ((0 : Int), ((0 : Int), (⟨#[]⟩ : ByteArray))))))).2.1 ∧ (List.getD x0.1.2.1 (Int.toNat x2) ((0 : Int), ((0 : Int), ((0 : Int), ((0 : Int), ((0 : Int), (⟨#[]⟩ : ByteArray))))))).2.1 < (List.length x0.1.1 : Int)) then ((f251 k (List.getD x0.1.1 (Int.toNat (List.getD x0.1.2.1 (Int.toNat x2) ((0 : Int), ((0 : Int), ((0 : Int), ((0 : Int), ((0 : Int), (⟨#[]⟩ : ByteArray))))))).1) ((0 : Int), ((0 : Int), (0 : Int)))).2 (List.getD x0.1.1 (Int.toNat (List.getD x0.1.2.1 (Int.toNat x2) ((0 : Int), ((0 : Int), ((0 : Int), ((0 : Int), ((0 : Int), (⟨#[]⟩ : ByteArray))))))).2.1) ((0 : Int), ((0 : Int), (0 : Int)))).2).bind fun r2 => (if (bif (decide ((r1 : Int) < (0 : Int))) then true else (decide ((r2 : Int) < (0 : Int)))) then (some (-1 : Int)) else (if (((8 : Int) : Int) ≠ 0) then (some (Int.tmod (IntKind.i64.wrap ((IntKind.i64.wrap (r2 - r1)) + (8 : Int))) (8 : Int))) else none))) else none) else none)) else none) else none) else none) else none
theorem c221 (k : Nat) (x0 : tN) (x1 : Int) (x2 : Int) (r : Int) (hF : f221 k x0 x1 x2 = some r) : PCall Try.prog 221 [⟨sh31, some x0⟩, ⟨(.int .i64), x1⟩, ⟨(.int .i64), x2⟩] [⟨(.int .i64), r⟩] := by
  refine pcall_intro Try.func221 rfl rfl (Nat.le_of_ble_eq_true rfl) ?_
  intro w0 Zi a w h
  rw [f221] at hF
  refine wp_reg_seq tok (orc := o0) (l := [0, 1, 2]) nw h (by kernel_rfl) an fun a w h => ?_
  obtain ⟨hc10, hF⟩ := of_if hF
  obtain ⟨hc11, hF⟩ := of_if hF
  refine wp_regy_seq tok (orc := o0) (l := [0, 7, 8]) ([(18, 7)], [], [], [(8, [0]), (9, [19]), (10, [20]), (11, [21]), (12, [22]), (13, [2]), (14, [23, 24]), (15, [25])]) 19 nw h (by kernel_rfl) (by kernel_rfl) (ac hc10 (ac hc11 an)) fun a w h => ?_
  obtain ⟨hc7, hF⟩ := of_if hF
  obtain ⟨hc8, hF⟩ := of_if hF
  obtain ⟨r1, hr9, hF⟩ := of_bind hF
  refine wp_regy_seq tok (orc := orcL [(47, [⟨(.int .i64), r1⟩])]) (l := [0, 8, 9]) ([], [], [], []) 22 nw h (by kernel_rfl) (by kernel_rfl) (ac hc7 (ac hc8 (ac (c251 k (gD x0.1.1 (tZ (gD x0.1.2.1 (tZ x1) zR).1) (iO, (iO, iO))).2 (gD x0.1.1 (tZ (gD x0.1.2.1 (tZ x1) zR).2.1) (iO, (iO, iO))).2 r1 hr9) an))) fun a w h => ?_
  obtain ⟨hc4, hF⟩ := of_if hF
  obtain ⟨hc5, hF⟩ := of_if hF
  obtain ⟨r2, hr6, hF⟩ := of_bind hF
  refine wp_regy_seq tok (orc := orcL [(68, [⟨(.int .i64), r2⟩])]) (l := [9, 10]) ([], [], [], []) 22 nw h (by kernel_rfl) (by kernel_rfl) (ac hc4 (ac hc5 (ac (c251 k (gD x0.1.1 (tZ (gD x0.1.2.1 (tZ x2) zR).1) (iO, (iO, iO))).2 (gD x0.1.1 (tZ (gD x0.1.2.1 (tZ x2) zR).2.1) (iO, (iO, iO))).2 r2 hr6) an))) fun a w h => ?_
  refine wp_seq ?_
  refine wp_reg_seq tok (orc := o0) (l := [9, 10, 74]) nw h (by kernel_rfl) an fun a w h => ?_
  refine wp_if h (b := (bif (decide ((r1 : Int) < iO)) then true else (decide ((r2 : Int) < iO)))) (by kernel_rfl) (fun hb => ?_) (fun hb => ?_)
  · replace hF := of_t hb hF
    refine wp_reg_seq tok (orc := o0) (l := [6]) nw h (by kernel_rfl) an fun a w h => ?_
    cases hF
    exact wp_ret (ret_okR tok h rfl (by kernel_rfl)).1
  · replace hF := of_f hb hF
    refine wp_skip ?_
    obtain ⟨hc3, hF⟩ := of_if hF
    refine wp_reg_seq tok (orc := o0) (l := [6]) nw h (by kernel_rfl) (ac hc3 an) fun a w h => ?_
    cases hF
    exact wp_ret (ret_okR tok h rfl (by kernel_rfl)).1

def f172 (k : Nat) (x0 : (((List (Int × (Int × Int))) × ((List (Int × (Int × (Int × (Int × (Int × ByteArray)))))) × (List (Int × Int)))) × ((List (List Int)) × ((List (List Int)) × (Option (List ((Int × Int) × Bool))))))) (x1 : Int) (x2 : Int) : Option Int := if (0 ≤ x2 ∧ x2 < (List.length x0.1.2.1 : Int)) then (if (0 ≤ x1 ∧ x1 < (List.length x0.1.2.1 : Int)) then (if (((List.getD x0.1.2.1 (Int.toNat x2) ((0 : Int), ((0 : Int), ((0 : Int), ((0 : Int), ((0 : Int), (⟨#[]⟩ : ByteArray))))))).2.1 : Int) == (List.getD x0.1.2.1 (Int.toNat x1) ((0 : Int), ((0 : Int), ((0 : Int), ((0 : Int), ((0 : Int), (⟨#[]⟩ : ByteArray))))))).1) then (some (8 : Int)) else ((f221 k x0 x1 x2).bind fun r1 => (if (decide ((r1 : Int) < (0 : Int))) then (some (0 : Int)) else (some r1)))) else none) else none
theorem c172 (k : Nat) (x0 : tN) (x1 : Int) (x2 : Int) (r : Int) (hF : f172 k x0 x1 x2 = some r) : PCall Try.prog 172 [⟨sh31, some x0⟩, ⟨(.int .i64), x1⟩, ⟨(.int .i64), x2⟩] [⟨(.int .i64), r⟩] := by
  refine pcall_intro Try.func172 rfl rfl (Nat.le_of_ble_eq_true rfl) ?_
  intro w0 Zi a w h
  rw [f172] at hF
  refine wp_reg_seq tok (orc := o0) (l := [0, 1, 2]) nw h (by kernel_rfl) an fun a w h => ?_
  refine wp_seq ?_
  obtain ⟨hc3, hF⟩ := of_if hF
  obtain ⟨hc4, hF⟩ := of_if hF
  refine wp_regy_seq tok (orc := o0) (l := [0, 1, 2, 26]) ([], [], [], []) 19 nw h (by kernel_rfl) (by kernel_rfl) (ac hc3 (ac hc4 an)) fun a w h => ?_
  refine wp_if h (b := (((gD x0.1.2.1 (tZ x2) zR).2.1 : Int) == (gD x0.1.2.1 (tZ x1) zR).1)) (by kernel_rfl) (fun hb => ?_) (fun hb => ?_)
  · replace hF := of_t hb hF
    refine wp_reg_seq tok (orc := o0) (l := [6]) nw h (by kernel_rfl) an fun a w h => ?_
    cases hF
    exact wp_ret (ret_okR tok h rfl (by kernel_rfl)).1
  · replace hF := of_f hb hF
    refine wp_skip ?_
    obtain ⟨r1, hr2, hF⟩ := of_bind hF
    refine wp_reg_seq tok (orc := orcL [(30, [⟨(.int .i64), r1⟩])]) (l := [7]) nw h (by kernel_rfl) (ac (c221 k x0 x1 x2 r1 hr2) an) fun a w h => ?_
    refine wp_seq ?_
    refine wp_reg_seq tok (orc := o0) (l := [7, 32]) nw h (by kernel_rfl) an fun a w h => ?_
    refine wp_if h (b := (decide ((r1 : Int) < iO))) (by kernel_rfl) (fun hb => ?_) (fun hb => ?_)
    · replace hF := of_t hb hF
      refine wp_reg_seq tok (orc := o0) (l := [6]) nw h (by kernel_rfl) an fun a w h => ?_
      cases hF
      exact wp_ret (ret_okR tok h rfl (by kernel_rfl)).1
    · replace hF := of_f hb hF
      refine wp_skip ?_
      refine wp_reg_seq tok (orc := o0) (l := [6]) nw h (by kernel_rfl) an fun a w h => ?_
      cases hF
      exact wp_ret (ret_okR tok h rfl (by kernel_rfl)).1

def f171.j122 (k : Nat) (v112 : Int) (q66 : (Int × Int × Int) → Option Int) : (Int × Int) → Option Int
  | (v120, v121) => q66 (v120, v121, (IntKind.i64.wrap (v112 + (1 : Int))))
def f171.j125 (k : Nat) (v110 : Int) (r1 : (List Int)) (v112 : Int) (v111 : Int) (q122 : (Int × Int) → Option Int) : Int → Option Int
  | v124 => if (decide ((v124 : Int) < v110)) then (q122 (v124, (List.getD r1 (Int.toNat v112) (0 : Int)))) else (q122 (v110, v111))
def f171.l66 (k : Nat) (r1 : (List Int)) (x0 : (((List (Int × (Int × Int))) × ((List (Int × (Int × (Int × (Int × (Int × ByteArray)))))) × (List (Int × Int)))) × ((List (List Int)) × ((List (List Int)) × (Option (List ((Int × Int) × Bool))))))) (x1 : Int) : Nat → (Int × Int × Int) → Option Int
  | 0, _ => none
  | m66 + 1, (v110, v111, v112) => if (decide ((v112 : Int) < (List.length r1 : Int))) then (if (0 ≤ v112 ∧ v112 < (List.length r1 : Int)) then (if (0 ≤ (List.getD r1 (Int.toNat v112) (0 : Int)) ∧ (List.getD r1 (Int.toNat v112) (0 : Int)) < (List.length x0.1.2.1 : Int)) then (if (0 ≤ x1 ∧ x1 < (List.length x0.1.2.1 : Int)) then (if (!(ByteArray.toList (List.getD x0.1.2.1 (Int.toNat (List.getD r1 (Int.toNat v112) (0 : Int))) ((0 : Int), ((0 : Int), ((0 : Int), ((0 : Int), ((0 : Int), (⟨#[]⟩ : ByteArray))))))).2.2.2.2.2 == ByteArray.toList (List.getD x0.1.2.1 (Int.toNat x1) ((0 : Int), ((0 : Int), ((0 : Int), ((0 : Int), ((0 : Int), (⟨#[]⟩ : ByteArray))))))).2.2.2.2.2)) then (f171.j122 k v112 ((f171.l66 k r1 x0 x1) m66) (v110, v111)) else ((f172 k x0 x1 (List.getD r1 (Int.toNat v112) (0 : Int))).bind fun r123 => (if (bif (decide ((r123 : Int) < (8 : Int))) then (decide (((IntKind.i64.wrap ((8 : Int) - r123)) : Int) < r123)) else false) then (f171.j125 k v110 r1 v112 v111 (f171.j122 k v112 ((f171.l66 k r1 x0 x1) m66)) (IntKind.i64.wrap ((8 : Int) - r123))) else (f171.j125 k v110 r1 v112 v111 (f171.j122 k v112 ((f171.l66 k r1 x0 x1) m66)) r123)))) else none) else none) else none) else (some v111)
def f171 (k : Nat) (x0 : (((List (Int × (Int × Int))) × ((List (Int × (Int × (Int × (Int × (Int × ByteArray)))))) × (List (Int × Int)))) × ((List (List Int)) × ((List (List Int)) × (Option (List ((Int × Int) × Bool))))))) (x1 : Int) : Option Int := (f173 k x0 x1).bind fun r1 => (f171.l66 k r1 x0 x1 k ((99 : Int), (-1 : Int), (0 : Int)))
theorem c171 (k : Nat) (x0 : tN) (x1 : Int) (r : Int) (hF : f171 k x0 x1 = some r) : PCall Try.prog 171 [⟨sh31, some x0⟩, ⟨(.int .i64), x1⟩] [⟨(.int .i64), r⟩] := by
  refine pcall_intro Try.func171 rfl rfl (Nat.le_of_ble_eq_true rfl) ?_
  intro w0 Zi a w h
  rw [f171] at hF
  refine wp_reg_seq tok (orc := o0) (l := [0, 1]) nw h (by kernel_rfl) an fun a w h => ?_
  refine wp_reg_seq tok (orc := o0) (l := [0, 1, 5, 6]) nw h (by kernel_rfl) an fun a w h => ?_
  refine wp_seq ?_
  obtain ⟨r1, hr130, hF⟩ := of_bind hF
  refine wp_reg_seq tok (orc := orcL [(12, [⟨(.sl true 2 (.int .i64)), r1⟩])]) (l := [0, 1, 5, 6, 12, 13, 14]) nw h (by kernel_rfl) (ac (c173 k x0 x1 r1 hr130) an) fun a w h => ?_
  refine wp_block ?_
  refine wp_loop_fuel (f171.l66 k r1 x0 x1) (fun ((v110, v111, v112) : (Int × Int × Int)) => [(0, .val sh31 (some x0)), (1, .val (.int .i64) x1), (5, .val (.int .i64) v110), (6, .val (.int .i64) v111), (12, .val (.sl true 2 (.int .i64)) r1), (13, .val (.int .i64) (List.length r1 : Int)), (14, .val (.int .i64) v112)]) (fun v h => by obtain ⟨v110, v111, v112⟩ := v; rw [f171.l66] at h; cases h) ?_ hF (h.arrive (l := [0, 1, 5, 6, 12, 13, 14]) nw (by kernel_rfl))
  intro m66 v a w hF h
  obtain ⟨v110, v111, v112⟩ := v
  rw [f171.l66] at hF
  refine wp_reg_seq tok (orc := o0) (l := [0, 1, 5, 6, 12, 13, 14, 15]) nw h (by kernel_rfl) an fun a w h => ?_
  refine wp_seq <| wp_if h (b := (decide ((v112 : Int) < (List.length r1 : Int)))) (by kernel_rfl) (fun hb => ?_) (fun hb => ?_)
  · replace hF := of_t hb hF
    refine wp_skip ?_
    refine wp_mid (fun a w => ∃ v : (Int × Int), f171.j122 k v112 ((f171.l66 k r1 x0 x1) m66) v = some r ∧ Rel w0 (fun _ => False) Zi Try.f171.ntmps ((fun ((v120, v121) : (Int × Int)) => ([(0, .val sh31 (some x0)), (1, .val (.int .i64) x1), (5, .val (.int .i64) v120), (6, .val (.int .i64) v121), (12, .val (.sl true 2 (.int .i64)) r1), (13, .val (.int .i64) (List.length r1 : Int)), (14, .val (.int .i64) v112)] : SS)) v) a w) ?_ ?_
    ·
      refine wp_block ?_
      obtain ⟨hc129, hF⟩ := of_if hF
      refine wp_reg_seq tok (orc := o0) (l := [0, 1, 5, 6, 8, 12, 13, 14]) nw h (by kernel_rfl) (ac hc129 an) fun a w h => ?_
      refine wp_seq ?_
      obtain ⟨hc127, hF⟩ := of_if hF
      obtain ⟨hc128, hF⟩ := of_if hF
      refine wp_regy_seq tok (orc := o0) (l := [0, 1, 5, 6, 8, 12, 13, 14, 36]) ([], [], [], []) 19 nw h (by kernel_rfl) (by kernel_rfl) (ac hc127 (ac hc128 an)) fun a w h => ?_
      refine wp_if h (b := (!(ByteArray.toList (gD x0.1.2.1 (tZ (gD r1 (tZ v112) iO)) zR).2.2.2.2.2 == ByteArray.toList (gD x0.1.2.1 (tZ x1) zR).2.2.2.2.2))) (by kernel_rfl) (fun hb => ?_) (fun hb => ?_)
      · replace hF := of_t hb hF
        refine wp_exit ?_
        exact ⟨(v110, v111), hF, h.arrive (l := [0, 1, 5, 6, 12, 13, 14]) nw (by kernel_rfl)⟩
      · replace hF := of_f hb hF
        refine wp_skip ?_
        obtain ⟨r123, hr126, hF⟩ := of_bind hF
        refine wp_reg_seq tok (orc := orcL [(40, [⟨(.int .i64), r123⟩])]) (l := [0, 1, 5, 6, 8, 9, 12, 13, 14]) nw h (by kernel_rfl) (ac (c172 k x0 x1 (gD r1 (tZ v112) iO) r123 hr126) an) fun a w h => ?_
        refine wp_seq ?_
        refine wp_reg_seq tok (orc := o0) (l := [0, 1, 5, 6, 8, 9, 12, 13, 14, 48]) nw h (by kernel_rfl) an fun a w h => ?_
        refine wp_midT (fun a w => ∃ v : Int, f171.j125 k v110 r1 v112 v111 (f171.j122 k v112 ((f171.l66 k r1 x0 x1) m66)) v = some r ∧ Rel w0 (fun _ => False) Zi Try.f171.ntmps ((fun (v124 : Int) => ([(0, .val sh31 (some x0)), (1, .val (.int .i64) x1), (5, .val (.int .i64) v110), (6, .val (.int .i64) v111), (8, .val (.int .i64) (gD r1 (tZ v112) iO)), (9, .val (.int .i64) v124), (12, .val (.sl true 2 (.int .i64)) r1), (13, .val (.int .i64) (List.length r1 : Int)), (14, .val (.int .i64) v112)] : SS)) v) a w) ?_ ?_
        ·
          refine wp_if h (b := (bif (decide ((r123 : Int) < (8 : Int))) then (decide (((w64 ((8 : Int) - r123)) : Int) < r123)) else false)) (by kernel_rfl) (fun hb => ?_) (fun hb => ?_)
          · replace hF := of_t hb hF
            refine wp_reg tok (orc := o0) (l := [0, 1, 5, 6, 8, 9, 12, 13, 14]) nw h (by kernel_rfl) an fun a w h => ?_
            exact ⟨(w64 ((8 : Int) - r123)), hF, h.arrive (l := [0, 1, 5, 6, 8, 9, 12, 13, 14]) nw (by kernel_rfl)⟩
          · replace hF := of_f hb hF
            refine wp_skip ?_
            exact ⟨r123, hF, h.arrive (l := [0, 1, 5, 6, 8, 9, 12, 13, 14]) nw (by kernel_rfl)⟩
        · rintro a w ⟨v124, hF, h⟩
          rw [f171.j125] at hF
          refine wp_reg_seq tok (orc := o0) (l := [0, 1, 5, 6, 8, 9, 12, 13, 14, 53]) nw h (by kernel_rfl) an fun a w h => ?_
          refine wp_if h (b := (decide ((v124 : Int) < v110))) (by kernel_rfl) (fun hb => ?_) (fun hb => ?_)
          · replace hF := of_t hb hF
            refine wp_reg tok (orc := o0) (l := [0, 1, 5, 6, 12, 13, 14]) nw h (by kernel_rfl) an fun a w h => ?_
            exact ⟨(v124, (gD r1 (tZ v112) iO)), hF, h.arrive (l := [0, 1, 5, 6, 12, 13, 14]) nw (by kernel_rfl)⟩
          · replace hF := of_f hb hF
            refine wp_skip ?_
            exact ⟨(v110, v111), hF, h.arrive (l := [0, 1, 5, 6, 12, 13, 14]) nw (by kernel_rfl)⟩
    · rintro a w ⟨v, hF, h⟩
      obtain ⟨v120, v121⟩ := v
      rw [f171.j122] at hF
      refine wp_reg tok (orc := o0) (l := [0, 1, 5, 6, 12, 13, 14]) nw h (by kernel_rfl) an fun a w h => ?_
      exact ⟨(v120, v121, (w64 (v112 + (1 : Int)))), hF, h.arrive (l := [0, 1, 5, 6, 12, 13, 14]) nw (by kernel_rfl)⟩
  · replace hF := of_f hb hF
    refine wp_exit ?_
    refine wp_reg_seq tok (orc := o0) (l := [4]) nw h (by kernel_rfl) an fun a w h => ?_
    cases hF
    exact wp_ret (ret_okR tok h rfl (by kernel_rfl)).1

def f97.l1395 (k : Nat) (x2 : (List (Int × (Int × (ByteArray × (Int × Int)))))) (v1228 : Int) (x0 : (((List (Int × (Int × Int))) × ((List (Int × (Int × (Int × (Int × (Int × ByteArray)))))) × (List (Int × Int)))) × ((List (List Int)) × ((List (List Int)) × (Option (List ((Int × Int) × Bool))))))) (q736 : ((List Int) × Int) → Option ((List Int) × Bool)) : Nat → ((List Int) × Int × Int) → Option ((List Int) × Bool)
  | 0, _ => none
  | m1395 + 1, (v1417, v1418, v1419) => if (bif (decide ((v1418 : Int) < (0 : Int))) then true else (((List.length v1417 : Int) : Int) == (8000 : Int))) then (some (v1417, false)) else (if ((List.length v1417 + List.length [v1418]) * 8 ≤ 140737488355328) then (if ((v1419 : Int) == (List.getD x2 (Int.toNat v1228) ((0 : Int), ((0 : Int), ((⟨#[]⟩ : ByteArray), ((0 : Int), (0 : Int)))))).2.2.2.1) then (q736 ((v1417 ++ [v1418]), (IntKind.i64.wrap (v1228 + (1 : Int))))) else ((f171 k x0 v1418).bind fun r1423 => ((f97.l1395 k x2 v1228 x0 q736) m1395 ((v1417 ++ [v1418]), r1423, (IntKind.i64.wrap (v1419 + (1 : Int))))))) else none)
def f97.j1394 (k : Nat) (x2 : (List (Int × (Int × (ByteArray × (Int × Int)))))) (v1228 : Int) (v1227 : (List Int)) (x0 : (((List (Int × (Int × Int))) × ((List (Int × (Int × (Int × (Int × (Int × ByteArray)))))) × (List (Int × Int)))) × ((List (List Int)) × ((List (List Int)) × (Option (List ((Int × Int) × Bool))))))) (q736 : ((List Int) × Int) → Option ((List Int) × Bool)) : (List Int) → Option ((List Int) × Bool)
  | v1393 => if (decide (((List.getD x2 (Int.toNat v1228) ((0 : Int), ((0 : Int), ((⟨#[]⟩ : ByteArray), ((0 : Int), (0 : Int)))))).2.1 : Int) ≥ (List.length v1393 : Int))) then (some (v1227, false)) else (if (0 ≤ (List.getD x2 (Int.toNat v1228) ((0 : Int), ((0 : Int), ((⟨#[]⟩ : ByteArray), ((0 : Int), (0 : Int)))))).2.1 ∧ (List.getD x2 (Int.toNat v1228) ((0 : Int), ((0 : Int), ((⟨#[]⟩ : ByteArray), ((0 : Int), (0 : Int)))))).2.1 < (List.length v1393 : Int)) then (f97.l1395 k x2 v1228 x0 (q736) k (v1227, (List.getD v1393 (Int.toNat (List.getD x2 (Int.toNat v1228) ((0 : Int), ((0 : Int), ((⟨#[]⟩ : ByteArray), ((0 : Int), (0 : Int)))))).2.1) (0 : Int)), (1 : Int))) else none)
def f97.j1463 (k : Nat) (v1457 : Int) (q1429 : ((List Int) × Int) → Option ((List Int) × Bool)) : (List Int) → Option ((List Int) × Bool)
  | v1462 => q1429 (v1462, (IntKind.i64.wrap (v1457 + (1 : Int))))
def f97.l1429 (k : Nat) (r1428 : (List Int)) (x0 : (((List (Int × (Int × Int))) × ((List (Int × (Int × (Int × (Int × (Int × ByteArray)))))) × (List (Int × Int)))) × ((List (List Int)) × ((List (List Int)) × (Option (List ((Int × Int) × Bool))))))) (v1227 : (List Int)) (x2 : (List (Int × (Int × (ByteArray × (Int × Int)))))) (v1228 : Int) (q1394 : (List Int) → Option ((List Int) × Bool)) : Nat → ((List Int) × Int) → Option ((List Int) × Bool)
  | 0, _ => none
  | m1429 + 1, (v1456, v1457) => if (decide ((v1457 : Int) < (List.length r1428 : Int))) then (if (0 ≤ v1457 ∧ v1457 < (List.length r1428 : Int)) then ((f172 k x0 (List.getD v1227 (Int.toNat (IntKind.i64.wrap ((List.length v1227 : Int) - (1 : Int)))) (0 : Int)) (List.getD r1428 (Int.toNat v1457) (0 : Int))).bind fun r1464 => (if ((r1464 : Int) == (List.getD x2 (Int.toNat v1228) ((0 : Int), ((0 : Int), ((⟨#[]⟩ : ByteArray), ((0 : Int), (0 : Int)))))).1) then (if ((List.length v1456 + List.length [(List.getD r1428 (Int.toNat v1457) (0 : Int))]) * 8 ≤ 140737488355328) then (f97.j1463 k v1457 ((f97.l1429 k r1428 x0 v1227 x2 v1228 q1394) m1429) (v1456 ++ [(List.getD r1428 (Int.toNat v1457) (0 : Int))])) else none) else (f97.j1463 k v1457 ((f97.l1429 k r1428 x0 v1227 x2 v1228 q1394) m1429) v1456))) else none) else (q1394 v1456)
def f97.l736 (k : Nat) (x2 : (List (Int × (Int × (ByteArray × (Int × Int)))))) (x1 : Int) (x0 : (((List (Int × (Int × Int))) × ((List (Int × (Int × (Int × (Int × (Int × ByteArray)))))) × (List (Int × Int)))) × ((List (List Int)) × ((List (List Int)) × (Option (List ((Int × Int) × Bool))))))) : Nat → ((List Int) × Int) → Option ((List Int) × Bool)
  | 0, _ => none
  | m736 + 1, (v1227, v1228) => if (decide ((v1228 : Int) < (List.length x2 : Int))) then (if (0 ≤ v1228 ∧ v1228 < (List.length x2 : Int)) then (if (bif (bif (decide (((List.getD x2 (Int.toNat v1228) ((0 : Int), ((0 : Int), ((⟨#[]⟩ : ByteArray), ((0 : Int), (0 : Int)))))).2.2.2.1 : Int) < (1 : Int))) then true else (decide (((List.getD x2 (Int.toNat v1228) ((0 : Int), ((0 : Int), ((⟨#[]⟩ : ByteArray), ((0 : Int), (0 : Int)))))).2.2.2.1 : Int) > (8000 : Int)))) then true else (decide (((List.getD x2 (Int.toNat v1228) ((0 : Int), ((0 : Int), ((⟨#[]⟩ : ByteArray), ((0 : Int), (0 : Int)))))).2.1 : Int) < (0 : Int)))) then (some (v1227, false)) else (if ((v1228 : Int) == (0 : Int)) then (if (((List.getD x2 (Int.toNat v1228) ((0 : Int), ((0 : Int), ((⟨#[]⟩ : ByteArray), ((0 : Int), (0 : Int)))))).1 : Int) == (9 : Int)) then (if (0 ≤ x1 ∧ x1 < (List.length x0.2.1 : Int)) then (f97.j1394 k x2 v1228 v1227 x0 ((f97.l736 k x2 x1 x0) m736) (List.getD x0.2.1 (Int.toNat x1) ([] : (List Int)))) else none) else (f97.j1394 k x2 v1228 v1227 x0 ((f97.l736 k x2 x1 x0) m736) ([] : (List Int)))) else (if (0 ≤ (IntKind.i64.wrap ((List.length v1227 : Int) - (1 : Int))) ∧ (IntKind.i64.wrap ((List.length v1227 : Int) - (1 : Int))) < (List.length v1227 : Int)) then ((f173 k x0 (List.getD v1227 (Int.toNat (IntKind.i64.wrap ((List.length v1227 : Int) - (1 : Int)))) (0 : Int))).bind fun r1428 => (f97.l1429 k r1428 x0 v1227 x2 v1228 (f97.j1394 k x2 v1228 v1227 x0 ((f97.l736 k x2 x1 x0) m736)) k (([] : (List Int)), (0 : Int)))) else none))) else none) else (some (v1227, true))
def f97 (k : Nat) (x0 : (((List (Int × (Int × Int))) × ((List (Int × (Int × (Int × (Int × (Int × ByteArray)))))) × (List (Int × Int)))) × ((List (List Int)) × ((List (List Int)) × (Option (List ((Int × Int) × Bool))))))) (x1 : Int) (x2 : (List (Int × (Int × (ByteArray × (Int × Int)))))) : Option ((List Int) × Bool) := f97.l736 k x2 x1 x0 k (([] : (List Int)), (0 : Int))
theorem c97 (k : Nat) (x0 : tN) (x1 : Int) (x2 : (List (Int × (Int × (ByteArray × (Int × Int)))))) (r : ((List Int) × Bool)) (hF : f97 k x0 x1 x2 = some r) : PCall Try.prog 97 [⟨sh31, some x0⟩, ⟨(.int .i64), x1⟩, ⟨sh20, x2⟩] [⟨(.sl true 2 (.int .i64)), r.1⟩, ⟨.bool, r.2⟩] := by
  refine pcall_intro Try.func97 rfl rfl (Nat.le_of_ble_eq_true rfl) ?_
  intro w0 Zi a w h
  rw [f97] at hF
  refine wp_reg_seq tok (orc := o0) (l := [0, 1, 2]) nw h (by kernel_rfl) an fun a w h => ?_
  refine wp_reg_seq tok (orc := o0) (l := [0, 1, 2, 8]) nw h (by kernel_rfl) an fun a w h => ?_
  refine wp_seq ?_
  refine wp_reg_seq tok (orc := o0) (l := [0, 1, 8, 17, 18, 19]) nw h (by kernel_rfl) an fun a w h => ?_
  refine wp_block ?_
  refine wp_loop_fuel (f97.l736 k x2 x1 x0) (fun ((v1227, v1228) : ((List Int) × Int)) => [(0, .val sh31 (some x0)), (1, .val (.int .i64) x1), (8, .val (.sl true 2 (.int .i64)) v1227), (17, .val sh20 x2), (18, .val (.int .i64) (List.length x2 : Int)), (19, .val (.int .i64) v1228)]) (fun v h => by obtain ⟨v1227, v1228⟩ := v; rw [f97.l736] at h; cases h) ?_ hF (h.arrive (l := [0, 1, 8, 17, 18, 19]) nw (by kernel_rfl))
  intro m736 v a w hF h
  obtain ⟨v1227, v1228⟩ := v
  rw [f97.l736] at hF
  refine wp_reg_seq tok (orc := o0) (l := [0, 1, 8, 17, 18, 19, 20]) nw h (by kernel_rfl) an fun a w h => ?_
  refine wp_seq <| wp_if h (b := (decide ((v1228 : Int) < (List.length x2 : Int)))) (by kernel_rfl) (fun hb => ?_) (fun hb => ?_)
  · replace hF := of_t hb hF
    refine wp_skip ?_
    refine wp_seq <| wp_block ?_
    obtain ⟨hc1470, hF⟩ := of_if hF
    refine wp_reg_seq tok (orc := o0) (l := [0, 1, 8, 9, 10, 17, 18, 19]) nw h (by kernel_rfl) (ac hc1470 an) fun a w h => ?_
    refine wp_seq ?_
    refine wp_reg_seq tok (orc := o0) (l := [0, 1, 8, 9, 10, 17, 18, 19, 36]) nw h (by kernel_rfl) an fun a w h => ?_
    refine wp_if h (b := (bif (bif (decide (((gD x2 (tZ v1228) (iO, (iO, ((⟨#[]⟩ : ByteArray), (iO, iO))))).2.2.2.1 : Int) < (1 : Int))) then true else (decide (((gD x2 (tZ v1228) (iO, (iO, ((⟨#[]⟩ : ByteArray), (iO, iO))))).2.2.2.1 : Int) > (8000 : Int)))) then true else (decide (((gD x2 (tZ v1228) (iO, (iO, ((⟨#[]⟩ : ByteArray), (iO, iO))))).2.1 : Int) < iO)))) (by kernel_rfl) (fun hb => ?_) (fun hb => ?_)
    · replace hF := of_t hb hF
      refine wp_reg_seq tok (orc := o0) (l := [6, 7, 8]) nw h (by kernel_rfl) an fun a w h => ?_
      cases hF
      exact wp_ret (ret_okR tok h rfl (by kernel_rfl)).1
    · replace hF := of_f hb hF
      refine wp_skip ?_
      refine wp_reg_seq tok (orc := o0) (l := [0, 1, 8, 9, 10, 11, 17, 18, 19]) nw h (by kernel_rfl) an fun a w h => ?_
      refine wp_seq ?_
      refine wp_reg_seq tok (orc := o0) (l := [0, 1, 8, 10, 11, 17, 18, 19, 39]) nw h (by kernel_rfl) an fun a w h => ?_
      refine wp_midT (fun a w => ∃ v : (List Int), f97.j1394 k x2 v1228 v1227 x0 ((f97.l736 k x2 x1 x0) m736) v = some r ∧ Rel w0 (fun _ => False) Zi Try.f97.ntmps ((fun (v1393 : (List Int)) => ([(0, .val sh31 (some x0)), (1, .val (.int .i64) x1), (8, .val (.sl true 2 (.int .i64)) v1227), (10, .val sh19 (some (gD x2 (tZ v1228) (iO, (iO, ((⟨#[]⟩ : ByteArray), (iO, iO))))))), (11, .val (.sl false 2 (.int .i64)) v1393), (17, .val sh20 x2), (18, .val (.int .i64) (List.length x2 : Int)), (19, .val (.int .i64) v1228)] : SS)) v) a w) ?_ ?_
      ·
        refine wp_if h (b := ((v1228 : Int) == iO)) (by kernel_rfl) (fun hb => ?_) (fun hb => ?_)
        · replace hF := of_t hb hF
          refine wp_reg_seq tok (orc := o0) (l := [0, 1, 8, 10, 11, 17, 18, 19, 42]) nw h (by kernel_rfl) an fun a w h => ?_
          refine wp_if h (b := (((gD x2 (tZ v1228) (iO, (iO, ((⟨#[]⟩ : ByteArray), (iO, iO))))).1 : Int) == (9 : Int))) (by kernel_rfl) (fun hb => ?_) (fun hb => ?_)
          · replace hF := of_t hb hF
            obtain ⟨hc1427, hF⟩ := of_if hF
            refine wp_reg tok (orc := o0) (l := [0, 1, 8, 10, 11, 17, 18, 19]) nw h (by kernel_rfl) (ac hc1427 an) fun a w h => ?_
            exact ⟨(gD x0.2.1 (tZ x1) lO), hF, h.arrive (l := [0, 1, 8, 10, 11, 17, 18, 19]) nw (by kernel_rfl)⟩
          · replace hF := of_f hb hF
            refine wp_skip ?_
            exact ⟨lO, hF, h.arrive (fz := [11]) (l := [0, 1, 8, 10, 11, 17, 18, 19]) (.inr fun i h => h) (by kernel_rfl)⟩
        · replace hF := of_f hb hF
          obtain ⟨hc1469, hF⟩ := of_if hF
          refine wp_reg_seq tok (orc := o0) (l := [0, 1, 8, 10, 11, 12, 17, 18, 19]) nw h (by kernel_rfl) (ac hc1469 an) fun a w h => ?_
          obtain ⟨r1428, hr1468, hF⟩ := of_bind hF
          refine wp_reg_seq tok (orc := orcL [(58, [⟨(.sl true 2 (.int .i64)), r1428⟩])]) (l := [0, 1, 8, 10, 11, 12, 17, 18, 19, 58, 59, 60]) nw h (by kernel_rfl) (ac (c173 k x0 (gD v1227 (tZ (w64 ((List.length v1227 : Int) - (1 : Int)))) iO) r1428 hr1468) an) fun a w h => ?_
          refine wp_block ?_
          refine wp_loop_fuel (f97.l1429 k r1428 x0 v1227 x2 v1228 (f97.j1394 k x2 v1228 v1227 x0 ((f97.l736 k x2 x1 x0) m736))) (fun ((v1456, v1457) : ((List Int) × Int)) => [(0, .val sh31 (some x0)), (1, .val (.int .i64) x1), (8, .val (.sl true 2 (.int .i64)) v1227), (10, .val sh19 (some (gD x2 (tZ v1228) (iO, (iO, ((⟨#[]⟩ : ByteArray), (iO, iO))))))), (11, .val (.sl true 2 (.int .i64)) v1456), (12, .val (.int .i64) (gD v1227 (tZ (w64 ((List.length v1227 : Int) - (1 : Int)))) iO)), (17, .val sh20 x2), (18, .val (.int .i64) (List.length x2 : Int)), (19, .val (.int .i64) v1228), (58, .val (.sl true 2 (.int .i64)) r1428), (59, .val (.int .i64) (List.length r1428 : Int)), (60, .val (.int .i64) v1457)]) (fun v h => by obtain ⟨v1456, v1457⟩ := v; rw [f97.l1429] at h; cases h) ?_ hF (h.arrive (l := [0, 1, 8, 10, 11, 12, 17, 18, 19, 58, 59, 60]) nw (by kernel_rfl))
          intro m1429 v a w hF h
          obtain ⟨v1456, v1457⟩ := v
          rw [f97.l1429] at hF
          refine wp_reg_seq tok (orc := o0) (l := [0, 1, 8, 10, 11, 12, 17, 18, 19, 58, 59, 60, 61]) nw h (by kernel_rfl) an fun a w h => ?_
          refine wp_seq <| wp_if h (b := (decide ((v1457 : Int) < (List.length r1428 : Int)))) (by kernel_rfl) (fun hb => ?_) (fun hb => ?_)
          · replace hF := of_t hb hF
            refine wp_skip ?_
            refine wp_mid (fun a w => ∃ v : (List Int), f97.j1463 k v1457 ((f97.l1429 k r1428 x0 v1227 x2 v1228 (f97.j1394 k x2 v1228 v1227 x0 ((f97.l736 k x2 x1 x0) m736))) m1429) v = some r ∧ Rel w0 (fun _ => False) Zi Try.f97.ntmps ((fun (v1462 : (List Int)) => ([(0, .val sh31 (some x0)), (1, .val (.int .i64) x1), (8, .val (.sl true 2 (.int .i64)) v1227), (10, .val sh19 (some (gD x2 (tZ v1228) (iO, (iO, ((⟨#[]⟩ : ByteArray), (iO, iO))))))), (11, .val (.sl true 2 (.int .i64)) v1462), (12, .val (.int .i64) (gD v1227 (tZ (w64 ((List.length v1227 : Int) - (1 : Int)))) iO)), (17, .val sh20 x2), (18, .val (.int .i64) (List.length x2 : Int)), (19, .val (.int .i64) v1228), (58, .val (.sl true 2 (.int .i64)) r1428), (59, .val (.int .i64) (List.length r1428 : Int)), (60, .val (.int .i64) v1457)] : SS)) v) a w) ?_ ?_
            ·
              refine wp_block ?_
              obtain ⟨hc1467, hF⟩ := of_if hF
              refine wp_reg_seq tok (orc := o0) (l := [0, 1, 8, 10, 11, 12, 14, 17, 18, 19, 58, 59, 60]) nw h (by kernel_rfl) (ac hc1467 an) fun a w h => ?_
              obtain ⟨r1464, hr1466, hF⟩ := of_bind hF
              refine wp_regy_seq tok (orc := orcL [(67, [⟨(.int .i64), r1464⟩])]) (l := [0, 1, 8, 10, 11, 12, 14, 17, 18, 19, 58, 59, 60, 70]) ([], [], [], []) 7 nw h (by kernel_rfl) (by kernel_rfl) (ac (c172 k x0 (gD v1227 (tZ (w64 ((List.length v1227 : Int) - (1 : Int)))) iO) (gD r1428 (tZ v1457) iO) r1464 hr1466) an) fun a w h => ?_
              refine wp_if h (b := ((r1464 : Int) == (gD x2 (tZ v1228) (iO, (iO, ((⟨#[]⟩ : ByteArray), (iO, iO))))).1)) (by kernel_rfl) (fun hb => ?_) (fun hb => ?_)
              · replace hF := of_t hb hF
                obtain ⟨hc1465, hF⟩ := of_if hF
                refine wp_reg tok (orc := o0) (l := [0, 1, 8, 10, 11, 12, 17, 18, 19, 58, 59, 60]) nw h (by kernel_rfl) (ac hc1465 an) fun a w h => ?_
                exact ⟨(v1456 ++ [(gD r1428 (tZ v1457) iO)]), hF, h.arrive (l := [0, 1, 8, 10, 11, 12, 17, 18, 19, 58, 59, 60]) nw (by kernel_rfl)⟩
              · replace hF := of_f hb hF
                refine wp_skip ?_
                exact ⟨v1456, hF, h.arrive (l := [0, 1, 8, 10, 11, 12, 17, 18, 19, 58, 59, 60]) nw (by kernel_rfl)⟩
            · rintro a w ⟨v1462, hF, h⟩
              rw [f97.j1463] at hF
              refine wp_reg tok (orc := o0) (l := [0, 1, 8, 10, 11, 12, 17, 18, 19, 58, 59, 60]) nw h (by kernel_rfl) an fun a w h => ?_
              exact ⟨(v1462, (w64 (v1457 + (1 : Int)))), hF, h.arrive (l := [0, 1, 8, 10, 11, 12, 17, 18, 19, 58, 59, 60]) nw (by kernel_rfl)⟩
          · replace hF := of_f hb hF
            refine wp_exit ?_
            exact ⟨v1456, hF, h.arrive (fz := [11]) (l := [0, 1, 8, 10, 11, 17, 18, 19]) (.inr fun i h => h) (by kernel_rfl)⟩
      · rintro a w ⟨v1393, hF, h⟩
        rw [f97.j1394] at hF
        refine wp_seq ?_
        refine wp_reg_seq tok (orc := o0) (l := [0, 1, 8, 10, 11, 17, 18, 19, 80]) nw h (by kernel_rfl) an fun a w h => ?_
        refine wp_if h (b := (decide (((gD x2 (tZ v1228) (iO, (iO, ((⟨#[]⟩ : ByteArray), (iO, iO))))).2.1 : Int) ≥ (List.length v1393 : Int)))) (by kernel_rfl) (fun hb => ?_) (fun hb => ?_)
        · replace hF := of_t hb hF
          refine wp_reg_seq tok (orc := o0) (l := [6, 7, 8]) nw h (by kernel_rfl) an fun a w h => ?_
          cases hF
          exact wp_ret (ret_okR tok h rfl (by kernel_rfl)).1
        · replace hF := of_f hb hF
          refine wp_skip ?_
          obtain ⟨hc1426, hF⟩ := of_if hF
          refine wp_reg_seq tok (orc := o0) (l := [0, 1, 8, 10, 15, 17, 18, 19]) nw h (by kernel_rfl) (ac hc1426 an) fun a w h => ?_
          refine wp_reg_seq tok (orc := o0) (l := [0, 1, 8, 10, 15, 16, 17, 18, 19]) nw h (by kernel_rfl) an fun a w h => ?_
          refine wp_block ?_
          refine wp_loop_fuel (f97.l1395 k x2 v1228 x0 ((f97.l736 k x2 x1 x0) m736)) (fun ((v1417, v1418, v1419) : ((List Int) × Int × Int)) => [(0, .val sh31 (some x0)), (1, .val (.int .i64) x1), (8, .val (.sl true 2 (.int .i64)) v1417), (10, .val sh19 (some (gD x2 (tZ v1228) (iO, (iO, ((⟨#[]⟩ : ByteArray), (iO, iO))))))), (15, .val (.int .i64) v1418), (16, .val (.int .i64) v1419), (17, .val sh20 x2), (18, .val (.int .i64) (List.length x2 : Int)), (19, .val (.int .i64) v1228)]) (fun v h => by obtain ⟨v1417, v1418, v1419⟩ := v; rw [f97.l1395] at h; cases h) ?_ hF (h.arrive (l := [0, 1, 8, 10, 15, 16, 17, 18, 19]) nw (by kernel_rfl))
          intro m1395 v a w hF h
          obtain ⟨v1417, v1418, v1419⟩ := v
          rw [f97.l1395] at hF
          refine wp_seq <| wp_block ?_
          refine wp_seq ?_
          refine wp_reg_seq tok (orc := o0) (l := [0, 1, 8, 10, 15, 16, 17, 18, 19, 95]) nw h (by kernel_rfl) an fun a w h => ?_
          refine wp_if h (b := (bif (decide ((v1418 : Int) < iO)) then true else (((List.length v1417 : Int) : Int) == (8000 : Int)))) (by kernel_rfl) (fun hb => ?_) (fun hb => ?_)
          · replace hF := of_t hb hF
            refine wp_reg_seq tok (orc := o0) (l := [6, 7, 8]) nw h (by kernel_rfl) an fun a w h => ?_
            cases hF
            exact wp_ret (ret_okR tok h rfl (by kernel_rfl)).1
          · replace hF := of_f hb hF
            refine wp_skip ?_
            obtain ⟨hc1425, hF⟩ := of_if hF
            refine wp_reg_seq tok (orc := o0) (l := [0, 1, 8, 10, 15, 16, 17, 18, 19]) nw h (by kernel_rfl) (ac hc1425 an) fun a w h => ?_
            refine wp_seq ?_
            refine wp_reg_seq tok (orc := o0) (l := [0, 1, 8, 10, 15, 16, 17, 18, 19, 104]) nw h (by kernel_rfl) an fun a w h => ?_
            refine wp_if h (b := ((v1419 : Int) == (gD x2 (tZ v1228) (iO, (iO, ((⟨#[]⟩ : ByteArray), (iO, iO))))).2.2.2.1)) (by kernel_rfl) (fun hb => ?_) (fun hb => ?_)
            · replace hF := of_t hb hF
              refine wp_exit ?_
              refine wp_reg tok (orc := o0) (l := [0, 1, 8, 17, 18, 19]) nw h (by kernel_rfl) an fun a w h => ?_
              exact ⟨((v1417 ++ [v1418]), (w64 (v1228 + (1 : Int)))), hF, h.arrive (l := [0, 1, 8, 17, 18, 19]) nw (by kernel_rfl)⟩
            · replace hF := of_f hb hF
              refine wp_skip ?_
              obtain ⟨r1423, hr1424, hF⟩ := of_bind hF
              refine wp_reg tok (orc := orcL [(107, [⟨(.int .i64), r1423⟩])]) (l := [0, 1, 8, 10, 15, 16, 17, 18, 19]) nw h (by kernel_rfl) (ac (c171 k x0 v1418 r1423 hr1424) an) fun a w h => ?_
              refine wp_reg tok (orc := o0) (l := [0, 1, 8, 10, 15, 16, 17, 18, 19]) nw h (by kernel_rfl) an fun a w h => ?_
              exact ⟨((v1417 ++ [v1418]), r1423, (w64 (v1419 + (1 : Int)))), hF, h.arrive (l := [0, 1, 8, 10, 15, 16, 17, 18, 19]) nw (by kernel_rfl)⟩
  · replace hF := of_f hb hF
    refine wp_exit ?_
    refine wp_reg_seq tok (orc := o0) (l := [6, 7, 8]) nw h (by kernel_rfl) an fun a w h => ?_
    cases hF
    exact wp_ret (ret_okR tok h rfl (by kernel_rfl)).1

def f252 (k : Nat) (x0 : (Int × (Int × Int))) (x1 : (Int × (Int × Int))) : Option Bool := if ((x0.1 : Int) != x1.1) then (some (decide ((x0.1 : Int) < x1.1))) else (if ((x0.2.1 : Int) != x1.2.1) then (some (decide ((x0.2.1 : Int) < x1.2.1))) else (some (decide ((x0.2.2 : Int) < x1.2.2))))
theorem c252 (k : Nat) (x0 : (Int × (Int × Int))) (x1 : (Int × (Int × Int))) (r : Bool) (hF : f252 k x0 x1 = some r) : PCall Try.prog 252 [⟨sh32, x0⟩, ⟨sh32, x1⟩] [⟨.bool, r⟩] := by
  refine pcall_intro Try.func252 rfl rfl (Nat.le_of_ble_eq_true rfl) ?_
  intro w0 Zi a w h
  rw [f252] at hF
  refine wp_reg_seq tok (orc := o0) (l := [2, 3]) nw h (by kernel_rfl) an fun a w h => ?_
  refine wp_seq ?_
  refine wp_reg_seq tok (orc := o0) (l := [2, 3, 9]) nw h (by kernel_rfl) an fun a w h => ?_
  refine wp_if h (b := ((x0.1 : Int) != x1.1)) (by kernel_rfl) (fun hb => ?_) (fun hb => ?_)
  · replace hF := of_t hb hF
    refine wp_reg_seq tok (orc := o0) (l := [4]) nw h (by kernel_rfl) an fun a w h => ?_
    cases hF
    exact wp_ret (ret_okR tok h rfl (by kernel_rfl)).1
  · replace hF := of_f hb hF
    refine wp_skip ?_
    refine wp_seq ?_
    refine wp_reg_seq tok (orc := o0) (l := [2, 3, 19]) nw h (by kernel_rfl) an fun a w h => ?_
    refine wp_if h (b := ((x0.2.1 : Int) != x1.2.1)) (by kernel_rfl) (fun hb => ?_) (fun hb => ?_)
    · replace hF := of_t hb hF
      refine wp_reg_seq tok (orc := o0) (l := [4]) nw h (by kernel_rfl) an fun a w h => ?_
      cases hF
      exact wp_ret (ret_okR tok h rfl (by kernel_rfl)).1
    · replace hF := of_f hb hF
      refine wp_skip ?_
      refine wp_reg_seq tok (orc := o0) (l := [4]) nw h (by kernel_rfl) an fun a w h => ?_
      cases hF
      exact wp_ret (ret_okR tok h rfl (by kernel_rfl)).1

def f224.l1 (k : Nat) (x0 : ((List (Int × (Int × Int))) × Unit)) : Nat → ((List (Int × (Int × Int))) × Int) → Option ((List (Int × (Int × Int))) × Unit)
  | 0, _ => none
  | m1 + 1, (v34, v35) => if (((decide ((v35 : Int) > (0 : Int))) = true) → (0 ≤ v35 ∧ v35 < (List.length v34 : Int))) then (if (((decide ((v35 : Int) > (0 : Int))) = true) → (((2 : Int) : Int) ≠ 0)) then (if (((decide ((v35 : Int) > (0 : Int))) = true) → (0 ≤ (IntKind.i64.wrap (Int.tdiv (IntKind.i64.wrap (v35 - (1 : Int))) (2 : Int))) ∧ (IntKind.i64.wrap (Int.tdiv (IntKind.i64.wrap (v35 - (1 : Int))) (2 : Int))) < (List.length v34 : Int))) then ((if ((decide ((v35 : Int) > (0 : Int))) = true) then f252 k (List.getD v34 (Int.toNat v35) ((0 : Int), ((0 : Int), (0 : Int)))) (List.getD v34 (Int.toNat (IntKind.i64.wrap (Int.tdiv (IntKind.i64.wrap (v35 - (1 : Int))) (2 : Int)))) ((0 : Int), ((0 : Int), (0 : Int)))) else some default).bind fun r36 => (if (bif (decide ((v35 : Int) > (0 : Int))) then r36 else false) then (if (((2 : Int) : Int) ≠ 0) then (if (((2 : Int) : Int) ≠ 0) then (if (0 ≤ (IntKind.i64.wrap (Int.tdiv (IntKind.i64.wrap (v35 - (1 : Int))) (2 : Int))) ∧ (IntKind.i64.wrap (Int.tdiv (IntKind.i64.wrap (v35 - (1 : Int))) (2 : Int))) < (List.length v34 : Int)) then (if (0 ≤ v35 ∧ v35 < (List.length v34 : Int)) then (if (0 ≤ v35 ∧ v35 < (List.length v34 : Int)) then (if (0 ≤ (IntKind.i64.wrap (Int.tdiv (IntKind.i64.wrap (v35 - (1 : Int))) (2 : Int))) ∧ (IntKind.i64.wrap (Int.tdiv (IntKind.i64.wrap (v35 - (1 : Int))) (2 : Int))) < (List.length (List.set v34 (Int.toNat v35) (List.getD v34 (Int.toNat (IntKind.i64.wrap (Int.tdiv (IntKind.i64.wrap (v35 - (1 : Int))) (2 : Int)))) ((0 : Int), ((0 : Int), (0 : Int))))) : Int)) then (if (((2 : Int) : Int) ≠ 0) then ((f224.l1 k x0) m1 ((List.set (List.set v34 (Int.toNat v35) (List.getD v34 (Int.toNat (IntKind.i64.wrap (Int.tdiv (IntKind.i64.wrap (v35 - (1 : Int))) (2 : Int)))) ((0 : Int), ((0 : Int), (0 : Int))))) (Int.toNat (IntKind.i64.wrap (Int.tdiv (IntKind.i64.wrap (v35 - (1 : Int))) (2 : Int)))) (List.getD v34 (Int.toNat v35) ((0 : Int), ((0 : Int), (0 : Int))))), (IntKind.i64.wrap (Int.tdiv (IntKind.i64.wrap (v35 - (1 : Int))) (2 : Int))))) else none) else none) else none) else none) else none) else none) else none) else (some (v34, x0.2)))) else none) else none) else none
def f224 (k : Nat) (x0 : ((List (Int × (Int × Int))) × Unit)) (x1 : (Int × (Int × Int))) : Option ((List (Int × (Int × Int))) × Unit) := if ((List.length x0.1 + List.length [x1]) * 24 ≤ 140737488355328) then (f224.l1 k x0 k ((List.append x0.1 [x1]), (IntKind.i64.wrap ((List.length (List.append x0.1 [x1]) : Int) - (1 : Int))))) else none
theorem c224 (k : Nat) (x0 : ((List (Int × (Int × Int))) × Unit)) (x1 : (Int × (Int × Int))) (r : ((List (Int × (Int × Int))) × Unit)) (hF : f224 k x0 x1 = some r) : PMut Try.prog 224 [⟨sh33, some x0⟩, ⟨sh32, x1⟩] [] (List.set [⟨sh33, some x0⟩, ⟨sh32, x1⟩] 0 ⟨sh33, some r⟩) := by
  refine pmut_intro (j := 0) (fin := ⟨sh33, some r⟩) Try.func224 rfl rfl (Nat.le_of_ble_eq_true rfl) (Nat.le_of_ble_eq_true rfl) (by kernel_rfl) ?_
  intro w0 Zi f0 v0 a w h
  rw [f224] at hF
  refine wp_reg_seq tok (orc := o0) (fz := []) (l := [0, 3]) (.inl rfl) h (by kernel_rfl) an fun a w h => ?_
  obtain ⟨hc48, hF⟩ := of_if hF
  refine wp_regy_seq tok (orc := orcL [(12, [⟨.pt false 4294967293 .unit, some ()⟩])]) (fz := []) (l := [0]) ([], [], [], []) 10 (.inl rfl) h (by kernel_rfl) (by kernel_rfl) (ac (PrefL.mk (l := [[], [], [], [.der, .fst], [.der, .fst]]) (p := [.der, .fst]) rfl) (ac hc48 (ac (show ([.der, .fst] : Path) = [.der, .fst] from rfl) an))) fun a w h => ?_
  refine wp_reg_seq tok (orc := o0) (fz := []) (l := [0, 4]) (.inl rfl) h (by kernel_rfl) an fun a w h => ?_
  refine wp_block ?_
  refine wp_loop_fuel (f224.l1 k x0) (fun ((v34, v35) : ((List (Int × (Int × Int))) × Int)) => [(0, .val sh33 (some (v34, x0.2))), (4, .val (.int .i64) v35)]) (fun v h => by obtain ⟨v34, v35⟩ := v; rw [f224.l1] at h; cases h) ?_ hF (h.arrive (fz := []) (l := [0, 4]) (.inl rfl) (by kernel_rfl))
  intro m1 v a w hF h
  obtain ⟨v34, v35⟩ := v
  rw [f224.l1] at hF
  refine wp_seq ?_
  obtain ⟨hc44, hF⟩ := of_if hF
  obtain ⟨hc45, hF⟩ := of_if hF
  obtain ⟨hc46, hF⟩ := of_if hF
  obtain ⟨r36, hr47, hF⟩ := of_bind hF
  refine wp_regy_seq tok (orc := orcL [(40, [⟨.bool, r36⟩])]) (fz := []) (l := [0, 4, 41]) ([], [], [], []) 21 (.inl rfl) h (by kernel_rfl) (by kernel_rfl) (ac hc44 (ac hc45 (ac hc46 (ac (fun (hg : ((decide ((v35 : Int) > iO)) = true)) => c252 k (gD v34 (tZ v35) (iO, (iO, iO))) (gD v34 (tZ (w64 (Int.tdiv (w64 (v35 - (1 : Int))) (2 : Int)))) (iO, (iO, iO))) r36 (of_g hg hr47)) an)))) fun a w h => ?_
  refine wp_if h (b := (bif (decide ((v35 : Int) > iO)) then r36 else false)) (by kernel_rfl) (fun hb => ?_) (fun hb => ?_)
  · replace hF := of_t hb hF
    refine wp_skip ?_
    refine wp_block ?_
    obtain ⟨hc38, hF⟩ := of_if hF
    obtain ⟨hc39, hF⟩ := of_if hF
    obtain ⟨hc40, hF⟩ := of_if hF
    obtain ⟨hc41, hF⟩ := of_if hF
    obtain ⟨hc42, hF⟩ := of_if hF
    obtain ⟨hc43, hF⟩ := of_if hF
    refine wp_regy_seq tok (orc := orcL [(70, [⟨.pt false 4294967289 .unit, some ()⟩])]) (fz := []) (l := [0, 4]) ([(29, 0)], [], [(29, [42, 43, 45, 47, 48, 50, 54, 55, 57, 63, 64, 66])], [(9, [4]), (10, [51]), (11, [52])]) 30 (.inl rfl) h (by kernel_rfl) (by kernel_rfl) (ac hc38 (ac hc39 (ac hc40 (ac hc41 (ac hc42 (ac hc43 an)))))) fun a w h => ?_
    obtain ⟨hc37, hF⟩ := of_if hF
    refine wp_reg tok (orc := o0) (fz := []) (l := [0, 4]) (.inl rfl) h (by kernel_rfl) (ac hc37 an) fun a w h => ?_
    exact ⟨((List.set (List.set v34 (tZ v35) (gD v34 (tZ (w64 (Int.tdiv (w64 (v35 - (1 : Int))) (2 : Int)))) (iO, (iO, iO)))) (tZ (w64 (Int.tdiv (w64 (v35 - (1 : Int))) (2 : Int)))) (gD v34 (tZ v35) (iO, (iO, iO)))), (w64 (Int.tdiv (w64 (v35 - (1 : Int))) (2 : Int)))), hF, h.arrive (fz := []) (l := [0, 4]) (.inl rfl) (by kernel_rfl)⟩
  · replace hF := of_f hb hF
    refine wp_exit ?_
    cases hF
    exact (retM_ok tok h rfl (by kernel_rfl) (by kernel_rfl)).2

def f225.j55 (k : Nat) (x0 : ((List (Int × (Int × Int))) × Unit)) : (List (Int × (Int × Int))) → Option ((Int × (Int × Int)) × ((List (Int × (Int × Int))) × Unit))
  | v54 => some ((List.getD x0.1 (Int.toNat (0 : Int)) ((0 : Int), ((0 : Int), (0 : Int)))), (v54, x0.2))
def f225.j97 (k : Nat) (v93 : (List (Int × (Int × Int)))) (v94 : Int) (q55 : (List (Int × (Int × Int))) → Option ((Int × (Int × Int)) × ((List (Int × (Int × Int))) × Unit))) (q56 : ((List (Int × (Int × Int))) × Int) → Option ((Int × (Int × Int)) × ((List (Int × (Int × Int))) × Unit))) : Int → Option ((Int × (Int × Int)) × ((List (Int × (Int × Int))) × Unit))
  | v96 => if (0 ≤ v96 ∧ v96 < (List.length v93 : Int)) then (if (0 ≤ v94 ∧ v94 < (List.length v93 : Int)) then ((f252 k (List.getD v93 (Int.toNat v96) ((0 : Int), ((0 : Int), (0 : Int)))) (List.getD v93 (Int.toNat v94) ((0 : Int), ((0 : Int), (0 : Int))))).bind fun r98 => (if (!r98) then (q55 v93) else (if (0 ≤ v96 ∧ v96 < (List.length v93 : Int)) then (if (0 ≤ v94 ∧ v94 < (List.length v93 : Int)) then (if (0 ≤ v94 ∧ v94 < (List.length v93 : Int)) then (if (0 ≤ v96 ∧ v96 < (List.length (List.set v93 (Int.toNat v94) (List.getD v93 (Int.toNat v96) ((0 : Int), ((0 : Int), (0 : Int))))) : Int)) then (q56 ((List.set (List.set v93 (Int.toNat v94) (List.getD v93 (Int.toNat v96) ((0 : Int), ((0 : Int), (0 : Int))))) (Int.toNat v96) (List.getD v93 (Int.toNat v94) ((0 : Int), ((0 : Int), (0 : Int))))), v96)) else none) else none) else none) else none))) else none) else none
def f225.l56 (k : Nat) (x0 : ((List (Int × (Int × Int))) × Unit)) (q55 : (List (Int × (Int × Int))) → Option ((Int × (Int × Int)) × ((List (Int × (Int × Int))) × Unit))) : Nat → ((List (Int × (Int × Int))) × Int) → Option ((Int × (Int × Int)) × ((List (Int × (Int × Int))) × Unit))
  | 0, _ => none
  | m56 + 1, (v93, v94) => if (decide (((IntKind.i64.wrap ((IntKind.i64.wrap ((2 : Int) * v94)) + (1 : Int))) : Int) ≥ (IntKind.i64.wrap ((List.length x0.1 : Int) - (1 : Int))))) then (q55 v93) else (if (((decide (((IntKind.i64.wrap ((IntKind.i64.wrap ((IntKind.i64.wrap ((2 : Int) * v94)) + (1 : Int))) + (1 : Int))) : Int) < (IntKind.i64.wrap ((List.length x0.1 : Int) - (1 : Int))))) = true) → (0 ≤ (IntKind.i64.wrap ((IntKind.i64.wrap ((IntKind.i64.wrap ((2 : Int) * v94)) + (1 : Int))) + (1 : Int))) ∧ (IntKind.i64.wrap ((IntKind.i64.wrap ((IntKind.i64.wrap ((2 : Int) * v94)) + (1 : Int))) + (1 : Int))) < (List.length v93 : Int))) then (if (((decide (((IntKind.i64.wrap ((IntKind.i64.wrap ((IntKind.i64.wrap ((2 : Int) * v94)) + (1 : Int))) + (1 : Int))) : Int) < (IntKind.i64.wrap ((List.length x0.1 : Int) - (1 : Int))))) = true) → (0 ≤ (IntKind.i64.wrap ((IntKind.i64.wrap ((2 : Int) * v94)) + (1 : Int))) ∧ (IntKind.i64.wrap ((IntKind.i64.wrap ((2 : Int) * v94)) + (1 : Int))) < (List.length v93 : Int))) then ((if ((decide (((IntKind.i64.wrap ((IntKind.i64.wrap ((IntKind.i64.wrap ((2 : Int) * v94)) + (1 : Int))) + (1 : Int))) : Int) < (IntKind.i64.wrap ((List.length x0.1 : Int) - (1 : Int))))) = true) then f252 k (List.getD v93 (Int.toNat (IntKind.i64.wrap ((IntKind.i64.wrap ((IntKind.i64.wrap ((2 : Int) * v94)) + (1 : Int))) + (1 : Int)))) ((0 : Int), ((0 : Int), (0 : Int)))) (List.getD v93 (Int.toNat (IntKind.i64.wrap ((IntKind.i64.wrap ((2 : Int) * v94)) + (1 : Int)))) ((0 : Int), ((0 : Int), (0 : Int)))) else some default).bind fun r95 => (if (bif (decide (((IntKind.i64.wrap ((IntKind.i64.wrap ((IntKind.i64.wrap ((2 : Int) * v94)) + (1 : Int))) + (1 : Int))) : Int) < (IntKind.i64.wrap ((List.length x0.1 : Int) - (1 : Int))))) then r95 else false) then (f225.j97 k v93 v94 (q55) ((f225.l56 k x0 q55) m56) (IntKind.i64.wrap ((IntKind.i64.wrap ((IntKind.i64.wrap ((2 : Int) * v94)) + (1 : Int))) + (1 : Int)))) else (f225.j97 k v93 v94 (q55) ((f225.l56 k x0 q55) m56) (IntKind.i64.wrap ((IntKind.i64.wrap ((2 : Int) * v94)) + (1 : Int)))))) else none) else none)
def f225 (k : Nat) (x0 : ((List (Int × (Int × Int))) × Unit)) : Option ((Int × (Int × Int)) × ((List (Int × (Int × Int))) × Unit)) := if (0 ≤ (0 : Int) ∧ (0 : Int) < (List.length x0.1 : Int)) then (if (0 ≤ (IntKind.i64.wrap ((List.length x0.1 : Int) - (1 : Int))) ∧ (IntKind.i64.wrap ((List.length x0.1 : Int) - (1 : Int))) < (List.length x0.1 : Int)) then (if (0 ≤ (0 : Int) ∧ (0 : Int) < (List.length x0.1 : Int)) then (if ((0 : Int) ≤ (IntKind.i64.wrap ((List.length x0.1 : Int) - (1 : Int))) ∧ ((IntKind.i64.wrap ((List.length x0.1 : Int) - (1 : Int))) : Int) ≤ (List.length (List.set x0.1 (Int.toNat (0 : Int)) (List.getD x0.1 (Int.toNat (IntKind.i64.wrap ((List.length x0.1 : Int) - (1 : Int)))) ((0 : Int), ((0 : Int), (0 : Int))))) : Int)) then (f225.l56 k x0 (f225.j55 k x0) k ((List.take (Int.toNat (IntKind.i64.wrap ((List.length x0.1 : Int) - (1 : Int)))) (List.set x0.1 (Int.toNat (0 : Int)) (List.getD x0.1 (Int.toNat (IntKind.i64.wrap ((List.length x0.1 : Int) - (1 : Int)))) ((0 : Int), ((0 : Int), (0 : Int)))))), (0 : Int))) else none) else none) else none) else none
theorem c225 (k : Nat) (x0 : ((List (Int × (Int × Int))) × Unit)) (r : ((Int × (Int × Int)) × ((List (Int × (Int × Int))) × Unit))) (hF : f225 k x0 = some r) : PMut Try.prog 225 [⟨sh33, some x0⟩] [⟨sh32, r.1⟩] (List.set [⟨sh33, some x0⟩] 0 ⟨sh33, some r.2⟩) := by
  refine pmut_intro (j := 0) (fin := ⟨sh33, some r.2⟩) Try.func225 rfl rfl (Nat.le_of_ble_eq_true rfl) (Nat.le_of_ble_eq_true rfl) (by kernel_rfl) ?_
  intro w0 Zi f0 v0 a w h
  rw [f225] at hF
  refine wp_reg_seq tok (orc := o0) (fz := []) (l := [0, 2]) (.inl rfl) h (by kernel_rfl) an fun a w h => ?_
  obtain ⟨hc112, hF⟩ := of_if hF
  refine wp_reg_seq tok (orc := o0) (fz := []) (l := [0, 2, 3]) (.inl rfl) h (by kernel_rfl) (ac hc112 an) fun a w h => ?_
  refine wp_reg_seq tok (orc := o0) (fz := []) (l := [0, 2, 3, 4]) (.inl rfl) h (by kernel_rfl) an fun a w h => ?_
  obtain ⟨hc110, hF⟩ := of_if hF
  obtain ⟨hc111, hF⟩ := of_if hF
  refine wp_regy_seq tok (orc := o0) (fz := []) (l := [0, 2, 3, 4]) ([], [], [], []) 12 (.inl rfl) h (by kernel_rfl) (by kernel_rfl) (ac hc110 (ac hc111 an)) fun a w h => ?_
  obtain ⟨hc109, hF⟩ := of_if hF
  refine wp_reg_seq tok (orc := orcL [(37, [⟨.pt false 4294967293 .unit, some ()⟩])]) (fz := []) (l := [0, 2, 3, 4]) (.inl rfl) h (by kernel_rfl) (ac hc109 (ac (show ([.der, .fst] : Path) = [.der, .fst] from rfl) an)) fun a w h => ?_
  refine wp_reg_seq tok (orc := o0) (fz := []) (l := [0, 2, 3, 4, 5]) (.inl rfl) h (by kernel_rfl) an fun a w h => ?_
  refine wp_mid (fun a w => ∃ v : (List (Int × (Int × Int))), f225.j55 k x0 v = some r ∧ Rel w0 f0 Zi ⟨Try.f225.ntmps, [0], fun _ => v0⟩ ((fun (v54 : (List (Int × (Int × Int)))) => ([(0, .val sh33 (some (v54, x0.2))), (2, .val sh34 (some (iO, (iO, iO)))), (3, .val sh34 (some (gD x0.1 (tZ iO) (iO, (iO, iO)))))] : SS)) v) a w) ?_ ?_
  ·
    refine wp_block ?_
    refine wp_loop_fuel (f225.l56 k x0 (f225.j55 k x0)) (fun ((v93, v94) : ((List (Int × (Int × Int))) × Int)) => [(0, .val sh33 (some (v93, x0.2))), (2, .val sh34 (some (iO, (iO, iO)))), (3, .val sh34 (some (gD x0.1 (tZ iO) (iO, (iO, iO))))), (4, .val (.int .i64) (w64 ((List.length x0.1 : Int) - (1 : Int)))), (5, .val (.int .i64) v94)]) (fun v h => by obtain ⟨v93, v94⟩ := v; rw [f225.l56] at h; cases h) ?_ hF (h.arrive (fz := []) (l := [0, 2, 3, 4, 5]) (.inl rfl) (by kernel_rfl))
    intro m56 v a w hF h
    obtain ⟨v93, v94⟩ := v
    rw [f225.l56] at hF
    refine wp_block ?_
    refine wp_reg_seq tok (orc := o0) (fz := []) (l := [0, 2, 3, 4, 5, 6]) (.inl rfl) h (by kernel_rfl) an fun a w h => ?_
    refine wp_seq ?_
    refine wp_reg_seq tok (orc := o0) (fz := []) (l := [0, 2, 3, 4, 5, 6, 45]) (.inl rfl) h (by kernel_rfl) an fun a w h => ?_
    refine wp_if h (b := (decide (((w64 ((w64 ((2 : Int) * v94)) + (1 : Int))) : Int) ≥ (w64 ((List.length x0.1 : Int) - (1 : Int)))))) (by kernel_rfl) (fun hb => ?_) (fun hb => ?_)
    · replace hF := of_t hb hF
      refine wp_exit ?_
      exact ⟨v93, hF, h.arrive (fz := []) (l := [0, 2, 3]) (.inl rfl) (by kernel_rfl)⟩
    · replace hF := of_f hb hF
      refine wp_skip ?_
      refine wp_seq ?_
      obtain ⟨hc106, hF⟩ := of_if hF
      obtain ⟨hc107, hF⟩ := of_if hF
      obtain ⟨r95, hr108, hF⟩ := of_bind hF
      refine wp_regy_seq tok (orc := orcL [(66, [⟨.bool, r95⟩])]) (fz := []) (l := [0, 2, 3, 4, 5, 6, 67]) ([], [], [], []) 22 (.inl rfl) h (by kernel_rfl) (by kernel_rfl) (ac hc106 (ac hc107 (ac (fun (hg : ((decide (((w64 ((w64 ((w64 ((2 : Int) * v94)) + (1 : Int))) + (1 : Int))) : Int) < (w64 ((List.length x0.1 : Int) - (1 : Int))))) = true)) => c252 k (gD v93 (tZ (w64 ((w64 ((w64 ((2 : Int) * v94)) + (1 : Int))) + (1 : Int)))) (iO, (iO, iO))) (gD v93 (tZ (w64 ((w64 ((2 : Int) * v94)) + (1 : Int)))) (iO, (iO, iO))) r95 (of_g hg hr108)) an))) fun a w h => ?_
      refine wp_midT (fun a w => ∃ v : Int, f225.j97 k v93 v94 (f225.j55 k x0) ((f225.l56 k x0 (f225.j55 k x0)) m56) v = some r ∧ Rel w0 f0 Zi ⟨Try.f225.ntmps, [0], fun _ => v0⟩ ((fun (v96 : Int) => ([(0, .val sh33 (some (v93, x0.2))), (2, .val sh34 (some (iO, (iO, iO)))), (3, .val sh34 (some (gD x0.1 (tZ iO) (iO, (iO, iO))))), (4, .val (.int .i64) (w64 ((List.length x0.1 : Int) - (1 : Int)))), (5, .val (.int .i64) v94), (6, .val (.int .i64) v96)] : SS)) v) a w) ?_ ?_
      ·
        refine wp_if h (b := (bif (decide (((w64 ((w64 ((w64 ((2 : Int) * v94)) + (1 : Int))) + (1 : Int))) : Int) < (w64 ((List.length x0.1 : Int) - (1 : Int))))) then r95 else false)) (by kernel_rfl) (fun hb => ?_) (fun hb => ?_)
        · replace hF := of_t hb hF
          refine wp_reg tok (orc := o0) (fz := []) (l := [0, 2, 3, 4, 5, 6]) (.inl rfl) h (by kernel_rfl) an fun a w h => ?_
          exact ⟨(w64 ((w64 ((w64 ((2 : Int) * v94)) + (1 : Int))) + (1 : Int))), hF, h.arrive (fz := []) (l := [0, 2, 3, 4, 5, 6]) (.inl rfl) (by kernel_rfl)⟩
        · replace hF := of_f hb hF
          refine wp_skip ?_
          exact ⟨(w64 ((w64 ((2 : Int) * v94)) + (1 : Int))), hF, h.arrive (fz := []) (l := [0, 2, 3, 4, 5, 6]) (.inl rfl) (by kernel_rfl)⟩
      · rintro a w ⟨v96, hF, h⟩
        rw [f225.j97] at hF
        refine wp_seq ?_
        obtain ⟨hc103, hF⟩ := of_if hF
        obtain ⟨hc104, hF⟩ := of_if hF
        obtain ⟨r98, hr105, hF⟩ := of_bind hF
        refine wp_regy_seq tok (orc := orcL [(84, [⟨.bool, r98⟩])]) (fz := []) (l := [0, 2, 3, 4, 5, 6, 85]) ([], [], [], []) 16 (.inl rfl) h (by kernel_rfl) (by kernel_rfl) (ac hc103 (ac hc104 (ac (c252 k (gD v93 (tZ v96) (iO, (iO, iO))) (gD v93 (tZ v94) (iO, (iO, iO))) r98 hr105) an))) fun a w h => ?_
        refine wp_if h (b := (!r98)) (by kernel_rfl) (fun hb => ?_) (fun hb => ?_)
        · replace hF := of_t hb hF
          refine wp_exit ?_
          exact ⟨v93, hF, h.arrive (fz := []) (l := [0, 2, 3]) (.inl rfl) (by kernel_rfl)⟩
        · replace hF := of_f hb hF
          refine wp_skip ?_
          obtain ⟨hc99, hF⟩ := of_if hF
          obtain ⟨hc100, hF⟩ := of_if hF
          obtain ⟨hc101, hF⟩ := of_if hF
          obtain ⟨hc102, hF⟩ := of_if hF
          refine wp_regy_seq tok (orc := orcL [(110, [⟨.pt false 4294967289 .unit, some ()⟩])]) (fz := []) (l := [0, 2, 3, 4, 6]) ([(25, 0)], [], [(25, [86, 87, 89, 91, 92, 94, 96, 97, 99, 103, 104, 106])], [(9, [6])]) 26 (.inl rfl) h (by kernel_rfl) (by kernel_rfl) (ac hc99 (ac hc100 (ac hc101 (ac hc102 an)))) fun a w h => ?_
          refine wp_reg tok (orc := o0) (fz := []) (l := [0, 2, 3, 4, 5]) (.inl rfl) h (by kernel_rfl) an fun a w h => ?_
          exact ⟨((List.set (List.set v93 (tZ v94) (gD v93 (tZ v96) (iO, (iO, iO)))) (tZ v96) (gD v93 (tZ v94) (iO, (iO, iO)))), v96), hF, h.arrive (fz := []) (l := [0, 2, 3, 4, 5]) (.inl rfl) (by kernel_rfl)⟩
  · rintro a w ⟨v54, hF, h⟩
    rw [f225.j55] at hF
    refine wp_reg_seq tok (orc := o0) (fz := []) (l := [0, 2]) (.inl rfl) h (by kernel_rfl) an fun a w h => ?_
    cases hF
    exact wp_ret (retM_ok tok h rfl (by kernel_rfl) (by kernel_rfl)).1

def f170.j9 (k : Nat) : Bool → Option Int
  | v8 => if v8 then (some (3 : Int)) else (some (0 : Int))
def f170.j7 (k : Nat) (r1 : Int) : Bool → Option Int
  | v6 => if v6 then (some (5 : Int)) else (if ((r1 : Int) == (5 : Int)) then (f170.j9 k ((r1 : Int) == (5 : Int))) else (f170.j9 k ((r1 : Int) == (6 : Int))))
def f170 (k : Nat) (x0 : (((List (Int × (Int × Int))) × ((List (Int × (Int × (Int × (Int × (Int × ByteArray)))))) × (List (Int × Int)))) × ((List (List Int)) × ((List (List Int)) × (Option (List ((Int × Int) × Bool))))))) (x1 : Int) (x2 : Int) : Option Int := if (0 ≤ x1 ∧ x1 < (List.length x0.1.2.1 : Int)) then (if (0 ≤ x2 ∧ x2 < (List.length x0.1.2.1 : Int)) then (if (bif (((List.getD x0.1.2.1 (Int.toNat x1) ((0 : Int), ((0 : Int), ((0 : Int), ((0 : Int), ((0 : Int), (⟨#[]⟩ : ByteArray))))))).2.1 : Int) != (List.getD x0.1.2.1 (Int.toNat x2) ((0 : Int), ((0 : Int), ((0 : Int), ((0 : Int), ((0 : Int), (⟨#[]⟩ : ByteArray))))))).1) then true else (mget (Sh.beq sh7) x0.2.2.2 (x1, x2) false)) then (some (-1 : Int)) else (if (((List.getD x0.1.2.1 (Int.toNat x2) ((0 : Int), ((0 : Int), ((0 : Int), ((0 : Int), ((0 : Int), (⟨#[]⟩ : ByteArray))))))).2.1 : Int) == (List.getD x0.1.2.1 (Int.toNat x1) ((0 : Int), ((0 : Int), ((0 : Int), ((0 : Int), ((0 : Int), (⟨#[]⟩ : ByteArray))))))).1) then (some (20 : Int)) else ((f221 k x0 x1 x2).bind fun r1 => (if ((r1 : Int) == (2 : Int)) then (f170.j7 k r1 ((r1 : Int) == (2 : Int))) else (if ((r1 : Int) == (3 : Int)) then (f170.j7 k r1 ((r1 : Int) == (3 : Int))) else (f170.j7 k r1 ((r1 : Int) == (4 : Int)))))))) else none) else none
theorem c170 (k : Nat) (x0 : tN) (x1 : Int) (x2 : Int) (r : Int) (hF : f170 k x0 x1 x2 = some r) : PCall Try.prog 170 [⟨sh31, some x0⟩, ⟨(.int .i64), x1⟩, ⟨(.int .i64), x2⟩] [⟨(.int .i64), r⟩] := by
  refine pcall_intro Try.func170 rfl rfl (Nat.le_of_ble_eq_true rfl) ?_
  intro w0 Zi a w h
  rw [f170] at hF
  refine wp_reg_seq tok (orc := o0) (l := [0, 1, 2]) nw h (by kernel_rfl) an fun a w h => ?_
  obtain ⟨hc11, hF⟩ := of_if hF
  obtain ⟨hc12, hF⟩ := of_if hF
  refine wp_regy_seq tok (orc := o0) (l := [0, 1, 2, 7, 8]) ([(18, 7)], [], [], [(8, [0]), (9, [17]), (10, [18]), (11, [19]), (12, [20]), (13, [2]), (14, [21, 22]), (15, [23])]) 19 nw h (by kernel_rfl) (by kernel_rfl) (ac hc11 (ac hc12 an)) fun a w h => ?_
  refine wp_seq ?_
  refine wp_reg_seq tok (orc := o0) (l := [0, 1, 2, 7, 8, 39]) nw h (by kernel_rfl) (ac (fun (_ : ((((gD x0.1.2.1 (tZ x1) zR).2.1 : Int) != (gD x0.1.2.1 (tZ x2) zR).1) = false)) => (show eqTy Try.prog 9 167 (.st (.pair (.int .i64) (.int .i64))) = true from by kernel_rfl)) an) fun a w h => ?_
  refine wp_if h (b := (bif (((gD x0.1.2.1 (tZ x1) zR).2.1 : Int) != (gD x0.1.2.1 (tZ x2) zR).1) then true else (mget (Sh.beq sh7) x0.2.2.2 (x1, x2) false))) (by kernel_rfl) (fun hb => ?_) (fun hb => ?_)
  · replace hF := of_t hb hF
    refine wp_reg_seq tok (orc := o0) (l := [6]) nw h (by kernel_rfl) an fun a w h => ?_
    cases hF
    exact wp_ret (ret_okR tok h rfl (by kernel_rfl)).1
  · replace hF := of_f hb hF
    refine wp_skip ?_
    refine wp_seq ?_
    refine wp_reg_seq tok (orc := o0) (l := [0, 1, 2, 44]) nw h (by kernel_rfl) an fun a w h => ?_
    refine wp_if h (b := (((gD x0.1.2.1 (tZ x2) zR).2.1 : Int) == (gD x0.1.2.1 (tZ x1) zR).1)) (by kernel_rfl) (fun hb => ?_) (fun hb => ?_)
    · replace hF := of_t hb hF
      refine wp_reg_seq tok (orc := o0) (l := [6]) nw h (by kernel_rfl) an fun a w h => ?_
      cases hF
      exact wp_ret (ret_okR tok h rfl (by kernel_rfl)).1
    · replace hF := of_f hb hF
      refine wp_skip ?_
      refine wp_seq ?_
      obtain ⟨r1, hr10, hF⟩ := of_bind hF
      refine wp_reg_seq tok (orc := orcL [(48, [⟨(.int .i64), r1⟩])]) (l := [48]) nw h (by kernel_rfl) (ac (c221 k x0 x1 x2 r1 hr10) an) fun a w h => ?_
      refine wp_block ?_
      refine wp_seq ?_
      refine wp_reg_seq tok (orc := o0) (l := [48, 49]) nw h (by kernel_rfl) an fun a w h => ?_
      refine wp_midT (fun a w => ∃ v : Bool, f170.j7 k r1 v = some r ∧ Rel w0 (fun _ => False) Zi Try.f170.ntmps ((fun (v6 : Bool) => ([(48, .val (.int .i64) r1), (49, .val .bool v6)] : SS)) v) a w) ?_ ?_
      ·
        refine wp_if h (b := ((r1 : Int) == (2 : Int))) (by kernel_rfl) (fun hb => ?_) (fun hb => ?_)
        · replace hF := of_t hb hF
          refine wp_skip ?_
          exact ⟨((r1 : Int) == (2 : Int)), hF, h.arrive (l := [48, 49]) nw (by kernel_rfl)⟩
        · replace hF := of_f hb hF
          refine wp_reg_seq tok (orc := o0) (l := [48, 49]) nw h (by kernel_rfl) an fun a w h => ?_
          refine wp_if h (b := ((r1 : Int) == (3 : Int))) (by kernel_rfl) (fun hb => ?_) (fun hb => ?_)
          · replace hF := of_t hb hF
            refine wp_skip ?_
            exact ⟨((r1 : Int) == (3 : Int)), hF, h.arrive (l := [48, 49]) nw (by kernel_rfl)⟩
          · replace hF := of_f hb hF
            refine wp_reg tok (orc := o0) (l := [48, 49]) nw h (by kernel_rfl) an fun a w h => ?_
            exact ⟨((r1 : Int) == (4 : Int)), hF, h.arrive (l := [48, 49]) nw (by kernel_rfl)⟩
      · rintro a w ⟨v6, hF, h⟩
        rw [f170.j7] at hF
        refine wp_if h (b := v6) (by kernel_rfl) (fun hb => ?_) (fun hb => ?_)
        · replace hF := of_t hb hF
          refine wp_reg_seq tok (orc := o0) (l := [6]) nw h (by kernel_rfl) an fun a w h => ?_
          cases hF
          exact wp_ret (ret_okR tok h rfl (by kernel_rfl)).1
        · replace hF := of_f hb hF
          refine wp_seq ?_
          refine wp_reg_seq tok (orc := o0) (l := [48, 53]) nw h (by kernel_rfl) an fun a w h => ?_
          refine wp_midT (fun a w => ∃ v : Bool, f170.j9 k v = some r ∧ Rel w0 (fun _ => False) Zi Try.f170.ntmps ((fun (v8 : Bool) => ([(53, .val .bool v8)] : SS)) v) a w) ?_ ?_
          ·
            refine wp_if h (b := ((r1 : Int) == (5 : Int))) (by kernel_rfl) (fun hb => ?_) (fun hb => ?_)
            · replace hF := of_t hb hF
              refine wp_skip ?_
              exact ⟨((r1 : Int) == (5 : Int)), hF, h.arrive (l := [53]) nw (by kernel_rfl)⟩
            · replace hF := of_f hb hF
              refine wp_reg tok (orc := o0) (l := [53]) nw h (by kernel_rfl) an fun a w h => ?_
              exact ⟨((r1 : Int) == (6 : Int)), hF, h.arrive (l := [53]) nw (by kernel_rfl)⟩
          · rintro a w ⟨v8, hF, h⟩
            rw [f170.j9] at hF
            refine wp_if h (b := v8) (by kernel_rfl) (fun hb => ?_) (fun hb => ?_)
            · replace hF := of_t hb hF
              refine wp_reg_seq tok (orc := o0) (l := [6]) nw h (by kernel_rfl) an fun a w h => ?_
              cases hF
              exact wp_ret (ret_okR tok h rfl (by kernel_rfl)).1
            · replace hF := of_f hb hF
              refine wp_skip ?_
              refine wp_reg_seq tok (orc := o0) (l := [6]) nw h (by kernel_rfl) an fun a w h => ?_
              cases hF
              exact wp_ret (ret_okR tok h rfl (by kernel_rfl)).1

end Go.Proofs.Ytchbpdnaodicaaa.V
