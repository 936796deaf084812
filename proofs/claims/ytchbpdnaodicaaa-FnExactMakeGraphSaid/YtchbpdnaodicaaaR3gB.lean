/-
  THE CONTRACTS OF SOME FUNCTIONS OF THIS SEAT, PRINTED BY A PROGRAM OF THIS PROJECT (wip/gen/vgen.py).
-/
import Derived.Test.YtchbpdnaodicaaaProg
import Derived.Test.YtchbpdnaodicaaaVmW
import Derived.Test.YtchbpdnaodicaaaVmZ
import Derived.KernelRfl
import Derived.Test.YtchbpdnaodicaaaR3gA
set_option linter.unusedVariables false
open Go Go.Vm Go.Proofs
namespace Go.Proofs.Ytchbpdnaodicaaa.V
def f62.l581 (k : Nat) (v529 : Int) (x0 : ((List (Int × ((Int × Int) × (List (ByteArray × ByteArray))))) × ((List (Int × ((List Int) × (List (ByteArray × ByteArray))))) × (List (Int × ((List (Int × Bool)) × (List (ByteArray × ByteArray)))))))) (x1 : Int) (q317 : ((List Bool) × Int) → Option ((List (Int × (Int × Int))) × ((List (Int × (Int × (Int × (Int × (Int × ByteArray)))))) × (List (Int × Int))))) : Nat → ((List Bool) × Int) → Option ((List (Int × (Int × Int))) × ((List (Int × (Int × (Int × (Int × (Int × ByteArray)))))) × (List (Int × Int))))
  | 0, _ => none
  | m581 + 1, (v616, v617) => if (0 ≤ v529 ∧ v529 < (List.length x0.2.1 : Int)) then (if (((decide ((v617 : Int) < (List.length (List.getD x0.2.1 (Int.toNat v529) ((0 : Int), (([] : (List Int)), ([] : (List (ByteArray × ByteArray)))))).2.1 : Int))) = true) → (0 ≤ v529 ∧ v529 < (List.length x0.2.1 : Int))) then ((if ((decide ((v617 : Int) < (List.length (List.getD x0.2.1 (Int.toNat v529) ((0 : Int), (([] : (List Int)), ([] : (List (ByteArray × ByteArray)))))).2.1 : Int))) = true) then f137 k (List.getD x0.2.1 (Int.toNat v529) ((0 : Int), (([] : (List Int)), ([] : (List (ByteArray × ByteArray)))))).2.2 x1 else some default).bind fun r618 => (if (bif (decide ((v617 : Int) < (List.length (List.getD x0.2.1 (Int.toNat v529) ((0 : Int), (([] : (List Int)), ([] : (List (ByteArray × ByteArray)))))).2.1 : Int))) then (decide ((r618 : Int) > (0 : Int))) else false) then (if (0 ≤ v529 ∧ v529 < (List.length x0.2.1 : Int)) then (if (0 ≤ v617 ∧ v617 < (List.length (List.getD x0.2.1 (Int.toNat v529) ((0 : Int), (([] : (List Int)), ([] : (List (ByteArray × ByteArray)))))).2.1 : Int)) then ((f138 k x0 (List.getD (List.getD x0.2.1 (Int.toNat v529) ((0 : Int), (([] : (List Int)), ([] : (List (ByteArray × ByteArray)))))).2.1 (Int.toNat v617) (0 : Int))).bind fun r624 => (if (0 ≤ r624 ∧ r624 < (List.length v616 : Int)) then ((f62.l581 k v529 x0 x1 q317) m581 ((List.set v616 (Int.toNat r624) true), (IntKind.i64.wrap (v617 + (1 : Int))))) else none)) else none) else none) else (q317 (v616, (IntKind.i64.wrap (v529 + (1 : Int))))))) else none) else none
def f62.j705 (k : Nat) (v699 : Int) (q671 : ((List (Int × (Int × Int))) × Int) → Option ((List (Int × (Int × Int))) × ((List (Int × (Int × (Int × (Int × (Int × ByteArray)))))) × (List (Int × Int))))) : (List (Int × (Int × Int))) → Option ((List (Int × (Int × Int))) × ((List (Int × (Int × (Int × (Int × (Int × ByteArray)))))) × (List (Int × Int))))
  | v704 => q671 (v704, (IntKind.i64.wrap (v699 + (1 : Int))))
def f62.j2384 (k : Nat) (v2362 : Int) (q2270 : ((List (Int × (Int × (Int × (Int × (Int × ByteArray)))))) × Int) → Option ((List (Int × (Int × Int))) × ((List (Int × (Int × (Int × (Int × (Int × ByteArray)))))) × (List (Int × Int))))) : (List (Int × (Int × (Int × (Int × (Int × ByteArray)))))) → Option ((List (Int × (Int × Int))) × ((List (Int × (Int × (Int × (Int × (Int × ByteArray)))))) × (List (Int × Int))))
  | v2383 => q2270 (v2383, (IntKind.i64.wrap (v2362 + (1 : Int))))
def f62.j2393 (k : Nat) (r2269 : Int) (r2386 : Int) (r2385 : Int) (x0 : ((List (Int × ((Int × Int) × (List (ByteArray × ByteArray))))) × ((List (Int × ((List Int) × (List (ByteArray × ByteArray))))) × (List (Int × ((List (Int × Bool)) × (List (ByteArray × ByteArray)))))))) (v2127 : Int) (v2388 : Int) (r2387 : Int) (r2390 : ByteArray) (q2384 : (List (Int × (Int × (Int × (Int × (Int × ByteArray)))))) → Option ((List (Int × (Int × Int))) × ((List (Int × (Int × (Int × (Int × (Int × ByteArray)))))) × (List (Int × Int))))) : (List (Int × (Int × (Int × (Int × (Int × ByteArray)))))) → Option ((List (Int × (Int × Int))) × ((List (Int × (Int × (Int × (Int × (Int × ByteArray)))))) × (List (Int × Int))))
  | v2392 => if ((r2269 : Int) != (1 : Int)) then (if ((List.length v2392 + List.length [(r2386, (r2385, ((List.getD x0.2.1 (Int.toNat v2127) ((0 : Int), (([] : (List Int)), ([] : (List (ByteArray × ByteArray)))))).1, (v2388, (r2387, r2390)))))]) * 56 ≤ 140737488355328) then (q2384 (List.append v2392 [(r2386, (r2385, ((List.getD x0.2.1 (Int.toNat v2127) ((0 : Int), (([] : (List Int)), ([] : (List (ByteArray × ByteArray)))))).1, (v2388, (r2387, r2390)))))])) else none) else (q2384 v2392)
def f62.j2389 (k : Nat) (x0 : ((List (Int × ((Int × Int) × (List (ByteArray × ByteArray))))) × ((List (Int × ((List Int) × (List (ByteArray × ByteArray))))) × (List (Int × ((List (Int × Bool)) × (List (ByteArray × ByteArray)))))))) (v2127 : Int) (r2269 : Int) (v2361 : (List (Int × (Int × (Int × (Int × (Int × ByteArray))))))) (r2385 : Int) (r2386 : Int) (r2387 : Int) (q2384 : (List (Int × (Int × (Int × (Int × (Int × ByteArray)))))) → Option ((List (Int × (Int × Int))) × ((List (Int × (Int × (Int × (Int × (Int × ByteArray)))))) × (List (Int × Int))))) : Int → Option ((List (Int × (Int × Int))) × ((List (Int × (Int × (Int × (Int × (Int × ByteArray)))))) × (List (Int × Int))))
  | v2388 => (f141 k (List.getD x0.2.1 (Int.toNat v2127) ((0 : Int), (([] : (List Int)), ([] : (List (ByteArray × ByteArray)))))).2.2 (⟨#[110, 97, 109, 101]⟩ : ByteArray)).bind fun r2390 => (if ((r2269 : Int) != (-1 : Int)) then (if ((List.length v2361 + List.length [(r2385, (r2386, ((List.getD x0.2.1 (Int.toNat v2127) ((0 : Int), (([] : (List Int)), ([] : (List (ByteArray × ByteArray)))))).1, (v2388, (r2387, r2390)))))]) * 56 ≤ 140737488355328) then (f62.j2393 k r2269 r2386 r2385 x0 v2127 v2388 r2387 r2390 (q2384) (List.append v2361 [(r2385, (r2386, ((List.getD x0.2.1 (Int.toNat v2127) ((0 : Int), (([] : (List Int)), ([] : (List (ByteArray × ByteArray)))))).1, (v2388, (r2387, r2390)))))])) else none) else (f62.j2393 k r2269 r2386 r2385 x0 v2127 v2388 r2387 r2390 (q2384) v2361))
def f62.l2270 (k : Nat) (x0 : ((List (Int × ((Int × Int) × (List (ByteArray × ByteArray))))) × ((List (Int × ((List Int) × (List (ByteArray × ByteArray))))) × (List (Int × ((List (Int × Bool)) × (List (ByteArray × ByteArray)))))))) (v2127 : Int) (r2268 : Int) (v698 : (List (Int × (Int × Int)))) (r2269 : Int) (q1559 : ((List (Int × (Int × (Int × (Int × (Int × ByteArray)))))) × Int) → Option ((List (Int × (Int × Int))) × ((List (Int × (Int × (Int × (Int × (Int × ByteArray)))))) × (List (Int × Int))))) : Nat → ((List (Int × (Int × (Int × (Int × (Int × ByteArray)))))) × Int) → Option ((List (Int × (Int × Int))) × ((List (Int × (Int × (Int × (Int × (Int × ByteArray)))))) × (List (Int × Int))))
  | 0, _ => none
  | m2270 + 1, (v2361, v2362) => if (bif (decide ((v2362 : Int) < (List.length (List.getD x0.2.1 (Int.toNat v2127) ((0 : Int), (([] : (List Int)), ([] : (List (ByteArray × ByteArray)))))).2.1 : Int))) then (decide ((r2268 : Int) > (0 : Int))) else false) then (if (0 ≤ (IntKind.i64.wrap (v2362 - (1 : Int))) ∧ (IntKind.i64.wrap (v2362 - (1 : Int))) < (List.length (List.getD x0.2.1 (Int.toNat v2127) ((0 : Int), (([] : (List Int)), ([] : (List (ByteArray × ByteArray)))))).2.1 : Int)) then ((f131 k (v698, (v2361, ([] : (List (Int × Int))))) (List.getD (List.getD x0.2.1 (Int.toNat v2127) ((0 : Int), (([] : (List Int)), ([] : (List (ByteArray × ByteArray)))))).2.1 (Int.toNat (IntKind.i64.wrap (v2362 - (1 : Int)))) (0 : Int))).bind fun r2385 => (if (0 ≤ v2362 ∧ v2362 < (List.length (List.getD x0.2.1 (Int.toNat v2127) ((0 : Int), (([] : (List Int)), ([] : (List (ByteArray × ByteArray)))))).2.1 : Int)) then ((f131 k (v698, (v2361, ([] : (List (Int × Int))))) (List.getD (List.getD x0.2.1 (Int.toNat v2127) ((0 : Int), (([] : (List Int)), ([] : (List (ByteArray × ByteArray)))))).2.1 (Int.toNat v2362) (0 : Int))).bind fun r2386 => (if (0 ≤ r2385 ∧ r2385 < (List.length v698 : Int)) then (if (0 ≤ r2386 ∧ r2386 < (List.length v698 : Int)) then ((f140 k (List.getD v698 (Int.toNat r2385) ((0 : Int), ((0 : Int), (0 : Int)))).2 (List.getD v698 (Int.toNat r2386) ((0 : Int), ((0 : Int), (0 : Int)))).2).bind fun r2387 => (if ((r2268 : Int) ≠ 0) then (if (decide (((IntKind.i64.wrap (Int.tdiv (IntKind.i64.wrap ((IntKind.i64.wrap (r2387 + r2268)) - (1 : Int))) r2268)) : Int) < (1 : Int))) then (f62.j2389 k x0 v2127 r2269 v2361 r2385 r2386 r2387 (f62.j2384 k v2362 ((f62.l2270 k x0 v2127 r2268 v698 r2269 q1559) m2270)) (1 : Int)) else (f62.j2389 k x0 v2127 r2269 v2361 r2385 r2386 r2387 (f62.j2384 k v2362 ((f62.l2270 k x0 v2127 r2268 v698 r2269 q1559) m2270)) (IntKind.i64.wrap (Int.tdiv (IntKind.i64.wrap ((IntKind.i64.wrap (r2387 + r2268)) - (1 : Int))) r2268)))) else none)) else none) else none)) else none)) else none) else (q1559 (v2361, (IntKind.i64.wrap (v2127 + (1 : Int)))))
def f62.l1559 (k : Nat) (x0 : ((List (Int × ((Int × Int) × (List (ByteArray × ByteArray))))) × ((List (Int × ((List Int) × (List (ByteArray × ByteArray))))) × (List (Int × ((List (Int × Bool)) × (List (ByteArray × ByteArray)))))))) (x1 : Int) (v698 : (List (Int × (Int × Int)))) : Nat → ((List (Int × (Int × (Int × (Int × (Int × ByteArray)))))) × Int) → Option ((List (Int × (Int × Int))) × ((List (Int × (Int × (Int × (Int × (Int × ByteArray)))))) × (List (Int × Int))))
  | 0, _ => none
  | m1559 + 1, (v2126, v2127) => if (decide ((v2127 : Int) < (List.length x0.2.1 : Int))) then (if (0 ≤ v2127 ∧ v2127 < (List.length x0.2.1 : Int)) then ((f137 k (List.getD x0.2.1 (Int.toNat v2127) ((0 : Int), (([] : (List Int)), ([] : (List (ByteArray × ByteArray)))))).2.2 x1).bind fun r2268 => ((f139 k (List.getD x0.2.1 (Int.toNat v2127) ((0 : Int), (([] : (List Int)), ([] : (List (ByteArray × ByteArray)))))).2.2 x1).bind fun r2269 => (f62.l2270 k x0 v2127 r2268 v698 r2269 ((f62.l1559 k x0 x1 v698) m1559) k (v2126, (1 : Int))))) else none) else ((f70 k (v698, (v2126, ([] : (List (Int × Int)))))).bind fun r2408 => (if (!r2408) then (some (([] : (List (Int × (Int × Int)))), (([] : (List (Int × (Int × (Int × (Int × (Int × ByteArray))))))), ([] : (List (Int × Int)))))) else (some (v698, (v2126, ([] : (List (Int × Int))))))))
def f62.l671 (k : Nat) (x0 : ((List (Int × ((Int × Int) × (List (ByteArray × ByteArray))))) × ((List (Int × ((List Int) × (List (ByteArray × ByteArray))))) × (List (Int × ((List (Int × Bool)) × (List (ByteArray × ByteArray)))))))) (v528 : (List Bool)) (x1 : Int) : Nat → ((List (Int × (Int × Int))) × Int) → Option ((List (Int × (Int × Int))) × ((List (Int × (Int × (Int × (Int × (Int × ByteArray)))))) × (List (Int × Int))))
  | 0, _ => none
  | m671 + 1, (v698, v699) => if (decide ((v699 : Int) < (List.length x0.1 : Int))) then (if (0 ≤ v699 ∧ v699 < (List.length v528 : Int)) then (if (List.getD v528 (Int.toNat v699) false) then (if (0 ≤ v699 ∧ v699 < (List.length x0.1 : Int)) then (if (0 ≤ v699 ∧ v699 < (List.length x0.1 : Int)) then (if ((List.length v698 + List.length [((List.getD x0.1 (Int.toNat v699) ((0 : Int), (((0 : Int), (0 : Int)), ([] : (List (ByteArray × ByteArray)))))).1, (List.getD x0.1 (Int.toNat v699) ((0 : Int), (((0 : Int), (0 : Int)), ([] : (List (ByteArray × ByteArray)))))).2.1)]) * 24 ≤ 140737488355328) then (f62.j705 k v699 ((f62.l671 k x0 v528 x1) m671) (List.append v698 [((List.getD x0.1 (Int.toNat v699) ((0 : Int), (((0 : Int), (0 : Int)), ([] : (List (ByteArray × ByteArray)))))).1, (List.getD x0.1 (Int.toNat v699) ((0 : Int), (((0 : Int), (0 : Int)), ([] : (List (ByteArray × ByteArray)))))).2.1)])) else none) else none) else none) else (f62.j705 k v699 ((f62.l671 k x0 v528 x1) m671) v698)) else none) else (f62.l1559 k x0 x1 v698 k (([] : (List (Int × (Int × (Int × (Int × (Int × ByteArray))))))), (0 : Int)))
def f62.l317 (k : Nat) (x0 : ((List (Int × ((Int × Int) × (List (ByteArray × ByteArray))))) × ((List (Int × ((List Int) × (List (ByteArray × ByteArray))))) × (List (Int × ((List (Int × Bool)) × (List (ByteArray × ByteArray)))))))) (x1 : Int) : Nat → ((List Bool) × Int) → Option ((List (Int × (Int × Int))) × ((List (Int × (Int × (Int × (Int × (Int × ByteArray)))))) × (List (Int × Int))))
  | 0, _ => none
  | m317 + 1, (v528, v529) => if (decide ((v529 : Int) < (List.length x0.2.1 : Int))) then (f62.l581 k v529 x0 x1 ((f62.l317 k x0 x1) m317) k (v528, (0 : Int))) else (f62.l671 k x0 v528 x1 k (([] : (List (Int × (Int × Int)))), (0 : Int)))
def f62 (k : Nat) (x0 : ((List (Int × ((Int × Int) × (List (ByteArray × ByteArray))))) × ((List (Int × ((List Int) × (List (ByteArray × ByteArray))))) × (List (Int × ((List (Int × Bool)) × (List (ByteArray × ByteArray)))))))) (x1 : Int) : Option ((List (Int × (Int × Int))) × ((List (Int × (Int × (Int × (Int × (Int × ByteArray)))))) × (List (Int × Int)))) := (f136 k x0).bind fun r1 => (if (bif (!r1) then true else (bif ((x1 : Int) != (1 : Int)) then ((x1 : Int) != (2 : Int)) else false)) then (some (([] : (List (Int × (Int × Int)))), (([] : (List (Int × (Int × (Int × (Int × (Int × ByteArray))))))), ([] : (List (Int × Int)))))) else (if (0 ≤ (List.length x0.1 : Int) ∧ Int.toNat (List.length x0.1 : Int) * 1 ≤ 140737488355328) then (f62.l317 k x0 x1 k ((List.replicate (Int.toNat (List.length x0.1 : Int)) false), (0 : Int))) else none))
set_option maxRecDepth 100000 in
/-- 'spec.MakeGraph'. -/
theorem c62 (k : Nat) (x0 : ((List (Int × ((Int × Int) × (List (ByteArray × ByteArray))))) × ((List (Int × ((List Int) × (List (ByteArray × ByteArray))))) × (List (Int × ((List (Int × Bool)) × (List (ByteArray × ByteArray)))))))) (x1 : Int) (r : ((List (Int × (Int × Int))) × ((List (Int × (Int × (Int × (Int × (Int × ByteArray)))))) × (List (Int × Int))))) (hF : f62 k x0 x1 = some r) : PCall Try.prog 62 [⟨sh22, x0⟩, ⟨(.int .i64), x1⟩] [⟨sh31, r⟩] := by
  refine pcall_intro Try.func62 rfl rfl (Nat.le_of_ble_eq_true rfl) ?_
  intro w0 Zi a w h
  rw [f62] at hF
  refine wp_reg_seq tok (orc := orcL []) (fz := []) (l := [1, 2, 4]) (c := _) (.inr fun i h => h) h (by kernel_rfl) (AllP.nil) ?_
  intro a w h
  refine wp_reg_seq tok (orc := orcL []) (fz := []) (l := [1, 2, 4, 5]) (c := _) (.inr fun i h => h) h (by kernel_rfl) (AllP.nil) ?_
  intro a w h
  refine wp_seq ?_
  obtain ⟨r1, hr2411, hF⟩ := of_bind hF
  refine wp_reg_seq tok (orc := orcL [(22, [⟨.bool, r1⟩])]) (fz := []) (l := [1, 2, 4, 5, 31]) (c := _) (.inr fun i h => h) h (by kernel_rfl) (AllP.cons (c136 k x0 r1 hr2411) AllP.nil) ?_
  intro a w h
  refine wp_if h (b := (bif (!r1) then true else (bif ((x1 : Int) != (1 : Int)) then ((x1 : Int) != (2 : Int)) else false))) (by kernel_rfl) (fun hb => ?_) (fun hb => ?_)
  · replace hF := of_t hb hF
    refine wp_reg_seq tok (orc := orcL []) (fz := []) (l := [4]) (c := _) (.inr fun i h => h) h (by kernel_rfl) (AllP.nil) ?_
    intro a w h
    cases hF
    exact wp_ret (ret_okR tok h rfl (by kernel_rfl)).1
  · replace hF := of_f hb hF
    refine wp_skip ?_
    obtain ⟨hc2410, hF⟩ := of_if hF
    refine wp_reg_seq tok (orc := orcL []) (fz := []) (l := [1, 2, 4, 5, 6]) (c := _) (.inr fun i h => h) h (by kernel_rfl) (AllP.cons hc2410 AllP.nil) ?_
    intro a w h
    refine wp_seq ?_
    refine wp_reg_seq tok (orc := orcL []) (fz := []) (l := [1, 2, 4, 5, 6, 7]) (c := _) (.inr fun i h => h) h (by kernel_rfl) (AllP.nil) ?_
    intro a w h
    refine wp_block ?_
    refine wp_loop_fuel (f62.l317 k x0 x1) (fun ((v528, v529) : ((List Bool) × Int)) => [(1, .val (.int .i64) x1), (2, .val sh21 (some x0)), (4, .val sh27 (some (([] : (List (Int × (Int × Int)))), (([] : (List (Int × (Int × (Int × (Int × (Int × ByteArray))))))), ([] : (List (Int × Int))))))), (5, .val sh27 (some (([] : (List (Int × (Int × Int)))), (([] : (List (Int × (Int × (Int × (Int × (Int × ByteArray))))))), ([] : (List (Int × Int))))))), (6, .val (.sl true 4 .bool) v528), (7, .val (.int .i64) v529)]) (fun v h => by obtain ⟨v528, v529⟩ := v; rw [f62.l317] at h; cases h) ?_ hF (h.arrive (fz := []) (l := [1, 2, 4, 5, 6, 7]) (.inr fun i h => h) (by kernel_rfl))
    intro m317 v a w hF h
    obtain ⟨v528, v529⟩ := v
    rw [f62.l317] at hF
    refine wp_seq ?_
    refine wp_reg_seq tok (orc := orcL []) (fz := []) (l := [1, 2, 4, 5, 6, 7, 41]) (c := _) (.inr fun i h => h) h (by kernel_rfl) (AllP.nil) ?_
    intro a w h
    refine wp_if h (b := (decide ((v529 : Int) < (List.length x0.2.1 : Int)))) (by kernel_rfl) (fun hb => ?_) (fun hb => ?_)
    · replace hF := of_t hb hF
      refine wp_skip ?_
      refine wp_seq <| wp_block ?_
      refine wp_reg_seq tok (orc := orcL []) (fz := []) (l := [1, 2, 4, 5, 6, 7, 8]) (c := _) (.inr fun i h => h) h (by kernel_rfl) (AllP.nil) ?_
      intro a w h
      refine wp_block ?_
      refine wp_loop_fuel (f62.l581 k v529 x0 x1 ((f62.l317 k x0 x1) m317)) (fun ((v616, v617) : ((List Bool) × Int)) => [(1, .val (.int .i64) x1), (2, .val sh21 (some x0)), (4, .val sh27 (some (([] : (List (Int × (Int × Int)))), (([] : (List (Int × (Int × (Int × (Int × (Int × ByteArray))))))), ([] : (List (Int × Int))))))), (5, .val sh27 (some (([] : (List (Int × (Int × Int)))), (([] : (List (Int × (Int × (Int × (Int × (Int × ByteArray))))))), ([] : (List (Int × Int))))))), (6, .val (.sl true 4 .bool) v616), (7, .val (.int .i64) v529), (8, .val (.int .i64) v617)]) (fun v h => by obtain ⟨v616, v617⟩ := v; rw [f62.l581] at h; cases h) ?_ hF (h.arrive (fz := []) (l := [1, 2, 4, 5, 6, 7, 8]) (.inr fun i h => h) (by kernel_rfl))
      intro m581 v a w hF h
      obtain ⟨v616, v617⟩ := v
      rw [f62.l581] at hF
      refine wp_seq ?_
      obtain ⟨hc629, hF⟩ := of_if hF
      obtain ⟨hc630, hF⟩ := of_if hF
      obtain ⟨r618, hr631, hF⟩ := of_bind hF
      refine wp_reg_seq tok (orc := orcL [(61, [⟨(.int .i64), r618⟩])]) (fz := []) (l := [1, 2, 4, 5, 6, 7, 8, 63]) (c := _) (.inr fun i h => h) h (by kernel_rfl) (AllP.cons hc629 (AllP.cons hc630 (AllP.cons (fun (hg : ((decide ((v617 : Int) < (List.length (List.getD x0.2.1 (Int.toNat v529) ((0 : Int), (([] : (List Int)), ([] : (List (ByteArray × ByteArray)))))).2.1 : Int))) = true)) => c137 k (List.getD x0.2.1 (Int.toNat v529) ((0 : Int), (([] : (List Int)), ([] : (List (ByteArray × ByteArray)))))).2.2 x1 r618 (of_g hg hr631)) AllP.nil))) ?_
      intro a w h
      refine wp_if h (b := (bif (decide ((v617 : Int) < (List.length (List.getD x0.2.1 (Int.toNat v529) ((0 : Int), (([] : (List Int)), ([] : (List (ByteArray × ByteArray)))))).2.1 : Int))) then (decide ((r618 : Int) > (0 : Int))) else false)) (by kernel_rfl) (fun hb => ?_) (fun hb => ?_)
      · replace hF := of_t hb hF
        refine wp_skip ?_
        refine wp_seq <| wp_block ?_
        obtain ⟨hc625, hF⟩ := of_if hF
        obtain ⟨hc626, hF⟩ := of_if hF
        obtain ⟨r624, hr627, hF⟩ := of_bind hF
        obtain ⟨hc628, hF⟩ := of_if hF
        refine wp_regy tok (orc := orcL [(77, [⟨(.int .i64), r624⟩])]) (fz := []) (l := [1, 2, 4, 5, 6, 7, 8]) (c := _) ([], [], [], []) 13 (.inr fun i h => h) h (by kernel_rfl) (by kernel_rfl) (AllP.cons hc625 (AllP.cons hc626 (AllP.cons (c138 k x0 (List.getD (List.getD x0.2.1 (Int.toNat v529) ((0 : Int), (([] : (List Int)), ([] : (List (ByteArray × ByteArray)))))).2.1 (Int.toNat v617) (0 : Int)) r624 hr627) (AllP.cons hc628 AllP.nil)))) ?_
        intro a w h
        refine wp_reg tok (orc := orcL []) (fz := []) (l := [1, 2, 4, 5, 6, 7, 8]) (c := _) (.inr fun i h => h) h (by kernel_rfl) (AllP.nil) ?_
        intro a w h
        exact ⟨((List.set v616 (Int.toNat r624) true), (IntKind.i64.wrap (v617 + (1 : Int)))), hF, h.arrive (fz := []) (l := [1, 2, 4, 5, 6, 7, 8]) (.inr fun i h => h) (by kernel_rfl)⟩
      · replace hF := of_f hb hF
        refine wp_exit ?_
        refine wp_reg tok (orc := orcL []) (fz := []) (l := [1, 2, 4, 5, 6, 7]) (c := _) (.inr fun i h => h) h (by kernel_rfl) (AllP.nil) ?_
        intro a w h
        exact ⟨(v616, (IntKind.i64.wrap (v529 + (1 : Int)))), hF, h.arrive (fz := []) (l := [1, 2, 4, 5, 6, 7]) (.inr fun i h => h) (by kernel_rfl)⟩
    · replace hF := of_f hb hF
      refine wp_exit ?_
      refine wp_seq ?_
      refine wp_reg_seq tok (orc := orcL []) (fz := []) (l := [1, 2, 4, 5, 6, 9]) (c := _) (.inr fun i h => h) h (by kernel_rfl) (AllP.nil) ?_
      intro a w h
      refine wp_block ?_
      refine wp_loop_fuel (f62.l671 k x0 v528 x1) (fun ((v698, v699) : ((List (Int × (Int × Int))) × Int)) => [(1, .val (.int .i64) x1), (2, .val sh21 (some x0)), (4, .val sh27 (some (([] : (List (Int × (Int × Int)))), (([] : (List (Int × (Int × (Int × (Int × (Int × ByteArray))))))), ([] : (List (Int × Int))))))), (5, .val sh27 (some (v698, (([] : (List (Int × (Int × (Int × (Int × (Int × ByteArray))))))), ([] : (List (Int × Int))))))), (6, .val (.sl true 4 .bool) v528), (9, .val (.int .i64) v699)]) (fun v h => by obtain ⟨v698, v699⟩ := v; rw [f62.l671] at h; cases h) ?_ hF (h.arrive (fz := []) (l := [1, 2, 4, 5, 6, 9]) (.inr fun i h => h) (by kernel_rfl))
      intro m671 v a w hF h
      obtain ⟨v698, v699⟩ := v
      rw [f62.l671] at hF
      refine wp_seq ?_
      refine wp_reg_seq tok (orc := orcL []) (fz := []) (l := [1, 2, 4, 5, 6, 9, 83]) (c := _) (.inr fun i h => h) h (by kernel_rfl) (AllP.nil) ?_
      intro a w h
      refine wp_if h (b := (decide ((v699 : Int) < (List.length x0.1 : Int)))) (by kernel_rfl) (fun hb => ?_) (fun hb => ?_)
      · replace hF := of_t hb hF
        refine wp_skip ?_
        refine wp_mid (fun a w => ∃ v : (List (Int × (Int × Int))), f62.j705 k v699 ((f62.l671 k x0 v528 x1) m671) v = some r ∧ Rel w0 (fun _ => False) Zi Try.f62.ntmps ((fun (v704 : (List (Int × (Int × Int)))) => ([(1, .val (.int .i64) x1), (2, .val sh21 (some x0)), (4, .val sh27 (some (([] : (List (Int × (Int × Int)))), (([] : (List (Int × (Int × (Int × (Int × (Int × ByteArray))))))), ([] : (List (Int × Int))))))), (5, .val sh27 (some (v704, (([] : (List (Int × (Int × (Int × (Int × (Int × ByteArray))))))), ([] : (List (Int × Int))))))), (6, .val (.sl true 4 .bool) v528), (9, .val (.int .i64) v699)] : SS)) v) a w) ?_ ?_
        ·
          refine wp_block ?_
          obtain ⟨hc709, hF⟩ := of_if hF
          refine wp_reg_seq tok (orc := orcL []) (fz := []) (l := [1, 2, 4, 5, 6, 9, 89]) (c := _) (.inr fun i h => h) h (by kernel_rfl) (AllP.cons hc709 AllP.nil) ?_
          intro a w h
          refine wp_if h (b := (List.getD v528 (Int.toNat v699) false)) (by kernel_rfl) (fun hb => ?_) (fun hb => ?_)
          · replace hF := of_t hb hF
            obtain ⟨hc706, hF⟩ := of_if hF
            obtain ⟨hc707, hF⟩ := of_if hF
            obtain ⟨hc708, hF⟩ := of_if hF
            refine wp_regy tok (orc := orcL [(106, [⟨.pt false 4294967293 .unit, some ()⟩])]) (fz := []) (l := [1, 2, 4, 5, 6, 9]) (c := _) ([], [], [], []) 18 (.inr fun i h => h) h (by kernel_rfl) (by kernel_rfl) (AllP.cons hc706 (AllP.cons hc707 (AllP.cons (PrefL.mk (l := [[.der, .fst], [.der, .fst]]) (p := [.der, .fst]) rfl) (AllP.cons hc708 (AllP.cons (show ([.der, .fst] : Path) = [.der, .fst] from rfl) AllP.nil))))) ?_
            intro a w h
            exact ⟨(List.append v698 [((List.getD x0.1 (Int.toNat v699) ((0 : Int), (((0 : Int), (0 : Int)), ([] : (List (ByteArray × ByteArray)))))).1, (List.getD x0.1 (Int.toNat v699) ((0 : Int), (((0 : Int), (0 : Int)), ([] : (List (ByteArray × ByteArray)))))).2.1)]), hF, h.arrive (fz := []) (l := [1, 2, 4, 5, 6, 9]) (.inr fun i h => h) (by kernel_rfl)⟩
          · replace hF := of_f hb hF
            refine wp_skip ?_
            exact ⟨v698, hF, h.arrive (fz := []) (l := [1, 2, 4, 5, 6, 9]) (.inr fun i h => h) (by kernel_rfl)⟩
        · rintro a w ⟨v704, hF, h⟩
          rw [f62.j705] at hF
          refine wp_reg tok (orc := orcL []) (fz := []) (l := [1, 2, 4, 5, 6, 9]) (c := _) (.inr fun i h => h) h (by kernel_rfl) (AllP.nil) ?_
          intro a w h
          exact ⟨(v704, (IntKind.i64.wrap (v699 + (1 : Int)))), hF, h.arrive (fz := []) (l := [1, 2, 4, 5, 6, 9]) (.inr fun i h => h) (by kernel_rfl)⟩
      · replace hF := of_f hb hF
        refine wp_exit ?_
        refine wp_seq ?_
        refine wp_reg_seq tok (orc := orcL []) (fz := []) (l := [1, 2, 4, 5, 10]) (c := _) (.inr fun i h => h) h (by kernel_rfl) (AllP.nil) ?_
        intro a w h
        refine wp_block ?_
        refine wp_loop_fuel (f62.l1559 k x0 x1 v698) (fun ((v2126, v2127) : ((List (Int × (Int × (Int × (Int × (Int × ByteArray)))))) × Int)) => [(1, .val (.int .i64) x1), (2, .val sh21 (some x0)), (4, .val sh27 (some (([] : (List (Int × (Int × Int)))), (([] : (List (Int × (Int × (Int × (Int × (Int × ByteArray))))))), ([] : (List (Int × Int))))))), (5, .val sh27 (some (v698, (v2126, ([] : (List (Int × Int))))))), (10, .val (.int .i64) v2127)]) (fun v h => by obtain ⟨v2126, v2127⟩ := v; rw [f62.l1559] at h; cases h) ?_ hF (h.arrive (fz := []) (l := [1, 2, 4, 5, 10]) (.inr fun i h => h) (by kernel_rfl))
        intro m1559 v a w hF h
        obtain ⟨v2126, v2127⟩ := v
        rw [f62.l1559] at hF
        refine wp_seq ?_
        refine wp_reg_seq tok (orc := orcL []) (fz := []) (l := [1, 2, 4, 5, 10, 112]) (c := _) (.inr fun i h => h) h (by kernel_rfl) (AllP.nil) ?_
        intro a w h
        refine wp_if h (b := (decide ((v2127 : Int) < (List.length x0.2.1 : Int)))) (by kernel_rfl) (fun hb => ?_) (fun hb => ?_)
        · replace hF := of_t hb hF
          refine wp_skip ?_
          refine wp_seq <| wp_block ?_
          obtain ⟨hc2407, hF⟩ := of_if hF
          refine wp_reg_seq tok (orc := orcL []) (fz := []) (l := [1, 2, 4, 5, 10, 11]) (c := _) (.inr fun i h => h) h (by kernel_rfl) (AllP.cons hc2407 AllP.nil) ?_
          intro a w h
          obtain ⟨r2268, hr2406, hF⟩ := of_bind hF
          refine wp_reg_seq tok (orc := orcL [(123, [⟨(.int .i64), r2268⟩])]) (fz := []) (l := [1, 2, 4, 5, 10, 11, 12]) (c := _) (.inr fun i h => h) h (by kernel_rfl) (AllP.cons (c137 k (List.getD x0.2.1 (Int.toNat v2127) ((0 : Int), (([] : (List Int)), ([] : (List (ByteArray × ByteArray)))))).2.2 x1 r2268 hr2406) AllP.nil) ?_
          intro a w h
          obtain ⟨r2269, hr2405, hF⟩ := of_bind hF
          refine wp_reg_seq tok (orc := orcL [(127, [⟨(.int .i64), r2269⟩])]) (fz := []) (l := [1, 2, 4, 5, 10, 11, 12, 13]) (c := _) (.inr fun i h => h) h (by kernel_rfl) (AllP.cons (c139 k (List.getD x0.2.1 (Int.toNat v2127) ((0 : Int), (([] : (List Int)), ([] : (List (ByteArray × ByteArray)))))).2.2 x1 r2269 hr2405) AllP.nil) ?_
          intro a w h
          refine wp_reg_seq tok (orc := orcL []) (fz := []) (l := [1, 2, 4, 5, 10, 11, 12, 13, 14]) (c := _) (.inr fun i h => h) h (by kernel_rfl) (AllP.nil) ?_
          intro a w h
          refine wp_block ?_
          refine wp_loop_fuel (f62.l2270 k x0 v2127 r2268 v698 r2269 ((f62.l1559 k x0 x1 v698) m1559)) (fun ((v2361, v2362) : ((List (Int × (Int × (Int × (Int × (Int × ByteArray)))))) × Int)) => [(1, .val (.int .i64) x1), (2, .val sh21 (some x0)), (4, .val sh27 (some (([] : (List (Int × (Int × Int)))), (([] : (List (Int × (Int × (Int × (Int × (Int × ByteArray))))))), ([] : (List (Int × Int))))))), (5, .val sh27 (some (v698, (v2361, ([] : (List (Int × Int))))))), (10, .val (.int .i64) v2127), (11, .val sh23 (some (List.getD x0.2.1 (Int.toNat v2127) ((0 : Int), (([] : (List Int)), ([] : (List (ByteArray × ByteArray)))))))), (12, .val (.int .i64) r2268), (13, .val (.int .i64) r2269), (14, .val (.int .i64) v2362)]) (fun v h => by obtain ⟨v2361, v2362⟩ := v; rw [f62.l2270] at h; cases h) ?_ hF (h.arrive (fz := []) (l := [1, 2, 4, 5, 10, 11, 12, 13, 14]) (.inr fun i h => h) (by kernel_rfl))
          intro m2270 v a w hF h
          obtain ⟨v2361, v2362⟩ := v
          rw [f62.l2270] at hF
          refine wp_seq ?_
          refine wp_reg_seq tok (orc := orcL []) (fz := []) (l := [1, 2, 4, 5, 10, 11, 12, 13, 14, 136]) (c := _) (.inr fun i h => h) h (by kernel_rfl) (AllP.nil) ?_
          intro a w h
          refine wp_if h (b := (bif (decide ((v2362 : Int) < (List.length (List.getD x0.2.1 (Int.toNat v2127) ((0 : Int), (([] : (List Int)), ([] : (List (ByteArray × ByteArray)))))).2.1 : Int))) then (decide ((r2268 : Int) > (0 : Int))) else false)) (by kernel_rfl) (fun hb => ?_) (fun hb => ?_)
          · replace hF := of_t hb hF
            refine wp_skip ?_
            refine wp_mid (fun a w => ∃ v : (List (Int × (Int × (Int × (Int × (Int × ByteArray)))))), f62.j2384 k v2362 ((f62.l2270 k x0 v2127 r2268 v698 r2269 ((f62.l1559 k x0 x1 v698) m1559)) m2270) v = some r ∧ Rel w0 (fun _ => False) Zi Try.f62.ntmps ((fun (v2383 : (List (Int × (Int × (Int × (Int × (Int × ByteArray))))))) => ([(1, .val (.int .i64) x1), (2, .val sh21 (some x0)), (4, .val sh27 (some (([] : (List (Int × (Int × Int)))), (([] : (List (Int × (Int × (Int × (Int × (Int × ByteArray))))))), ([] : (List (Int × Int))))))), (5, .val sh27 (some (v698, (v2383, ([] : (List (Int × Int))))))), (10, .val (.int .i64) v2127), (11, .val sh23 (some (List.getD x0.2.1 (Int.toNat v2127) ((0 : Int), (([] : (List Int)), ([] : (List (ByteArray × ByteArray)))))))), (12, .val (.int .i64) r2268), (13, .val (.int .i64) r2269), (14, .val (.int .i64) v2362)] : SS)) v) a w) ?_ ?_
            ·
              refine wp_block ?_
              obtain ⟨hc2403, hF⟩ := of_if hF
              obtain ⟨r2385, hr2404, hF⟩ := of_bind hF
              refine wp_regy_seq tok (orc := orcL [(146, [⟨(.int .i64), r2385⟩])]) (fz := []) (l := [1, 2, 4, 5, 10, 11, 12, 13, 14, 15]) (c := _) ([], [], [], []) 9 (.inr fun i h => h) h (by kernel_rfl) (by kernel_rfl) (AllP.cons hc2403 (AllP.cons (c131 k (v698, (v2361, ([] : (List (Int × Int))))) (List.getD (List.getD x0.2.1 (Int.toNat v2127) ((0 : Int), (([] : (List Int)), ([] : (List (ByteArray × ByteArray)))))).2.1 (Int.toNat (IntKind.i64.wrap (v2362 - (1 : Int)))) (0 : Int)) r2385 hr2404) AllP.nil)) ?_
              intro a w h
              obtain ⟨hc2401, hF⟩ := of_if hF
              obtain ⟨r2386, hr2402, hF⟩ := of_bind hF
              refine wp_regy_seq tok (orc := orcL [(153, [⟨(.int .i64), r2386⟩])]) (fz := []) (l := [1, 2, 4, 5, 10, 11, 12, 13, 14, 15, 16]) (c := _) ([], [], [], []) 8 (.inr fun i h => h) h (by kernel_rfl) (by kernel_rfl) (AllP.cons hc2401 (AllP.cons (c131 k (v698, (v2361, ([] : (List (Int × Int))))) (List.getD (List.getD x0.2.1 (Int.toNat v2127) ((0 : Int), (([] : (List Int)), ([] : (List (ByteArray × ByteArray)))))).2.1 (Int.toNat v2362) (0 : Int)) r2386 hr2402) AllP.nil)) ?_
              intro a w h
              obtain ⟨hc2398, hF⟩ := of_if hF
              obtain ⟨hc2399, hF⟩ := of_if hF
              obtain ⟨r2387, hr2400, hF⟩ := of_bind hF
              refine wp_regy_seq tok (orc := orcL [(166, [⟨(.int .i64), r2387⟩])]) (fz := []) (l := [1, 2, 4, 5, 10, 11, 12, 13, 14, 15, 16, 17]) (c := _) ([], [], [], []) 14 (.inr fun i h => h) h (by kernel_rfl) (by kernel_rfl) (AllP.cons hc2398 (AllP.cons hc2399 (AllP.cons (c140 k (List.getD v698 (Int.toNat r2385) ((0 : Int), ((0 : Int), (0 : Int)))).2 (List.getD v698 (Int.toNat r2386) ((0 : Int), ((0 : Int), (0 : Int)))).2 r2387 hr2400) AllP.nil))) ?_
              intro a w h
              obtain ⟨hc2397, hF⟩ := of_if hF
              refine wp_reg_seq tok (orc := orcL []) (fz := []) (l := [1, 2, 4, 5, 10, 11, 12, 13, 14, 15, 16, 17, 18]) (c := _) (.inr fun i h => h) h (by kernel_rfl) (AllP.cons hc2397 AllP.nil) ?_
              intro a w h
              refine wp_seq ?_
              refine wp_reg_seq tok (orc := orcL []) (fz := []) (l := [1, 2, 4, 5, 10, 11, 12, 13, 14, 15, 16, 17, 18, 174]) (c := _) (.inr fun i h => h) h (by kernel_rfl) (AllP.nil) ?_
              intro a w h
              refine wp_midT (fun a w => ∃ v : Int, f62.j2389 k x0 v2127 r2269 v2361 r2385 r2386 r2387 (f62.j2384 k v2362 ((f62.l2270 k x0 v2127 r2268 v698 r2269 ((f62.l1559 k x0 x1 v698) m1559)) m2270)) v = some r ∧ Rel w0 (fun _ => False) Zi Try.f62.ntmps ((fun (v2388 : Int) => ([(1, .val (.int .i64) x1), (2, .val sh21 (some x0)), (4, .val sh27 (some (([] : (List (Int × (Int × Int)))), (([] : (List (Int × (Int × (Int × (Int × (Int × ByteArray))))))), ([] : (List (Int × Int))))))), (5, .val sh27 (some (v698, (v2361, ([] : (List (Int × Int))))))), (10, .val (.int .i64) v2127), (11, .val sh23 (some (List.getD x0.2.1 (Int.toNat v2127) ((0 : Int), (([] : (List Int)), ([] : (List (ByteArray × ByteArray)))))))), (12, .val (.int .i64) r2268), (13, .val (.int .i64) r2269), (14, .val (.int .i64) v2362), (15, .val (.int .i64) r2385), (16, .val (.int .i64) r2386), (17, .val (.int .i64) r2387), (18, .val (.int .i64) v2388)] : SS)) v) a w) ?_ ?_
              ·
                refine wp_if h (b := (decide (((IntKind.i64.wrap (Int.tdiv (IntKind.i64.wrap ((IntKind.i64.wrap (r2387 + r2268)) - (1 : Int))) r2268)) : Int) < (1 : Int)))) (by kernel_rfl) (fun hb => ?_) (fun hb => ?_)
                · replace hF := of_t hb hF
                  refine wp_reg tok (orc := orcL []) (fz := []) (l := [1, 2, 4, 5, 10, 11, 12, 13, 14, 15, 16, 17, 18]) (c := _) (.inr fun i h => h) h (by kernel_rfl) (AllP.nil) ?_
                  intro a w h
                  exact ⟨(1 : Int), hF, h.arrive (fz := []) (l := [1, 2, 4, 5, 10, 11, 12, 13, 14, 15, 16, 17, 18]) (.inr fun i h => h) (by kernel_rfl)⟩
                · replace hF := of_f hb hF
                  refine wp_skip ?_
                  exact ⟨(IntKind.i64.wrap (Int.tdiv (IntKind.i64.wrap ((IntKind.i64.wrap (r2387 + r2268)) - (1 : Int))) r2268)), hF, h.arrive (fz := []) (l := [1, 2, 4, 5, 10, 11, 12, 13, 14, 15, 16, 17, 18]) (.inr fun i h => h) (by kernel_rfl)⟩
              · rintro a w ⟨v2388, hF, h⟩
                rw [f62.j2389] at hF
                obtain ⟨r2390, hr2396, hF⟩ := of_bind hF
                refine wp_regy_seq tok (orc := orcL [(183, [⟨.str, r2390⟩])]) (fz := []) (l := [1, 2, 4, 5, 10, 11, 12, 13, 14, 15, 16, 19]) (c := _) ([], [], [], []) 11 (.inr fun i h => h) h (by kernel_rfl) (by kernel_rfl) (AllP.cons (c141 k (List.getD x0.2.1 (Int.toNat v2127) ((0 : Int), (([] : (List Int)), ([] : (List (ByteArray × ByteArray)))))).2.2 (⟨#[110, 97, 109, 101]⟩ : ByteArray) r2390 hr2396) AllP.nil) ?_
                intro a w h
                refine wp_seq ?_
                refine wp_reg_seq tok (orc := orcL []) (fz := []) (l := [1, 2, 4, 5, 10, 11, 12, 13, 14, 15, 16, 19, 186]) (c := _) (.inr fun i h => h) h (by kernel_rfl) (AllP.nil) ?_
                intro a w h
                refine wp_midT (fun a w => ∃ v : (List (Int × (Int × (Int × (Int × (Int × ByteArray)))))), f62.j2393 k r2269 r2386 r2385 x0 v2127 v2388 r2387 r2390 (f62.j2384 k v2362 ((f62.l2270 k x0 v2127 r2268 v698 r2269 ((f62.l1559 k x0 x1 v698) m1559)) m2270)) v = some r ∧ Rel w0 (fun _ => False) Zi Try.f62.ntmps ((fun (v2392 : (List (Int × (Int × (Int × (Int × (Int × ByteArray))))))) => ([(1, .val (.int .i64) x1), (2, .val sh21 (some x0)), (4, .val sh27 (some (([] : (List (Int × (Int × Int)))), (([] : (List (Int × (Int × (Int × (Int × (Int × ByteArray))))))), ([] : (List (Int × Int))))))), (5, .val sh27 (some (v698, (v2392, ([] : (List (Int × Int))))))), (10, .val (.int .i64) v2127), (11, .val sh23 (some (List.getD x0.2.1 (Int.toNat v2127) ((0 : Int), (([] : (List Int)), ([] : (List (ByteArray × ByteArray)))))))), (12, .val (.int .i64) r2268), (13, .val (.int .i64) r2269), (14, .val (.int .i64) v2362), (15, .val (.int .i64) r2385), (16, .val (.int .i64) r2386), (19, .val sh30 (some (r2385, (r2386, ((List.getD x0.2.1 (Int.toNat v2127) ((0 : Int), (([] : (List Int)), ([] : (List (ByteArray × ByteArray)))))).1, (v2388, (r2387, r2390)))))))] : SS)) v) a w) ?_ ?_
                ·
                  refine wp_if h (b := ((r2269 : Int) != (-1 : Int))) (by kernel_rfl) (fun hb => ?_) (fun hb => ?_)
                  · replace hF := of_t hb hF
                    obtain ⟨hc2395, hF⟩ := of_if hF
                    refine wp_reg tok (orc := orcL [(191, [⟨.pt false 4294967293 .unit, some ()⟩])]) (fz := []) (l := [1, 2, 4, 5, 10, 11, 12, 13, 14, 15, 16, 19]) (c := _) (.inr fun i h => h) h (by kernel_rfl) (AllP.cons (PrefL.mk (l := [[.der, .snd, .fst], [.der, .snd, .fst]]) (p := [.der, .snd, .fst]) rfl) (AllP.cons hc2395 (AllP.cons (show ([.der, .snd, .fst] : Path) = [.der, .snd, .fst] from rfl) AllP.nil))) ?_
                    intro a w h
                    exact ⟨(List.append v2361 [(r2385, (r2386, ((List.getD x0.2.1 (Int.toNat v2127) ((0 : Int), (([] : (List Int)), ([] : (List (ByteArray × ByteArray)))))).1, (v2388, (r2387, r2390)))))]), hF, h.arrive (fz := []) (l := [1, 2, 4, 5, 10, 11, 12, 13, 14, 15, 16, 19]) (.inr fun i h => h) (by kernel_rfl)⟩
                  · replace hF := of_f hb hF
                    refine wp_skip ?_
                    exact ⟨v2361, hF, h.arrive (fz := []) (l := [1, 2, 4, 5, 10, 11, 12, 13, 14, 15, 16, 19]) (.inr fun i h => h) (by kernel_rfl)⟩
                · rintro a w ⟨v2392, hF, h⟩
                  rw [f62.j2393] at hF
                  refine wp_reg_seq tok (orc := orcL []) (fz := []) (l := [1, 2, 4, 5, 10, 11, 12, 13, 14, 15, 16, 19, 194]) (c := _) (.inr fun i h => h) h (by kernel_rfl) (AllP.nil) ?_
                  intro a w h
                  refine wp_if h (b := ((r2269 : Int) != (1 : Int))) (by kernel_rfl) (fun hb => ?_) (fun hb => ?_)
                  · replace hF := of_t hb hF
                    refine wp_reg_seq tok (orc := orcL []) (fz := []) (l := [1, 2, 4, 5, 10, 11, 12, 13, 14, 15, 19]) (c := _) (.inr fun i h => h) h (by kernel_rfl) (AllP.nil) ?_
                    intro a w h
                    refine wp_reg_seq tok (orc := orcL []) (fz := []) (l := [1, 2, 4, 5, 10, 11, 12, 13, 14, 19]) (c := _) (.inr fun i h => h) h (by kernel_rfl) (AllP.nil) ?_
                    intro a w h
                    obtain ⟨hc2394, hF⟩ := of_if hF
                    refine wp_reg tok (orc := orcL [(203, [⟨.pt false 4294967293 .unit, some ()⟩])]) (fz := []) (l := [1, 2, 4, 5, 10, 11, 12, 13, 14]) (c := _) (.inr fun i h => h) h (by kernel_rfl) (AllP.cons (PrefL.mk (l := [[.der, .snd, .fst], [.der, .snd, .fst]]) (p := [.der, .snd, .fst]) rfl) (AllP.cons hc2394 (AllP.cons (show ([.der, .snd, .fst] : Path) = [.der, .snd, .fst] from rfl) AllP.nil))) ?_
                    intro a w h
                    exact ⟨(List.append v2392 [(r2386, (r2385, ((List.getD x0.2.1 (Int.toNat v2127) ((0 : Int), (([] : (List Int)), ([] : (List (ByteArray × ByteArray)))))).1, (v2388, (r2387, r2390)))))]), hF, h.arrive (fz := []) (l := [1, 2, 4, 5, 10, 11, 12, 13, 14]) (.inr fun i h => h) (by kernel_rfl)⟩
                  · replace hF := of_f hb hF
                    refine wp_skip ?_
                    exact ⟨v2392, hF, h.arrive (fz := []) (l := [1, 2, 4, 5, 10, 11, 12, 13, 14]) (.inr fun i h => h) (by kernel_rfl)⟩
            · rintro a w ⟨v2383, hF, h⟩
              rw [f62.j2384] at hF
              refine wp_reg tok (orc := orcL []) (fz := []) (l := [1, 2, 4, 5, 10, 11, 12, 13, 14]) (c := _) (.inr fun i h => h) h (by kernel_rfl) (AllP.nil) ?_
              intro a w h
              exact ⟨(v2383, (IntKind.i64.wrap (v2362 + (1 : Int)))), hF, h.arrive (fz := []) (l := [1, 2, 4, 5, 10, 11, 12, 13, 14]) (.inr fun i h => h) (by kernel_rfl)⟩
          · replace hF := of_f hb hF
            refine wp_exit ?_
            refine wp_reg tok (orc := orcL []) (fz := []) (l := [1, 2, 4, 5, 10]) (c := _) (.inr fun i h => h) h (by kernel_rfl) (AllP.nil) ?_
            intro a w h
            exact ⟨(v2361, (IntKind.i64.wrap (v2127 + (1 : Int)))), hF, h.arrive (fz := []) (l := [1, 2, 4, 5, 10]) (.inr fun i h => h) (by kernel_rfl)⟩
        · replace hF := of_f hb hF
          refine wp_exit ?_
          refine wp_seq ?_
          obtain ⟨r2408, hr2409, hF⟩ := of_bind hF
          refine wp_reg_seq tok (orc := orcL [(206, [⟨.bool, r2408⟩])]) (fz := []) (l := [4, 5, 207]) (c := _) (.inr fun i h => h) h (by kernel_rfl) (AllP.cons (c70 k (v698, (v2126, ([] : (List (Int × Int))))) r2408 hr2409) AllP.nil) ?_
          intro a w h
          refine wp_if h (b := (!r2408)) (by kernel_rfl) (fun hb => ?_) (fun hb => ?_)
          · replace hF := of_t hb hF
            refine wp_reg_seq tok (orc := orcL []) (fz := []) (l := [4]) (c := _) (.inr fun i h => h) h (by kernel_rfl) (AllP.nil) ?_
            intro a w h
            cases hF
            exact wp_ret (ret_okR tok h rfl (by kernel_rfl)).1
          · replace hF := of_f hb hF
            refine wp_skip ?_
            refine wp_reg_seq tok (orc := orcL []) (fz := []) (l := [4]) (c := _) (.inr fun i h => h) h (by kernel_rfl) (AllP.nil) ?_
            intro a w h
            cases hF
            exact wp_ret (ret_okR tok h rfl (by kernel_rfl)).1

def f168 (k : Nat) (x0 : Int) : Option Bool := some (bif (decide ((x0 : Int) ≥ (1 : Int))) then (decide ((x0 : Int) ≤ (1000000000 : Int))) else false)
set_option maxRecDepth 100000 in
/-- 'impl.idOk'. -/
theorem c168 (k : Nat) (x0 : Int) (r : Bool) (hF : f168 k x0 = some r) : PCall Try.prog 168 [⟨(.int .i64), x0⟩] [⟨.bool, r⟩] := by
  refine pcall_intro Try.func168 rfl rfl (Nat.le_of_ble_eq_true rfl) ?_
  intro w0 Zi a w h
  rw [f168] at hF
  refine wp_reg_seq tok (orc := orcL []) (fz := []) (l := [0]) (c := _) (.inr fun i h => h) h (by kernel_rfl) (AllP.nil) ?_
  intro a w h
  refine wp_reg_seq tok (orc := orcL []) (fz := []) (l := [2]) (c := _) (.inr fun i h => h) h (by kernel_rfl) (AllP.nil) ?_
  intro a w h
  cases hF
  exact wp_ret (ret_okR tok h rfl (by kernel_rfl)).1

def f169 (k : Nat) (x0 : (Int × Int)) : Option Bool := some (bif (bif (bif (decide ((x0.1 : Int) ≥ (-10000000 : Int))) then (decide ((x0.1 : Int) ≤ (10000000 : Int))) else false) then (decide ((x0.2 : Int) ≥ (-10000000 : Int))) else false) then (decide ((x0.2 : Int) ≤ (10000000 : Int))) else false)
set_option maxRecDepth 100000 in
/-- 'impl.PointOk'. -/
theorem c169 (k : Nat) (x0 : (Int × Int)) (r : Bool) (hF : f169 k x0 = some r) : PCall Try.prog 169 [⟨sh9, x0⟩] [⟨.bool, r⟩] := by
  refine pcall_intro Try.func169 rfl rfl (Nat.le_of_ble_eq_true rfl) ?_
  intro w0 Zi a w h
  rw [f169] at hF
  refine wp_reg_seq tok (orc := orcL []) (fz := []) (l := [1]) (c := _) (.inr fun i h => h) h (by kernel_rfl) (AllP.nil) ?_
  intro a w h
  refine wp_reg_seq tok (orc := orcL []) (fz := []) (l := [2]) (c := _) (.inr fun i h => h) h (by kernel_rfl) (AllP.nil) ?_
  intro a w h
  cases hF
  exact wp_ret (ret_okR tok h rfl (by kernel_rfl)).1

def f246.l12 (k : Nat) (x0 : ByteArray) : Nat → Int → Option Bool
  | 0, _ => none
  | m12 + 1, v20 => if (decide ((v20 : Int) < (ByteArray.size x0 : Int))) then (if ((0 : Int) ≤ v20 ∧ (v20 : Int) < (ByteArray.size x0 : Int)) then (if (!(bif (bif (bif (bif (decide (((byteAt x0 v20) : Int) ≥ (97 : Int))) then (decide (((byteAt x0 v20) : Int) ≤ (122 : Int))) else false) then true else (bif (decide (((byteAt x0 v20) : Int) ≥ (48 : Int))) then (decide (((byteAt x0 v20) : Int) ≤ (57 : Int))) else false)) then true else (((byteAt x0 v20) : Int) == (58 : Int))) then true else (((byteAt x0 v20) : Int) == (95 : Int)))) then (some false) else ((f246.l12 k x0) m12 (IntKind.i64.wrap (v20 + (1 : Int))))) else none) else (some true)
def f246 (k : Nat) (x0 : ByteArray) : Option Bool := if (bif (decide (((ByteArray.size x0 : Int) : Int) < (1 : Int))) then true else (decide (((ByteArray.size x0 : Int) : Int) > (40 : Int)))) then (some false) else (f246.l12 k x0 k (0 : Int))
set_option maxRecDepth 100000 in
/-- 'impl.wordOk'. -/
theorem c246 (k : Nat) (x0 : ByteArray) (r : Bool) (hF : f246 k x0 = some r) : PCall Try.prog 246 [⟨.str, x0⟩] [⟨.bool, r⟩] := by
  refine pcall_intro Try.func246 rfl rfl (Nat.le_of_ble_eq_true rfl) ?_
  intro w0 Zi a w h
  rw [f246] at hF
  refine wp_reg_seq tok (orc := orcL []) (fz := []) (l := [0]) (c := _) (.inr fun i h => h) h (by kernel_rfl) (AllP.nil) ?_
  intro a w h
  refine wp_seq ?_
  refine wp_reg_seq tok (orc := orcL []) (fz := []) (l := [0, 12]) (c := _) (.inr fun i h => h) h (by kernel_rfl) (AllP.nil) ?_
  intro a w h
  refine wp_if h (b := (bif (decide (((ByteArray.size x0 : Int) : Int) < (1 : Int))) then true else (decide (((ByteArray.size x0 : Int) : Int) > (40 : Int))))) (by kernel_rfl) (fun hb => ?_) (fun hb => ?_)
  · replace hF := of_t hb hF
    refine wp_reg_seq tok (orc := orcL []) (fz := []) (l := [2]) (c := _) (.inr fun i h => h) h (by kernel_rfl) (AllP.nil) ?_
    intro a w h
    cases hF
    exact wp_ret (ret_okR tok h rfl (by kernel_rfl)).1
  · replace hF := of_f hb hF
    refine wp_skip ?_
    refine wp_seq ?_
    refine wp_reg_seq tok (orc := orcL []) (fz := []) (l := [0, 3]) (c := _) (.inr fun i h => h) h (by kernel_rfl) (AllP.nil) ?_
    intro a w h
    refine wp_block ?_
    refine wp_loop_fuel (f246.l12 k x0) (fun (v20 : Int) => [(0, .val .str x0), (3, .val (.int .i64) v20)]) (fun v h => by rw [f246.l12] at h; cases h) ?_ hF (h.arrive (fz := []) (l := [0, 3]) (.inr fun i h => h) (by kernel_rfl))
    intro m12 v20 a w hF h
    rw [f246.l12] at hF
    refine wp_seq ?_
    refine wp_reg_seq tok (orc := orcL []) (fz := []) (l := [0, 3, 16]) (c := _) (.inr fun i h => h) h (by kernel_rfl) (AllP.nil) ?_
    intro a w h
    refine wp_if h (b := (decide ((v20 : Int) < (ByteArray.size x0 : Int)))) (by kernel_rfl) (fun hb => ?_) (fun hb => ?_)
    · replace hF := of_t hb hF
      refine wp_skip ?_
      refine wp_seq <| wp_block ?_
      obtain ⟨hc22, hF⟩ := of_if hF
      refine wp_reg_seq tok (orc := orcL []) (fz := []) (l := [0, 3, 4]) (c := _) (.inr fun i h => h) h (by kernel_rfl) (AllP.cons hc22 AllP.nil) ?_
      intro a w h
      refine wp_reg_seq tok (orc := orcL []) (fz := []) (l := [0, 3, 44]) (c := _) (.inr fun i h => h) h (by kernel_rfl) (AllP.nil) ?_
      intro a w h
      refine wp_if h (b := (!(bif (bif (bif (bif (decide (((byteAt x0 v20) : Int) ≥ (97 : Int))) then (decide (((byteAt x0 v20) : Int) ≤ (122 : Int))) else false) then true else (bif (decide (((byteAt x0 v20) : Int) ≥ (48 : Int))) then (decide (((byteAt x0 v20) : Int) ≤ (57 : Int))) else false)) then true else (((byteAt x0 v20) : Int) == (58 : Int))) then true else (((byteAt x0 v20) : Int) == (95 : Int))))) (by kernel_rfl) (fun hb => ?_) (fun hb => ?_)
      · replace hF := of_t hb hF
        refine wp_reg_seq tok (orc := orcL []) (fz := []) (l := [2]) (c := _) (.inr fun i h => h) h (by kernel_rfl) (AllP.nil) ?_
        intro a w h
        cases hF
        exact wp_ret (ret_okR tok h rfl (by kernel_rfl)).1
      · replace hF := of_f hb hF
        refine wp_skip ?_
        refine wp_reg tok (orc := orcL []) (fz := []) (l := [0, 3]) (c := _) (.inr fun i h => h) h (by kernel_rfl) (AllP.nil) ?_
        intro a w h
        exact ⟨(IntKind.i64.wrap (v20 + (1 : Int))), hF, h.arrive (fz := []) (l := [0, 3]) (.inr fun i h => h) (by kernel_rfl)⟩
    · replace hF := of_f hb hF
      refine wp_exit ?_
      refine wp_reg_seq tok (orc := orcL []) (fz := []) (l := [2]) (c := _) (.inr fun i h => h) h (by kernel_rfl) (AllP.nil) ?_
      intro a w h
      cases hF
      exact wp_ret (ret_okR tok h rfl (by kernel_rfl)).1

def f208.l266 (k : Nat) (x0 : (List (ByteArray × ByteArray))) (v240 : Int) (q144 : Int → Option Bool) : Nat → Int → Option Bool
  | 0, _ => none
  | m266 + 1, v278 => if (decide ((v278 : Int) < (ByteArray.size (List.getD x0 (Int.toNat v240) ((⟨#[]⟩ : ByteArray), (⟨#[]⟩ : ByteArray))).2 : Int))) then (if ((0 : Int) ≤ v278 ∧ (v278 : Int) < (ByteArray.size (List.getD x0 (Int.toNat v240) ((⟨#[]⟩ : ByteArray), (⟨#[]⟩ : ByteArray))).2 : Int)) then (if (((decide (((byteAt (List.getD x0 (Int.toNat v240) ((⟨#[]⟩ : ByteArray), (⟨#[]⟩ : ByteArray))).2 v278) : Int) < (32 : Int))) = false) → ((0 : Int) ≤ v278 ∧ (v278 : Int) < (ByteArray.size (List.getD x0 (Int.toNat v240) ((⟨#[]⟩ : ByteArray), (⟨#[]⟩ : ByteArray))).2 : Int))) then (if (bif (decide (((byteAt (List.getD x0 (Int.toNat v240) ((⟨#[]⟩ : ByteArray), (⟨#[]⟩ : ByteArray))).2 v278) : Int) < (32 : Int))) then true else (decide (((byteAt (List.getD x0 (Int.toNat v240) ((⟨#[]⟩ : ByteArray), (⟨#[]⟩ : ByteArray))).2 v278) : Int) > (126 : Int)))) then (some false) else ((f208.l266 k x0 v240 q144) m266 (IntKind.i64.wrap (v278 + (1 : Int))))) else none) else none) else (q144 (IntKind.i64.wrap (v240 + (1 : Int))))
def f208.l144 (k : Nat) (x0 : (List (ByteArray × ByteArray))) : Nat → Int → Option Bool
  | 0, _ => none
  | m144 + 1, v240 => if (decide ((v240 : Int) < (List.length x0 : Int))) then (if (0 ≤ v240 ∧ v240 < (List.length x0 : Int)) then ((f246 k (List.getD x0 (Int.toNat v240) ((⟨#[]⟩ : ByteArray), (⟨#[]⟩ : ByteArray))).1).bind fun r264 => (if ((((bif (bif (!r264) then true else (decide (((ByteArray.size (List.getD x0 (Int.toNat v240) ((⟨#[]⟩ : ByteArray), (⟨#[]⟩ : ByteArray))).2 : Int) : Int) < (1 : Int)))) then true else (decide (((ByteArray.size (List.getD x0 (Int.toNat v240) ((⟨#[]⟩ : ByteArray), (⟨#[]⟩ : ByteArray))).2 : Int) : Int) > (100 : Int)))) = false) ∧ ((decide ((v240 : Int) > (0 : Int))) = true)) → (0 ≤ (IntKind.i64.wrap (v240 - (1 : Int))) ∧ (IntKind.i64.wrap (v240 - (1 : Int))) < (List.length x0 : Int))) then ((some ((bif (bif (bif (!r264) then true else (decide (((ByteArray.size (List.getD x0 (Int.toNat v240) ((⟨#[]⟩ : ByteArray), (⟨#[]⟩ : ByteArray))).2 : Int) : Int) < (1 : Int)))) then true else (decide (((ByteArray.size (List.getD x0 (Int.toNat v240) ((⟨#[]⟩ : ByteArray), (⟨#[]⟩ : ByteArray))).2 : Int) : Int) > (100 : Int)))) then true else (bif (decide ((v240 : Int) > (0 : Int))) then (!(Op.bytesLess (ByteArray.toList (List.getD x0 (Int.toNat (IntKind.i64.wrap (v240 - (1 : Int)))) ((⟨#[]⟩ : ByteArray), (⟨#[]⟩ : ByteArray))).1) (ByteArray.toList (List.getD x0 (Int.toNat v240) ((⟨#[]⟩ : ByteArray), (⟨#[]⟩ : ByteArray))).1))) else false)) : Bool)).bind fun v265 => (if v265 then (some false) else (f208.l266 k x0 v240 ((f208.l144 k x0) m144) k (0 : Int)))) else none)) else none) else (some true)
def f208 (k : Nat) (x0 : (List (ByteArray × ByteArray))) : Option Bool := if (decide (((List.length x0 : Int) : Int) > (30 : Int))) then (some false) else (f208.l144 k x0 k (0 : Int))
set_option maxRecDepth 100000 in
/-- 'impl.TagsOk'. -/
theorem c208 (k : Nat) (x0 : (List (ByteArray × ByteArray))) (r : Bool) (hF : f208 k x0 = some r) : PCall Try.prog 208 [⟨sh20, x0⟩] [⟨.bool, r⟩] := by
  refine pcall_intro Try.func208 rfl rfl (Nat.le_of_ble_eq_true rfl) ?_
  intro w0 Zi a w h
  rw [f208] at hF
  refine wp_reg_seq tok (orc := orcL []) (fz := []) (l := [0]) (c := _) (.inr fun i h => h) h (by kernel_rfl) (AllP.nil) ?_
  intro a w h
  refine wp_seq ?_
  refine wp_reg_seq tok (orc := orcL []) (fz := []) (l := [0, 8]) (c := _) (.inr fun i h => h) h (by kernel_rfl) (AllP.nil) ?_
  intro a w h
  refine wp_if h (b := (decide (((List.length x0 : Int) : Int) > (30 : Int)))) (by kernel_rfl) (fun hb => ?_) (fun hb => ?_)
  · replace hF := of_t hb hF
    refine wp_reg_seq tok (orc := orcL []) (fz := []) (l := [2]) (c := _) (.inr fun i h => h) h (by kernel_rfl) (AllP.nil) ?_
    intro a w h
    cases hF
    exact wp_ret (ret_okR tok h rfl (by kernel_rfl)).1
  · replace hF := of_f hb hF
    refine wp_skip ?_
    refine wp_seq ?_
    refine wp_reg_seq tok (orc := orcL []) (fz := []) (l := [0, 9, 10, 11]) (c := _) (.inr fun i h => h) h (by kernel_rfl) (AllP.nil) ?_
    intro a w h
    refine wp_block ?_
    refine wp_loop_fuel (f208.l144 k x0) (fun (v240 : Int) => [(0, .val sh20 x0), (9, .val sh20 x0), (10, .val (.int .i64) (List.length x0 : Int)), (11, .val (.int .i64) v240)]) (fun v h => by rw [f208.l144] at h; cases h) ?_ hF (h.arrive (fz := []) (l := [0, 9, 10, 11]) (.inr fun i h => h) (by kernel_rfl))
    intro m144 v240 a w hF h
    rw [f208.l144] at hF
    refine wp_reg_seq tok (orc := orcL []) (fz := []) (l := [0, 9, 10, 11, 12]) (c := _) (.inr fun i h => h) h (by kernel_rfl) (AllP.nil) ?_
    intro a w h
    refine wp_seq <| wp_if h (b := (decide ((v240 : Int) < (List.length x0 : Int)))) (by kernel_rfl) (fun hb => ?_) (fun hb => ?_)
    · replace hF := of_t hb hF
      refine wp_skip ?_
      refine wp_seq <| wp_block ?_
      obtain ⟨hc286, hF⟩ := of_if hF
      refine wp_reg_seq tok (orc := orcL []) (fz := []) (l := [0, 3, 4, 9, 10, 11]) (c := _) (.inr fun i h => h) h (by kernel_rfl) (AllP.cons hc286 AllP.nil) ?_
      intro a w h
      refine wp_seq ?_
      obtain ⟨r264, hr284, hF⟩ := of_bind hF
      obtain ⟨hc285, hF⟩ := of_if hF
      refine wp_regy_seq tok (orc := orcL [(18, [⟨.bool, r264⟩])]) (fz := []) (l := [0, 4, 9, 10, 11, 46]) (c := _) ([], [], [], []) 31 (.inr fun i h => h) h (by kernel_rfl) (by kernel_rfl) (AllP.cons (c246 k (List.getD x0 (Int.toNat v240) ((⟨#[]⟩ : ByteArray), (⟨#[]⟩ : ByteArray))).1 r264 hr284) (AllP.cons hc285 AllP.nil)) ?_
      intro a w h
      obtain ⟨v265, hv283, hF⟩ := of_bind hF
      replace h := h.cast (S' := [(0, .val sh20 x0), (4, .val sh32 (some (List.getD x0 (Int.toNat v240) ((⟨#[]⟩ : ByteArray), (⟨#[]⟩ : ByteArray))))), (9, .val sh20 x0), (10, .val (.int .i64) (List.length x0 : Int)), (11, .val (.int .i64) v240), (46, .val .bool v265)]) (by cases hv283; kernel_rfl)
      refine wp_if h (b := v265) (by kernel_rfl) (fun hb => ?_) (fun hb => ?_)
      · replace hF := of_t hb hF
        refine wp_reg_seq tok (orc := orcL []) (fz := []) (l := [2]) (c := _) (.inr fun i h => h) h (by kernel_rfl) (AllP.nil) ?_
        intro a w h
        cases hF
        exact wp_ret (ret_okR tok h rfl (by kernel_rfl)).1
      · replace hF := of_f hb hF
        refine wp_skip ?_
        refine wp_reg_seq tok (orc := orcL []) (fz := []) (l := [0, 4, 5, 9, 10, 11]) (c := _) (.inr fun i h => h) h (by kernel_rfl) (AllP.nil) ?_
        intro a w h
        refine wp_block ?_
        refine wp_loop_fuel (f208.l266 k x0 v240 ((f208.l144 k x0) m144)) (fun (v278 : Int) => [(0, .val sh20 x0), (4, .val sh32 (some (List.getD x0 (Int.toNat v240) ((⟨#[]⟩ : ByteArray), (⟨#[]⟩ : ByteArray))))), (5, .val (.int .i64) v278), (9, .val sh20 x0), (10, .val (.int .i64) (List.length x0 : Int)), (11, .val (.int .i64) v240)]) (fun v h => by rw [f208.l266] at h; cases h) ?_ hF (h.arrive (fz := []) (l := [0, 4, 5, 9, 10, 11]) (.inr fun i h => h) (by kernel_rfl))
        intro m266 v278 a w hF h
        rw [f208.l266] at hF
        refine wp_seq ?_
        refine wp_reg_seq tok (orc := orcL []) (fz := []) (l := [0, 4, 5, 9, 10, 11, 51]) (c := _) (.inr fun i h => h) h (by kernel_rfl) (AllP.nil) ?_
        intro a w h
        refine wp_if h (b := (decide ((v278 : Int) < (ByteArray.size (List.getD x0 (Int.toNat v240) ((⟨#[]⟩ : ByteArray), (⟨#[]⟩ : ByteArray))).2 : Int)))) (by kernel_rfl) (fun hb => ?_) (fun hb => ?_)
        · replace hF := of_t hb hF
          refine wp_skip ?_
          refine wp_seq <| wp_block ?_
          obtain ⟨hc281, hF⟩ := of_if hF
          obtain ⟨hc282, hF⟩ := of_if hF
          refine wp_reg_seq tok (orc := orcL []) (fz := []) (l := [0, 4, 5, 9, 10, 11, 65]) (c := _) (.inr fun i h => h) h (by kernel_rfl) (AllP.cons hc281 (AllP.cons hc282 AllP.nil)) ?_
          intro a w h
          refine wp_if h (b := (bif (decide (((byteAt (List.getD x0 (Int.toNat v240) ((⟨#[]⟩ : ByteArray), (⟨#[]⟩ : ByteArray))).2 v278) : Int) < (32 : Int))) then true else (decide (((byteAt (List.getD x0 (Int.toNat v240) ((⟨#[]⟩ : ByteArray), (⟨#[]⟩ : ByteArray))).2 v278) : Int) > (126 : Int))))) (by kernel_rfl) (fun hb => ?_) (fun hb => ?_)
          · replace hF := of_t hb hF
            refine wp_reg_seq tok (orc := orcL []) (fz := []) (l := [2]) (c := _) (.inr fun i h => h) h (by kernel_rfl) (AllP.nil) ?_
            intro a w h
            cases hF
            exact wp_ret (ret_okR tok h rfl (by kernel_rfl)).1
          · replace hF := of_f hb hF
            refine wp_skip ?_
            refine wp_reg tok (orc := orcL []) (fz := []) (l := [0, 4, 5, 9, 10, 11]) (c := _) (.inr fun i h => h) h (by kernel_rfl) (AllP.nil) ?_
            intro a w h
            exact ⟨(IntKind.i64.wrap (v278 + (1 : Int))), hF, h.arrive (fz := []) (l := [0, 4, 5, 9, 10, 11]) (.inr fun i h => h) (by kernel_rfl)⟩
        · replace hF := of_f hb hF
          refine wp_exit ?_
          refine wp_reg tok (orc := orcL []) (fz := []) (l := [0, 9, 10, 11]) (c := _) (.inr fun i h => h) h (by kernel_rfl) (AllP.nil) ?_
          intro a w h
          exact ⟨(IntKind.i64.wrap (v240 + (1 : Int))), hF, h.arrive (fz := []) (l := [0, 9, 10, 11]) (.inr fun i h => h) (by kernel_rfl)⟩
    · replace hF := of_f hb hF
      refine wp_exit ?_
      refine wp_reg_seq tok (orc := orcL []) (fz := []) (l := [2]) (c := _) (.inr fun i h => h) h (by kernel_rfl) (AllP.nil) ?_
      intro a w h
      cases hF
      exact wp_ret (ret_okR tok h rfl (by kernel_rfl)).1

def f145.l891 (k : Nat) (x0 : ((List (Int × ((Int × Int) × (List (ByteArray × ByteArray))))) × ((List (Int × ((List Int) × (List (ByteArray × ByteArray))))) × (List (Int × ((List (Int × Bool)) × (List (ByteArray × ByteArray)))))))) (v792 : Int) (v97 : (List (Int × Bool))) (v791 : (List (Int × Bool))) (q520 : ((List (Int × Bool)) × Int) → Option Bool) : Nat → Int → Option Bool
  | 0, _ => none
  | m891 + 1, v911 => if (decide ((v911 : Int) < (List.length (List.getD x0.2.1 (Int.toNat v792) ((0 : Int), (([] : (List Int)), ([] : (List (ByteArray × ByteArray)))))).2.1 : Int))) then (if (0 ≤ v911 ∧ v911 < (List.length (List.getD x0.2.1 (Int.toNat v792) ((0 : Int), (([] : (List Int)), ([] : (List (ByteArray × ByteArray)))))).2.1 : Int)) then (if ((((!(mget (Sh.beq (.int .i64)) (some v97) (List.getD (List.getD x0.2.1 (Int.toNat v792) ((0 : Int), (([] : (List Int)), ([] : (List (ByteArray × ByteArray)))))).2.1 (Int.toNat v911) (0 : Int)) false)) = false) ∧ ((decide ((v911 : Int) > (0 : Int))) = true)) → (0 ≤ (IntKind.i64.wrap (v911 - (1 : Int))) ∧ (IntKind.i64.wrap (v911 - (1 : Int))) < (List.length (List.getD x0.2.1 (Int.toNat v792) ((0 : Int), (([] : (List Int)), ([] : (List (ByteArray × ByteArray)))))).2.1 : Int))) then ((some ((bif (!(mget (Sh.beq (.int .i64)) (some v97) (List.getD (List.getD x0.2.1 (Int.toNat v792) ((0 : Int), (([] : (List Int)), ([] : (List (ByteArray × ByteArray)))))).2.1 (Int.toNat v911) (0 : Int)) false)) then true else (bif (decide ((v911 : Int) > (0 : Int))) then (((List.getD (List.getD x0.2.1 (Int.toNat v792) ((0 : Int), (([] : (List Int)), ([] : (List (ByteArray × ByteArray)))))).2.1 (Int.toNat (IntKind.i64.wrap (v911 - (1 : Int)))) (0 : Int)) : Int) == (List.getD (List.getD x0.2.1 (Int.toNat v792) ((0 : Int), (([] : (List Int)), ([] : (List (ByteArray × ByteArray)))))).2.1 (Int.toNat v911) (0 : Int))) else false)) : Bool)).bind fun v916 => (if v916 then (some false) else ((f145.l891 k x0 v792 v97 v791 q520) m891 (IntKind.i64.wrap (v911 + (1 : Int)))))) else none) else none) else (q520 ((mput (Sh.beq (.int .i64)) (List.getD x0.2.1 (Int.toNat v792) ((0 : Int), (([] : (List Int)), ([] : (List (ByteArray × ByteArray)))))).1 true v791), (IntKind.i64.wrap (v792 + (1 : Int)))))
def f145.l1191 (k : Nat) (x0 : ((List (Int × ((Int × Int) × (List (ByteArray × ByteArray))))) × ((List (Int × ((List Int) × (List (ByteArray × ByteArray))))) × (List (Int × ((List (Int × Bool)) × (List (ByteArray × ByteArray)))))))) (v1164 : Int) (v791 : (List (Int × Bool))) (q1068 : Int → Option Bool) : Nat → ((List (Int × Bool)) × Int) → Option Bool
  | 0, _ => none
  | m1191 + 1, (v1202, v1203) => if (decide ((v1203 : Int) < (List.length (List.getD x0.2.2 (Int.toNat v1164) ((0 : Int), (([] : (List (Int × Bool))), ([] : (List (ByteArray × ByteArray)))))).2.1 : Int))) then (if (0 ≤ v1203 ∧ v1203 < (List.length (List.getD x0.2.2 (Int.toNat v1164) ((0 : Int), (([] : (List (Int × Bool))), ([] : (List (ByteArray × ByteArray)))))).2.1 : Int)) then (if (bif (!(mget (Sh.beq (.int .i64)) (some v791) (List.getD (List.getD x0.2.2 (Int.toNat v1164) ((0 : Int), (([] : (List (Int × Bool))), ([] : (List (ByteArray × ByteArray)))))).2.1 (Int.toNat v1203) ((0 : Int), false)).1 false)) then true else (mget (Sh.beq (.int .i64)) (some v1202) (List.getD (List.getD x0.2.2 (Int.toNat v1164) ((0 : Int), (([] : (List (Int × Bool))), ([] : (List (ByteArray × ByteArray)))))).2.1 (Int.toNat v1203) ((0 : Int), false)).1 false)) then (some false) else ((f145.l1191 k x0 v1164 v791 q1068) m1191 ((mput (Sh.beq (.int .i64)) (List.getD (List.getD x0.2.2 (Int.toNat v1164) ((0 : Int), (([] : (List (Int × Bool))), ([] : (List (ByteArray × ByteArray)))))).2.1 (Int.toNat v1203) ((0 : Int), false)).1 true v1202), (IntKind.i64.wrap (v1203 + (1 : Int)))))) else none) else (q1068 (IntKind.i64.wrap (v1164 + (1 : Int))))
def f145.l1068 (k : Nat) (x0 : ((List (Int × ((Int × Int) × (List (ByteArray × ByteArray))))) × ((List (Int × ((List Int) × (List (ByteArray × ByteArray))))) × (List (Int × ((List (Int × Bool)) × (List (ByteArray × ByteArray)))))))) (v791 : (List (Int × Bool))) : Nat → Int → Option Bool
  | 0, _ => none
  | m1068 + 1, v1164 => if (decide ((v1164 : Int) < (List.length x0.2.2 : Int))) then (if (0 ≤ v1164 ∧ v1164 < (List.length x0.2.2 : Int)) then ((f168 k (List.getD x0.2.2 (Int.toNat v1164) ((0 : Int), (([] : (List (Int × Bool))), ([] : (List (ByteArray × ByteArray)))))).1).bind fun r1188 => (if ((((!r1188) = false) ∧ ((decide ((v1164 : Int) > (0 : Int))) = true)) → (0 ≤ (IntKind.i64.wrap (v1164 - (1 : Int))) ∧ (IntKind.i64.wrap (v1164 - (1 : Int))) < (List.length x0.2.2 : Int))) then ((if ((bif (bif (bif (!r1188) then true else (bif (decide ((v1164 : Int) > (0 : Int))) then (decide (((List.getD x0.2.2 (Int.toNat (IntKind.i64.wrap (v1164 - (1 : Int)))) ((0 : Int), (([] : (List (Int × Bool))), ([] : (List (ByteArray × ByteArray)))))).1 : Int) ≥ (List.getD x0.2.2 (Int.toNat v1164) ((0 : Int), (([] : (List (Int × Bool))), ([] : (List (ByteArray × ByteArray)))))).1)) else false)) then true else (decide (((List.length (List.getD x0.2.2 (Int.toNat v1164) ((0 : Int), (([] : (List (Int × Bool))), ([] : (List (ByteArray × ByteArray)))))).2.1 : Int) : Int) < (1 : Int)))) then true else (decide (((List.length (List.getD x0.2.2 (Int.toNat v1164) ((0 : Int), (([] : (List (Int × Bool))), ([] : (List (ByteArray × ByteArray)))))).2.1 : Int) : Int) > (30 : Int)))) = false) then f208 k (List.getD x0.2.2 (Int.toNat v1164) ((0 : Int), (([] : (List (Int × Bool))), ([] : (List (ByteArray × ByteArray)))))).2.2 else some default).bind fun r1189 => ((some ((bif (bif (bif (bif (!r1188) then true else (bif (decide ((v1164 : Int) > (0 : Int))) then (decide (((List.getD x0.2.2 (Int.toNat (IntKind.i64.wrap (v1164 - (1 : Int)))) ((0 : Int), (([] : (List (Int × Bool))), ([] : (List (ByteArray × ByteArray)))))).1 : Int) ≥ (List.getD x0.2.2 (Int.toNat v1164) ((0 : Int), (([] : (List (Int × Bool))), ([] : (List (ByteArray × ByteArray)))))).1)) else false)) then true else (decide (((List.length (List.getD x0.2.2 (Int.toNat v1164) ((0 : Int), (([] : (List (Int × Bool))), ([] : (List (ByteArray × ByteArray)))))).2.1 : Int) : Int) < (1 : Int)))) then true else (decide (((List.length (List.getD x0.2.2 (Int.toNat v1164) ((0 : Int), (([] : (List (Int × Bool))), ([] : (List (ByteArray × ByteArray)))))).2.1 : Int) : Int) > (30 : Int)))) then true else (!r1189)) : Bool)).bind fun v1190 => (if v1190 then (some false) else (f145.l1191 k x0 v1164 v791 ((f145.l1068 k x0 v791) m1068) k (([] : (List (Int × Bool))), (0 : Int)))))) else none)) else none) else (some true)
def f145.l520 (k : Nat) (x0 : ((List (Int × ((Int × Int) × (List (ByteArray × ByteArray))))) × ((List (Int × ((List Int) × (List (ByteArray × ByteArray))))) × (List (Int × ((List (Int × Bool)) × (List (ByteArray × ByteArray)))))))) (v97 : (List (Int × Bool))) : Nat → ((List (Int × Bool)) × Int) → Option Bool
  | 0, _ => none
  | m520 + 1, (v791, v792) => if (decide ((v792 : Int) < (List.length x0.2.1 : Int))) then (if (0 ≤ v792 ∧ v792 < (List.length x0.2.1 : Int)) then ((f168 k (List.getD x0.2.1 (Int.toNat v792) ((0 : Int), (([] : (List Int)), ([] : (List (ByteArray × ByteArray)))))).1).bind fun r859 => (if ((((!r859) = false) ∧ ((decide ((v792 : Int) > (0 : Int))) = true)) → (0 ≤ (IntKind.i64.wrap (v792 - (1 : Int))) ∧ (IntKind.i64.wrap (v792 - (1 : Int))) < (List.length x0.2.1 : Int))) then ((if ((bif (bif (bif (!r859) then true else (bif (decide ((v792 : Int) > (0 : Int))) then (decide (((List.getD x0.2.1 (Int.toNat (IntKind.i64.wrap (v792 - (1 : Int)))) ((0 : Int), (([] : (List Int)), ([] : (List (ByteArray × ByteArray)))))).1 : Int) ≥ (List.getD x0.2.1 (Int.toNat v792) ((0 : Int), (([] : (List Int)), ([] : (List (ByteArray × ByteArray)))))).1)) else false)) then true else (decide (((List.length (List.getD x0.2.1 (Int.toNat v792) ((0 : Int), (([] : (List Int)), ([] : (List (ByteArray × ByteArray)))))).2.1 : Int) : Int) < (2 : Int)))) then true else (decide (((List.length (List.getD x0.2.1 (Int.toNat v792) ((0 : Int), (([] : (List Int)), ([] : (List (ByteArray × ByteArray)))))).2.1 : Int) : Int) > (2000 : Int)))) = false) then f208 k (List.getD x0.2.1 (Int.toNat v792) ((0 : Int), (([] : (List Int)), ([] : (List (ByteArray × ByteArray)))))).2.2 else some default).bind fun r860 => ((some ((bif (bif (bif (bif (!r859) then true else (bif (decide ((v792 : Int) > (0 : Int))) then (decide (((List.getD x0.2.1 (Int.toNat (IntKind.i64.wrap (v792 - (1 : Int)))) ((0 : Int), (([] : (List Int)), ([] : (List (ByteArray × ByteArray)))))).1 : Int) ≥ (List.getD x0.2.1 (Int.toNat v792) ((0 : Int), (([] : (List Int)), ([] : (List (ByteArray × ByteArray)))))).1)) else false)) then true else (decide (((List.length (List.getD x0.2.1 (Int.toNat v792) ((0 : Int), (([] : (List Int)), ([] : (List (ByteArray × ByteArray)))))).2.1 : Int) : Int) < (2 : Int)))) then true else (decide (((List.length (List.getD x0.2.1 (Int.toNat v792) ((0 : Int), (([] : (List Int)), ([] : (List (ByteArray × ByteArray)))))).2.1 : Int) : Int) > (2000 : Int)))) then true else (!r860)) : Bool)).bind fun v861 => (if v861 then (some false) else (f145.l891 k x0 v792 v97 v791 ((f145.l520 k x0 v97) m520) k (0 : Int))))) else none)) else none) else (f145.l1068 k x0 v791 k (0 : Int))
def f145.l58 (k : Nat) (x0 : ((List (Int × ((Int × Int) × (List (ByteArray × ByteArray))))) × ((List (Int × ((List Int) × (List (ByteArray × ByteArray))))) × (List (Int × ((List (Int × Bool)) × (List (ByteArray × ByteArray)))))))) : Nat → ((List (Int × Bool)) × Int) → Option Bool
  | 0, _ => none
  | m58 + 1, (v97, v98) => if (decide ((v98 : Int) < (List.length x0.1 : Int))) then (if (0 ≤ v98 ∧ v98 < (List.length x0.1 : Int)) then ((f168 k (List.getD x0.1 (Int.toNat v98) ((0 : Int), (((0 : Int), (0 : Int)), ([] : (List (ByteArray × ByteArray)))))).1).bind fun r107 => (if ((((!r107) = false) ∧ ((decide ((v98 : Int) > (0 : Int))) = true)) → (0 ≤ (IntKind.i64.wrap (v98 - (1 : Int))) ∧ (IntKind.i64.wrap (v98 - (1 : Int))) < (List.length x0.1 : Int))) then ((if ((bif (!r107) then true else (bif (decide ((v98 : Int) > (0 : Int))) then (decide (((List.getD x0.1 (Int.toNat (IntKind.i64.wrap (v98 - (1 : Int)))) ((0 : Int), (((0 : Int), (0 : Int)), ([] : (List (ByteArray × ByteArray)))))).1 : Int) ≥ (List.getD x0.1 (Int.toNat v98) ((0 : Int), (((0 : Int), (0 : Int)), ([] : (List (ByteArray × ByteArray)))))).1)) else false)) = false) then f169 k (List.getD x0.1 (Int.toNat v98) ((0 : Int), (((0 : Int), (0 : Int)), ([] : (List (ByteArray × ByteArray)))))).2.1 else some default).bind fun r108 => ((if ((bif (bif (!r107) then true else (bif (decide ((v98 : Int) > (0 : Int))) then (decide (((List.getD x0.1 (Int.toNat (IntKind.i64.wrap (v98 - (1 : Int)))) ((0 : Int), (((0 : Int), (0 : Int)), ([] : (List (ByteArray × ByteArray)))))).1 : Int) ≥ (List.getD x0.1 (Int.toNat v98) ((0 : Int), (((0 : Int), (0 : Int)), ([] : (List (ByteArray × ByteArray)))))).1)) else false)) then true else (!r108)) = false) then f208 k (List.getD x0.1 (Int.toNat v98) ((0 : Int), (((0 : Int), (0 : Int)), ([] : (List (ByteArray × ByteArray)))))).2.2 else some default).bind fun r109 => (if (bif (bif (bif (!r107) then true else (bif (decide ((v98 : Int) > (0 : Int))) then (decide (((List.getD x0.1 (Int.toNat (IntKind.i64.wrap (v98 - (1 : Int)))) ((0 : Int), (((0 : Int), (0 : Int)), ([] : (List (ByteArray × ByteArray)))))).1 : Int) ≥ (List.getD x0.1 (Int.toNat v98) ((0 : Int), (((0 : Int), (0 : Int)), ([] : (List (ByteArray × ByteArray)))))).1)) else false)) then true else (!r108)) then true else (!r109)) then (some false) else ((f145.l58 k x0) m58 ((mput (Sh.beq (.int .i64)) (List.getD x0.1 (Int.toNat v98) ((0 : Int), (((0 : Int), (0 : Int)), ([] : (List (ByteArray × ByteArray)))))).1 true v97), (IntKind.i64.wrap (v98 + (1 : Int)))))))) else none)) else none) else (f145.l520 k x0 v97 k (([] : (List (Int × Bool))), (0 : Int)))
def f145 (k : Nat) (x0 : ((List (Int × ((Int × Int) × (List (ByteArray × ByteArray))))) × ((List (Int × ((List Int) × (List (ByteArray × ByteArray))))) × (List (Int × ((List (Int × Bool)) × (List (ByteArray × ByteArray)))))))) : Option Bool := if (bif (bif (decide (((List.length x0.1 : Int) : Int) > (5000 : Int))) then true else (decide (((List.length x0.2.1 : Int) : Int) > (1000 : Int)))) then true else (decide (((List.length x0.2.2 : Int) : Int) > (300 : Int)))) then (some false) else (f145.l58 k x0 k (([] : (List (Int × Bool))), (0 : Int)))
set_option maxRecDepth 100000 in
/-- 'impl.MapOk'. -/
theorem c145 (k : Nat) (x0 : ((List (Int × ((Int × Int) × (List (ByteArray × ByteArray))))) × ((List (Int × ((List Int) × (List (ByteArray × ByteArray))))) × (List (Int × ((List (Int × Bool)) × (List (ByteArray × ByteArray)))))))) (r : Bool) (hF : f145 k x0 = some r) : PCall Try.prog 145 [⟨sh22, x0⟩] [⟨.bool, r⟩] := by
  refine pcall_intro Try.func145 rfl rfl (Nat.le_of_ble_eq_true rfl) ?_
  intro w0 Zi a w h
  rw [f145] at hF
  refine wp_reg_seq tok (orc := orcL []) (fz := []) (l := [1]) (c := _) (.inr fun i h => h) h (by kernel_rfl) (AllP.nil) ?_
  intro a w h
  refine wp_seq ?_
  refine wp_reg_seq tok (orc := orcL []) (fz := []) (l := [1, 31]) (c := _) (.inr fun i h => h) h (by kernel_rfl) (AllP.nil) ?_
  intro a w h
  refine wp_if h (b := (bif (bif (decide (((List.length x0.1 : Int) : Int) > (5000 : Int))) then true else (decide (((List.length x0.2.1 : Int) : Int) > (1000 : Int)))) then true else (decide (((List.length x0.2.2 : Int) : Int) > (300 : Int))))) (by kernel_rfl) (fun hb => ?_) (fun hb => ?_)
  · replace hF := of_t hb hF
    refine wp_reg_seq tok (orc := orcL []) (fz := []) (l := [2]) (c := _) (.inr fun i h => h) h (by kernel_rfl) (AllP.nil) ?_
    intro a w h
    cases hF
    exact wp_ret (ret_okR tok h rfl (by kernel_rfl)).1
  · replace hF := of_f hb hF
    refine wp_skip ?_
    refine wp_reg_seq tok (orc := orcL []) (fz := []) (l := [1, 3, 4]) (c := _) (.inr fun i h => h) h (by kernel_rfl) (AllP.nil) ?_
    intro a w h
    refine wp_seq ?_
    refine wp_reg_seq tok (orc := orcL []) (fz := []) (l := [1, 3, 4, 35, 36, 37]) (c := _) (.inr fun i h => h) h (by kernel_rfl) (AllP.nil) ?_
    intro a w h
    refine wp_block ?_
    refine wp_loop_fuel (f145.l58 k x0) (fun ((v97, v98) : ((List (Int × Bool)) × Int)) => [(1, .val sh21 (some x0)), (3, .val sh33 (some v97)), (4, .val sh33 (some ([] : (List (Int × Bool))))), (35, .val sh34 x0.1), (36, .val (.int .i64) (List.length x0.1 : Int)), (37, .val (.int .i64) v98)]) (fun v h => by obtain ⟨v97, v98⟩ := v; rw [f145.l58] at h; cases h) ?_ hF (h.arrive (fz := []) (l := [1, 3, 4, 35, 36, 37]) (.inr fun i h => h) (by kernel_rfl))
    intro m58 v a w hF h
    obtain ⟨v97, v98⟩ := v
    rw [f145.l58] at hF
    refine wp_reg_seq tok (orc := orcL []) (fz := []) (l := [1, 3, 4, 35, 36, 37, 38]) (c := _) (.inr fun i h => h) h (by kernel_rfl) (AllP.nil) ?_
    intro a w h
    refine wp_seq <| wp_if h (b := (decide ((v98 : Int) < (List.length x0.1 : Int)))) (by kernel_rfl) (fun hb => ?_) (fun hb => ?_)
    · replace hF := of_t hb hF
      refine wp_skip ?_
      refine wp_seq <| wp_block ?_
      obtain ⟨hc114, hF⟩ := of_if hF
      refine wp_reg_seq tok (orc := orcL []) (fz := []) (l := [1, 3, 4, 5, 6, 35, 36, 37]) (c := _) (.inr fun i h => h) h (by kernel_rfl) (AllP.cons hc114 AllP.nil) ?_
      intro a w h
      refine wp_seq ?_
      obtain ⟨r107, hr110, hF⟩ := of_bind hF
      obtain ⟨hc111, hF⟩ := of_if hF
      obtain ⟨r108, hr112, hF⟩ := of_bind hF
      obtain ⟨r109, hr113, hF⟩ := of_bind hF
      refine wp_regy_seq tok (orc := orcL [(44, [⟨.bool, r107⟩]), (65, [⟨.bool, r108⟩]), (71, [⟨.bool, r109⟩])]) (fz := []) (l := [1, 3, 4, 6, 35, 36, 37, 73]) (c := _) ([], [], [], []) 32 (.inr fun i h => h) h (by kernel_rfl) (by kernel_rfl) (AllP.cons (c168 k (List.getD x0.1 (Int.toNat v98) ((0 : Int), (((0 : Int), (0 : Int)), ([] : (List (ByteArray × ByteArray)))))).1 r107 hr110) (AllP.cons hc111 (AllP.cons (fun (hg : ((bif (!r107) then true else (bif (decide ((v98 : Int) > (0 : Int))) then (decide (((List.getD x0.1 (Int.toNat (IntKind.i64.wrap (v98 - (1 : Int)))) ((0 : Int), (((0 : Int), (0 : Int)), ([] : (List (ByteArray × ByteArray)))))).1 : Int) ≥ (List.getD x0.1 (Int.toNat v98) ((0 : Int), (((0 : Int), (0 : Int)), ([] : (List (ByteArray × ByteArray)))))).1)) else false)) = false)) => c169 k (List.getD x0.1 (Int.toNat v98) ((0 : Int), (((0 : Int), (0 : Int)), ([] : (List (ByteArray × ByteArray)))))).2.1 r108 (of_g hg hr112)) (AllP.cons (fun (hg : ((bif (bif (!r107) then true else (bif (decide ((v98 : Int) > (0 : Int))) then (decide (((List.getD x0.1 (Int.toNat (IntKind.i64.wrap (v98 - (1 : Int)))) ((0 : Int), (((0 : Int), (0 : Int)), ([] : (List (ByteArray × ByteArray)))))).1 : Int) ≥ (List.getD x0.1 (Int.toNat v98) ((0 : Int), (((0 : Int), (0 : Int)), ([] : (List (ByteArray × ByteArray)))))).1)) else false)) then true else (!r108)) = false)) => c208 k (List.getD x0.1 (Int.toNat v98) ((0 : Int), (((0 : Int), (0 : Int)), ([] : (List (ByteArray × ByteArray)))))).2.2 r109 (of_g hg hr113)) AllP.nil)))) ?_
      intro a w h
      refine wp_if h (b := (bif (bif (bif (!r107) then true else (bif (decide ((v98 : Int) > (0 : Int))) then (decide (((List.getD x0.1 (Int.toNat (IntKind.i64.wrap (v98 - (1 : Int)))) ((0 : Int), (((0 : Int), (0 : Int)), ([] : (List (ByteArray × ByteArray)))))).1 : Int) ≥ (List.getD x0.1 (Int.toNat v98) ((0 : Int), (((0 : Int), (0 : Int)), ([] : (List (ByteArray × ByteArray)))))).1)) else false)) then true else (!r108)) then true else (!r109))) (by kernel_rfl) (fun hb => ?_) (fun hb => ?_)
      · replace hF := of_t hb hF
        refine wp_reg_seq tok (orc := orcL []) (fz := []) (l := [2]) (c := _) (.inr fun i h => h) h (by kernel_rfl) (AllP.nil) ?_
        intro a w h
        cases hF
        exact wp_ret (ret_okR tok h rfl (by kernel_rfl)).1
      · replace hF := of_f hb hF
        refine wp_skip ?_
        refine wp_reg tok (orc := orcL []) (fz := []) (l := [1, 3, 4, 35, 36, 37]) (c := _) (.inr fun i h => h) h (by kernel_rfl) (AllP.cons (show eqTy Try.prog 9 2 (.int .i64) = true from by kernel_rfl) AllP.nil) ?_
        intro a w h
        refine wp_reg tok (orc := orcL []) (fz := []) (l := [1, 3, 4, 35, 36, 37]) (c := _) (.inr fun i h => h) h (by kernel_rfl) (AllP.nil) ?_
        intro a w h
        exact ⟨((mput (Sh.beq (.int .i64)) (List.getD x0.1 (Int.toNat v98) ((0 : Int), (((0 : Int), (0 : Int)), ([] : (List (ByteArray × ByteArray)))))).1 true v97), (IntKind.i64.wrap (v98 + (1 : Int)))), hF, h.arrive (fz := []) (l := [1, 3, 4, 35, 36, 37]) (.inr fun i h => h) (by kernel_rfl)⟩
    · replace hF := of_f hb hF
      refine wp_exit ?_
      refine wp_seq ?_
      refine wp_reg_seq tok (orc := orcL []) (fz := []) (l := [1, 3, 4, 79, 80, 81]) (c := _) (.inr fun i h => h) h (by kernel_rfl) (AllP.nil) ?_
      intro a w h
      refine wp_block ?_
      refine wp_loop_fuel (f145.l520 k x0 v97) (fun ((v791, v792) : ((List (Int × Bool)) × Int)) => [(1, .val sh21 (some x0)), (3, .val sh33 (some v97)), (4, .val sh33 (some v791)), (79, .val sh35 x0.2.1), (80, .val (.int .i64) (List.length x0.2.1 : Int)), (81, .val (.int .i64) v792)]) (fun v h => by obtain ⟨v791, v792⟩ := v; rw [f145.l520] at h; cases h) ?_ hF (h.arrive (fz := []) (l := [1, 3, 4, 79, 80, 81]) (.inr fun i h => h) (by kernel_rfl))
      intro m520 v a w hF h
      obtain ⟨v791, v792⟩ := v
      rw [f145.l520] at hF
      refine wp_reg_seq tok (orc := orcL []) (fz := []) (l := [1, 3, 4, 79, 80, 81, 82]) (c := _) (.inr fun i h => h) h (by kernel_rfl) (AllP.nil) ?_
      intro a w h
      refine wp_seq <| wp_if h (b := (decide ((v792 : Int) < (List.length x0.2.1 : Int)))) (by kernel_rfl) (fun hb => ?_) (fun hb => ?_)
      · replace hF := of_t hb hF
        refine wp_skip ?_
        refine wp_seq <| wp_block ?_
        obtain ⟨hc924, hF⟩ := of_if hF
        refine wp_reg_seq tok (orc := orcL []) (fz := []) (l := [1, 3, 4, 7, 8, 79, 80, 81]) (c := _) (.inr fun i h => h) h (by kernel_rfl) (AllP.cons hc924 AllP.nil) ?_
        intro a w h
        refine wp_seq ?_
        obtain ⟨r859, hr921, hF⟩ := of_bind hF
        obtain ⟨hc922, hF⟩ := of_if hF
        obtain ⟨r860, hr923, hF⟩ := of_bind hF
        refine wp_regy_seq tok (orc := orcL [(88, [⟨.bool, r859⟩]), (121, [⟨.bool, r860⟩])]) (fz := []) (l := [1, 3, 4, 8, 79, 80, 81, 123]) (c := _) ([], [], [], []) 38 (.inr fun i h => h) h (by kernel_rfl) (by kernel_rfl) (AllP.cons (c168 k (List.getD x0.2.1 (Int.toNat v792) ((0 : Int), (([] : (List Int)), ([] : (List (ByteArray × ByteArray)))))).1 r859 hr921) (AllP.cons hc922 (AllP.cons (fun (hg : ((bif (bif (bif (!r859) then true else (bif (decide ((v792 : Int) > (0 : Int))) then (decide (((List.getD x0.2.1 (Int.toNat (IntKind.i64.wrap (v792 - (1 : Int)))) ((0 : Int), (([] : (List Int)), ([] : (List (ByteArray × ByteArray)))))).1 : Int) ≥ (List.getD x0.2.1 (Int.toNat v792) ((0 : Int), (([] : (List Int)), ([] : (List (ByteArray × ByteArray)))))).1)) else false)) then true else (decide (((List.length (List.getD x0.2.1 (Int.toNat v792) ((0 : Int), (([] : (List Int)), ([] : (List (ByteArray × ByteArray)))))).2.1 : Int) : Int) < (2 : Int)))) then true else (decide (((List.length (List.getD x0.2.1 (Int.toNat v792) ((0 : Int), (([] : (List Int)), ([] : (List (ByteArray × ByteArray)))))).2.1 : Int) : Int) > (2000 : Int)))) = false)) => c208 k (List.getD x0.2.1 (Int.toNat v792) ((0 : Int), (([] : (List Int)), ([] : (List (ByteArray × ByteArray)))))).2.2 r860 (of_g hg hr923)) AllP.nil))) ?_
        intro a w h
        obtain ⟨v861, hv920, hF⟩ := of_bind hF
        replace h := h.cast (S' := [(1, .val sh21 (some x0)), (3, .val sh33 (some v97)), (4, .val sh33 (some v791)), (8, .val sh23 (some (List.getD x0.2.1 (Int.toNat v792) ((0 : Int), (([] : (List Int)), ([] : (List (ByteArray × ByteArray)))))))), (79, .val sh35 x0.2.1), (80, .val (.int .i64) (List.length x0.2.1 : Int)), (81, .val (.int .i64) v792), (123, .val .bool v861)]) (by cases hv920; kernel_rfl)
        refine wp_if h (b := v861) (by kernel_rfl) (fun hb => ?_) (fun hb => ?_)
        · replace hF := of_t hb hF
          refine wp_reg_seq tok (orc := orcL []) (fz := []) (l := [2]) (c := _) (.inr fun i h => h) h (by kernel_rfl) (AllP.nil) ?_
          intro a w h
          cases hF
          exact wp_ret (ret_okR tok h rfl (by kernel_rfl)).1
        · replace hF := of_f hb hF
          refine wp_skip ?_
          refine wp_seq ?_
          refine wp_reg_seq tok (orc := orcL []) (fz := []) (l := [1, 3, 4, 8, 79, 80, 81, 125, 126, 127]) (c := _) (.inr fun i h => h) h (by kernel_rfl) (AllP.nil) ?_
          intro a w h
          refine wp_block ?_
          refine wp_loop_fuel (f145.l891 k x0 v792 v97 v791 ((f145.l520 k x0 v97) m520)) (fun (v911 : Int) => [(1, .val sh21 (some x0)), (3, .val sh33 (some v97)), (4, .val sh33 (some v791)), (8, .val sh23 (some (List.getD x0.2.1 (Int.toNat v792) ((0 : Int), (([] : (List Int)), ([] : (List (ByteArray × ByteArray)))))))), (79, .val sh35 x0.2.1), (80, .val (.int .i64) (List.length x0.2.1 : Int)), (81, .val (.int .i64) v792), (125, .val (.sl false 2 (.int .i64)) (List.getD x0.2.1 (Int.toNat v792) ((0 : Int), (([] : (List Int)), ([] : (List (ByteArray × ByteArray)))))).2.1), (126, .val (.int .i64) (List.length (List.getD x0.2.1 (Int.toNat v792) ((0 : Int), (([] : (List Int)), ([] : (List (ByteArray × ByteArray)))))).2.1 : Int)), (127, .val (.int .i64) v911)]) (fun v h => by rw [f145.l891] at h; cases h) ?_ hF (h.arrive (fz := []) (l := [1, 3, 4, 8, 79, 80, 81, 125, 126, 127]) (.inr fun i h => h) (by kernel_rfl))
          intro m891 v911 a w hF h
          rw [f145.l891] at hF
          refine wp_reg_seq tok (orc := orcL []) (fz := []) (l := [1, 3, 4, 8, 79, 80, 81, 125, 126, 127, 128]) (c := _) (.inr fun i h => h) h (by kernel_rfl) (AllP.nil) ?_
          intro a w h
          refine wp_seq <| wp_if h (b := (decide ((v911 : Int) < (List.length (List.getD x0.2.1 (Int.toNat v792) ((0 : Int), (([] : (List Int)), ([] : (List (ByteArray × ByteArray)))))).2.1 : Int)))) (by kernel_rfl) (fun hb => ?_) (fun hb => ?_)
          · replace hF := of_t hb hF
            refine wp_skip ?_
            refine wp_seq <| wp_block ?_
            obtain ⟨hc919, hF⟩ := of_if hF
            refine wp_reg_seq tok (orc := orcL []) (fz := []) (l := [1, 3, 4, 8, 9, 10, 79, 80, 81, 125, 126, 127]) (c := _) (.inr fun i h => h) h (by kernel_rfl) (AllP.cons hc919 AllP.nil) ?_
            intro a w h
            obtain ⟨hc918, hF⟩ := of_if hF
            refine wp_reg_seq tok (orc := orcL []) (fz := []) (l := [1, 3, 4, 8, 79, 80, 81, 125, 126, 127, 149]) (c := _) (.inr fun i h => h) h (by kernel_rfl) (AllP.cons (show eqTy Try.prog 9 2 (.int .i64) = true from by kernel_rfl) (AllP.cons hc918 AllP.nil)) ?_
            intro a w h
            obtain ⟨v916, hv917, hF⟩ := of_bind hF
            replace h := h.cast (S' := [(1, .val sh21 (some x0)), (3, .val sh33 (some v97)), (4, .val sh33 (some v791)), (8, .val sh23 (some (List.getD x0.2.1 (Int.toNat v792) ((0 : Int), (([] : (List Int)), ([] : (List (ByteArray × ByteArray)))))))), (79, .val sh35 x0.2.1), (80, .val (.int .i64) (List.length x0.2.1 : Int)), (81, .val (.int .i64) v792), (125, .val (.sl false 2 (.int .i64)) (List.getD x0.2.1 (Int.toNat v792) ((0 : Int), (([] : (List Int)), ([] : (List (ByteArray × ByteArray)))))).2.1), (126, .val (.int .i64) (List.length (List.getD x0.2.1 (Int.toNat v792) ((0 : Int), (([] : (List Int)), ([] : (List (ByteArray × ByteArray)))))).2.1 : Int)), (127, .val (.int .i64) v911), (149, .val .bool v916)]) (by cases hv917; kernel_rfl)
            refine wp_if h (b := v916) (by kernel_rfl) (fun hb => ?_) (fun hb => ?_)
            · replace hF := of_t hb hF
              refine wp_reg_seq tok (orc := orcL []) (fz := []) (l := [2]) (c := _) (.inr fun i h => h) h (by kernel_rfl) (AllP.nil) ?_
              intro a w h
              cases hF
              exact wp_ret (ret_okR tok h rfl (by kernel_rfl)).1
            · replace hF := of_f hb hF
              refine wp_skip ?_
              refine wp_reg tok (orc := orcL []) (fz := []) (l := [1, 3, 4, 8, 79, 80, 81, 125, 126, 127]) (c := _) (.inr fun i h => h) h (by kernel_rfl) (AllP.nil) ?_
              intro a w h
              exact ⟨(IntKind.i64.wrap (v911 + (1 : Int))), hF, h.arrive (fz := []) (l := [1, 3, 4, 8, 79, 80, 81, 125, 126, 127]) (.inr fun i h => h) (by kernel_rfl)⟩
          · replace hF := of_f hb hF
            refine wp_exit ?_
            refine wp_reg tok (orc := orcL []) (fz := []) (l := [1, 3, 4, 79, 80, 81]) (c := _) (.inr fun i h => h) h (by kernel_rfl) (AllP.cons (show eqTy Try.prog 9 2 (.int .i64) = true from by kernel_rfl) AllP.nil) ?_
            intro a w h
            refine wp_reg tok (orc := orcL []) (fz := []) (l := [1, 3, 4, 79, 80, 81]) (c := _) (.inr fun i h => h) h (by kernel_rfl) (AllP.nil) ?_
            intro a w h
            exact ⟨((mput (Sh.beq (.int .i64)) (List.getD x0.2.1 (Int.toNat v792) ((0 : Int), (([] : (List Int)), ([] : (List (ByteArray × ByteArray)))))).1 true v791), (IntKind.i64.wrap (v792 + (1 : Int)))), hF, h.arrive (fz := []) (l := [1, 3, 4, 79, 80, 81]) (.inr fun i h => h) (by kernel_rfl)⟩
      · replace hF := of_f hb hF
        refine wp_exit ?_
        refine wp_seq ?_
        refine wp_reg_seq tok (orc := orcL []) (fz := []) (l := [1, 4, 156, 157, 158]) (c := _) (.inr fun i h => h) h (by kernel_rfl) (AllP.nil) ?_
        intro a w h
        refine wp_block ?_
        refine wp_loop_fuel (f145.l1068 k x0 v791) (fun (v1164 : Int) => [(1, .val sh21 (some x0)), (4, .val sh33 (some v791)), (156, .val sh36 x0.2.2), (157, .val (.int .i64) (List.length x0.2.2 : Int)), (158, .val (.int .i64) v1164)]) (fun v h => by rw [f145.l1068] at h; cases h) ?_ hF (h.arrive (fz := []) (l := [1, 4, 156, 157, 158]) (.inr fun i h => h) (by kernel_rfl))
        intro m1068 v1164 a w hF h
        rw [f145.l1068] at hF
        refine wp_reg_seq tok (orc := orcL []) (fz := []) (l := [1, 4, 156, 157, 158, 159]) (c := _) (.inr fun i h => h) h (by kernel_rfl) (AllP.nil) ?_
        intro a w h
        refine wp_seq <| wp_if h (b := (decide ((v1164 : Int) < (List.length x0.2.2 : Int)))) (by kernel_rfl) (fun hb => ?_) (fun hb => ?_)
        · replace hF := of_t hb hF
          refine wp_skip ?_
          refine wp_seq <| wp_block ?_
          obtain ⟨hc1210, hF⟩ := of_if hF
          refine wp_reg_seq tok (orc := orcL []) (fz := []) (l := [1, 4, 11, 12, 156, 157, 158]) (c := _) (.inr fun i h => h) h (by kernel_rfl) (AllP.cons hc1210 AllP.nil) ?_
          intro a w h
          refine wp_seq ?_
          obtain ⟨r1188, hr1207, hF⟩ := of_bind hF
          obtain ⟨hc1208, hF⟩ := of_if hF
          obtain ⟨r1189, hr1209, hF⟩ := of_bind hF
          refine wp_regy_seq tok (orc := orcL [(165, [⟨.bool, r1188⟩]), (198, [⟨.bool, r1189⟩])]) (fz := []) (l := [1, 4, 12, 156, 157, 158, 200]) (c := _) ([], [], [], []) 38 (.inr fun i h => h) h (by kernel_rfl) (by kernel_rfl) (AllP.cons (c168 k (List.getD x0.2.2 (Int.toNat v1164) ((0 : Int), (([] : (List (Int × Bool))), ([] : (List (ByteArray × ByteArray)))))).1 r1188 hr1207) (AllP.cons hc1208 (AllP.cons (fun (hg : ((bif (bif (bif (!r1188) then true else (bif (decide ((v1164 : Int) > (0 : Int))) then (decide (((List.getD x0.2.2 (Int.toNat (IntKind.i64.wrap (v1164 - (1 : Int)))) ((0 : Int), (([] : (List (Int × Bool))), ([] : (List (ByteArray × ByteArray)))))).1 : Int) ≥ (List.getD x0.2.2 (Int.toNat v1164) ((0 : Int), (([] : (List (Int × Bool))), ([] : (List (ByteArray × ByteArray)))))).1)) else false)) then true else (decide (((List.length (List.getD x0.2.2 (Int.toNat v1164) ((0 : Int), (([] : (List (Int × Bool))), ([] : (List (ByteArray × ByteArray)))))).2.1 : Int) : Int) < (1 : Int)))) then true else (decide (((List.length (List.getD x0.2.2 (Int.toNat v1164) ((0 : Int), (([] : (List (Int × Bool))), ([] : (List (ByteArray × ByteArray)))))).2.1 : Int) : Int) > (30 : Int)))) = false)) => c208 k (List.getD x0.2.2 (Int.toNat v1164) ((0 : Int), (([] : (List (Int × Bool))), ([] : (List (ByteArray × ByteArray)))))).2.2 r1189 (of_g hg hr1209)) AllP.nil))) ?_
          intro a w h
          obtain ⟨v1190, hv1206, hF⟩ := of_bind hF
          replace h := h.cast (S' := [(1, .val sh21 (some x0)), (4, .val sh33 (some v791)), (12, .val sh25 (some (List.getD x0.2.2 (Int.toNat v1164) ((0 : Int), (([] : (List (Int × Bool))), ([] : (List (ByteArray × ByteArray)))))))), (156, .val sh36 x0.2.2), (157, .val (.int .i64) (List.length x0.2.2 : Int)), (158, .val (.int .i64) v1164), (200, .val .bool v1190)]) (by cases hv1206; kernel_rfl)
          refine wp_if h (b := v1190) (by kernel_rfl) (fun hb => ?_) (fun hb => ?_)
          · replace hF := of_t hb hF
            refine wp_reg_seq tok (orc := orcL []) (fz := []) (l := [2]) (c := _) (.inr fun i h => h) h (by kernel_rfl) (AllP.nil) ?_
            intro a w h
            cases hF
            exact wp_ret (ret_okR tok h rfl (by kernel_rfl)).1
          · replace hF := of_f hb hF
            refine wp_skip ?_
            refine wp_reg_seq tok (orc := orcL []) (fz := []) (l := [1, 4, 12, 13, 156, 157, 158]) (c := _) (.inr fun i h => h) h (by kernel_rfl) (AllP.nil) ?_
            intro a w h
            refine wp_reg_seq tok (orc := orcL []) (fz := []) (l := [1, 4, 13, 156, 157, 158, 203, 204, 205]) (c := _) (.inr fun i h => h) h (by kernel_rfl) (AllP.nil) ?_
            intro a w h
            refine wp_block ?_
            refine wp_loop_fuel (f145.l1191 k x0 v1164 v791 ((f145.l1068 k x0 v791) m1068)) (fun ((v1202, v1203) : ((List (Int × Bool)) × Int)) => [(1, .val sh21 (some x0)), (4, .val sh33 (some v791)), (13, .val sh33 (some v1202)), (156, .val sh36 x0.2.2), (157, .val (.int .i64) (List.length x0.2.2 : Int)), (158, .val (.int .i64) v1164), (203, .val sh37 (List.getD x0.2.2 (Int.toNat v1164) ((0 : Int), (([] : (List (Int × Bool))), ([] : (List (ByteArray × ByteArray)))))).2.1), (204, .val (.int .i64) (List.length (List.getD x0.2.2 (Int.toNat v1164) ((0 : Int), (([] : (List (Int × Bool))), ([] : (List (ByteArray × ByteArray)))))).2.1 : Int)), (205, .val (.int .i64) v1203)]) (fun v h => by obtain ⟨v1202, v1203⟩ := v; rw [f145.l1191] at h; cases h) ?_ hF (h.arrive (fz := []) (l := [1, 4, 13, 156, 157, 158, 203, 204, 205]) (.inr fun i h => h) (by kernel_rfl))
            intro m1191 v a w hF h
            obtain ⟨v1202, v1203⟩ := v
            rw [f145.l1191] at hF
            refine wp_reg_seq tok (orc := orcL []) (fz := []) (l := [1, 4, 13, 156, 157, 158, 203, 204, 205, 206]) (c := _) (.inr fun i h => h) h (by kernel_rfl) (AllP.nil) ?_
            intro a w h
            refine wp_seq <| wp_if h (b := (decide ((v1203 : Int) < (List.length (List.getD x0.2.2 (Int.toNat v1164) ((0 : Int), (([] : (List (Int × Bool))), ([] : (List (ByteArray × ByteArray)))))).2.1 : Int)))) (by kernel_rfl) (fun hb => ?_) (fun hb => ?_)
            · replace hF := of_t hb hF
              refine wp_skip ?_
              refine wp_seq <| wp_block ?_
              obtain ⟨hc1205, hF⟩ := of_if hF
              refine wp_reg_seq tok (orc := orcL []) (fz := []) (l := [1, 4, 13, 15, 156, 157, 158, 203, 204, 205]) (c := _) (.inr fun i h => h) h (by kernel_rfl) (AllP.cons hc1205 AllP.nil) ?_
              intro a w h
              refine wp_seq ?_
              refine wp_reg_seq tok (orc := orcL []) (fz := []) (l := [1, 4, 13, 15, 156, 157, 158, 203, 204, 205, 219]) (c := _) (.inr fun i h => h) h (by kernel_rfl) (AllP.cons (show eqTy Try.prog 9 2 (.int .i64) = true from by kernel_rfl) (AllP.cons (fun (_ : ((!(mget (Sh.beq (.int .i64)) (some v791) (List.getD (List.getD x0.2.2 (Int.toNat v1164) ((0 : Int), (([] : (List (Int × Bool))), ([] : (List (ByteArray × ByteArray)))))).2.1 (Int.toNat v1203) ((0 : Int), false)).1 false)) = false)) => (show eqTy Try.prog 9 2 (.int .i64) = true from by kernel_rfl)) AllP.nil)) ?_
              intro a w h
              refine wp_if h (b := (bif (!(mget (Sh.beq (.int .i64)) (some v791) (List.getD (List.getD x0.2.2 (Int.toNat v1164) ((0 : Int), (([] : (List (Int × Bool))), ([] : (List (ByteArray × ByteArray)))))).2.1 (Int.toNat v1203) ((0 : Int), false)).1 false)) then true else (mget (Sh.beq (.int .i64)) (some v1202) (List.getD (List.getD x0.2.2 (Int.toNat v1164) ((0 : Int), (([] : (List (Int × Bool))), ([] : (List (ByteArray × ByteArray)))))).2.1 (Int.toNat v1203) ((0 : Int), false)).1 false))) (by kernel_rfl) (fun hb => ?_) (fun hb => ?_)
              · replace hF := of_t hb hF
                refine wp_reg_seq tok (orc := orcL []) (fz := []) (l := [2]) (c := _) (.inr fun i h => h) h (by kernel_rfl) (AllP.nil) ?_
                intro a w h
                cases hF
                exact wp_ret (ret_okR tok h rfl (by kernel_rfl)).1
              · replace hF := of_f hb hF
                refine wp_skip ?_
                refine wp_reg tok (orc := orcL []) (fz := []) (l := [1, 4, 13, 156, 157, 158, 203, 204, 205]) (c := _) (.inr fun i h => h) h (by kernel_rfl) (AllP.cons (show eqTy Try.prog 9 2 (.int .i64) = true from by kernel_rfl) AllP.nil) ?_
                intro a w h
                refine wp_reg tok (orc := orcL []) (fz := []) (l := [1, 4, 13, 156, 157, 158, 203, 204, 205]) (c := _) (.inr fun i h => h) h (by kernel_rfl) (AllP.nil) ?_
                intro a w h
                exact ⟨((mput (Sh.beq (.int .i64)) (List.getD (List.getD x0.2.2 (Int.toNat v1164) ((0 : Int), (([] : (List (Int × Bool))), ([] : (List (ByteArray × ByteArray)))))).2.1 (Int.toNat v1203) ((0 : Int), false)).1 true v1202), (IntKind.i64.wrap (v1203 + (1 : Int)))), hF, h.arrive (fz := []) (l := [1, 4, 13, 156, 157, 158, 203, 204, 205]) (.inr fun i h => h) (by kernel_rfl)⟩
            · replace hF := of_f hb hF
              refine wp_exit ?_
              refine wp_reg tok (orc := orcL []) (fz := []) (l := [1, 4, 156, 157, 158]) (c := _) (.inr fun i h => h) h (by kernel_rfl) (AllP.nil) ?_
              intro a w h
              exact ⟨(IntKind.i64.wrap (v1164 + (1 : Int))), hF, h.arrive (fz := []) (l := [1, 4, 156, 157, 158]) (.inr fun i h => h) (by kernel_rfl)⟩
        · replace hF := of_f hb hF
          refine wp_exit ?_
          refine wp_reg_seq tok (orc := orcL []) (fz := []) (l := [2]) (c := _) (.inr fun i h => h) h (by kernel_rfl) (AllP.nil) ?_
          intro a w h
          cases hF
          exact wp_ret (ret_okR tok h rfl (by kernel_rfl)).1

def f146.l16 (k : Nat) (x0 : ((List (Int × ((Int × Int) × (List (ByteArray × ByteArray))))) × ((List (Int × ((List Int) × (List (ByteArray × ByteArray))))) × (List (Int × ((List (Int × Bool)) × (List (ByteArray × ByteArray)))))))) : Nat → ((List (Int × (Int × Int))) × Int) → Option (Option (List (Int × (Int × Int))))
  | 0, _ => none
  | m16 + 1, (v27, v28) => if (decide ((v28 : Int) < (List.length x0.1 : Int))) then (if (0 ≤ v28 ∧ v28 < (List.length x0.1 : Int)) then ((f146.l16 k x0) m16 ((mput (Sh.beq (.int .i64)) (List.getD x0.1 (Int.toNat v28) ((0 : Int), (((0 : Int), (0 : Int)), ([] : (List (ByteArray × ByteArray)))))).1 (List.getD x0.1 (Int.toNat v28) ((0 : Int), (((0 : Int), (0 : Int)), ([] : (List (ByteArray × ByteArray)))))).2.1 v27), (IntKind.i64.wrap (v28 + (1 : Int))))) else none) else (some (some v27))
def f146 (k : Nat) (x0 : ((List (Int × ((Int × Int) × (List (ByteArray × ByteArray))))) × ((List (Int × ((List Int) × (List (ByteArray × ByteArray))))) × (List (Int × ((List (Int × Bool)) × (List (ByteArray × ByteArray)))))))) : Option (Option (List (Int × (Int × Int)))) := f146.l16 k x0 k (([] : (List (Int × (Int × Int)))), (0 : Int))
set_option maxRecDepth 100000 in
/-- 'impl.places'. -/
theorem c146 (k : Nat) (x0 : ((List (Int × ((Int × Int) × (List (ByteArray × ByteArray))))) × ((List (Int × ((List Int) × (List (ByteArray × ByteArray))))) × (List (Int × ((List (Int × Bool)) × (List (ByteArray × ByteArray)))))))) (r : (Option (List (Int × (Int × Int))))) (hF : f146 k x0 = some r) : PCall Try.prog 146 [⟨sh22, x0⟩] [⟨sh38, r⟩] := by
  refine pcall_intro Try.func146 rfl rfl (Nat.le_of_ble_eq_true rfl) ?_
  intro w0 Zi a w h
  rw [f146] at hF
  refine wp_reg_seq tok (orc := orcL []) (fz := []) (l := [1]) (c := _) (.inr fun i h => h) h (by kernel_rfl) (AllP.nil) ?_
  intro a w h
  refine wp_reg_seq tok (orc := orcL []) (fz := []) (l := [1, 3]) (c := _) (.inr fun i h => h) h (by kernel_rfl) (AllP.nil) ?_
  intro a w h
  refine wp_seq ?_
  refine wp_reg_seq tok (orc := orcL []) (fz := []) (l := [3, 8, 9, 10]) (c := _) (.inr fun i h => h) h (by kernel_rfl) (AllP.nil) ?_
  intro a w h
  refine wp_block ?_
  refine wp_loop_fuel (f146.l16 k x0) (fun ((v27, v28) : ((List (Int × (Int × Int))) × Int)) => [(3, .val sh38 (some v27)), (8, .val sh34 x0.1), (9, .val (.int .i64) (List.length x0.1 : Int)), (10, .val (.int .i64) v28)]) (fun v h => by obtain ⟨v27, v28⟩ := v; rw [f146.l16] at h; cases h) ?_ hF (h.arrive (fz := []) (l := [3, 8, 9, 10]) (.inr fun i h => h) (by kernel_rfl))
  intro m16 v a w hF h
  obtain ⟨v27, v28⟩ := v
  rw [f146.l16] at hF
  refine wp_reg_seq tok (orc := orcL []) (fz := []) (l := [3, 8, 9, 10, 11]) (c := _) (.inr fun i h => h) h (by kernel_rfl) (AllP.nil) ?_
  intro a w h
  refine wp_seq <| wp_if h (b := (decide ((v28 : Int) < (List.length x0.1 : Int)))) (by kernel_rfl) (fun hb => ?_) (fun hb => ?_)
  · replace hF := of_t hb hF
    refine wp_skip ?_
    refine wp_seq <| wp_block ?_
    obtain ⟨hc30, hF⟩ := of_if hF
    refine wp_reg_seq tok (orc := orcL []) (fz := []) (l := [3, 5, 8, 9, 10]) (c := _) (.inr fun i h => h) h (by kernel_rfl) (AllP.cons hc30 AllP.nil) ?_
    intro a w h
    refine wp_reg tok (orc := orcL []) (fz := []) (l := [3, 8, 9, 10]) (c := _) (.inr fun i h => h) h (by kernel_rfl) (AllP.cons (show eqTy Try.prog 9 2 (.int .i64) = true from by kernel_rfl) AllP.nil) ?_
    intro a w h
    refine wp_reg tok (orc := orcL []) (fz := []) (l := [3, 8, 9, 10]) (c := _) (.inr fun i h => h) h (by kernel_rfl) (AllP.nil) ?_
    intro a w h
    exact ⟨((mput (Sh.beq (.int .i64)) (List.getD x0.1 (Int.toNat v28) ((0 : Int), (((0 : Int), (0 : Int)), ([] : (List (ByteArray × ByteArray)))))).1 (List.getD x0.1 (Int.toNat v28) ((0 : Int), (((0 : Int), (0 : Int)), ([] : (List (ByteArray × ByteArray)))))).2.1 v27), (IntKind.i64.wrap (v28 + (1 : Int)))), hF, h.arrive (fz := []) (l := [3, 8, 9, 10]) (.inr fun i h => h) (by kernel_rfl)⟩
  · replace hF := of_f hb hF
    refine wp_exit ?_
    refine wp_reg_seq tok (orc := orcL []) (fz := []) (l := [2, 3]) (c := _) (.inr fun i h => h) h (by kernel_rfl) (AllP.nil) ?_
    intro a w h
    cases hF
    exact wp_ret (ret_okR tok h rfl (by kernel_rfl)).1

def f212.l12 (k : Nat) (x0 : (List (ByteArray × ByteArray))) (x1 : ByteArray) : Nat → Int → Option Int
  | 0, _ => none
  | m12 + 1, v20 => if (decide ((v20 : Int) < (List.length x0 : Int))) then (if (0 ≤ v20 ∧ v20 < (List.length x0 : Int)) then (if (ByteArray.toList (List.getD x0 (Int.toNat v20) ((⟨#[]⟩ : ByteArray), (⟨#[]⟩ : ByteArray))).1 == ByteArray.toList x1) then (some v20) else ((f212.l12 k x0 x1) m12 (IntKind.i64.wrap (v20 + (1 : Int))))) else none) else (some (-1 : Int))
def f212 (k : Nat) (x0 : (List (ByteArray × ByteArray))) (x1 : ByteArray) : Option Int := f212.l12 k x0 x1 k (0 : Int)
set_option maxRecDepth 100000 in
/-- 'impl.tagAt'. -/
theorem c212 (k : Nat) (x0 : (List (ByteArray × ByteArray))) (x1 : ByteArray) (r : Int) (hF : f212 k x0 x1 = some r) : PCall Try.prog 212 [⟨sh20, x0⟩, ⟨.str, x1⟩] [⟨(.int .i64), r⟩] := by
  refine pcall_intro Try.func212 rfl rfl (Nat.le_of_ble_eq_true rfl) ?_
  intro w0 Zi a w h
  rw [f212] at hF
  refine wp_reg_seq tok (orc := orcL []) (fz := []) (l := [0, 1]) (c := _) (.inr fun i h => h) h (by kernel_rfl) (AllP.nil) ?_
  intro a w h
  refine wp_seq ?_
  refine wp_reg_seq tok (orc := orcL []) (fz := []) (l := [1, 7, 8, 9]) (c := _) (.inr fun i h => h) h (by kernel_rfl) (AllP.nil) ?_
  intro a w h
  refine wp_block ?_
  refine wp_loop_fuel (f212.l12 k x0 x1) (fun (v20 : Int) => [(1, .val .str x1), (7, .val sh20 x0), (8, .val (.int .i64) (List.length x0 : Int)), (9, .val (.int .i64) v20)]) (fun v h => by rw [f212.l12] at h; cases h) ?_ hF (h.arrive (fz := []) (l := [1, 7, 8, 9]) (.inr fun i h => h) (by kernel_rfl))
  intro m12 v20 a w hF h
  rw [f212.l12] at hF
  refine wp_reg_seq tok (orc := orcL []) (fz := []) (l := [1, 7, 8, 9, 10]) (c := _) (.inr fun i h => h) h (by kernel_rfl) (AllP.nil) ?_
  intro a w h
  refine wp_seq <| wp_if h (b := (decide ((v20 : Int) < (List.length x0 : Int)))) (by kernel_rfl) (fun hb => ?_) (fun hb => ?_)
  · replace hF := of_t hb hF
    refine wp_skip ?_
    refine wp_seq <| wp_block ?_
    obtain ⟨hc22, hF⟩ := of_if hF
    refine wp_reg_seq tok (orc := orcL []) (fz := []) (l := [1, 5, 6, 7, 8, 9]) (c := _) (.inr fun i h => h) h (by kernel_rfl) (AllP.cons hc22 AllP.nil) ?_
    intro a w h
    refine wp_reg_seq tok (orc := orcL []) (fz := []) (l := [1, 5, 7, 8, 9, 17]) (c := _) (.inr fun i h => h) h (by kernel_rfl) (AllP.nil) ?_
    intro a w h
    refine wp_if h (b := (ByteArray.toList (List.getD x0 (Int.toNat v20) ((⟨#[]⟩ : ByteArray), (⟨#[]⟩ : ByteArray))).1 == ByteArray.toList x1)) (by kernel_rfl) (fun hb => ?_) (fun hb => ?_)
    · replace hF := of_t hb hF
      refine wp_reg_seq tok (orc := orcL []) (fz := []) (l := [4]) (c := _) (.inr fun i h => h) h (by kernel_rfl) (AllP.nil) ?_
      intro a w h
      cases hF
      exact wp_ret (ret_okR tok h rfl (by kernel_rfl)).1
    · replace hF := of_f hb hF
      refine wp_skip ?_
      refine wp_reg tok (orc := orcL []) (fz := []) (l := [1, 7, 8, 9]) (c := _) (.inr fun i h => h) h (by kernel_rfl) (AllP.nil) ?_
      intro a w h
      exact ⟨(IntKind.i64.wrap (v20 + (1 : Int))), hF, h.arrive (fz := []) (l := [1, 7, 8, 9]) (.inr fun i h => h) (by kernel_rfl)⟩
  · replace hF := of_f hb hF
    refine wp_exit ?_
    refine wp_reg_seq tok (orc := orcL []) (fz := []) (l := [4]) (c := _) (.inr fun i h => h) h (by kernel_rfl) (AllP.nil) ?_
    intro a w h
    cases hF
    exact wp_ret (ret_okR tok h rfl (by kernel_rfl)).1

def f150 (k : Nat) (x0 : (List (ByteArray × ByteArray))) (x1 : ByteArray) : Option ByteArray := (f212 k x0 x1).bind fun r1 => (if (decide ((r1 : Int) ≥ (0 : Int))) then (if (0 ≤ r1 ∧ r1 < (List.length x0 : Int)) then (some (List.getD x0 (Int.toNat r1) ((⟨#[]⟩ : ByteArray), (⟨#[]⟩ : ByteArray))).2) else none) else (some (⟨#[]⟩ : ByteArray)))
set_option maxRecDepth 100000 in
/-- 'impl.TagOf'. -/
theorem c150 (k : Nat) (x0 : (List (ByteArray × ByteArray))) (x1 : ByteArray) (r : ByteArray) (hF : f150 k x0 x1 = some r) : PCall Try.prog 150 [⟨sh20, x0⟩, ⟨.str, x1⟩] [⟨.str, r⟩] := by
  refine pcall_intro Try.func150 rfl rfl (Nat.le_of_ble_eq_true rfl) ?_
  intro w0 Zi a w h
  rw [f150] at hF
  refine wp_reg_seq tok (orc := orcL []) (fz := []) (l := [0, 1]) (c := _) (.inr fun i h => h) h (by kernel_rfl) (AllP.nil) ?_
  intro a w h
  refine wp_seq ?_
  obtain ⟨r1, hr4, hF⟩ := of_bind hF
  refine wp_reg_seq tok (orc := orcL [(8, [⟨(.int .i64), r1⟩])]) (fz := []) (l := [0, 5]) (c := _) (.inr fun i h => h) h (by kernel_rfl) (AllP.cons (c212 k x0 x1 r1 hr4) AllP.nil) ?_
  intro a w h
  refine wp_reg_seq tok (orc := orcL []) (fz := []) (l := [0, 5, 10]) (c := _) (.inr fun i h => h) h (by kernel_rfl) (AllP.nil) ?_
  intro a w h
  refine wp_if h (b := (decide ((r1 : Int) ≥ (0 : Int)))) (by kernel_rfl) (fun hb => ?_) (fun hb => ?_)
  · replace hF := of_t hb hF
    obtain ⟨hc3, hF⟩ := of_if hF
    refine wp_reg_seq tok (orc := orcL []) (fz := []) (l := [4]) (c := _) (.inr fun i h => h) h (by kernel_rfl) (AllP.cons hc3 AllP.nil) ?_
    intro a w h
    cases hF
    exact wp_ret (ret_okR tok h rfl (by kernel_rfl)).1
  · replace hF := of_f hb hF
    refine wp_skip ?_
    refine wp_reg_seq tok (orc := orcL []) (fz := []) (l := [4]) (c := _) (.inr fun i h => h) h (by kernel_rfl) (AllP.nil) ?_
    intro a w h
    cases hF
    exact wp_ret (ret_okR tok h rfl (by kernel_rfl)).1

def f209.l28 (k : Nat) (x0 : ByteArray) (x1 : Int) : Nat → (Int × Int) → Option (Int × Bool)
  | 0, _ => none
  | m28 + 1, (v47, v48) => if (decide ((v48 : Int) < (ByteArray.size x0 : Int))) then (if ((0 : Int) ≤ v48 ∧ (v48 : Int) < (ByteArray.size x0 : Int)) then (if (((decide (((byteAt x0 v48) : Int) < (48 : Int))) = false) → ((0 : Int) ≤ v48 ∧ (v48 : Int) < (ByteArray.size x0 : Int))) then (if (bif (decide (((byteAt x0 v48) : Int) < (48 : Int))) then true else (decide (((byteAt x0 v48) : Int) > (57 : Int)))) then (some ((0 : Int), false)) else (if ((0 : Int) ≤ v48 ∧ (v48 : Int) < (ByteArray.size x0 : Int)) then (if (decide (((IntKind.i64.wrap ((IntKind.i64.wrap (v47 * (10 : Int))) + (IntKind.i64.wrap (IntKind.u8.wrap ((byteAt x0 v48) - (48 : Int)))))) : Int) > x1)) then (some ((0 : Int), false)) else ((f209.l28 k x0 x1) m28 ((IntKind.i64.wrap ((IntKind.i64.wrap (v47 * (10 : Int))) + (IntKind.i64.wrap (IntKind.u8.wrap ((byteAt x0 v48) - (48 : Int)))))), (IntKind.i64.wrap (v48 + (1 : Int)))))) else none)) else none) else none) else (some (v47, true))
def f209 (k : Nat) (x0 : ByteArray) (x1 : Int) : Option (Int × Bool) := if (bif (ByteArray.toList x0 == ByteArray.toList (⟨#[]⟩ : ByteArray)) then true else (decide (((ByteArray.size x0 : Int) : Int) > (10 : Int)))) then (some ((0 : Int), false)) else (f209.l28 k x0 x1 k ((0 : Int), (0 : Int)))
set_option maxRecDepth 100000 in
/-- 'impl.number'. -/
theorem c209 (k : Nat) (x0 : ByteArray) (x1 : Int) (r : (Int × Bool)) (hF : f209 k x0 x1 = some r) : PCall Try.prog 209 [⟨.str, x0⟩, ⟨(.int .i64), x1⟩] [⟨(.int .i64), r.1⟩, ⟨.bool, r.2⟩] := by
  refine pcall_intro Try.func209 rfl rfl (Nat.le_of_ble_eq_true rfl) ?_
  intro w0 Zi a w h
  rw [f209] at hF
  refine wp_reg_seq tok (orc := orcL []) (fz := []) (l := [0, 1]) (c := _) (.inr fun i h => h) h (by kernel_rfl) (AllP.nil) ?_
  intro a w h
  refine wp_seq ?_
  refine wp_reg_seq tok (orc := orcL []) (fz := []) (l := [0, 1, 14]) (c := _) (.inr fun i h => h) h (by kernel_rfl) (AllP.nil) ?_
  intro a w h
  refine wp_if h (b := (bif (ByteArray.toList x0 == ByteArray.toList (⟨#[]⟩ : ByteArray)) then true else (decide (((ByteArray.size x0 : Int) : Int) > (10 : Int))))) (by kernel_rfl) (fun hb => ?_) (fun hb => ?_)
  · replace hF := of_t hb hF
    refine wp_reg_seq tok (orc := orcL []) (fz := []) (l := [4, 5]) (c := _) (.inr fun i h => h) h (by kernel_rfl) (AllP.nil) ?_
    intro a w h
    cases hF
    exact wp_ret (ret_okR tok h rfl (by kernel_rfl)).1
  · replace hF := of_f hb hF
    refine wp_skip ?_
    refine wp_reg_seq tok (orc := orcL []) (fz := []) (l := [0, 1, 6]) (c := _) (.inr fun i h => h) h (by kernel_rfl) (AllP.nil) ?_
    intro a w h
    refine wp_seq ?_
    refine wp_reg_seq tok (orc := orcL []) (fz := []) (l := [0, 1, 6, 7]) (c := _) (.inr fun i h => h) h (by kernel_rfl) (AllP.nil) ?_
    intro a w h
    refine wp_block ?_
    refine wp_loop_fuel (f209.l28 k x0 x1) (fun ((v47, v48) : (Int × Int)) => [(0, .val .str x0), (1, .val (.int .i64) x1), (6, .val (.int .i64) v47), (7, .val (.int .i64) v48)]) (fun v h => by obtain ⟨v47, v48⟩ := v; rw [f209.l28] at h; cases h) ?_ hF (h.arrive (fz := []) (l := [0, 1, 6, 7]) (.inr fun i h => h) (by kernel_rfl))
    intro m28 v a w hF h
    obtain ⟨v47, v48⟩ := v
    rw [f209.l28] at hF
    refine wp_seq ?_
    refine wp_reg_seq tok (orc := orcL []) (fz := []) (l := [0, 1, 6, 7, 18]) (c := _) (.inr fun i h => h) h (by kernel_rfl) (AllP.nil) ?_
    intro a w h
    refine wp_if h (b := (decide ((v48 : Int) < (ByteArray.size x0 : Int)))) (by kernel_rfl) (fun hb => ?_) (fun hb => ?_)
    · replace hF := of_t hb hF
      refine wp_skip ?_
      refine wp_seq <| wp_block ?_
      refine wp_seq ?_
      obtain ⟨hc53, hF⟩ := of_if hF
      obtain ⟨hc54, hF⟩ := of_if hF
      refine wp_reg_seq tok (orc := orcL []) (fz := []) (l := [0, 1, 6, 7, 30]) (c := _) (.inr fun i h => h) h (by kernel_rfl) (AllP.cons hc53 (AllP.cons hc54 AllP.nil)) ?_
      intro a w h
      refine wp_if h (b := (bif (decide (((byteAt x0 v48) : Int) < (48 : Int))) then true else (decide (((byteAt x0 v48) : Int) > (57 : Int))))) (by kernel_rfl) (fun hb => ?_) (fun hb => ?_)
      · replace hF := of_t hb hF
        refine wp_reg_seq tok (orc := orcL []) (fz := []) (l := [4, 5]) (c := _) (.inr fun i h => h) h (by kernel_rfl) (AllP.nil) ?_
        intro a w h
        cases hF
        exact wp_ret (ret_okR tok h rfl (by kernel_rfl)).1
      · replace hF := of_f hb hF
        refine wp_skip ?_
        obtain ⟨hc52, hF⟩ := of_if hF
        refine wp_reg_seq tok (orc := orcL []) (fz := []) (l := [0, 1, 6, 7]) (c := _) (.inr fun i h => h) h (by kernel_rfl) (AllP.cons hc52 AllP.nil) ?_
        intro a w h
        refine wp_reg_seq tok (orc := orcL []) (fz := []) (l := [0, 1, 6, 7, 41]) (c := _) (.inr fun i h => h) h (by kernel_rfl) (AllP.nil) ?_
        intro a w h
        refine wp_if h (b := (decide (((IntKind.i64.wrap ((IntKind.i64.wrap (v47 * (10 : Int))) + (IntKind.i64.wrap (IntKind.u8.wrap ((byteAt x0 v48) - (48 : Int)))))) : Int) > x1))) (by kernel_rfl) (fun hb => ?_) (fun hb => ?_)
        · replace hF := of_t hb hF
          refine wp_reg_seq tok (orc := orcL []) (fz := []) (l := [4, 5]) (c := _) (.inr fun i h => h) h (by kernel_rfl) (AllP.nil) ?_
          intro a w h
          cases hF
          exact wp_ret (ret_okR tok h rfl (by kernel_rfl)).1
        · replace hF := of_f hb hF
          refine wp_skip ?_
          refine wp_reg tok (orc := orcL []) (fz := []) (l := [0, 1, 6, 7]) (c := _) (.inr fun i h => h) h (by kernel_rfl) (AllP.nil) ?_
          intro a w h
          exact ⟨((IntKind.i64.wrap ((IntKind.i64.wrap (v47 * (10 : Int))) + (IntKind.i64.wrap (IntKind.u8.wrap ((byteAt x0 v48) - (48 : Int)))))), (IntKind.i64.wrap (v48 + (1 : Int)))), hF, h.arrive (fz := []) (l := [0, 1, 6, 7]) (.inr fun i h => h) (by kernel_rfl)⟩
    · replace hF := of_f hb hF
      refine wp_exit ?_
      refine wp_reg_seq tok (orc := orcL []) (fz := []) (l := [4, 5]) (c := _) (.inr fun i h => h) h (by kernel_rfl) (AllP.nil) ?_
      intro a w h
      cases hF
      exact wp_ret (ret_okR tok h rfl (by kernel_rfl)).1

def f147.j12 (k : Nat) : Int → Option Int
  | v11 => some v11
def f147.j9 (k : Nat) (x0 : (List (ByteArray × ByteArray))) : Int → Option Int
  | v8 => (f150 k x0 (⟨#[97, 99, 99, 101, 115, 115]⟩ : ByteArray)).bind fun r10 => (if (bif (ByteArray.toList r10 == ByteArray.toList (⟨#[110, 111]⟩ : ByteArray)) then true else (ByteArray.toList r10 == ByteArray.toList (⟨#[112, 114, 105, 118, 97, 116, 101]⟩ : ByteArray))) then (f147.j12 k (0 : Int)) else (f147.j12 k v8))
def f147.j15 (k : Nat) (x0 : (List (ByteArray × ByteArray))) (q9 : Int → Option Int) : Int → Option Int
  | v14 => (f150 k x0 (⟨#[109, 97, 120, 115, 112, 101, 101, 100]⟩ : ByteArray)).bind fun r16 => ((f209 k r16 (30 : Int)).bind fun r17 => (if (bif (bif r17.2 then (decide ((r17.1 : Int) ≥ (1 : Int))) else false) then (decide ((v14 : Int) > r17.1)) else false) then (q9 r17.1) else (q9 v14)))
def f147 (k : Nat) (x0 : (List (ByteArray × ByteArray))) (x1 : Int) : Option Int := (f150 k x0 (⟨#[104, 105, 103, 104, 119, 97, 121]⟩ : ByteArray)).bind fun r1 => (if ((x1 : Int) == (1 : Int)) then (if (ByteArray.toList r1 == ByteArray.toList (⟨#[109, 111, 116, 111, 114, 119, 97, 121]⟩ : ByteArray)) then (f147.j15 k x0 (f147.j9 k x0) (30 : Int)) else (if (ByteArray.toList r1 == ByteArray.toList (⟨#[109, 97, 105, 110]⟩ : ByteArray)) then (f147.j15 k x0 (f147.j9 k x0) (20 : Int)) else (if (ByteArray.toList r1 == ByteArray.toList (⟨#[115, 116, 114, 101, 101, 116]⟩ : ByteArray)) then (f147.j15 k x0 (f147.j9 k x0) (10 : Int)) else (f147.j15 k x0 (f147.j9 k x0) (0 : Int))))) else (if ((x1 : Int) == (2 : Int)) then (if (bif (!(ByteArray.toList r1 == ByteArray.toList (⟨#[]⟩ : ByteArray))) then (!(ByteArray.toList r1 == ByteArray.toList (⟨#[109, 111, 116, 111, 114, 119, 97, 121]⟩ : ByteArray))) else false) then (f147.j9 k x0 (1 : Int)) else (f147.j9 k x0 (0 : Int))) else (f147.j9 k x0 (0 : Int))))
set_option maxRecDepth 100000 in
/-- 'impl.SpeedOf'. -/
theorem c147 (k : Nat) (x0 : (List (ByteArray × ByteArray))) (x1 : Int) (r : Int) (hF : f147 k x0 x1 = some r) : PCall Try.prog 147 [⟨sh20, x0⟩, ⟨(.int .i64), x1⟩] [⟨(.int .i64), r⟩] := by
  refine pcall_intro Try.func147 rfl rfl (Nat.le_of_ble_eq_true rfl) ?_
  intro w0 Zi a w h
  rw [f147] at hF
  refine wp_reg_seq tok (orc := orcL []) (fz := []) (l := [0, 1]) (c := _) (.inr fun i h => h) h (by kernel_rfl) (AllP.nil) ?_
  intro a w h
  obtain ⟨r1, hr20, hF⟩ := of_bind hF
  refine wp_reg_seq tok (orc := orcL [(11, [⟨.str, r1⟩])]) (fz := []) (l := [0, 1, 5]) (c := _) (.inr fun i h => h) h (by kernel_rfl) (AllP.cons (c150 k x0 (⟨#[104, 105, 103, 104, 119, 97, 121]⟩ : ByteArray) r1 hr20) AllP.nil) ?_
  intro a w h
  refine wp_reg_seq tok (orc := orcL []) (fz := []) (l := [0, 1, 5, 6]) (c := _) (.inr fun i h => h) h (by kernel_rfl) (AllP.nil) ?_
  intro a w h
  refine wp_seq ?_
  refine wp_reg_seq tok (orc := orcL []) (fz := []) (l := [0, 5, 6, 12]) (c := _) (.inr fun i h => h) h (by kernel_rfl) (AllP.nil) ?_
  intro a w h
  refine wp_midT (fun a w => ∃ v : Int, f147.j9 k x0 v = some r ∧ Rel w0 (fun _ => False) Zi Try.f147.ntmps ((fun (v8 : Int) => ([(0, .val sh20 x0), (6, .val (.int .i64) v8)] : SS)) v) a w) ?_ ?_
  ·
    refine wp_block ?_
    refine wp_reg_seq tok (orc := orcL []) (fz := []) (l := [0, 5, 6, 12, 13]) (c := _) (.inr fun i h => h) h (by kernel_rfl) (AllP.nil) ?_
    intro a w h
    refine wp_if h (b := ((x1 : Int) == (1 : Int))) (by kernel_rfl) (fun hb => ?_) (fun hb => ?_)
    · replace hF := of_t hb hF
      refine wp_seq ?_
      refine wp_reg_seq tok (orc := orcL []) (fz := []) (l := [0, 6, 15]) (c := _) (.inr fun i h => h) h (by kernel_rfl) (AllP.nil) ?_
      intro a w h
      refine wp_midT (fun a w => ∃ v : Int, f147.j15 k x0 (f147.j9 k x0) v = some r ∧ Rel w0 (fun _ => False) Zi Try.f147.ntmps ((fun (v14 : Int) => ([(0, .val sh20 x0), (6, .val (.int .i64) v14)] : SS)) v) a w) ?_ ?_
      ·
        refine wp_block ?_
        refine wp_reg_seq tok (orc := orcL []) (fz := []) (l := [0, 6, 15, 16]) (c := _) (.inr fun i h => h) h (by kernel_rfl) (AllP.nil) ?_
        intro a w h
        refine wp_if h (b := (ByteArray.toList r1 == ByteArray.toList (⟨#[109, 111, 116, 111, 114, 119, 97, 121]⟩ : ByteArray))) (by kernel_rfl) (fun hb => ?_) (fun hb => ?_)
        · replace hF := of_t hb hF
          refine wp_reg tok (orc := orcL []) (fz := []) (l := [0, 6]) (c := _) (.inr fun i h => h) h (by kernel_rfl) (AllP.nil) ?_
          intro a w h
          exact ⟨(30 : Int), hF, h.arrive (fz := []) (l := [0, 6]) (.inr fun i h => h) (by kernel_rfl)⟩
        · replace hF := of_f hb hF
          refine wp_reg_seq tok (orc := orcL []) (fz := []) (l := [0, 6, 15, 18]) (c := _) (.inr fun i h => h) h (by kernel_rfl) (AllP.nil) ?_
          intro a w h
          refine wp_if h (b := (ByteArray.toList r1 == ByteArray.toList (⟨#[109, 97, 105, 110]⟩ : ByteArray))) (by kernel_rfl) (fun hb => ?_) (fun hb => ?_)
          · replace hF := of_t hb hF
            refine wp_reg tok (orc := orcL []) (fz := []) (l := [0, 6]) (c := _) (.inr fun i h => h) h (by kernel_rfl) (AllP.nil) ?_
            intro a w h
            exact ⟨(20 : Int), hF, h.arrive (fz := []) (l := [0, 6]) (.inr fun i h => h) (by kernel_rfl)⟩
          · replace hF := of_f hb hF
            refine wp_reg_seq tok (orc := orcL []) (fz := []) (l := [0, 6, 20]) (c := _) (.inr fun i h => h) h (by kernel_rfl) (AllP.nil) ?_
            intro a w h
            refine wp_if h (b := (ByteArray.toList r1 == ByteArray.toList (⟨#[115, 116, 114, 101, 101, 116]⟩ : ByteArray))) (by kernel_rfl) (fun hb => ?_) (fun hb => ?_)
            · replace hF := of_t hb hF
              refine wp_reg tok (orc := orcL []) (fz := []) (l := [0, 6]) (c := _) (.inr fun i h => h) h (by kernel_rfl) (AllP.nil) ?_
              intro a w h
              exact ⟨(10 : Int), hF, h.arrive (fz := []) (l := [0, 6]) (.inr fun i h => h) (by kernel_rfl)⟩
            · replace hF := of_f hb hF
              refine wp_skip ?_
              exact ⟨(0 : Int), hF, h.arrive (fz := []) (l := [0, 6]) (.inr fun i h => h) (by kernel_rfl)⟩
      · rintro a w ⟨v14, hF, h⟩
        rw [f147.j15] at hF
        obtain ⟨r16, hr18, hF⟩ := of_bind hF
        obtain ⟨r17, hr19, hF⟩ := of_bind hF
        refine wp_reg_seq tok (orc := orcL [(24, [⟨.str, r16⟩]), (25, [⟨(.int .i64), r17.1⟩, ⟨.bool, r17.2⟩])]) (fz := []) (l := [0, 6, 7, 8]) (c := _) (.inr fun i h => h) h (by kernel_rfl) (AllP.cons (c150 k x0 (⟨#[109, 97, 120, 115, 112, 101, 101, 100]⟩ : ByteArray) r16 hr18) (AllP.cons (c209 k r16 (30 : Int) r17 hr19) AllP.nil)) ?_
        intro a w h
        refine wp_reg_seq tok (orc := orcL []) (fz := []) (l := [0, 6, 7, 37]) (c := _) (.inr fun i h => h) h (by kernel_rfl) (AllP.nil) ?_
        intro a w h
        refine wp_if h (b := (bif (bif r17.2 then (decide ((r17.1 : Int) ≥ (1 : Int))) else false) then (decide ((v14 : Int) > r17.1)) else false)) (by kernel_rfl) (fun hb => ?_) (fun hb => ?_)
        · replace hF := of_t hb hF
          refine wp_reg tok (orc := orcL []) (fz := []) (l := [0, 6]) (c := _) (.inr fun i h => h) h (by kernel_rfl) (AllP.nil) ?_
          intro a w h
          exact ⟨r17.1, hF, h.arrive (fz := []) (l := [0, 6]) (.inr fun i h => h) (by kernel_rfl)⟩
        · replace hF := of_f hb hF
          refine wp_skip ?_
          exact ⟨v14, hF, h.arrive (fz := []) (l := [0, 6]) (.inr fun i h => h) (by kernel_rfl)⟩
    · replace hF := of_f hb hF
      refine wp_reg_seq tok (orc := orcL []) (fz := []) (l := [0, 5, 6, 39]) (c := _) (.inr fun i h => h) h (by kernel_rfl) (AllP.nil) ?_
      intro a w h
      refine wp_if h (b := ((x1 : Int) == (2 : Int))) (by kernel_rfl) (fun hb => ?_) (fun hb => ?_)
      · replace hF := of_t hb hF
        refine wp_reg_seq tok (orc := orcL []) (fz := []) (l := [0, 6, 46]) (c := _) (.inr fun i h => h) h (by kernel_rfl) (AllP.nil) ?_
        intro a w h
        refine wp_if h (b := (bif (!(ByteArray.toList r1 == ByteArray.toList (⟨#[]⟩ : ByteArray))) then (!(ByteArray.toList r1 == ByteArray.toList (⟨#[109, 111, 116, 111, 114, 119, 97, 121]⟩ : ByteArray))) else false)) (by kernel_rfl) (fun hb => ?_) (fun hb => ?_)
        · replace hF := of_t hb hF
          refine wp_reg tok (orc := orcL []) (fz := []) (l := [0, 6]) (c := _) (.inr fun i h => h) h (by kernel_rfl) (AllP.nil) ?_
          intro a w h
          exact ⟨(1 : Int), hF, h.arrive (fz := []) (l := [0, 6]) (.inr fun i h => h) (by kernel_rfl)⟩
        · replace hF := of_f hb hF
          refine wp_skip ?_
          exact ⟨(0 : Int), hF, h.arrive (fz := []) (l := [0, 6]) (.inr fun i h => h) (by kernel_rfl)⟩
      · replace hF := of_f hb hF
        refine wp_skip ?_
        exact ⟨(0 : Int), hF, h.arrive (fz := []) (l := [0, 6]) (.inr fun i h => h) (by kernel_rfl)⟩
  · rintro a w ⟨v8, hF, h⟩
    rw [f147.j9] at hF
    refine wp_seq ?_
    obtain ⟨r10, hr13, hF⟩ := of_bind hF
    refine wp_reg_seq tok (orc := orcL [(48, [⟨.str, r10⟩])]) (fz := []) (l := [6, 9]) (c := _) (.inr fun i h => h) h (by kernel_rfl) (AllP.cons (c150 k x0 (⟨#[97, 99, 99, 101, 115, 115]⟩ : ByteArray) r10 hr13) AllP.nil) ?_
    intro a w h
    refine wp_reg_seq tok (orc := orcL []) (fz := []) (l := [6, 54]) (c := _) (.inr fun i h => h) h (by kernel_rfl) (AllP.nil) ?_
    intro a w h
    refine wp_midT (fun a w => ∃ v : Int, f147.j12 k v = some r ∧ Rel w0 (fun _ => False) Zi Try.f147.ntmps ((fun (v11 : Int) => ([(6, .val (.int .i64) v11)] : SS)) v) a w) ?_ ?_
    ·
      refine wp_if h (b := (bif (ByteArray.toList r10 == ByteArray.toList (⟨#[110, 111]⟩ : ByteArray)) then true else (ByteArray.toList r10 == ByteArray.toList (⟨#[112, 114, 105, 118, 97, 116, 101]⟩ : ByteArray)))) (by kernel_rfl) (fun hb => ?_) (fun hb => ?_)
      · replace hF := of_t hb hF
        refine wp_reg tok (orc := orcL []) (fz := []) (l := [6]) (c := _) (.inr fun i h => h) h (by kernel_rfl) (AllP.nil) ?_
        intro a w h
        exact ⟨(0 : Int), hF, h.arrive (fz := []) (l := [6]) (.inr fun i h => h) (by kernel_rfl)⟩
      · replace hF := of_f hb hF
        refine wp_skip ?_
        exact ⟨v8, hF, h.arrive (fz := []) (l := [6]) (.inr fun i h => h) (by kernel_rfl)⟩
    · rintro a w ⟨v11, hF, h⟩
      rw [f147.j12] at hF
      refine wp_reg_seq tok (orc := orcL []) (fz := []) (l := [4]) (c := _) (.inr fun i h => h) h (by kernel_rfl) (AllP.nil) ?_
      intro a w h
      cases hF
      exact wp_ret (ret_okR tok h rfl (by kernel_rfl)).1

def f148 (k : Nat) (x0 : (List (ByteArray × ByteArray))) (x1 : Int) : Option Int := if ((x1 : Int) != (1 : Int)) then (some (0 : Int)) else ((f150 k x0 (⟨#[111, 110, 101, 119, 97, 121]⟩ : ByteArray)).bind fun r1 => (if (ByteArray.toList r1 == ByteArray.toList (⟨#[]⟩ : ByteArray)) then ((f150 k x0 (⟨#[106, 117, 110, 99, 116, 105, 111, 110]⟩ : ByteArray)).bind fun r4 => (if (ByteArray.toList r4 == ByteArray.toList (⟨#[114, 105, 110, 103]⟩ : ByteArray)) then (some (1 : Int)) else (some (0 : Int)))) else ((f150 k x0 (⟨#[111, 110, 101, 119, 97, 121]⟩ : ByteArray)).bind fun r6 => (if (ByteArray.toList r6 == ByteArray.toList (⟨#[121, 101, 115]⟩ : ByteArray)) then (some (1 : Int)) else (if (ByteArray.toList r6 == ByteArray.toList (⟨#[45, 49]⟩ : ByteArray)) then (some (-1 : Int)) else (some (0 : Int)))))))
set_option maxRecDepth 100000 in
/-- 'impl.Oneway'. -/
theorem c148 (k : Nat) (x0 : (List (ByteArray × ByteArray))) (x1 : Int) (r : Int) (hF : f148 k x0 x1 = some r) : PCall Try.prog 148 [⟨sh20, x0⟩, ⟨(.int .i64), x1⟩] [⟨(.int .i64), r⟩] := by
  refine pcall_intro Try.func148 rfl rfl (Nat.le_of_ble_eq_true rfl) ?_
  intro w0 Zi a w h
  rw [f148] at hF
  refine wp_reg_seq tok (orc := orcL []) (fz := []) (l := [0, 1]) (c := _) (.inr fun i h => h) h (by kernel_rfl) (AllP.nil) ?_
  intro a w h
  refine wp_seq ?_
  refine wp_reg_seq tok (orc := orcL []) (fz := []) (l := [0, 6]) (c := _) (.inr fun i h => h) h (by kernel_rfl) (AllP.nil) ?_
  intro a w h
  refine wp_if h (b := ((x1 : Int) != (1 : Int))) (by kernel_rfl) (fun hb => ?_) (fun hb => ?_)
  · replace hF := of_t hb hF
    refine wp_reg_seq tok (orc := orcL []) (fz := []) (l := [4]) (c := _) (.inr fun i h => h) h (by kernel_rfl) (AllP.nil) ?_
    intro a w h
    cases hF
    exact wp_ret (ret_okR tok h rfl (by kernel_rfl)).1
  · replace hF := of_f hb hF
    refine wp_skip ?_
    refine wp_seq ?_
    obtain ⟨r1, hr8, hF⟩ := of_bind hF
    refine wp_reg_seq tok (orc := orcL [(8, [⟨.str, r1⟩])]) (fz := []) (l := [0, 9]) (c := _) (.inr fun i h => h) h (by kernel_rfl) (AllP.cons (c150 k x0 (⟨#[111, 110, 101, 119, 97, 121]⟩ : ByteArray) r1 hr8) AllP.nil) ?_
    intro a w h
    refine wp_if h (b := (ByteArray.toList r1 == ByteArray.toList (⟨#[]⟩ : ByteArray))) (by kernel_rfl) (fun hb => ?_) (fun hb => ?_)
    · replace hF := of_t hb hF
      refine wp_seq ?_
      obtain ⟨r4, hr5, hF⟩ := of_bind hF
      refine wp_reg_seq tok (orc := orcL [(11, [⟨.str, r4⟩])]) (fz := []) (l := [12]) (c := _) (.inr fun i h => h) h (by kernel_rfl) (AllP.cons (c150 k x0 (⟨#[106, 117, 110, 99, 116, 105, 111, 110]⟩ : ByteArray) r4 hr5) AllP.nil) ?_
      intro a w h
      refine wp_if h (b := (ByteArray.toList r4 == ByteArray.toList (⟨#[114, 105, 110, 103]⟩ : ByteArray))) (by kernel_rfl) (fun hb => ?_) (fun hb => ?_)
      · replace hF := of_t hb hF
        refine wp_reg_seq tok (orc := orcL []) (fz := []) (l := [4]) (c := _) (.inr fun i h => h) h (by kernel_rfl) (AllP.nil) ?_
        intro a w h
        cases hF
        exact wp_ret (ret_okR tok h rfl (by kernel_rfl)).1
      · replace hF := of_f hb hF
        refine wp_skip ?_
        refine wp_reg_seq tok (orc := orcL []) (fz := []) (l := [4]) (c := _) (.inr fun i h => h) h (by kernel_rfl) (AllP.nil) ?_
        intro a w h
        cases hF
        exact wp_ret (ret_okR tok h rfl (by kernel_rfl)).1
    · replace hF := of_f hb hF
      refine wp_skip ?_
      refine wp_seq ?_
      obtain ⟨r6, hr7, hF⟩ := of_bind hF
      refine wp_reg_seq tok (orc := orcL [(14, [⟨.str, r6⟩])]) (fz := []) (l := [14]) (c := _) (.inr fun i h => h) h (by kernel_rfl) (AllP.cons (c150 k x0 (⟨#[111, 110, 101, 119, 97, 121]⟩ : ByteArray) r6 hr7) AllP.nil) ?_
      intro a w h
      refine wp_block ?_
      refine wp_reg_seq tok (orc := orcL []) (fz := []) (l := [14, 15]) (c := _) (.inr fun i h => h) h (by kernel_rfl) (AllP.nil) ?_
      intro a w h
      refine wp_if h (b := (ByteArray.toList r6 == ByteArray.toList (⟨#[121, 101, 115]⟩ : ByteArray))) (by kernel_rfl) (fun hb => ?_) (fun hb => ?_)
      · replace hF := of_t hb hF
        refine wp_reg_seq tok (orc := orcL []) (fz := []) (l := [4]) (c := _) (.inr fun i h => h) h (by kernel_rfl) (AllP.nil) ?_
        intro a w h
        cases hF
        exact wp_ret (ret_okR tok h rfl (by kernel_rfl)).1
      · replace hF := of_f hb hF
        refine wp_reg_seq tok (orc := orcL []) (fz := []) (l := [17]) (c := _) (.inr fun i h => h) h (by kernel_rfl) (AllP.nil) ?_
        intro a w h
        refine wp_if h (b := (ByteArray.toList r6 == ByteArray.toList (⟨#[45, 49]⟩ : ByteArray))) (by kernel_rfl) (fun hb => ?_) (fun hb => ?_)
        · replace hF := of_t hb hF
          refine wp_reg_seq tok (orc := orcL []) (fz := []) (l := [4]) (c := _) (.inr fun i h => h) h (by kernel_rfl) (AllP.nil) ?_
          intro a w h
          cases hF
          exact wp_ret (ret_okR tok h rfl (by kernel_rfl)).1
        · replace hF := of_f hb hF
          refine wp_skip ?_
          refine wp_reg_seq tok (orc := orcL []) (fz := []) (l := [4]) (c := _) (.inr fun i h => h) h (by kernel_rfl) (AllP.nil) ?_
          intro a w h
          cases hF
          exact wp_ret (ret_okR tok h rfl (by kernel_rfl)).1

def f210 (k : Nat) (x0 : (Int × Int)) (x1 : (Int × Int)) : Option Int := some (IntKind.i64.wrap ((IntKind.i64.wrap ((IntKind.i64.wrap (x0.1 - x1.1)) * (IntKind.i64.wrap (x0.1 - x1.1)))) + (IntKind.i64.wrap ((IntKind.i64.wrap (x0.2 - x1.2)) * (IntKind.i64.wrap (x0.2 - x1.2))))))
set_option maxRecDepth 100000 in
/-- 'impl.square'. -/
theorem c210 (k : Nat) (x0 : (Int × Int)) (x1 : (Int × Int)) (r : Int) (hF : f210 k x0 x1 = some r) : PCall Try.prog 210 [⟨sh9, x0⟩, ⟨sh9, x1⟩] [⟨(.int .i64), r⟩] := by
  refine pcall_intro Try.func210 rfl rfl (Nat.le_of_ble_eq_true rfl) ?_
  intro w0 Zi a w h
  rw [f210] at hF
  refine wp_reg_seq tok (orc := orcL []) (fz := []) (l := [2, 3]) (c := _) (.inr fun i h => h) h (by kernel_rfl) (AllP.nil) ?_
  intro a w h
  refine wp_reg_seq tok (orc := orcL []) (fz := []) (l := [4]) (c := _) (.inr fun i h => h) h (by kernel_rfl) (AllP.nil) ?_
  intro a w h
  cases hF
  exact wp_ret (ret_okR tok h rfl (by kernel_rfl)).1

def f247 (k : Nat) (x0 : Int) (x1 : Int) : Option (Int × Int) := if ((0 : Int) ≤ (32 : Int)) then (if ((0 : Int) ≤ (32 : Int)) then (if ((0 : Int) ≤ (32 : Int)) then (if ((0 : Int) ≤ (32 : Int)) then ((some ((IntKind.u64.wrap ((Go.bits .and .u64 (IntKind.u64.wrap ((IntKind.u64.wrap ((Int.fdiv x0 (2 ^ (min (Int.toNat (32 : Int)) IntKind.u64.bits))) * (Go.bits .and .u64 x1 (4294967295 : Int)))) + (Int.fdiv (IntKind.u64.wrap ((Go.bits .and .u64 x0 (4294967295 : Int)) * (Go.bits .and .u64 x1 (4294967295 : Int)))) (2 ^ (min (Int.toNat (32 : Int)) IntKind.u64.bits))))) (4294967295 : Int)) + (IntKind.u64.wrap ((Go.bits .and .u64 x0 (4294967295 : Int)) * (Int.fdiv x1 (2 ^ (min (Int.toNat (32 : Int)) IntKind.u64.bits))))))) : Int)).bind fun v1 => (if ((0 : Int) ≤ (32 : Int)) then ((some ((IntKind.u64.wrap ((IntKind.u64.wrap ((IntKind.u64.wrap ((Int.fdiv x0 (2 ^ (min (Int.toNat (32 : Int)) IntKind.u64.bits))) * (Int.fdiv x1 (2 ^ (min (Int.toNat (32 : Int)) IntKind.u64.bits))))) + (Int.fdiv (IntKind.u64.wrap ((IntKind.u64.wrap ((Int.fdiv x0 (2 ^ (min (Int.toNat (32 : Int)) IntKind.u64.bits))) * (Go.bits .and .u64 x1 (4294967295 : Int)))) + (Int.fdiv (IntKind.u64.wrap ((Go.bits .and .u64 x0 (4294967295 : Int)) * (Go.bits .and .u64 x1 (4294967295 : Int)))) (2 ^ (min (Int.toNat (32 : Int)) IntKind.u64.bits))))) (2 ^ (min (Int.toNat (32 : Int)) IntKind.u64.bits))))) + (Int.fdiv v1 (2 ^ (min (Int.toNat (32 : Int)) IntKind.u64.bits))))) : Int)).bind fun v2 => (some (v2, (IntKind.u64.wrap (x0 * x1))))) else none)) else none) else none) else none) else none
set_option maxRecDepth 100000 in
/-- 'bits.Mul64'. -/
theorem c247 (k : Nat) (x0 : Int) (x1 : Int) (r : (Int × Int)) (hF : f247 k x0 x1 = some r) : PCall Try.prog 247 [⟨(.int .u64), x0⟩, ⟨(.int .u64), x1⟩] [⟨(.int .u64), r.1⟩, ⟨(.int .u64), r.2⟩] := by
  refine pcall_intro Try.func247 rfl rfl (Nat.le_of_ble_eq_true rfl) ?_
  intro w0 Zi a w h
  rw [f247] at hF
  refine wp_reg_seq tok (orc := orcL []) (fz := []) (l := [0, 1]) (c := _) (.inr fun i h => h) h (by kernel_rfl) (AllP.nil) ?_
  intro a w h
  refine wp_reg_seq tok (orc := orcL []) (fz := []) (l := [0, 1, 6]) (c := _) (.inr fun i h => h) h (by kernel_rfl) (AllP.nil) ?_
  intro a w h
  obtain ⟨hc9, hF⟩ := of_if hF
  refine wp_reg_seq tok (orc := orcL []) (fz := []) (l := [0, 1, 6, 7]) (c := _) (.inr fun i h => h) h (by kernel_rfl) (AllP.cons hc9 AllP.nil) ?_
  intro a w h
  refine wp_reg_seq tok (orc := orcL []) (fz := []) (l := [0, 1, 6, 7, 8]) (c := _) (.inr fun i h => h) h (by kernel_rfl) (AllP.nil) ?_
  intro a w h
  obtain ⟨hc8, hF⟩ := of_if hF
  refine wp_reg_seq tok (orc := orcL []) (fz := []) (l := [0, 1, 6, 7, 8, 9]) (c := _) (.inr fun i h => h) h (by kernel_rfl) (AllP.cons hc8 AllP.nil) ?_
  intro a w h
  refine wp_reg_seq tok (orc := orcL []) (fz := []) (l := [0, 1, 6, 7, 8, 9, 10]) (c := _) (.inr fun i h => h) h (by kernel_rfl) (AllP.nil) ?_
  intro a w h
  obtain ⟨hc7, hF⟩ := of_if hF
  refine wp_reg_seq tok (orc := orcL []) (fz := []) (l := [0, 1, 6, 7, 9, 11]) (c := _) (.inr fun i h => h) h (by kernel_rfl) (AllP.cons hc7 AllP.nil) ?_
  intro a w h
  refine wp_reg_seq tok (orc := orcL []) (fz := []) (l := [0, 1, 6, 7, 9, 11, 12]) (c := _) (.inr fun i h => h) h (by kernel_rfl) (AllP.nil) ?_
  intro a w h
  obtain ⟨hc6, hF⟩ := of_if hF
  refine wp_reg_seq tok (orc := orcL []) (fz := []) (l := [0, 1, 6, 7, 9, 12, 13]) (c := _) (.inr fun i h => h) h (by kernel_rfl) (AllP.cons hc6 AllP.nil) ?_
  intro a w h
  refine wp_reg_seq tok (orc := orcL []) (fz := []) (l := [0, 1, 7, 9, 12, 13]) (c := _) (.inr fun i h => h) h (by kernel_rfl) (AllP.nil) ?_
  intro a w h
  obtain ⟨v1, hv5, hF⟩ := of_bind hF
  replace h := h.cast (S' := [(0, .val (.int .u64) x0), (1, .val (.int .u64) x1), (7, .val (.int .u64) (Int.fdiv x0 (2 ^ (min (Int.toNat (32 : Int)) IntKind.u64.bits)))), (9, .val (.int .u64) (Int.fdiv x1 (2 ^ (min (Int.toNat (32 : Int)) IntKind.u64.bits)))), (12, .val (.int .u64) v1), (13, .val (.int .u64) (Int.fdiv (IntKind.u64.wrap ((IntKind.u64.wrap ((Int.fdiv x0 (2 ^ (min (Int.toNat (32 : Int)) IntKind.u64.bits))) * (Go.bits .and .u64 x1 (4294967295 : Int)))) + (Int.fdiv (IntKind.u64.wrap ((Go.bits .and .u64 x0 (4294967295 : Int)) * (Go.bits .and .u64 x1 (4294967295 : Int)))) (2 ^ (min (Int.toNat (32 : Int)) IntKind.u64.bits))))) (2 ^ (min (Int.toNat (32 : Int)) IntKind.u64.bits))))]) (by cases hv5; kernel_rfl)
  obtain ⟨hc4, hF⟩ := of_if hF
  refine wp_reg_seq tok (orc := orcL []) (fz := []) (l := [0, 1, 4]) (c := _) (.inr fun i h => h) h (by kernel_rfl) (AllP.cons hc4 AllP.nil) ?_
  intro a w h
  obtain ⟨v2, hv3, hF⟩ := of_bind hF
  replace h := h.cast (S' := [(0, .val (.int .u64) x0), (1, .val (.int .u64) x1), (4, .val (.int .u64) v2)]) (by cases hv3; kernel_rfl)
  refine wp_reg_seq tok (orc := orcL []) (fz := []) (l := [4, 5]) (c := _) (.inr fun i h => h) h (by kernel_rfl) (AllP.nil) ?_
  intro a w h
  cases hF
  exact wp_ret (ret_okR tok h rfl (by kernel_rfl)).1

def f211.l19 (k : Nat) (x0 : Int) : Nat → (Int × Int) → Option Int
  | 0, _ => none
  | m19 + 1, (v32, v33) => if (decide (((IntKind.u64.wrap (v33 - v32)) : Int) > (1 : Int))) then (if (((2 : Int) : Int) ≠ 0) then ((f247 k (IntKind.u64.wrap (Int.tdiv (IntKind.u64.wrap (v32 + v33)) (2 : Int))) (IntKind.u64.wrap (Int.tdiv (IntKind.u64.wrap (v32 + v33)) (2 : Int)))).bind fun r34 => (if (bif ((r34.1 : Int) == (0 : Int)) then (decide ((r34.2 : Int) ≤ (IntKind.u64.wrap x0))) else false) then ((f211.l19 k x0) m19 ((IntKind.u64.wrap (Int.tdiv (IntKind.u64.wrap (v32 + v33)) (2 : Int))), v33)) else ((f211.l19 k x0) m19 (v32, (IntKind.u64.wrap (Int.tdiv (IntKind.u64.wrap (v32 + v33)) (2 : Int))))))) else none) else (some (IntKind.i64.wrap v32))
def f211 (k : Nat) (x0 : Int) : Option Int := if (decide ((x0 : Int) < (0 : Int))) then (some (-1 : Int)) else (f211.l19 k x0 k ((0 : Int), (3037000500 : Int)))
set_option maxRecDepth 100000 in
/-- 'impl.Root'. -/
theorem c211 (k : Nat) (x0 : Int) (r : Int) (hF : f211 k x0 = some r) : PCall Try.prog 211 [⟨(.int .i64), x0⟩] [⟨(.int .i64), r⟩] := by
  refine pcall_intro Try.func211 rfl rfl (Nat.le_of_ble_eq_true rfl) ?_
  intro w0 Zi a w h
  rw [f211] at hF
  refine wp_reg_seq tok (orc := orcL []) (fz := []) (l := [0]) (c := _) (.inr fun i h => h) h (by kernel_rfl) (AllP.nil) ?_
  intro a w h
  refine wp_seq ?_
  refine wp_reg_seq tok (orc := orcL []) (fz := []) (l := [0, 9]) (c := _) (.inr fun i h => h) h (by kernel_rfl) (AllP.nil) ?_
  intro a w h
  refine wp_if h (b := (decide ((x0 : Int) < (0 : Int)))) (by kernel_rfl) (fun hb => ?_) (fun hb => ?_)
  · replace hF := of_t hb hF
    refine wp_reg_seq tok (orc := orcL []) (fz := []) (l := [2]) (c := _) (.inr fun i h => h) h (by kernel_rfl) (AllP.nil) ?_
    intro a w h
    cases hF
    exact wp_ret (ret_okR tok h rfl (by kernel_rfl)).1
  · replace hF := of_f hb hF
    refine wp_skip ?_
    refine wp_reg_seq tok (orc := orcL []) (fz := []) (l := [0, 3, 4]) (c := _) (.inr fun i h => h) h (by kernel_rfl) (AllP.nil) ?_
    intro a w h
    refine wp_seq <| wp_block ?_
    refine wp_loop_fuel (f211.l19 k x0) (fun ((v32, v33) : (Int × Int)) => [(0, .val (.int .i64) x0), (3, .val (.int .u64) v32), (4, .val (.int .u64) v33)]) (fun v h => by obtain ⟨v32, v33⟩ := v; rw [f211.l19] at h; cases h) ?_ hF (h.arrive (fz := []) (l := [0, 3, 4]) (.inr fun i h => h) (by kernel_rfl))
    intro m19 v a w hF h
    obtain ⟨v32, v33⟩ := v
    rw [f211.l19] at hF
    refine wp_seq ?_
    refine wp_reg_seq tok (orc := orcL []) (fz := []) (l := [0, 3, 4, 13]) (c := _) (.inr fun i h => h) h (by kernel_rfl) (AllP.nil) ?_
    intro a w h
    refine wp_if h (b := (decide (((IntKind.u64.wrap (v33 - v32)) : Int) > (1 : Int)))) (by kernel_rfl) (fun hb => ?_) (fun hb => ?_)
    · replace hF := of_t hb hF
      refine wp_skip ?_
      refine wp_block ?_
      obtain ⟨hc36, hF⟩ := of_if hF
      refine wp_reg_seq tok (orc := orcL []) (fz := []) (l := [0, 3, 4, 5]) (c := _) (.inr fun i h => h) h (by kernel_rfl) (AllP.cons hc36 AllP.nil) ?_
      intro a w h
      obtain ⟨r34, hr35, hF⟩ := of_bind hF
      refine wp_reg_seq tok (orc := orcL [(21, [⟨(.int .u64), r34.1⟩, ⟨(.int .u64), r34.2⟩])]) (fz := []) (l := [0, 3, 4, 5, 6, 7]) (c := _) (.inr fun i h => h) h (by kernel_rfl) (AllP.cons (c247 k (IntKind.u64.wrap (Int.tdiv (IntKind.u64.wrap (v32 + v33)) (2 : Int))) (IntKind.u64.wrap (Int.tdiv (IntKind.u64.wrap (v32 + v33)) (2 : Int))) r34 hr35) AllP.nil) ?_
      intro a w h
      refine wp_reg_seq tok (orc := orcL []) (fz := []) (l := [0, 3, 4, 5, 31]) (c := _) (.inr fun i h => h) h (by kernel_rfl) (AllP.nil) ?_
      intro a w h
      refine wp_if h (b := (bif ((r34.1 : Int) == (0 : Int)) then (decide ((r34.2 : Int) ≤ (IntKind.u64.wrap x0))) else false)) (by kernel_rfl) (fun hb => ?_) (fun hb => ?_)
      · replace hF := of_t hb hF
        refine wp_reg tok (orc := orcL []) (fz := []) (l := [0, 3, 4]) (c := _) (.inr fun i h => h) h (by kernel_rfl) (AllP.nil) ?_
        intro a w h
        exact ⟨((IntKind.u64.wrap (Int.tdiv (IntKind.u64.wrap (v32 + v33)) (2 : Int))), v33), hF, h.arrive (fz := []) (l := [0, 3, 4]) (.inr fun i h => h) (by kernel_rfl)⟩
      · replace hF := of_f hb hF
        refine wp_reg tok (orc := orcL []) (fz := []) (l := [0, 3, 4]) (c := _) (.inr fun i h => h) h (by kernel_rfl) (AllP.nil) ?_
        intro a w h
        exact ⟨(v32, (IntKind.u64.wrap (Int.tdiv (IntKind.u64.wrap (v32 + v33)) (2 : Int)))), hF, h.arrive (fz := []) (l := [0, 3, 4]) (.inr fun i h => h) (by kernel_rfl)⟩
    · replace hF := of_f hb hF
      refine wp_exit ?_
      refine wp_reg_seq tok (orc := orcL []) (fz := []) (l := [2]) (c := _) (.inr fun i h => h) h (by kernel_rfl) (AllP.nil) ?_
      intro a w h
      cases hF
      exact wp_ret (ret_okR tok h rfl (by kernel_rfl)).1

def f149.l10 (k : Nat) (r3 : Int) : Nat → Int → Option Int
  | 0, _ => none
  | m10 + 1, v14 => if (decide (((IntKind.i64.wrap ((IntKind.i64.wrap ((IntKind.i64.wrap ((2 : Int) * v14)) + (1 : Int))) * (IntKind.i64.wrap ((IntKind.i64.wrap ((2 : Int) * v14)) + (1 : Int))))) : Int) ≤ (IntKind.i64.wrap ((4 : Int) * r3)))) then ((f149.l10 k r3) m10 (IntKind.i64.wrap (v14 + (1 : Int)))) else (some v14)
def f149 (k : Nat) (x0 : (Int × Int)) (x1 : (Int × Int)) : Option Int := (f169 k x0).bind fun r1 => ((if ((!r1) = false) then f169 k x1 else some default).bind fun r2 => (if (bif (!r1) then true else (!r2)) then (some (-1 : Int)) else ((f210 k x0 x1).bind fun r3 => ((f211 k r3).bind fun r4 => (f149.l10 k r3 k r4)))))
set_option maxRecDepth 100000 in
/-- 'impl.Distance'. -/
theorem c149 (k : Nat) (x0 : (Int × Int)) (x1 : (Int × Int)) (r : Int) (hF : f149 k x0 x1 = some r) : PCall Try.prog 149 [⟨sh9, x0⟩, ⟨sh9, x1⟩] [⟨(.int .i64), r⟩] := by
  refine pcall_intro Try.func149 rfl rfl (Nat.le_of_ble_eq_true rfl) ?_
  intro w0 Zi a w h
  rw [f149] at hF
  refine wp_reg_seq tok (orc := orcL []) (fz := []) (l := [2, 3]) (c := _) (.inr fun i h => h) h (by kernel_rfl) (AllP.nil) ?_
  intro a w h
  refine wp_seq ?_
  obtain ⟨r1, hr17, hF⟩ := of_bind hF
  obtain ⟨r2, hr18, hF⟩ := of_bind hF
  refine wp_reg_seq tok (orc := orcL [(8, [⟨.bool, r1⟩]), (12, [⟨.bool, r2⟩])]) (fz := []) (l := [2, 3, 14]) (c := _) (.inr fun i h => h) h (by kernel_rfl) (AllP.cons (c169 k x0 r1 hr17) (AllP.cons (fun (hg : ((!r1) = false)) => c169 k x1 r2 (of_g hg hr18)) AllP.nil)) ?_
  intro a w h
  refine wp_if h (b := (bif (!r1) then true else (!r2))) (by kernel_rfl) (fun hb => ?_) (fun hb => ?_)
  · replace hF := of_t hb hF
    refine wp_reg_seq tok (orc := orcL []) (fz := []) (l := [4]) (c := _) (.inr fun i h => h) h (by kernel_rfl) (AllP.nil) ?_
    intro a w h
    cases hF
    exact wp_ret (ret_okR tok h rfl (by kernel_rfl)).1
  · replace hF := of_f hb hF
    refine wp_skip ?_
    obtain ⟨r3, hr16, hF⟩ := of_bind hF
    refine wp_reg_seq tok (orc := orcL [(17, [⟨(.int .i64), r3⟩])]) (fz := []) (l := [5]) (c := _) (.inr fun i h => h) h (by kernel_rfl) (AllP.cons (c210 k x0 x1 r3 hr16) AllP.nil) ?_
    intro a w h
    obtain ⟨r4, hr15, hF⟩ := of_bind hF
    refine wp_reg_seq tok (orc := orcL [(19, [⟨(.int .i64), r4⟩])]) (fz := []) (l := [5, 6]) (c := _) (.inr fun i h => h) h (by kernel_rfl) (AllP.cons (c211 k r3 r4 hr15) AllP.nil) ?_
    intro a w h
    refine wp_seq <| wp_block ?_
    refine wp_loop_fuel (f149.l10 k r3) (fun (v14 : Int) => [(5, .val (.int .i64) r3), (6, .val (.int .i64) v14)]) (fun v h => by rw [f149.l10] at h; cases h) ?_ hF (h.arrive (fz := []) (l := [5, 6]) (.inr fun i h => h) (by kernel_rfl))
    intro m10 v14 a w hF h
    rw [f149.l10] at hF
    refine wp_seq ?_
    refine wp_reg_seq tok (orc := orcL []) (fz := []) (l := [5, 6, 29]) (c := _) (.inr fun i h => h) h (by kernel_rfl) (AllP.nil) ?_
    intro a w h
    refine wp_if h (b := (decide (((IntKind.i64.wrap ((IntKind.i64.wrap ((IntKind.i64.wrap ((2 : Int) * v14)) + (1 : Int))) * (IntKind.i64.wrap ((IntKind.i64.wrap ((2 : Int) * v14)) + (1 : Int))))) : Int) ≤ (IntKind.i64.wrap ((4 : Int) * r3))))) (by kernel_rfl) (fun hb => ?_) (fun hb => ?_)
    · replace hF := of_t hb hF
      refine wp_skip ?_
      refine wp_block ?_
      refine wp_reg tok (orc := orcL []) (fz := []) (l := [5, 6]) (c := _) (.inr fun i h => h) h (by kernel_rfl) (AllP.nil) ?_
      intro a w h
      exact ⟨(IntKind.i64.wrap (v14 + (1 : Int))), hF, h.arrive (fz := []) (l := [5, 6]) (.inr fun i h => h) (by kernel_rfl)⟩
    · replace hF := of_f hb hF
      refine wp_exit ?_
      refine wp_reg_seq tok (orc := orcL []) (fz := []) (l := [4]) (c := _) (.inr fun i h => h) h (by kernel_rfl) (AllP.nil) ?_
      intro a w h
      cases hF
      exact wp_ret (ret_okR tok h rfl (by kernel_rfl)).1

def f79.j256 (k : Nat) (v247 : Int) (q209 : Int → Option Bool) : Unit → Option Bool
  | _ => q209 (IntKind.i64.wrap (v247 + (1 : Int)))
def f79.l209 (k : Nat) (x0 : ((List (Int × (Int × Int))) × ((List (Int × (Int × (Int × (Int × (Int × ByteArray)))))) × (List (Int × Int))))) : Nat → Int → Option Bool
  | 0, _ => none
  | m209 + 1, v247 => if (decide ((v247 : Int) < (List.length x0.2.2 : Int))) then (if (0 ≤ v247 ∧ v247 < (List.length x0.2.2 : Int)) then (if (((bif (bif (bif (decide (((List.getD x0.2.2 (Int.toNat v247) ((0 : Int), (0 : Int))).1 : Int) < (0 : Int))) then true else (decide (((List.getD x0.2.2 (Int.toNat v247) ((0 : Int), (0 : Int))).1 : Int) ≥ (List.length x0.2.1 : Int)))) then true else (decide (((List.getD x0.2.2 (Int.toNat v247) ((0 : Int), (0 : Int))).2 : Int) < (0 : Int)))) then true else (decide (((List.getD x0.2.2 (Int.toNat v247) ((0 : Int), (0 : Int))).2 : Int) ≥ (List.length x0.2.1 : Int)))) = false) → (0 ≤ (List.getD x0.2.2 (Int.toNat v247) ((0 : Int), (0 : Int))).1 ∧ (List.getD x0.2.2 (Int.toNat v247) ((0 : Int), (0 : Int))).1 < (List.length x0.2.1 : Int))) then (if (((bif (bif (bif (decide (((List.getD x0.2.2 (Int.toNat v247) ((0 : Int), (0 : Int))).1 : Int) < (0 : Int))) then true else (decide (((List.getD x0.2.2 (Int.toNat v247) ((0 : Int), (0 : Int))).1 : Int) ≥ (List.length x0.2.1 : Int)))) then true else (decide (((List.getD x0.2.2 (Int.toNat v247) ((0 : Int), (0 : Int))).2 : Int) < (0 : Int)))) then true else (decide (((List.getD x0.2.2 (Int.toNat v247) ((0 : Int), (0 : Int))).2 : Int) ≥ (List.length x0.2.1 : Int)))) = false) → (0 ≤ (List.getD x0.2.2 (Int.toNat v247) ((0 : Int), (0 : Int))).2 ∧ (List.getD x0.2.2 (Int.toNat v247) ((0 : Int), (0 : Int))).2 < (List.length x0.2.1 : Int))) then ((some ((bif (bif (bif (bif (decide (((List.getD x0.2.2 (Int.toNat v247) ((0 : Int), (0 : Int))).1 : Int) < (0 : Int))) then true else (decide (((List.getD x0.2.2 (Int.toNat v247) ((0 : Int), (0 : Int))).1 : Int) ≥ (List.length x0.2.1 : Int)))) then true else (decide (((List.getD x0.2.2 (Int.toNat v247) ((0 : Int), (0 : Int))).2 : Int) < (0 : Int)))) then true else (decide (((List.getD x0.2.2 (Int.toNat v247) ((0 : Int), (0 : Int))).2 : Int) ≥ (List.length x0.2.1 : Int)))) then true else (((List.getD x0.2.1 (Int.toNat (List.getD x0.2.2 (Int.toNat v247) ((0 : Int), (0 : Int))).1) ((0 : Int), ((0 : Int), ((0 : Int), ((0 : Int), ((0 : Int), (⟨#[]⟩ : ByteArray))))))).2.1 : Int) != (List.getD x0.2.1 (Int.toNat (List.getD x0.2.2 (Int.toNat v247) ((0 : Int), (0 : Int))).2) ((0 : Int), ((0 : Int), ((0 : Int), ((0 : Int), ((0 : Int), (⟨#[]⟩ : ByteArray))))))).1)) : Bool)).bind fun v257 => (if v257 then (some false) else (if (decide ((v247 : Int) > (0 : Int))) then (if (0 ≤ (IntKind.i64.wrap (v247 - (1 : Int))) ∧ (IntKind.i64.wrap (v247 - (1 : Int))) < (List.length x0.2.2 : Int)) then ((some ((bif (decide (((List.getD x0.2.2 (Int.toNat (IntKind.i64.wrap (v247 - (1 : Int)))) ((0 : Int), (0 : Int))).1 : Int) > (List.getD x0.2.2 (Int.toNat v247) ((0 : Int), (0 : Int))).1)) then true else (bif (((List.getD x0.2.2 (Int.toNat (IntKind.i64.wrap (v247 - (1 : Int)))) ((0 : Int), (0 : Int))).1 : Int) == (List.getD x0.2.2 (Int.toNat v247) ((0 : Int), (0 : Int))).1) then (decide (((List.getD x0.2.2 (Int.toNat (IntKind.i64.wrap (v247 - (1 : Int)))) ((0 : Int), (0 : Int))).2 : Int) ≥ (List.getD x0.2.2 (Int.toNat v247) ((0 : Int), (0 : Int))).2)) else false)) : Bool)).bind fun v258 => (if v258 then (some false) else (f79.j256 k v247 ((f79.l209 k x0) m209) ()))) else none) else (f79.j256 k v247 ((f79.l209 k x0) m209) ())))) else none) else none) else none) else (some true)
def f79.l118 (k : Nat) (x0 : ((List (Int × (Int × Int))) × ((List (Int × (Int × (Int × (Int × (Int × ByteArray)))))) × (List (Int × Int))))) : Nat → Int → Option Bool
  | 0, _ => none
  | m118 + 1, v142 => if (decide ((v142 : Int) < (List.length x0.2.1 : Int))) then (if (0 ≤ v142 ∧ v142 < (List.length x0.2.1 : Int)) then ((if ((bif (bif (bif (decide (((List.getD x0.2.1 (Int.toNat v142) ((0 : Int), ((0 : Int), ((0 : Int), ((0 : Int), ((0 : Int), (⟨#[]⟩ : ByteArray))))))).1 : Int) < (0 : Int))) then true else (decide (((List.getD x0.2.1 (Int.toNat v142) ((0 : Int), ((0 : Int), ((0 : Int), ((0 : Int), ((0 : Int), (⟨#[]⟩ : ByteArray))))))).1 : Int) ≥ (List.length x0.1 : Int)))) then true else (decide (((List.getD x0.2.1 (Int.toNat v142) ((0 : Int), ((0 : Int), ((0 : Int), ((0 : Int), ((0 : Int), (⟨#[]⟩ : ByteArray))))))).2.1 : Int) < (0 : Int)))) then true else (decide (((List.getD x0.2.1 (Int.toNat v142) ((0 : Int), ((0 : Int), ((0 : Int), ((0 : Int), ((0 : Int), (⟨#[]⟩ : ByteArray))))))).2.1 : Int) ≥ (List.length x0.1 : Int)))) = false) then f168 k (List.getD x0.2.1 (Int.toNat v142) ((0 : Int), ((0 : Int), ((0 : Int), ((0 : Int), ((0 : Int), (⟨#[]⟩ : ByteArray))))))).2.2.1 else some default).bind fun r148 => ((some ((bif (bif (bif (bif (bif (bif (bif (bif (decide (((List.getD x0.2.1 (Int.toNat v142) ((0 : Int), ((0 : Int), ((0 : Int), ((0 : Int), ((0 : Int), (⟨#[]⟩ : ByteArray))))))).1 : Int) < (0 : Int))) then true else (decide (((List.getD x0.2.1 (Int.toNat v142) ((0 : Int), ((0 : Int), ((0 : Int), ((0 : Int), ((0 : Int), (⟨#[]⟩ : ByteArray))))))).1 : Int) ≥ (List.length x0.1 : Int)))) then true else (decide (((List.getD x0.2.1 (Int.toNat v142) ((0 : Int), ((0 : Int), ((0 : Int), ((0 : Int), ((0 : Int), (⟨#[]⟩ : ByteArray))))))).2.1 : Int) < (0 : Int)))) then true else (decide (((List.getD x0.2.1 (Int.toNat v142) ((0 : Int), ((0 : Int), ((0 : Int), ((0 : Int), ((0 : Int), (⟨#[]⟩ : ByteArray))))))).2.1 : Int) ≥ (List.length x0.1 : Int)))) then true else (!r148)) then true else (decide (((List.getD x0.2.1 (Int.toNat v142) ((0 : Int), ((0 : Int), ((0 : Int), ((0 : Int), ((0 : Int), (⟨#[]⟩ : ByteArray))))))).2.2.2.1 : Int) < (1 : Int)))) then true else (decide (((List.getD x0.2.1 (Int.toNat v142) ((0 : Int), ((0 : Int), ((0 : Int), ((0 : Int), ((0 : Int), (⟨#[]⟩ : ByteArray))))))).2.2.2.1 : Int) > (1000000 : Int)))) then true else (decide (((List.getD x0.2.1 (Int.toNat v142) ((0 : Int), ((0 : Int), ((0 : Int), ((0 : Int), ((0 : Int), (⟨#[]⟩ : ByteArray))))))).2.2.2.2.1 : Int) < (0 : Int)))) then true else (decide (((List.getD x0.2.1 (Int.toNat v142) ((0 : Int), ((0 : Int), ((0 : Int), ((0 : Int), ((0 : Int), (⟨#[]⟩ : ByteArray))))))).2.2.2.2.1 : Int) > (1000000000 : Int)))) : Bool)).bind fun v149 => (if v149 then (some false) else ((f79.l118 k x0) m118 (IntKind.i64.wrap (v142 + (1 : Int))))))) else none) else (f79.l209 k x0 k (0 : Int))
def f79.l42 (k : Nat) (x0 : ((List (Int × (Int × Int))) × ((List (Int × (Int × (Int × (Int × (Int × ByteArray)))))) × (List (Int × Int))))) : Nat → Int → Option Bool
  | 0, _ => none
  | m42 + 1, v70 => if (decide ((v70 : Int) < (List.length x0.1 : Int))) then (if (0 ≤ v70 ∧ v70 < (List.length x0.1 : Int)) then ((f168 k (List.getD x0.1 (Int.toNat v70) ((0 : Int), ((0 : Int), (0 : Int)))).1).bind fun r77 => ((if ((!r77) = false) then f169 k (List.getD x0.1 (Int.toNat v70) ((0 : Int), ((0 : Int), (0 : Int)))).2 else some default).bind fun r78 => (if ((((bif (!r77) then true else (!r78)) = false) ∧ ((decide ((v70 : Int) > (0 : Int))) = true)) → (0 ≤ (IntKind.i64.wrap (v70 - (1 : Int))) ∧ (IntKind.i64.wrap (v70 - (1 : Int))) < (List.length x0.1 : Int))) then (if (bif (bif (!r77) then true else (!r78)) then true else (bif (decide ((v70 : Int) > (0 : Int))) then (decide (((List.getD x0.1 (Int.toNat (IntKind.i64.wrap (v70 - (1 : Int)))) ((0 : Int), ((0 : Int), (0 : Int)))).1 : Int) ≥ (List.getD x0.1 (Int.toNat v70) ((0 : Int), ((0 : Int), (0 : Int)))).1)) else false)) then (some false) else ((f79.l42 k x0) m42 (IntKind.i64.wrap (v70 + (1 : Int))))) else none))) else none) else (f79.l118 k x0 k (0 : Int))
def f79 (k : Nat) (x0 : ((List (Int × (Int × Int))) × ((List (Int × (Int × (Int × (Int × (Int × ByteArray)))))) × (List (Int × Int))))) : Option Bool := if (bif (bif (decide (((List.length x0.1 : Int) : Int) > (5000 : Int))) then true else (decide (((List.length x0.2.1 : Int) : Int) > (8000 : Int)))) then true else (decide (((List.length x0.2.2 : Int) : Int) > (2000 : Int)))) then (some false) else (f79.l42 k x0 k (0 : Int))
set_option maxRecDepth 100000 in
/-- 'impl.GraphOk'. -/
theorem c79 (k : Nat) (x0 : ((List (Int × (Int × Int))) × ((List (Int × (Int × (Int × (Int × (Int × ByteArray)))))) × (List (Int × Int))))) (r : Bool) (hF : f79 k x0 = some r) : PCall Try.prog 79 [⟨sh29, x0⟩] [⟨.bool, r⟩] := by
  refine pcall_intro Try.func79 rfl rfl (Nat.le_of_ble_eq_true rfl) ?_
  intro w0 Zi a w h
  rw [f79] at hF
  refine wp_reg_seq tok (orc := orcL []) (fz := []) (l := [1]) (c := _) (.inr fun i h => h) h (by kernel_rfl) (AllP.nil) ?_
  intro a w h
  refine wp_seq ?_
  refine wp_reg_seq tok (orc := orcL []) (fz := []) (l := [1, 27]) (c := _) (.inr fun i h => h) h (by kernel_rfl) (AllP.nil) ?_
  intro a w h
  refine wp_if h (b := (bif (bif (decide (((List.length x0.1 : Int) : Int) > (5000 : Int))) then true else (decide (((List.length x0.2.1 : Int) : Int) > (8000 : Int)))) then true else (decide (((List.length x0.2.2 : Int) : Int) > (2000 : Int))))) (by kernel_rfl) (fun hb => ?_) (fun hb => ?_)
  · replace hF := of_t hb hF
    refine wp_reg_seq tok (orc := orcL []) (fz := []) (l := [2]) (c := _) (.inr fun i h => h) h (by kernel_rfl) (AllP.nil) ?_
    intro a w h
    cases hF
    exact wp_ret (ret_okR tok h rfl (by kernel_rfl)).1
  · replace hF := of_f hb hF
    refine wp_skip ?_
    refine wp_seq ?_
    refine wp_reg_seq tok (orc := orcL []) (fz := []) (l := [1, 29, 30, 31]) (c := _) (.inr fun i h => h) h (by kernel_rfl) (AllP.nil) ?_
    intro a w h
    refine wp_block ?_
    refine wp_loop_fuel (f79.l42 k x0) (fun (v70 : Int) => [(1, .val sh28 (some x0)), (29, .val sh40 x0.1), (30, .val (.int .i64) (List.length x0.1 : Int)), (31, .val (.int .i64) v70)]) (fun v h => by rw [f79.l42] at h; cases h) ?_ hF (h.arrive (fz := []) (l := [1, 29, 30, 31]) (.inr fun i h => h) (by kernel_rfl))
    intro m42 v70 a w hF h
    rw [f79.l42] at hF
    refine wp_reg_seq tok (orc := orcL []) (fz := []) (l := [1, 29, 30, 31, 32]) (c := _) (.inr fun i h => h) h (by kernel_rfl) (AllP.nil) ?_
    intro a w h
    refine wp_seq <| wp_if h (b := (decide ((v70 : Int) < (List.length x0.1 : Int)))) (by kernel_rfl) (fun hb => ?_) (fun hb => ?_)
    · replace hF := of_t hb hF
      refine wp_skip ?_
      refine wp_seq <| wp_block ?_
      obtain ⟨hc82, hF⟩ := of_if hF
      refine wp_reg_seq tok (orc := orcL []) (fz := []) (l := [1, 3, 4, 29, 30, 31]) (c := _) (.inr fun i h => h) h (by kernel_rfl) (AllP.cons hc82 AllP.nil) ?_
      intro a w h
      obtain ⟨r77, hr79, hF⟩ := of_bind hF
      obtain ⟨r78, hr80, hF⟩ := of_bind hF
      obtain ⟨hc81, hF⟩ := of_if hF
      refine wp_regy_seq tok (orc := orcL [(38, [⟨.bool, r77⟩]), (43, [⟨.bool, r78⟩])]) (fz := []) (l := [1, 29, 30, 31, 61]) (c := _) ([], [], [], []) 26 (.inr fun i h => h) h (by kernel_rfl) (by kernel_rfl) (AllP.cons (c168 k (List.getD x0.1 (Int.toNat v70) ((0 : Int), ((0 : Int), (0 : Int)))).1 r77 hr79) (AllP.cons (fun (hg : ((!r77) = false)) => c169 k (List.getD x0.1 (Int.toNat v70) ((0 : Int), ((0 : Int), (0 : Int)))).2 r78 (of_g hg hr80)) (AllP.cons hc81 AllP.nil))) ?_
      intro a w h
      refine wp_if h (b := (bif (bif (!r77) then true else (!r78)) then true else (bif (decide ((v70 : Int) > (0 : Int))) then (decide (((List.getD x0.1 (Int.toNat (IntKind.i64.wrap (v70 - (1 : Int)))) ((0 : Int), ((0 : Int), (0 : Int)))).1 : Int) ≥ (List.getD x0.1 (Int.toNat v70) ((0 : Int), ((0 : Int), (0 : Int)))).1)) else false))) (by kernel_rfl) (fun hb => ?_) (fun hb => ?_)
      · replace hF := of_t hb hF
        refine wp_reg_seq tok (orc := orcL []) (fz := []) (l := [2]) (c := _) (.inr fun i h => h) h (by kernel_rfl) (AllP.nil) ?_
        intro a w h
        cases hF
        exact wp_ret (ret_okR tok h rfl (by kernel_rfl)).1
      · replace hF := of_f hb hF
        refine wp_skip ?_
        refine wp_reg tok (orc := orcL []) (fz := []) (l := [1, 29, 30, 31]) (c := _) (.inr fun i h => h) h (by kernel_rfl) (AllP.nil) ?_
        intro a w h
        exact ⟨(IntKind.i64.wrap (v70 + (1 : Int))), hF, h.arrive (fz := []) (l := [1, 29, 30, 31]) (.inr fun i h => h) (by kernel_rfl)⟩
    · replace hF := of_f hb hF
      refine wp_exit ?_
      refine wp_reg_seq tok (orc := orcL []) (fz := []) (l := [1, 5]) (c := _) (.inr fun i h => h) h (by kernel_rfl) (AllP.nil) ?_
      intro a w h
      refine wp_seq ?_
      refine wp_reg_seq tok (orc := orcL []) (fz := []) (l := [1, 5, 67, 68, 69]) (c := _) (.inr fun i h => h) h (by kernel_rfl) (AllP.nil) ?_
      intro a w h
      refine wp_block ?_
      refine wp_loop_fuel (f79.l118 k x0) (fun (v142 : Int) => [(1, .val sh28 (some x0)), (5, .val (.int .i64) (List.length x0.1 : Int)), (67, .val sh41 x0.2.1), (68, .val (.int .i64) (List.length x0.2.1 : Int)), (69, .val (.int .i64) v142)]) (fun v h => by rw [f79.l118] at h; cases h) ?_ hF (h.arrive (fz := []) (l := [1, 5, 67, 68, 69]) (.inr fun i h => h) (by kernel_rfl))
      intro m118 v142 a w hF h
      rw [f79.l118] at hF
      refine wp_reg_seq tok (orc := orcL []) (fz := []) (l := [1, 5, 67, 68, 69, 70]) (c := _) (.inr fun i h => h) h (by kernel_rfl) (AllP.nil) ?_
      intro a w h
      refine wp_seq <| wp_if h (b := (decide ((v142 : Int) < (List.length x0.2.1 : Int)))) (by kernel_rfl) (fun hb => ?_) (fun hb => ?_)
      · replace hF := of_t hb hF
        refine wp_skip ?_
        refine wp_seq <| wp_block ?_
        obtain ⟨hc152, hF⟩ := of_if hF
        refine wp_reg_seq tok (orc := orcL []) (fz := []) (l := [1, 5, 7, 67, 68, 69]) (c := _) (.inr fun i h => h) h (by kernel_rfl) (AllP.cons hc152 AllP.nil) ?_
        intro a w h
        obtain ⟨r148, hr151, hF⟩ := of_bind hF
        refine wp_reg_seq tok (orc := orcL [(96, [⟨.bool, r148⟩])]) (fz := []) (l := [1, 5, 67, 68, 69, 118]) (c := _) (.inr fun i h => h) h (by kernel_rfl) (AllP.cons (fun (hg : ((bif (bif (bif (decide (((List.getD x0.2.1 (Int.toNat v142) ((0 : Int), ((0 : Int), ((0 : Int), ((0 : Int), ((0 : Int), (⟨#[]⟩ : ByteArray))))))).1 : Int) < (0 : Int))) then true else (decide (((List.getD x0.2.1 (Int.toNat v142) ((0 : Int), ((0 : Int), ((0 : Int), ((0 : Int), ((0 : Int), (⟨#[]⟩ : ByteArray))))))).1 : Int) ≥ (List.length x0.1 : Int)))) then true else (decide (((List.getD x0.2.1 (Int.toNat v142) ((0 : Int), ((0 : Int), ((0 : Int), ((0 : Int), ((0 : Int), (⟨#[]⟩ : ByteArray))))))).2.1 : Int) < (0 : Int)))) then true else (decide (((List.getD x0.2.1 (Int.toNat v142) ((0 : Int), ((0 : Int), ((0 : Int), ((0 : Int), ((0 : Int), (⟨#[]⟩ : ByteArray))))))).2.1 : Int) ≥ (List.length x0.1 : Int)))) = false)) => c168 k (List.getD x0.2.1 (Int.toNat v142) ((0 : Int), ((0 : Int), ((0 : Int), ((0 : Int), ((0 : Int), (⟨#[]⟩ : ByteArray))))))).2.2.1 r148 (of_g hg hr151)) AllP.nil) ?_
        intro a w h
        obtain ⟨v149, hv150, hF⟩ := of_bind hF
        replace h := h.cast (S' := [(1, .val sh28 (some x0)), (5, .val (.int .i64) (List.length x0.1 : Int)), (67, .val sh41 x0.2.1), (68, .val (.int .i64) (List.length x0.2.1 : Int)), (69, .val (.int .i64) v142), (118, .val .bool v149)]) (by cases hv150; kernel_rfl)
        refine wp_if h (b := v149) (by kernel_rfl) (fun hb => ?_) (fun hb => ?_)
        · replace hF := of_t hb hF
          refine wp_reg_seq tok (orc := orcL []) (fz := []) (l := [2]) (c := _) (.inr fun i h => h) h (by kernel_rfl) (AllP.nil) ?_
          intro a w h
          cases hF
          exact wp_ret (ret_okR tok h rfl (by kernel_rfl)).1
        · replace hF := of_f hb hF
          refine wp_skip ?_
          refine wp_reg tok (orc := orcL []) (fz := []) (l := [1, 5, 67, 68, 69]) (c := _) (.inr fun i h => h) h (by kernel_rfl) (AllP.nil) ?_
          intro a w h
          exact ⟨(IntKind.i64.wrap (v142 + (1 : Int))), hF, h.arrive (fz := []) (l := [1, 5, 67, 68, 69]) (.inr fun i h => h) (by kernel_rfl)⟩
      · replace hF := of_f hb hF
        refine wp_exit ?_
        refine wp_reg_seq tok (orc := orcL []) (fz := []) (l := [1, 8]) (c := _) (.inr fun i h => h) h (by kernel_rfl) (AllP.nil) ?_
        intro a w h
        refine wp_seq ?_
        refine wp_reg_seq tok (orc := orcL []) (fz := []) (l := [1, 8, 124, 125, 126]) (c := _) (.inr fun i h => h) h (by kernel_rfl) (AllP.nil) ?_
        intro a w h
        refine wp_block ?_
        refine wp_loop_fuel (f79.l209 k x0) (fun (v247 : Int) => [(1, .val sh28 (some x0)), (8, .val (.int .i64) (List.length x0.2.1 : Int)), (124, .val sh42 x0.2.2), (125, .val (.int .i64) (List.length x0.2.2 : Int)), (126, .val (.int .i64) v247)]) (fun v h => by rw [f79.l209] at h; cases h) ?_ hF (h.arrive (fz := []) (l := [1, 8, 124, 125, 126]) (.inr fun i h => h) (by kernel_rfl))
        intro m209 v247 a w hF h
        rw [f79.l209] at hF
        refine wp_reg_seq tok (orc := orcL []) (fz := []) (l := [1, 8, 124, 125, 126, 127]) (c := _) (.inr fun i h => h) h (by kernel_rfl) (AllP.nil) ?_
        intro a w h
        refine wp_seq <| wp_if h (b := (decide ((v247 : Int) < (List.length x0.2.2 : Int)))) (by kernel_rfl) (fun hb => ?_) (fun hb => ?_)
        · replace hF := of_t hb hF
          refine wp_skip ?_
          refine wp_mid (fun a w => ∃ v : Unit, f79.j256 k v247 ((f79.l209 k x0) m209) v = some r ∧ Rel w0 (fun _ => False) Zi Try.f79.ntmps ((fun (_ : Unit) => ([(1, .val sh28 (some x0)), (8, .val (.int .i64) (List.length x0.2.1 : Int)), (124, .val sh42 x0.2.2), (125, .val (.int .i64) (List.length x0.2.2 : Int)), (126, .val (.int .i64) v247)] : SS)) v) a w) ?_ ?_
          ·
            refine wp_block ?_
            obtain ⟨hc264, hF⟩ := of_if hF
            refine wp_reg_seq tok (orc := orcL []) (fz := []) (l := [1, 8, 9, 10, 124, 125, 126]) (c := _) (.inr fun i h => h) h (by kernel_rfl) (AllP.cons hc264 AllP.nil) ?_
            intro a w h
            refine wp_seq ?_
            obtain ⟨hc262, hF⟩ := of_if hF
            obtain ⟨hc263, hF⟩ := of_if hF
            refine wp_regy_seq tok (orc := orcL []) (fz := []) (l := [1, 8, 9, 10, 124, 125, 126, 167]) (c := _) ([], [], [], []) 37 (.inr fun i h => h) h (by kernel_rfl) (by kernel_rfl) (AllP.cons hc262 (AllP.cons hc263 AllP.nil)) ?_
            intro a w h
            obtain ⟨v257, hv261, hF⟩ := of_bind hF
            replace h := h.cast (S' := [(1, .val sh28 (some x0)), (8, .val (.int .i64) (List.length x0.2.1 : Int)), (9, .val (.int .i64) v247), (10, .val sh43 (some (List.getD x0.2.2 (Int.toNat v247) ((0 : Int), (0 : Int))))), (124, .val sh42 x0.2.2), (125, .val (.int .i64) (List.length x0.2.2 : Int)), (126, .val (.int .i64) v247), (167, .val .bool v257)]) (by cases hv261; kernel_rfl)
            refine wp_if h (b := v257) (by kernel_rfl) (fun hb => ?_) (fun hb => ?_)
            · replace hF := of_t hb hF
              refine wp_reg_seq tok (orc := orcL []) (fz := []) (l := [2]) (c := _) (.inr fun i h => h) h (by kernel_rfl) (AllP.nil) ?_
              intro a w h
              cases hF
              exact wp_ret (ret_okR tok h rfl (by kernel_rfl)).1
            · replace hF := of_f hb hF
              refine wp_skip ?_
              refine wp_reg_seq tok (orc := orcL []) (fz := []) (l := [1, 8, 9, 10, 124, 125, 126, 169]) (c := _) (.inr fun i h => h) h (by kernel_rfl) (AllP.nil) ?_
              intro a w h
              refine wp_if h (b := (decide ((v247 : Int) > (0 : Int)))) (by kernel_rfl) (fun hb => ?_) (fun hb => ?_)
              · replace hF := of_t hb hF
                obtain ⟨hc260, hF⟩ := of_if hF
                refine wp_reg_seq tok (orc := orcL []) (fz := []) (l := [1, 8, 10, 11, 124, 125, 126]) (c := _) (.inr fun i h => h) h (by kernel_rfl) (AllP.cons hc260 AllP.nil) ?_
                intro a w h
                refine wp_reg_seq tok (orc := orcL []) (fz := []) (l := [1, 8, 124, 125, 126, 194]) (c := _) (.inr fun i h => h) h (by kernel_rfl) (AllP.nil) ?_
                intro a w h
                obtain ⟨v258, hv259, hF⟩ := of_bind hF
                replace h := h.cast (S' := [(1, .val sh28 (some x0)), (8, .val (.int .i64) (List.length x0.2.1 : Int)), (124, .val sh42 x0.2.2), (125, .val (.int .i64) (List.length x0.2.2 : Int)), (126, .val (.int .i64) v247), (194, .val .bool v258)]) (by cases hv259; kernel_rfl)
                refine wp_if h (b := v258) (by kernel_rfl) (fun hb => ?_) (fun hb => ?_)
                · replace hF := of_t hb hF
                  refine wp_reg_seq tok (orc := orcL []) (fz := []) (l := [2]) (c := _) (.inr fun i h => h) h (by kernel_rfl) (AllP.nil) ?_
                  intro a w h
                  cases hF
                  exact wp_ret (ret_okR tok h rfl (by kernel_rfl)).1
                · replace hF := of_f hb hF
                  refine wp_skip ?_
                  exact ⟨(), hF, h.arrive (fz := []) (l := [1, 8, 124, 125, 126]) (.inr fun i h => h) (by kernel_rfl)⟩
              · replace hF := of_f hb hF
                refine wp_skip ?_
                exact ⟨(), hF, h.arrive (fz := []) (l := [1, 8, 124, 125, 126]) (.inr fun i h => h) (by kernel_rfl)⟩
          · rintro a w ⟨v, hF, h⟩
            obtain ⟨⟩ := v
            rw [f79.j256] at hF
            refine wp_reg tok (orc := orcL []) (fz := []) (l := [1, 8, 124, 125, 126]) (c := _) (.inr fun i h => h) h (by kernel_rfl) (AllP.nil) ?_
            intro a w h
            exact ⟨(IntKind.i64.wrap (v247 + (1 : Int))), hF, h.arrive (fz := []) (l := [1, 8, 124, 125, 126]) (.inr fun i h => h) (by kernel_rfl)⟩
        · replace hF := of_f hb hF
          refine wp_exit ?_
          refine wp_reg_seq tok (orc := orcL []) (fz := []) (l := [2]) (c := _) (.inr fun i h => h) h (by kernel_rfl) (AllP.nil) ?_
          intro a w h
          cases hF
          exact wp_ret (ret_okR tok h rfl (by kernel_rfl)).1

def f64.j230 (k : Nat) (v210 : Int) (q126 : ((List (Int × Bool)) × Int) → Option ((List (Int × (Int × Int))) × ((List (Int × (Int × (Int × (Int × (Int × ByteArray)))))) × (List (Int × Int))))) : (List (Int × Bool)) → Option ((List (Int × (Int × Int))) × ((List (Int × (Int × (Int × (Int × (Int × ByteArray)))))) × (List (Int × Int))))
  | v229 => q126 (v229, (IntKind.i64.wrap (v210 + (1 : Int))))
def f64.l232 (k : Nat) (x0 : ((List (Int × ((Int × Int) × (List (ByteArray × ByteArray))))) × ((List (Int × ((List Int) × (List (ByteArray × ByteArray))))) × (List (Int × ((List (Int × Bool)) × (List (ByteArray × ByteArray)))))))) (v210 : Int) (q230 : (List (Int × Bool)) → Option ((List (Int × (Int × Int))) × ((List (Int × (Int × (Int × (Int × (Int × ByteArray)))))) × (List (Int × Int))))) : Nat → ((List (Int × Bool)) × Int) → Option ((List (Int × (Int × Int))) × ((List (Int × (Int × (Int × (Int × (Int × ByteArray)))))) × (List (Int × Int))))
  | 0, _ => none
  | m232 + 1, (v243, v244) => if (decide ((v244 : Int) < (List.length (List.getD x0.2.1 (Int.toNat v210) ((0 : Int), (([] : (List Int)), ([] : (List (ByteArray × ByteArray)))))).2.1 : Int))) then (if (0 ≤ v244 ∧ v244 < (List.length (List.getD x0.2.1 (Int.toNat v210) ((0 : Int), (([] : (List Int)), ([] : (List (ByteArray × ByteArray)))))).2.1 : Int)) then ((f64.l232 k x0 v210 q230) m232 ((mput (Sh.beq (.int .i64)) (List.getD (List.getD x0.2.1 (Int.toNat v210) ((0 : Int), (([] : (List Int)), ([] : (List (ByteArray × ByteArray)))))).2.1 (Int.toNat v244) (0 : Int)) true v243), (IntKind.i64.wrap (v244 + (1 : Int))))) else none) else (q230 v243)
def f64.j314 (k : Nat) (v309 : Int) (q283 : ((List (Int × (Int × Int))) × (List (Int × Int)) × Int) → Option ((List (Int × (Int × Int))) × ((List (Int × (Int × (Int × (Int × (Int × ByteArray)))))) × (List (Int × Int))))) : ((List (Int × (Int × Int))) × (List (Int × Int))) → Option ((List (Int × (Int × Int))) × ((List (Int × (Int × (Int × (Int × (Int × ByteArray)))))) × (List (Int × Int))))
  | (v312, v313) => q283 (v312, v313, (IntKind.i64.wrap (v309 + (1 : Int))))
def f64.j1754 (k : Nat) (v1624 : Int) (q1100 : ((List (Int × (Int × (Int × (Int × (Int × ByteArray)))))) × Int) → Option ((List (Int × (Int × Int))) × ((List (Int × (Int × (Int × (Int × (Int × ByteArray)))))) × (List (Int × Int))))) : (List (Int × (Int × (Int × (Int × (Int × ByteArray)))))) → Option ((List (Int × (Int × Int))) × ((List (Int × (Int × (Int × (Int × (Int × ByteArray)))))) × (List (Int × Int))))
  | v1753 => q1100 (v1753, (IntKind.i64.wrap (v1624 + (1 : Int))))
def f64.j1861 (k : Nat) (v1841 : Int) (q1757 : ((List (Int × (Int × (Int × (Int × (Int × ByteArray)))))) × Int) → Option ((List (Int × (Int × Int))) × ((List (Int × (Int × (Int × (Int × (Int × ByteArray)))))) × (List (Int × Int))))) : (List (Int × (Int × (Int × (Int × (Int × ByteArray)))))) → Option ((List (Int × (Int × Int))) × ((List (Int × (Int × (Int × (Int × (Int × ByteArray)))))) × (List (Int × Int))))
  | v1860 => q1757 (v1860, (IntKind.i64.wrap (v1841 + (1 : Int))))
def f64.j1868 (k : Nat) (r1756 : Int) (v308 : (List (Int × Int))) (x0 : ((List (Int × ((Int × Int) × (List (ByteArray × ByteArray))))) × ((List (Int × ((List Int) × (List (ByteArray × ByteArray))))) × (List (Int × ((List (Int × Bool)) × (List (ByteArray × ByteArray)))))))) (v1624 : Int) (v1841 : Int) (r1862 : Int) (r1755 : Int) (r1863 : ByteArray) (q1861 : (List (Int × (Int × (Int × (Int × (Int × ByteArray)))))) → Option ((List (Int × (Int × Int))) × ((List (Int × (Int × (Int × (Int × (Int × ByteArray)))))) × (List (Int × Int))))) : (List (Int × (Int × (Int × (Int × (Int × ByteArray)))))) → Option ((List (Int × (Int × Int))) × ((List (Int × (Int × (Int × (Int × (Int × ByteArray)))))) × (List (Int × Int))))
  | v1867 => if ((r1756 : Int) != (1 : Int)) then (if ((List.length v1867 + List.length [((mget (Sh.beq (.int .i64)) (some v308) (List.getD (List.getD x0.2.1 (Int.toNat v1624) ((0 : Int), (([] : (List Int)), ([] : (List (ByteArray × ByteArray)))))).2.1 (Int.toNat v1841) (0 : Int)) (0 : Int)), ((mget (Sh.beq (.int .i64)) (some v308) (List.getD (List.getD x0.2.1 (Int.toNat v1624) ((0 : Int), (([] : (List Int)), ([] : (List (ByteArray × ByteArray)))))).2.1 (Int.toNat (IntKind.i64.wrap (v1841 - (1 : Int)))) (0 : Int)) (0 : Int)), ((List.getD x0.2.1 (Int.toNat v1624) ((0 : Int), (([] : (List Int)), ([] : (List (ByteArray × ByteArray)))))).1, ((if ((IntKind.i64.wrap (Int.tdiv (IntKind.i64.wrap ((IntKind.i64.wrap (r1862 + r1755)) - (1 : Int))) r1755)) : Int) > (1 : Int) then (IntKind.i64.wrap (Int.tdiv (IntKind.i64.wrap ((IntKind.i64.wrap (r1862 + r1755)) - (1 : Int))) r1755)) else (1 : Int)), (r1862, r1863)))))]) * 56 ≤ 140737488355328) then ((some ((List.append v1867 [((mget (Sh.beq (.int .i64)) (some v308) (List.getD (List.getD x0.2.1 (Int.toNat v1624) ((0 : Int), (([] : (List Int)), ([] : (List (ByteArray × ByteArray)))))).2.1 (Int.toNat v1841) (0 : Int)) (0 : Int)), ((mget (Sh.beq (.int .i64)) (some v308) (List.getD (List.getD x0.2.1 (Int.toNat v1624) ((0 : Int), (([] : (List Int)), ([] : (List (ByteArray × ByteArray)))))).2.1 (Int.toNat (IntKind.i64.wrap (v1841 - (1 : Int)))) (0 : Int)) (0 : Int)), ((List.getD x0.2.1 (Int.toNat v1624) ((0 : Int), (([] : (List Int)), ([] : (List (ByteArray × ByteArray)))))).1, ((if ((IntKind.i64.wrap (Int.tdiv (IntKind.i64.wrap ((IntKind.i64.wrap (r1862 + r1755)) - (1 : Int))) r1755)) : Int) > (1 : Int) then (IntKind.i64.wrap (Int.tdiv (IntKind.i64.wrap ((IntKind.i64.wrap (r1862 + r1755)) - (1 : Int))) r1755)) else (1 : Int)), (r1862, r1863)))))]) : (List (Int × (Int × (Int × (Int × (Int × ByteArray)))))))).bind fun v1869 => (q1861 v1869)) else none) else (q1861 v1867)
def f64.l1757 (k : Nat) (x0 : ((List (Int × ((Int × Int) × (List (ByteArray × ByteArray))))) × ((List (Int × ((List Int) × (List (ByteArray × ByteArray))))) × (List (Int × ((List (Int × Bool)) × (List (ByteArray × ByteArray)))))))) (v1624 : Int) (r2 : (Option (List (Int × (Int × Int))))) (r1755 : Int) (r1756 : Int) (v308 : (List (Int × Int))) (q1754 : (List (Int × (Int × (Int × (Int × (Int × ByteArray)))))) → Option ((List (Int × (Int × Int))) × ((List (Int × (Int × (Int × (Int × (Int × ByteArray)))))) × (List (Int × Int))))) : Nat → ((List (Int × (Int × (Int × (Int × (Int × ByteArray)))))) × Int) → Option ((List (Int × (Int × Int))) × ((List (Int × (Int × (Int × (Int × (Int × ByteArray)))))) × (List (Int × Int))))
  | 0, _ => none
  | m1757 + 1, (v1840, v1841) => if (decide ((v1841 : Int) < (List.length (List.getD x0.2.1 (Int.toNat v1624) ((0 : Int), (([] : (List Int)), ([] : (List (ByteArray × ByteArray)))))).2.1 : Int))) then (if (0 ≤ (IntKind.i64.wrap (v1841 - (1 : Int))) ∧ (IntKind.i64.wrap (v1841 - (1 : Int))) < (List.length (List.getD x0.2.1 (Int.toNat v1624) ((0 : Int), (([] : (List Int)), ([] : (List (ByteArray × ByteArray)))))).2.1 : Int)) then (if (0 ≤ v1841 ∧ v1841 < (List.length (List.getD x0.2.1 (Int.toNat v1624) ((0 : Int), (([] : (List Int)), ([] : (List (ByteArray × ByteArray)))))).2.1 : Int)) then ((f149 k (mget (Sh.beq (.int .i64)) r2 (List.getD (List.getD x0.2.1 (Int.toNat v1624) ((0 : Int), (([] : (List Int)), ([] : (List (ByteArray × ByteArray)))))).2.1 (Int.toNat (IntKind.i64.wrap (v1841 - (1 : Int)))) (0 : Int)) ((0 : Int), (0 : Int))) (mget (Sh.beq (.int .i64)) r2 (List.getD (List.getD x0.2.1 (Int.toNat v1624) ((0 : Int), (([] : (List Int)), ([] : (List (ByteArray × ByteArray)))))).2.1 (Int.toNat v1841) (0 : Int)) ((0 : Int), (0 : Int)))).bind fun r1862 => (if ((r1755 : Int) ≠ 0) then ((f150 k (List.getD x0.2.1 (Int.toNat v1624) ((0 : Int), (([] : (List Int)), ([] : (List (ByteArray × ByteArray)))))).2.2 (⟨#[110, 97, 109, 101]⟩ : ByteArray)).bind fun r1863 => (if ((r1756 : Int) != (-1 : Int)) then (if ((List.length v1840 + List.length [((mget (Sh.beq (.int .i64)) (some v308) (List.getD (List.getD x0.2.1 (Int.toNat v1624) ((0 : Int), (([] : (List Int)), ([] : (List (ByteArray × ByteArray)))))).2.1 (Int.toNat (IntKind.i64.wrap (v1841 - (1 : Int)))) (0 : Int)) (0 : Int)), ((mget (Sh.beq (.int .i64)) (some v308) (List.getD (List.getD x0.2.1 (Int.toNat v1624) ((0 : Int), (([] : (List Int)), ([] : (List (ByteArray × ByteArray)))))).2.1 (Int.toNat v1841) (0 : Int)) (0 : Int)), ((List.getD x0.2.1 (Int.toNat v1624) ((0 : Int), (([] : (List Int)), ([] : (List (ByteArray × ByteArray)))))).1, ((if ((IntKind.i64.wrap (Int.tdiv (IntKind.i64.wrap ((IntKind.i64.wrap (r1862 + r1755)) - (1 : Int))) r1755)) : Int) > (1 : Int) then (IntKind.i64.wrap (Int.tdiv (IntKind.i64.wrap ((IntKind.i64.wrap (r1862 + r1755)) - (1 : Int))) r1755)) else (1 : Int)), (r1862, r1863)))))]) * 56 ≤ 140737488355328) then ((some ((List.append v1840 [((mget (Sh.beq (.int .i64)) (some v308) (List.getD (List.getD x0.2.1 (Int.toNat v1624) ((0 : Int), (([] : (List Int)), ([] : (List (ByteArray × ByteArray)))))).2.1 (Int.toNat (IntKind.i64.wrap (v1841 - (1 : Int)))) (0 : Int)) (0 : Int)), ((mget (Sh.beq (.int .i64)) (some v308) (List.getD (List.getD x0.2.1 (Int.toNat v1624) ((0 : Int), (([] : (List Int)), ([] : (List (ByteArray × ByteArray)))))).2.1 (Int.toNat v1841) (0 : Int)) (0 : Int)), ((List.getD x0.2.1 (Int.toNat v1624) ((0 : Int), (([] : (List Int)), ([] : (List (ByteArray × ByteArray)))))).1, ((if ((IntKind.i64.wrap (Int.tdiv (IntKind.i64.wrap ((IntKind.i64.wrap (r1862 + r1755)) - (1 : Int))) r1755)) : Int) > (1 : Int) then (IntKind.i64.wrap (Int.tdiv (IntKind.i64.wrap ((IntKind.i64.wrap (r1862 + r1755)) - (1 : Int))) r1755)) else (1 : Int)), (r1862, r1863)))))]) : (List (Int × (Int × (Int × (Int × (Int × ByteArray)))))))).bind fun v1872 => (f64.j1868 k r1756 v308 x0 v1624 v1841 r1862 r1755 r1863 (f64.j1861 k v1841 ((f64.l1757 k x0 v1624 r2 r1755 r1756 v308 q1754) m1757)) v1872)) else none) else (f64.j1868 k r1756 v308 x0 v1624 v1841 r1862 r1755 r1863 (f64.j1861 k v1841 ((f64.l1757 k x0 v1624 r2 r1755 r1756 v308 q1754) m1757)) v1840))) else none)) else none) else none) else (q1754 v1840)
def f64.l1100 (k : Nat) (x0 : ((List (Int × ((Int × Int) × (List (ByteArray × ByteArray))))) × ((List (Int × ((List Int) × (List (ByteArray × ByteArray))))) × (List (Int × ((List (Int × Bool)) × (List (ByteArray × ByteArray)))))))) (x1 : Int) (r2 : (Option (List (Int × (Int × Int))))) (v308 : (List (Int × Int))) (v307 : (List (Int × (Int × Int)))) : Nat → ((List (Int × (Int × (Int × (Int × (Int × ByteArray)))))) × Int) → Option ((List (Int × (Int × Int))) × ((List (Int × (Int × (Int × (Int × (Int × ByteArray)))))) × (List (Int × Int))))
  | 0, _ => none
  | m1100 + 1, (v1623, v1624) => if (decide ((v1624 : Int) < (List.length x0.2.1 : Int))) then (if (0 ≤ v1624 ∧ v1624 < (List.length x0.2.1 : Int)) then ((f147 k (List.getD x0.2.1 (Int.toNat v1624) ((0 : Int), (([] : (List Int)), ([] : (List (ByteArray × ByteArray)))))).2.2 x1).bind fun r1755 => (if ((r1755 : Int) == (0 : Int)) then (f64.j1754 k v1624 ((f64.l1100 k x0 x1 r2 v308 v307) m1100) v1623) else ((f148 k (List.getD x0.2.1 (Int.toNat v1624) ((0 : Int), (([] : (List Int)), ([] : (List (ByteArray × ByteArray)))))).2.2 x1).bind fun r1756 => (f64.l1757 k x0 v1624 r2 r1755 r1756 v308 (f64.j1754 k v1624 ((f64.l1100 k x0 x1 r2 v308 v307) m1100)) k (v1623, (1 : Int)))))) else none) else ((f79 k (v307, (v1623, ([] : (List (Int × Int)))))).bind fun r1883 => (if (!r1883) then (some (([] : (List (Int × (Int × Int)))), (([] : (List (Int × (Int × (Int × (Int × (Int × ByteArray))))))), ([] : (List (Int × Int)))))) else (some (v307, (v1623, ([] : (List (Int × Int))))))))
def f64.l283 (k : Nat) (x0 : ((List (Int × ((Int × Int) × (List (ByteArray × ByteArray))))) × ((List (Int × ((List Int) × (List (ByteArray × ByteArray))))) × (List (Int × ((List (Int × Bool)) × (List (ByteArray × ByteArray)))))))) (v209 : (List (Int × Bool))) (x1 : Int) (r2 : (Option (List (Int × (Int × Int))))) : Nat → ((List (Int × (Int × Int))) × (List (Int × Int)) × Int) → Option ((List (Int × (Int × Int))) × ((List (Int × (Int × (Int × (Int × (Int × ByteArray)))))) × (List (Int × Int))))
  | 0, _ => none
  | m283 + 1, (v307, v308, v309) => if (decide ((v309 : Int) < (List.length x0.1 : Int))) then (if (0 ≤ v309 ∧ v309 < (List.length x0.1 : Int)) then (if (mget (Sh.beq (.int .i64)) (some v209) (List.getD x0.1 (Int.toNat v309) ((0 : Int), (((0 : Int), (0 : Int)), ([] : (List (ByteArray × ByteArray)))))).1 false) then (if ((List.length v307 + List.length [((List.getD x0.1 (Int.toNat v309) ((0 : Int), (((0 : Int), (0 : Int)), ([] : (List (ByteArray × ByteArray)))))).1, (List.getD x0.1 (Int.toNat v309) ((0 : Int), (((0 : Int), (0 : Int)), ([] : (List (ByteArray × ByteArray)))))).2.1)]) * 24 ≤ 140737488355328) then (f64.j314 k v309 ((f64.l283 k x0 v209 x1 r2) m283) ((List.append v307 [((List.getD x0.1 (Int.toNat v309) ((0 : Int), (((0 : Int), (0 : Int)), ([] : (List (ByteArray × ByteArray)))))).1, (List.getD x0.1 (Int.toNat v309) ((0 : Int), (((0 : Int), (0 : Int)), ([] : (List (ByteArray × ByteArray)))))).2.1)]), (mput (Sh.beq (.int .i64)) (List.getD x0.1 (Int.toNat v309) ((0 : Int), (((0 : Int), (0 : Int)), ([] : (List (ByteArray × ByteArray)))))).1 (List.length v307 : Int) v308))) else none) else (f64.j314 k v309 ((f64.l283 k x0 v209 x1 r2) m283) (v307, v308))) else none) else (f64.l1100 k x0 x1 r2 v308 v307 k (([] : (List (Int × (Int × (Int × (Int × (Int × ByteArray))))))), (0 : Int)))
def f64.l126 (k : Nat) (x0 : ((List (Int × ((Int × Int) × (List (ByteArray × ByteArray))))) × ((List (Int × ((List Int) × (List (ByteArray × ByteArray))))) × (List (Int × ((List (Int × Bool)) × (List (ByteArray × ByteArray)))))))) (x1 : Int) (r2 : (Option (List (Int × (Int × Int))))) : Nat → ((List (Int × Bool)) × Int) → Option ((List (Int × (Int × Int))) × ((List (Int × (Int × (Int × (Int × (Int × ByteArray)))))) × (List (Int × Int))))
  | 0, _ => none
  | m126 + 1, (v209, v210) => if (decide ((v210 : Int) < (List.length x0.2.1 : Int))) then (if (0 ≤ v210 ∧ v210 < (List.length x0.2.1 : Int)) then ((f147 k (List.getD x0.2.1 (Int.toNat v210) ((0 : Int), (([] : (List Int)), ([] : (List (ByteArray × ByteArray)))))).2.2 x1).bind fun r231 => (if (decide ((r231 : Int) > (0 : Int))) then (f64.l232 k x0 v210 (f64.j230 k v210 ((f64.l126 k x0 x1 r2) m126)) k (v209, (0 : Int))) else (f64.j230 k v210 ((f64.l126 k x0 x1 r2) m126) v209))) else none) else (f64.l283 k x0 v209 x1 r2 k (([] : (List (Int × (Int × Int)))), ([] : (List (Int × Int))), (0 : Int)))
def f64 (k : Nat) (x0 : ((List (Int × ((Int × Int) × (List (ByteArray × ByteArray))))) × ((List (Int × ((List Int) × (List (ByteArray × ByteArray))))) × (List (Int × ((List (Int × Bool)) × (List (ByteArray × ByteArray)))))))) (x1 : Int) : Option ((List (Int × (Int × Int))) × ((List (Int × (Int × (Int × (Int × (Int × ByteArray)))))) × (List (Int × Int)))) := (f145 k x0).bind fun r1 => (if (bif (!r1) then true else (bif ((x1 : Int) != (1 : Int)) then ((x1 : Int) != (2 : Int)) else false)) then (some (([] : (List (Int × (Int × Int)))), (([] : (List (Int × (Int × (Int × (Int × (Int × ByteArray))))))), ([] : (List (Int × Int)))))) else ((f146 k x0).bind fun r2 => (f64.l126 k x0 x1 r2 k (([] : (List (Int × Bool))), (0 : Int)))))
set_option maxRecDepth 100000 in
/-- 'impl.MakeGraph'. -/
theorem c64 (k : Nat) (x0 : ((List (Int × ((Int × Int) × (List (ByteArray × ByteArray))))) × ((List (Int × ((List Int) × (List (ByteArray × ByteArray))))) × (List (Int × ((List (Int × Bool)) × (List (ByteArray × ByteArray)))))))) (x1 : Int) (r : ((List (Int × (Int × Int))) × ((List (Int × (Int × (Int × (Int × (Int × ByteArray)))))) × (List (Int × Int))))) (hF : f64 k x0 x1 = some r) : PCall Try.prog 64 [⟨sh22, x0⟩, ⟨(.int .i64), x1⟩] [⟨sh31, r⟩] := by
  refine pcall_intro Try.func64 rfl rfl (Nat.le_of_ble_eq_true rfl) ?_
  intro w0 Zi a w h
  rw [f64] at hF
  refine wp_reg_seq tok (orc := orcL []) (fz := []) (l := [1, 2, 4]) (c := _) (.inr fun i h => h) h (by kernel_rfl) (AllP.nil) ?_
  intro a w h
  refine wp_seq ?_
  obtain ⟨r1, hr1886, hF⟩ := of_bind hF
  refine wp_reg_seq tok (orc := orcL [(25, [⟨.bool, r1⟩])]) (fz := []) (l := [1, 2, 4, 34]) (c := _) (.inr fun i h => h) h (by kernel_rfl) (AllP.cons (c145 k x0 r1 hr1886) AllP.nil) ?_
  intro a w h
  refine wp_if h (b := (bif (!r1) then true else (bif ((x1 : Int) != (1 : Int)) then ((x1 : Int) != (2 : Int)) else false))) (by kernel_rfl) (fun hb => ?_) (fun hb => ?_)
  · replace hF := of_t hb hF
    refine wp_reg_seq tok (orc := orcL []) (fz := []) (l := [4]) (c := _) (.inr fun i h => h) h (by kernel_rfl) (AllP.nil) ?_
    intro a w h
    cases hF
    exact wp_ret (ret_okR tok h rfl (by kernel_rfl)).1
  · replace hF := of_f hb hF
    refine wp_skip ?_
    obtain ⟨r2, hr1885, hF⟩ := of_bind hF
    refine wp_reg_seq tok (orc := orcL [(37, [⟨sh38, r2⟩])]) (fz := []) (l := [1, 2, 4, 5]) (c := _) (.inr fun i h => h) h (by kernel_rfl) (AllP.cons (c146 k x0 r2 hr1885) AllP.nil) ?_
    intro a w h
    refine wp_reg_seq tok (orc := orcL []) (fz := []) (l := [1, 2, 4, 5, 6]) (c := _) (.inr fun i h => h) h (by kernel_rfl) (AllP.nil) ?_
    intro a w h
    refine wp_seq ?_
    refine wp_reg_seq tok (orc := orcL []) (fz := []) (l := [1, 2, 4, 5, 6, 40, 41, 42]) (c := _) (.inr fun i h => h) h (by kernel_rfl) (AllP.nil) ?_
    intro a w h
    refine wp_block ?_
    refine wp_loop_fuel (f64.l126 k x0 x1 r2) (fun ((v209, v210) : ((List (Int × Bool)) × Int)) => [(1, .val (.int .i64) x1), (2, .val sh21 (some x0)), (4, .val sh27 (some (([] : (List (Int × (Int × Int)))), (([] : (List (Int × (Int × (Int × (Int × (Int × ByteArray))))))), ([] : (List (Int × Int))))))), (5, .val sh38 r2), (6, .val sh33 (some v209)), (40, .val sh35 x0.2.1), (41, .val (.int .i64) (List.length x0.2.1 : Int)), (42, .val (.int .i64) v210)]) (fun v h => by obtain ⟨v209, v210⟩ := v; rw [f64.l126] at h; cases h) ?_ hF (h.arrive (fz := []) (l := [1, 2, 4, 5, 6, 40, 41, 42]) (.inr fun i h => h) (by kernel_rfl))
    intro m126 v a w hF h
    obtain ⟨v209, v210⟩ := v
    rw [f64.l126] at hF
    refine wp_reg_seq tok (orc := orcL []) (fz := []) (l := [1, 2, 4, 5, 6, 40, 41, 42, 43]) (c := _) (.inr fun i h => h) h (by kernel_rfl) (AllP.nil) ?_
    intro a w h
    refine wp_seq <| wp_if h (b := (decide ((v210 : Int) < (List.length x0.2.1 : Int)))) (by kernel_rfl) (fun hb => ?_) (fun hb => ?_)
    · replace hF := of_t hb hF
      refine wp_skip ?_
      refine wp_mid (fun a w => ∃ v : (List (Int × Bool)), f64.j230 k v210 ((f64.l126 k x0 x1 r2) m126) v = some r ∧ Rel w0 (fun _ => False) Zi Try.f64.ntmps ((fun (v229 : (List (Int × Bool))) => ([(1, .val (.int .i64) x1), (2, .val sh21 (some x0)), (4, .val sh27 (some (([] : (List (Int × (Int × Int)))), (([] : (List (Int × (Int × (Int × (Int × (Int × ByteArray))))))), ([] : (List (Int × Int))))))), (5, .val sh38 r2), (6, .val sh33 (some v229)), (40, .val sh35 x0.2.1), (41, .val (.int .i64) (List.length x0.2.1 : Int)), (42, .val (.int .i64) v210)] : SS)) v) a w) ?_ ?_
      ·
        refine wp_block ?_
        obtain ⟨hc248, hF⟩ := of_if hF
        refine wp_reg_seq tok (orc := orcL []) (fz := []) (l := [1, 2, 4, 5, 6, 8, 40, 41, 42]) (c := _) (.inr fun i h => h) h (by kernel_rfl) (AllP.cons hc248 AllP.nil) ?_
        intro a w h
        obtain ⟨r231, hr247, hF⟩ := of_bind hF
        refine wp_reg_seq tok (orc := orcL [(49, [⟨(.int .i64), r231⟩])]) (fz := []) (l := [1, 2, 4, 5, 6, 8, 40, 41, 42, 50]) (c := _) (.inr fun i h => h) h (by kernel_rfl) (AllP.cons (c147 k (List.getD x0.2.1 (Int.toNat v210) ((0 : Int), (([] : (List Int)), ([] : (List (ByteArray × ByteArray)))))).2.2 x1 r231 hr247) AllP.nil) ?_
        intro a w h
        refine wp_if h (b := (decide ((r231 : Int) > (0 : Int)))) (by kernel_rfl) (fun hb => ?_) (fun hb => ?_)
        · replace hF := of_t hb hF
          refine wp_reg_seq tok (orc := orcL []) (fz := []) (l := [1, 2, 4, 5, 6, 40, 41, 42, 52, 53, 54]) (c := _) (.inr fun i h => h) h (by kernel_rfl) (AllP.nil) ?_
          intro a w h
          refine wp_block ?_
          refine wp_loop_fuel (f64.l232 k x0 v210 (f64.j230 k v210 ((f64.l126 k x0 x1 r2) m126))) (fun ((v243, v244) : ((List (Int × Bool)) × Int)) => [(1, .val (.int .i64) x1), (2, .val sh21 (some x0)), (4, .val sh27 (some (([] : (List (Int × (Int × Int)))), (([] : (List (Int × (Int × (Int × (Int × (Int × ByteArray))))))), ([] : (List (Int × Int))))))), (5, .val sh38 r2), (6, .val sh33 (some v243)), (40, .val sh35 x0.2.1), (41, .val (.int .i64) (List.length x0.2.1 : Int)), (42, .val (.int .i64) v210), (52, .val (.sl false 2 (.int .i64)) (List.getD x0.2.1 (Int.toNat v210) ((0 : Int), (([] : (List Int)), ([] : (List (ByteArray × ByteArray)))))).2.1), (53, .val (.int .i64) (List.length (List.getD x0.2.1 (Int.toNat v210) ((0 : Int), (([] : (List Int)), ([] : (List (ByteArray × ByteArray)))))).2.1 : Int)), (54, .val (.int .i64) v244)]) (fun v h => by obtain ⟨v243, v244⟩ := v; rw [f64.l232] at h; cases h) ?_ hF (h.arrive (fz := []) (l := [1, 2, 4, 5, 6, 40, 41, 42, 52, 53, 54]) (.inr fun i h => h) (by kernel_rfl))
          intro m232 v a w hF h
          obtain ⟨v243, v244⟩ := v
          rw [f64.l232] at hF
          refine wp_reg_seq tok (orc := orcL []) (fz := []) (l := [1, 2, 4, 5, 6, 40, 41, 42, 52, 53, 54, 55]) (c := _) (.inr fun i h => h) h (by kernel_rfl) (AllP.nil) ?_
          intro a w h
          refine wp_seq <| wp_if h (b := (decide ((v244 : Int) < (List.length (List.getD x0.2.1 (Int.toNat v210) ((0 : Int), (([] : (List Int)), ([] : (List (ByteArray × ByteArray)))))).2.1 : Int)))) (by kernel_rfl) (fun hb => ?_) (fun hb => ?_)
          · replace hF := of_t hb hF
            refine wp_skip ?_
            refine wp_seq <| wp_block ?_
            obtain ⟨hc246, hF⟩ := of_if hF
            refine wp_reg_seq tok (orc := orcL []) (fz := []) (l := [1, 2, 4, 5, 6, 10, 40, 41, 42, 52, 53, 54]) (c := _) (.inr fun i h => h) h (by kernel_rfl) (AllP.cons hc246 AllP.nil) ?_
            intro a w h
            refine wp_reg tok (orc := orcL []) (fz := []) (l := [1, 2, 4, 5, 6, 40, 41, 42, 52, 53, 54]) (c := _) (.inr fun i h => h) h (by kernel_rfl) (AllP.cons (show eqTy Try.prog 9 2 (.int .i64) = true from by kernel_rfl) AllP.nil) ?_
            intro a w h
            refine wp_reg tok (orc := orcL []) (fz := []) (l := [1, 2, 4, 5, 6, 40, 41, 42, 52, 53, 54]) (c := _) (.inr fun i h => h) h (by kernel_rfl) (AllP.nil) ?_
            intro a w h
            exact ⟨((mput (Sh.beq (.int .i64)) (List.getD (List.getD x0.2.1 (Int.toNat v210) ((0 : Int), (([] : (List Int)), ([] : (List (ByteArray × ByteArray)))))).2.1 (Int.toNat v244) (0 : Int)) true v243), (IntKind.i64.wrap (v244 + (1 : Int)))), hF, h.arrive (fz := []) (l := [1, 2, 4, 5, 6, 40, 41, 42, 52, 53, 54]) (.inr fun i h => h) (by kernel_rfl)⟩
          · replace hF := of_f hb hF
            refine wp_exit ?_
            exact ⟨v243, hF, h.arrive (fz := []) (l := [1, 2, 4, 5, 6, 40, 41, 42]) (.inr fun i h => h) (by kernel_rfl)⟩
        · replace hF := of_f hb hF
          refine wp_skip ?_
          exact ⟨v209, hF, h.arrive (fz := []) (l := [1, 2, 4, 5, 6, 40, 41, 42]) (.inr fun i h => h) (by kernel_rfl)⟩
      · rintro a w ⟨v229, hF, h⟩
        rw [f64.j230] at hF
        refine wp_reg tok (orc := orcL []) (fz := []) (l := [1, 2, 4, 5, 6, 40, 41, 42]) (c := _) (.inr fun i h => h) h (by kernel_rfl) (AllP.nil) ?_
        intro a w h
        exact ⟨(v229, (IntKind.i64.wrap (v210 + (1 : Int)))), hF, h.arrive (fz := []) (l := [1, 2, 4, 5, 6, 40, 41, 42]) (.inr fun i h => h) (by kernel_rfl)⟩
    · replace hF := of_f hb hF
      refine wp_exit ?_
      refine wp_reg_seq tok (orc := orcL []) (fz := []) (l := [1, 2, 4, 5, 6, 11]) (c := _) (.inr fun i h => h) h (by kernel_rfl) (AllP.nil) ?_
      intro a w h
      refine wp_reg_seq tok (orc := orcL []) (fz := []) (l := [1, 2, 4, 5, 6, 11, 12]) (c := _) (.inr fun i h => h) h (by kernel_rfl) (AllP.nil) ?_
      intro a w h
      refine wp_seq ?_
      refine wp_reg_seq tok (orc := orcL []) (fz := []) (l := [1, 2, 4, 5, 6, 11, 12, 64, 65, 66]) (c := _) (.inr fun i h => h) h (by kernel_rfl) (AllP.nil) ?_
      intro a w h
      refine wp_block ?_
      refine wp_loop_fuel (f64.l283 k x0 v209 x1 r2) (fun ((v307, v308, v309) : ((List (Int × (Int × Int))) × (List (Int × Int)) × Int)) => [(1, .val (.int .i64) x1), (2, .val sh21 (some x0)), (4, .val sh27 (some (([] : (List (Int × (Int × Int)))), (([] : (List (Int × (Int × (Int × (Int × (Int × ByteArray))))))), ([] : (List (Int × Int))))))), (5, .val sh38 r2), (6, .val sh33 (some v209)), (11, .val sh27 (some (v307, (([] : (List (Int × (Int × (Int × (Int × (Int × ByteArray))))))), ([] : (List (Int × Int))))))), (12, .val sh39 (some v308)), (64, .val sh34 x0.1), (65, .val (.int .i64) (List.length x0.1 : Int)), (66, .val (.int .i64) v309)]) (fun v h => by obtain ⟨v307, v308, v309⟩ := v; rw [f64.l283] at h; cases h) ?_ hF (h.arrive (fz := []) (l := [1, 2, 4, 5, 6, 11, 12, 64, 65, 66]) (.inr fun i h => h) (by kernel_rfl))
      intro m283 v a w hF h
      obtain ⟨v307, v308, v309⟩ := v
      rw [f64.l283] at hF
      refine wp_reg_seq tok (orc := orcL []) (fz := []) (l := [1, 2, 4, 5, 6, 11, 12, 64, 65, 66, 67]) (c := _) (.inr fun i h => h) h (by kernel_rfl) (AllP.nil) ?_
      intro a w h
      refine wp_seq <| wp_if h (b := (decide ((v309 : Int) < (List.length x0.1 : Int)))) (by kernel_rfl) (fun hb => ?_) (fun hb => ?_)
      · replace hF := of_t hb hF
        refine wp_skip ?_
        refine wp_mid (fun a w => ∃ v : ((List (Int × (Int × Int))) × (List (Int × Int))), f64.j314 k v309 ((f64.l283 k x0 v209 x1 r2) m283) v = some r ∧ Rel w0 (fun _ => False) Zi Try.f64.ntmps ((fun ((v312, v313) : ((List (Int × (Int × Int))) × (List (Int × Int)))) => ([(1, .val (.int .i64) x1), (2, .val sh21 (some x0)), (4, .val sh27 (some (([] : (List (Int × (Int × Int)))), (([] : (List (Int × (Int × (Int × (Int × (Int × ByteArray))))))), ([] : (List (Int × Int))))))), (5, .val sh38 r2), (6, .val sh33 (some v209)), (11, .val sh27 (some (v312, (([] : (List (Int × (Int × (Int × (Int × (Int × ByteArray))))))), ([] : (List (Int × Int))))))), (12, .val sh39 (some v313)), (64, .val sh34 x0.1), (65, .val (.int .i64) (List.length x0.1 : Int)), (66, .val (.int .i64) v309)] : SS)) v) a w) ?_ ?_
        ·
          refine wp_block ?_
          obtain ⟨hc316, hF⟩ := of_if hF
          refine wp_reg_seq tok (orc := orcL []) (fz := []) (l := [1, 2, 4, 5, 6, 11, 12, 14, 64, 65, 66]) (c := _) (.inr fun i h => h) h (by kernel_rfl) (AllP.cons hc316 AllP.nil) ?_
          intro a w h
          refine wp_reg_seq tok (orc := orcL []) (fz := []) (l := [1, 2, 4, 5, 6, 11, 12, 14, 64, 65, 66, 73]) (c := _) (.inr fun i h => h) h (by kernel_rfl) (AllP.cons (show eqTy Try.prog 9 2 (.int .i64) = true from by kernel_rfl) AllP.nil) ?_
          intro a w h
          refine wp_if h (b := (mget (Sh.beq (.int .i64)) (some v209) (List.getD x0.1 (Int.toNat v309) ((0 : Int), (((0 : Int), (0 : Int)), ([] : (List (ByteArray × ByteArray)))))).1 false)) (by kernel_rfl) (fun hb => ?_) (fun hb => ?_)
          · replace hF := of_t hb hF
            refine wp_reg_seq tok (orc := orcL []) (fz := []) (l := [1, 2, 4, 5, 6, 11, 12, 14, 64, 65, 66]) (c := _) (.inr fun i h => h) h (by kernel_rfl) (AllP.cons (show eqTy Try.prog 9 2 (.int .i64) = true from by kernel_rfl) AllP.nil) ?_
            intro a w h
            obtain ⟨hc315, hF⟩ := of_if hF
            refine wp_reg tok (orc := orcL [(88, [⟨.pt false 4294967293 .unit, some ()⟩])]) (fz := []) (l := [1, 2, 4, 5, 6, 11, 12, 64, 65, 66]) (c := _) (.inr fun i h => h) h (by kernel_rfl) (AllP.cons (PrefL.mk (l := [[.der, .fst], [.der, .fst]]) (p := [.der, .fst]) rfl) (AllP.cons hc315 (AllP.cons (show ([.der, .fst] : Path) = [.der, .fst] from rfl) AllP.nil))) ?_
            intro a w h
            exact ⟨((List.append v307 [((List.getD x0.1 (Int.toNat v309) ((0 : Int), (((0 : Int), (0 : Int)), ([] : (List (ByteArray × ByteArray)))))).1, (List.getD x0.1 (Int.toNat v309) ((0 : Int), (((0 : Int), (0 : Int)), ([] : (List (ByteArray × ByteArray)))))).2.1)]), (mput (Sh.beq (.int .i64)) (List.getD x0.1 (Int.toNat v309) ((0 : Int), (((0 : Int), (0 : Int)), ([] : (List (ByteArray × ByteArray)))))).1 (List.length v307 : Int) v308)), hF, h.arrive (fz := []) (l := [1, 2, 4, 5, 6, 11, 12, 64, 65, 66]) (.inr fun i h => h) (by kernel_rfl)⟩
          · replace hF := of_f hb hF
            refine wp_skip ?_
            exact ⟨(v307, v308), hF, h.arrive (fz := []) (l := [1, 2, 4, 5, 6, 11, 12, 64, 65, 66]) (.inr fun i h => h) (by kernel_rfl)⟩
        · rintro a w ⟨v, hF, h⟩
          obtain ⟨v312, v313⟩ := v
          rw [f64.j314] at hF
          refine wp_reg tok (orc := orcL []) (fz := []) (l := [1, 2, 4, 5, 6, 11, 12, 64, 65, 66]) (c := _) (.inr fun i h => h) h (by kernel_rfl) (AllP.nil) ?_
          intro a w h
          exact ⟨(v312, v313, (IntKind.i64.wrap (v309 + (1 : Int)))), hF, h.arrive (fz := []) (l := [1, 2, 4, 5, 6, 11, 12, 64, 65, 66]) (.inr fun i h => h) (by kernel_rfl)⟩
      · replace hF := of_f hb hF
        refine wp_exit ?_
        refine wp_seq ?_
        refine wp_reg_seq tok (orc := orcL []) (fz := []) (l := [1, 4, 5, 11, 12, 92, 93, 94]) (c := _) (.inr fun i h => h) h (by kernel_rfl) (AllP.nil) ?_
        intro a w h
        refine wp_block ?_
        refine wp_loop_fuel (f64.l1100 k x0 x1 r2 v308 v307) (fun ((v1623, v1624) : ((List (Int × (Int × (Int × (Int × (Int × ByteArray)))))) × Int)) => [(1, .val (.int .i64) x1), (4, .val sh27 (some (([] : (List (Int × (Int × Int)))), (([] : (List (Int × (Int × (Int × (Int × (Int × ByteArray))))))), ([] : (List (Int × Int))))))), (5, .val sh38 r2), (11, .val sh27 (some (v307, (v1623, ([] : (List (Int × Int))))))), (12, .val sh39 (some v308)), (92, .val sh35 x0.2.1), (93, .val (.int .i64) (List.length x0.2.1 : Int)), (94, .val (.int .i64) v1624)]) (fun v h => by obtain ⟨v1623, v1624⟩ := v; rw [f64.l1100] at h; cases h) ?_ hF (h.arrive (fz := []) (l := [1, 4, 5, 11, 12, 92, 93, 94]) (.inr fun i h => h) (by kernel_rfl))
        intro m1100 v a w hF h
        obtain ⟨v1623, v1624⟩ := v
        rw [f64.l1100] at hF
        refine wp_reg_seq tok (orc := orcL []) (fz := []) (l := [1, 4, 5, 11, 12, 92, 93, 94, 95]) (c := _) (.inr fun i h => h) h (by kernel_rfl) (AllP.nil) ?_
        intro a w h
        refine wp_seq <| wp_if h (b := (decide ((v1624 : Int) < (List.length x0.2.1 : Int)))) (by kernel_rfl) (fun hb => ?_) (fun hb => ?_)
        · replace hF := of_t hb hF
          refine wp_skip ?_
          refine wp_mid (fun a w => ∃ v : (List (Int × (Int × (Int × (Int × (Int × ByteArray)))))), f64.j1754 k v1624 ((f64.l1100 k x0 x1 r2 v308 v307) m1100) v = some r ∧ Rel w0 (fun _ => False) Zi Try.f64.ntmps ((fun (v1753 : (List (Int × (Int × (Int × (Int × (Int × ByteArray))))))) => ([(1, .val (.int .i64) x1), (4, .val sh27 (some (([] : (List (Int × (Int × Int)))), (([] : (List (Int × (Int × (Int × (Int × (Int × ByteArray))))))), ([] : (List (Int × Int))))))), (5, .val sh38 r2), (11, .val sh27 (some (v307, (v1753, ([] : (List (Int × Int))))))), (12, .val sh39 (some v308)), (92, .val sh35 x0.2.1), (93, .val (.int .i64) (List.length x0.2.1 : Int)), (94, .val (.int .i64) v1624)] : SS)) v) a w) ?_ ?_
          ·
            refine wp_block ?_
            obtain ⟨hc1882, hF⟩ := of_if hF
            refine wp_reg_seq tok (orc := orcL []) (fz := []) (l := [1, 4, 5, 11, 12, 16, 92, 93, 94]) (c := _) (.inr fun i h => h) h (by kernel_rfl) (AllP.cons hc1882 AllP.nil) ?_
            intro a w h
            obtain ⟨r1755, hr1881, hF⟩ := of_bind hF
            refine wp_reg_seq tok (orc := orcL [(101, [⟨(.int .i64), r1755⟩])]) (fz := []) (l := [1, 4, 5, 11, 12, 16, 17, 92, 93, 94]) (c := _) (.inr fun i h => h) h (by kernel_rfl) (AllP.cons (c147 k (List.getD x0.2.1 (Int.toNat v1624) ((0 : Int), (([] : (List Int)), ([] : (List (ByteArray × ByteArray)))))).2.2 x1 r1755 hr1881) AllP.nil) ?_
            intro a w h
            refine wp_seq ?_
            refine wp_reg_seq tok (orc := orcL []) (fz := []) (l := [1, 4, 5, 11, 12, 16, 17, 92, 93, 94, 103]) (c := _) (.inr fun i h => h) h (by kernel_rfl) (AllP.nil) ?_
            intro a w h
            refine wp_if h (b := ((r1755 : Int) == (0 : Int))) (by kernel_rfl) (fun hb => ?_) (fun hb => ?_)
            · replace hF := of_t hb hF
              refine wp_exit ?_
              exact ⟨v1623, hF, h.arrive (fz := []) (l := [1, 4, 5, 11, 12, 92, 93, 94]) (.inr fun i h => h) (by kernel_rfl)⟩
            · replace hF := of_f hb hF
              refine wp_skip ?_
              obtain ⟨r1756, hr1880, hF⟩ := of_bind hF
              refine wp_reg_seq tok (orc := orcL [(107, [⟨(.int .i64), r1756⟩])]) (fz := []) (l := [1, 4, 5, 11, 12, 16, 17, 18, 92, 93, 94]) (c := _) (.inr fun i h => h) h (by kernel_rfl) (AllP.cons (c148 k (List.getD x0.2.1 (Int.toNat v1624) ((0 : Int), (([] : (List Int)), ([] : (List (ByteArray × ByteArray)))))).2.2 x1 r1756 hr1880) AllP.nil) ?_
              intro a w h
              refine wp_reg_seq tok (orc := orcL []) (fz := []) (l := [1, 4, 5, 11, 12, 16, 17, 18, 19, 92, 93, 94]) (c := _) (.inr fun i h => h) h (by kernel_rfl) (AllP.nil) ?_
              intro a w h
              refine wp_block ?_
              refine wp_loop_fuel (f64.l1757 k x0 v1624 r2 r1755 r1756 v308 (f64.j1754 k v1624 ((f64.l1100 k x0 x1 r2 v308 v307) m1100))) (fun ((v1840, v1841) : ((List (Int × (Int × (Int × (Int × (Int × ByteArray)))))) × Int)) => [(1, .val (.int .i64) x1), (4, .val sh27 (some (([] : (List (Int × (Int × Int)))), (([] : (List (Int × (Int × (Int × (Int × (Int × ByteArray))))))), ([] : (List (Int × Int))))))), (5, .val sh38 r2), (11, .val sh27 (some (v307, (v1840, ([] : (List (Int × Int))))))), (12, .val sh39 (some v308)), (16, .val sh23 (some (List.getD x0.2.1 (Int.toNat v1624) ((0 : Int), (([] : (List Int)), ([] : (List (ByteArray × ByteArray)))))))), (17, .val (.int .i64) r1755), (18, .val (.int .i64) r1756), (19, .val (.int .i64) v1841), (92, .val sh35 x0.2.1), (93, .val (.int .i64) (List.length x0.2.1 : Int)), (94, .val (.int .i64) v1624)]) (fun v h => by obtain ⟨v1840, v1841⟩ := v; rw [f64.l1757] at h; cases h) ?_ hF (h.arrive (fz := []) (l := [1, 4, 5, 11, 12, 16, 17, 18, 19, 92, 93, 94]) (.inr fun i h => h) (by kernel_rfl))
              intro m1757 v a w hF h
              obtain ⟨v1840, v1841⟩ := v
              rw [f64.l1757] at hF
              refine wp_seq ?_
              refine wp_reg_seq tok (orc := orcL []) (fz := []) (l := [1, 4, 5, 11, 12, 16, 17, 18, 19, 92, 93, 94, 112]) (c := _) (.inr fun i h => h) h (by kernel_rfl) (AllP.nil) ?_
              intro a w h
              refine wp_if h (b := (decide ((v1841 : Int) < (List.length (List.getD x0.2.1 (Int.toNat v1624) ((0 : Int), (([] : (List Int)), ([] : (List (ByteArray × ByteArray)))))).2.1 : Int)))) (by kernel_rfl) (fun hb => ?_) (fun hb => ?_)
              · replace hF := of_t hb hF
                refine wp_skip ?_
                refine wp_mid (fun a w => ∃ v : (List (Int × (Int × (Int × (Int × (Int × ByteArray)))))), f64.j1861 k v1841 ((f64.l1757 k x0 v1624 r2 r1755 r1756 v308 (f64.j1754 k v1624 ((f64.l1100 k x0 x1 r2 v308 v307) m1100))) m1757) v = some r ∧ Rel w0 (fun _ => False) Zi Try.f64.ntmps ((fun (v1860 : (List (Int × (Int × (Int × (Int × (Int × ByteArray))))))) => ([(1, .val (.int .i64) x1), (4, .val sh27 (some (([] : (List (Int × (Int × Int)))), (([] : (List (Int × (Int × (Int × (Int × (Int × ByteArray))))))), ([] : (List (Int × Int))))))), (5, .val sh38 r2), (11, .val sh27 (some (v307, (v1860, ([] : (List (Int × Int))))))), (12, .val sh39 (some v308)), (16, .val sh23 (some (List.getD x0.2.1 (Int.toNat v1624) ((0 : Int), (([] : (List Int)), ([] : (List (ByteArray × ByteArray)))))))), (17, .val (.int .i64) r1755), (18, .val (.int .i64) r1756), (19, .val (.int .i64) v1841), (92, .val sh35 x0.2.1), (93, .val (.int .i64) (List.length x0.2.1 : Int)), (94, .val (.int .i64) v1624)] : SS)) v) a w) ?_ ?_
                ·
                  refine wp_block ?_
                  obtain ⟨hc1878, hF⟩ := of_if hF
                  obtain ⟨hc1879, hF⟩ := of_if hF
                  refine wp_regy_seq tok (orc := orcL []) (fz := []) (l := [1, 4, 5, 11, 12, 16, 17, 18, 19, 20, 21, 92, 93, 94]) (c := _) ([], [], [], []) 13 (.inr fun i h => h) h (by kernel_rfl) (by kernel_rfl) (AllP.cons hc1878 (AllP.cons hc1879 AllP.nil)) ?_
                  intro a w h
                  obtain ⟨r1862, hr1877, hF⟩ := of_bind hF
                  refine wp_reg_seq tok (orc := orcL [(132, [⟨(.int .i64), r1862⟩])]) (fz := []) (l := [1, 4, 5, 11, 12, 16, 17, 18, 19, 20, 21, 22, 92, 93, 94]) (c := _) (.inr fun i h => h) h (by kernel_rfl) (AllP.cons (show eqTy Try.prog 9 2 (.int .i64) = true from by kernel_rfl) (AllP.cons (show eqTy Try.prog 9 2 (.int .i64) = true from by kernel_rfl) (AllP.cons (c149 k (mget (Sh.beq (.int .i64)) r2 (List.getD (List.getD x0.2.1 (Int.toNat v1624) ((0 : Int), (([] : (List Int)), ([] : (List (ByteArray × ByteArray)))))).2.1 (Int.toNat (IntKind.i64.wrap (v1841 - (1 : Int)))) (0 : Int)) ((0 : Int), (0 : Int))) (mget (Sh.beq (.int .i64)) r2 (List.getD (List.getD x0.2.1 (Int.toNat v1624) ((0 : Int), (([] : (List Int)), ([] : (List (ByteArray × ByteArray)))))).2.1 (Int.toNat v1841) (0 : Int)) ((0 : Int), (0 : Int))) r1862 hr1877) AllP.nil))) ?_
                  intro a w h
                  obtain ⟨hc1875, hF⟩ := of_if hF
                  obtain ⟨r1863, hr1876, hF⟩ := of_bind hF
                  refine wp_regy_seq tok (orc := orcL [(151, [⟨.str, r1863⟩])]) (fz := []) (l := [1, 4, 5, 11, 12, 16, 17, 18, 19, 23, 92, 93, 94]) (c := _) ([], [], [], []) 21 (.inr fun i h => h) h (by kernel_rfl) (by kernel_rfl) (AllP.cons (show eqTy Try.prog 9 2 (.int .i64) = true from by kernel_rfl) (AllP.cons (show eqTy Try.prog 9 2 (.int .i64) = true from by kernel_rfl) (AllP.cons hc1875 (AllP.cons (c150 k (List.getD x0.2.1 (Int.toNat v1624) ((0 : Int), (([] : (List Int)), ([] : (List (ByteArray × ByteArray)))))).2.2 (⟨#[110, 97, 109, 101]⟩ : ByteArray) r1863 hr1876) AllP.nil)))) ?_
                  intro a w h
                  refine wp_seq ?_
                  refine wp_reg_seq tok (orc := orcL []) (fz := []) (l := [1, 4, 5, 11, 12, 16, 17, 18, 19, 23, 92, 93, 94, 154]) (c := _) (.inr fun i h => h) h (by kernel_rfl) (AllP.nil) ?_
                  intro a w h
                  refine wp_midT (fun a w => ∃ v : (List (Int × (Int × (Int × (Int × (Int × ByteArray)))))), f64.j1868 k r1756 v308 x0 v1624 v1841 r1862 r1755 r1863 (f64.j1861 k v1841 ((f64.l1757 k x0 v1624 r2 r1755 r1756 v308 (f64.j1754 k v1624 ((f64.l1100 k x0 x1 r2 v308 v307) m1100))) m1757)) v = some r ∧ Rel w0 (fun _ => False) Zi Try.f64.ntmps ((fun (v1867 : (List (Int × (Int × (Int × (Int × (Int × ByteArray))))))) => ([(1, .val (.int .i64) x1), (4, .val sh27 (some (([] : (List (Int × (Int × Int)))), (([] : (List (Int × (Int × (Int × (Int × (Int × ByteArray))))))), ([] : (List (Int × Int))))))), (5, .val sh38 r2), (11, .val sh27 (some (v307, (v1867, ([] : (List (Int × Int))))))), (12, .val sh39 (some v308)), (16, .val sh23 (some (List.getD x0.2.1 (Int.toNat v1624) ((0 : Int), (([] : (List Int)), ([] : (List (ByteArray × ByteArray)))))))), (17, .val (.int .i64) r1755), (18, .val (.int .i64) r1756), (19, .val (.int .i64) v1841), (23, .val sh30 (some ((mget (Sh.beq (.int .i64)) (some v308) (List.getD (List.getD x0.2.1 (Int.toNat v1624) ((0 : Int), (([] : (List Int)), ([] : (List (ByteArray × ByteArray)))))).2.1 (Int.toNat (IntKind.i64.wrap (v1841 - (1 : Int)))) (0 : Int)) (0 : Int)), ((mget (Sh.beq (.int .i64)) (some v308) (List.getD (List.getD x0.2.1 (Int.toNat v1624) ((0 : Int), (([] : (List Int)), ([] : (List (ByteArray × ByteArray)))))).2.1 (Int.toNat v1841) (0 : Int)) (0 : Int)), ((List.getD x0.2.1 (Int.toNat v1624) ((0 : Int), (([] : (List Int)), ([] : (List (ByteArray × ByteArray)))))).1, ((if ((IntKind.i64.wrap (Int.tdiv (IntKind.i64.wrap ((IntKind.i64.wrap (r1862 + r1755)) - (1 : Int))) r1755)) : Int) > (1 : Int) then (IntKind.i64.wrap (Int.tdiv (IntKind.i64.wrap ((IntKind.i64.wrap (r1862 + r1755)) - (1 : Int))) r1755)) else (1 : Int)), (r1862, r1863))))))), (92, .val sh35 x0.2.1), (93, .val (.int .i64) (List.length x0.2.1 : Int)), (94, .val (.int .i64) v1624)] : SS)) v) a w) ?_ ?_
                  ·
                    refine wp_if h (b := ((r1756 : Int) != (-1 : Int))) (by kernel_rfl) (fun hb => ?_) (fun hb => ?_)
                    · replace hF := of_t hb hF
                      obtain ⟨hc1874, hF⟩ := of_if hF
                      refine wp_reg tok (orc := orcL [(159, [⟨.pt false 4294967293 .unit, some ()⟩])]) (fz := []) (l := [1, 4, 5, 11, 12, 16, 17, 18, 19, 23, 92, 93, 94]) (c := _) (.inr fun i h => h) h (by kernel_rfl) (AllP.cons (PrefL.mk (l := [[.der, .snd, .fst], [.der, .snd, .fst]]) (p := [.der, .snd, .fst]) rfl) (AllP.cons hc1874 (AllP.cons (show ([.der, .snd, .fst] : Path) = [.der, .snd, .fst] from rfl) AllP.nil))) ?_
                      intro a w h
                      obtain ⟨v1872, hv1873, hF⟩ := of_bind hF
                      replace h := h.cast (S' := [(1, .val (.int .i64) x1), (4, .val sh27 (some (([] : (List (Int × (Int × Int)))), (([] : (List (Int × (Int × (Int × (Int × (Int × ByteArray))))))), ([] : (List (Int × Int))))))), (5, .val sh38 r2), (11, .val sh27 (some (v307, (v1872, ([] : (List (Int × Int))))))), (12, .val sh39 (some v308)), (16, .val sh23 (some (List.getD x0.2.1 (Int.toNat v1624) ((0 : Int), (([] : (List Int)), ([] : (List (ByteArray × ByteArray)))))))), (17, .val (.int .i64) r1755), (18, .val (.int .i64) r1756), (19, .val (.int .i64) v1841), (23, .val sh30 (some ((mget (Sh.beq (.int .i64)) (some v308) (List.getD (List.getD x0.2.1 (Int.toNat v1624) ((0 : Int), (([] : (List Int)), ([] : (List (ByteArray × ByteArray)))))).2.1 (Int.toNat (IntKind.i64.wrap (v1841 - (1 : Int)))) (0 : Int)) (0 : Int)), ((mget (Sh.beq (.int .i64)) (some v308) (List.getD (List.getD x0.2.1 (Int.toNat v1624) ((0 : Int), (([] : (List Int)), ([] : (List (ByteArray × ByteArray)))))).2.1 (Int.toNat v1841) (0 : Int)) (0 : Int)), ((List.getD x0.2.1 (Int.toNat v1624) ((0 : Int), (([] : (List Int)), ([] : (List (ByteArray × ByteArray)))))).1, ((if ((IntKind.i64.wrap (Int.tdiv (IntKind.i64.wrap ((IntKind.i64.wrap (r1862 + r1755)) - (1 : Int))) r1755)) : Int) > (1 : Int) then (IntKind.i64.wrap (Int.tdiv (IntKind.i64.wrap ((IntKind.i64.wrap (r1862 + r1755)) - (1 : Int))) r1755)) else (1 : Int)), (r1862, r1863))))))), (92, .val sh35 x0.2.1), (93, .val (.int .i64) (List.length x0.2.1 : Int)), (94, .val (.int .i64) v1624)]) (by cases hv1873; kernel_rfl)
                      exact ⟨v1872, hF, h.arrive (fz := []) (l := [1, 4, 5, 11, 12, 16, 17, 18, 19, 23, 92, 93, 94]) (.inr fun i h => h) (by kernel_rfl)⟩
                    · replace hF := of_f hb hF
                      refine wp_skip ?_
                      exact ⟨v1840, hF, h.arrive (fz := []) (l := [1, 4, 5, 11, 12, 16, 17, 18, 19, 23, 92, 93, 94]) (.inr fun i h => h) (by kernel_rfl)⟩
                  · rintro a w ⟨v1867, hF, h⟩
                    rw [f64.j1868] at hF
                    refine wp_reg_seq tok (orc := orcL []) (fz := []) (l := [1, 4, 5, 11, 12, 16, 17, 18, 19, 23, 92, 93, 94, 162]) (c := _) (.inr fun i h => h) h (by kernel_rfl) (AllP.nil) ?_
                    intro a w h
                    refine wp_if h (b := ((r1756 : Int) != (1 : Int))) (by kernel_rfl) (fun hb => ?_) (fun hb => ?_)
                    · replace hF := of_t hb hF
                      refine wp_reg_seq tok (orc := orcL []) (fz := []) (l := [1, 4, 5, 11, 12, 16, 17, 18, 19, 23, 92, 93, 94]) (c := _) (.inr fun i h => h) h (by kernel_rfl) (AllP.nil) ?_
                      intro a w h
                      obtain ⟨hc1871, hF⟩ := of_if hF
                      refine wp_reg tok (orc := orcL [(173, [⟨.pt false 4294967293 .unit, some ()⟩])]) (fz := []) (l := [1, 4, 5, 11, 12, 16, 17, 18, 19, 92, 93, 94]) (c := _) (.inr fun i h => h) h (by kernel_rfl) (AllP.cons (PrefL.mk (l := [[.der, .snd, .fst], [.der, .snd, .fst]]) (p := [.der, .snd, .fst]) rfl) (AllP.cons hc1871 (AllP.cons (show ([.der, .snd, .fst] : Path) = [.der, .snd, .fst] from rfl) AllP.nil))) ?_
                      intro a w h
                      obtain ⟨v1869, hv1870, hF⟩ := of_bind hF
                      replace h := h.cast (S' := [(1, .val (.int .i64) x1), (4, .val sh27 (some (([] : (List (Int × (Int × Int)))), (([] : (List (Int × (Int × (Int × (Int × (Int × ByteArray))))))), ([] : (List (Int × Int))))))), (5, .val sh38 r2), (11, .val sh27 (some (v307, (v1869, ([] : (List (Int × Int))))))), (12, .val sh39 (some v308)), (16, .val sh23 (some (List.getD x0.2.1 (Int.toNat v1624) ((0 : Int), (([] : (List Int)), ([] : (List (ByteArray × ByteArray)))))))), (17, .val (.int .i64) r1755), (18, .val (.int .i64) r1756), (19, .val (.int .i64) v1841), (92, .val sh35 x0.2.1), (93, .val (.int .i64) (List.length x0.2.1 : Int)), (94, .val (.int .i64) v1624)]) (by cases hv1870; kernel_rfl)
                      exact ⟨v1869, hF, h.arrive (fz := []) (l := [1, 4, 5, 11, 12, 16, 17, 18, 19, 92, 93, 94]) (.inr fun i h => h) (by kernel_rfl)⟩
                    · replace hF := of_f hb hF
                      refine wp_skip ?_
                      exact ⟨v1867, hF, h.arrive (fz := []) (l := [1, 4, 5, 11, 12, 16, 17, 18, 19, 92, 93, 94]) (.inr fun i h => h) (by kernel_rfl)⟩
                · rintro a w ⟨v1860, hF, h⟩
                  rw [f64.j1861] at hF
                  refine wp_reg tok (orc := orcL []) (fz := []) (l := [1, 4, 5, 11, 12, 16, 17, 18, 19, 92, 93, 94]) (c := _) (.inr fun i h => h) h (by kernel_rfl) (AllP.nil) ?_
                  intro a w h
                  exact ⟨(v1860, (IntKind.i64.wrap (v1841 + (1 : Int)))), hF, h.arrive (fz := []) (l := [1, 4, 5, 11, 12, 16, 17, 18, 19, 92, 93, 94]) (.inr fun i h => h) (by kernel_rfl)⟩
              · replace hF := of_f hb hF
                refine wp_exit ?_
                exact ⟨v1840, hF, h.arrive (fz := []) (l := [1, 4, 5, 11, 12, 92, 93, 94]) (.inr fun i h => h) (by kernel_rfl)⟩
          · rintro a w ⟨v1753, hF, h⟩
            rw [f64.j1754] at hF
            refine wp_reg tok (orc := orcL []) (fz := []) (l := [1, 4, 5, 11, 12, 92, 93, 94]) (c := _) (.inr fun i h => h) h (by kernel_rfl) (AllP.nil) ?_
            intro a w h
            exact ⟨(v1753, (IntKind.i64.wrap (v1624 + (1 : Int)))), hF, h.arrive (fz := []) (l := [1, 4, 5, 11, 12, 92, 93, 94]) (.inr fun i h => h) (by kernel_rfl)⟩
        · replace hF := of_f hb hF
          refine wp_exit ?_
          refine wp_seq ?_
          obtain ⟨r1883, hr1884, hF⟩ := of_bind hF
          refine wp_reg_seq tok (orc := orcL [(177, [⟨.bool, r1883⟩])]) (fz := []) (l := [4, 11, 178]) (c := _) (.inr fun i h => h) h (by kernel_rfl) (AllP.cons (c79 k (v307, (v1623, ([] : (List (Int × Int))))) r1883 hr1884) AllP.nil) ?_
          intro a w h
          refine wp_if h (b := (!r1883)) (by kernel_rfl) (fun hb => ?_) (fun hb => ?_)
          · replace hF := of_t hb hF
            refine wp_reg_seq tok (orc := orcL []) (fz := []) (l := [4]) (c := _) (.inr fun i h => h) h (by kernel_rfl) (AllP.nil) ?_
            intro a w h
            cases hF
            exact wp_ret (ret_okR tok h rfl (by kernel_rfl)).1
          · replace hF := of_f hb hF
            refine wp_skip ?_
            refine wp_reg_seq tok (orc := orcL []) (fz := []) (l := [4]) (c := _) (.inr fun i h => h) h (by kernel_rfl) (AllP.nil) ?_
            intro a w h
            cases hF
            exact wp_ret (ret_okR tok h rfl (by kernel_rfl)).1

end Go.Proofs.Ytchbpdnaodicaaa.V
