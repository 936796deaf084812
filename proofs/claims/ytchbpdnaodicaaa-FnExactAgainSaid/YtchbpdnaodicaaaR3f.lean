/-
  THE CONTRACTS OF SOME FUNCTIONS OF THIS SEAT, PRINTED BY A PROGRAM OF THIS PROJECT (wip/gen/vgen.py).
-/
import Derived.Test.YtchbpdnaodicaaaProg
import Derived.Test.YtchbpdnaodicaaaVmW
import Derived.Test.YtchbpdnaodicaaaVmZ
import Derived.KernelRfl
import Derived.Test.YtchbpdnaodicaaaR3fB
set_option linter.unusedVariables false
open Go Go.Vm Go.Proofs
namespace Go.Proofs.Ytchbpdnaodicaaa.V
set_option maxRecDepth 100000
def f185.j143 (k : Nat) (v134 : Int) (q90 : ((List Int) × (List Int) × ((List (Int × (Int × Int))) × Unit) × Int) → Option ((List Int) × (List Int))) : ((List Int) × (List Int) × ((List (Int × (Int × Int))) × Unit)) → Option ((List Int) × (List Int))
  | (v140, v141, v142) => q90 (v140, v141, v142, (IntKind.i64.wrap (v134 + (1 : Int))))
def f185.j982 (k : Nat) (v961 : Int) (q869 : ((List Int) × (List Int) × ((List (Int × (Int × Int))) × Unit) × Int) → Option ((List Int) × (List Int))) : ((List Int) × (List Int) × ((List (Int × (Int × Int))) × Unit)) → Option ((List Int) × (List Int))
  | (v979, v980, v981) => q869 (v979, v980, v981, (IntKind.i64.wrap (v961 + (1 : Int))))
def f185.l869 (k : Nat) (x0 : (((List (Int × (Int × Int))) × ((List (Int × (Int × (Int × (Int × (Int × ByteArray)))))) × (List (Int × Int)))) × ((List (List Int)) × ((List (List Int)) × (Option (List ((Int × Int) × Bool))))))) (r868 : ((Int × (Int × Int)) × ((List (Int × (Int × Int))) × Unit))) (v866 : (List Bool)) (q577 : ((List Int) × (List Int) × (List Bool) × ((List (Int × (Int × Int))) × Unit)) → Option ((List Int) × (List Int))) : Nat → ((List Int) × (List Int) × ((List (Int × (Int × Int))) × Unit) × Int) → Option ((List Int) × (List Int))
  | 0, _ => none
  | m869 + 1, (v958, v959, v960, v961) => if (decide ((v961 : Int) < (List.length (List.getD x0.2.2.1 (Int.toNat (List.getD x0.1.2.1 (Int.toNat r868.1.2.2) ((0 : Int), ((0 : Int), ((0 : Int), ((0 : Int), ((0 : Int), (⟨#[]⟩ : ByteArray))))))).1) ([] : (List Int))) : Int))) then (if (0 ≤ v961 ∧ v961 < (List.length (List.getD x0.2.2.1 (Int.toNat (List.getD x0.1.2.1 (Int.toNat r868.1.2.2) ((0 : Int), ((0 : Int), ((0 : Int), ((0 : Int), ((0 : Int), (⟨#[]⟩ : ByteArray))))))).1) ([] : (List Int))) : Int)) then (if (0 ≤ (List.getD (List.getD x0.2.2.1 (Int.toNat (List.getD x0.1.2.1 (Int.toNat r868.1.2.2) ((0 : Int), ((0 : Int), ((0 : Int), ((0 : Int), ((0 : Int), (⟨#[]⟩ : ByteArray))))))).1) ([] : (List Int))) (Int.toNat v961) (0 : Int)) ∧ (List.getD (List.getD x0.2.2.1 (Int.toNat (List.getD x0.1.2.1 (Int.toNat r868.1.2.2) ((0 : Int), ((0 : Int), ((0 : Int), ((0 : Int), ((0 : Int), (⟨#[]⟩ : ByteArray))))))).1) ([] : (List Int))) (Int.toNat v961) (0 : Int)) < (List.length (List.set v866 (Int.toNat r868.1.2.2) true) : Int)) then (if (List.getD (List.set v866 (Int.toNat r868.1.2.2) true) (Int.toNat (List.getD (List.getD x0.2.2.1 (Int.toNat (List.getD x0.1.2.1 (Int.toNat r868.1.2.2) ((0 : Int), ((0 : Int), ((0 : Int), ((0 : Int), ((0 : Int), (⟨#[]⟩ : ByteArray))))))).1) ([] : (List Int))) (Int.toNat v961) (0 : Int))) false) then (f185.j982 k v961 ((f185.l869 k x0 r868 v866 q577) m869) (v958, v959, v960)) else ((f170 k x0 (List.getD (List.getD x0.2.2.1 (Int.toNat (List.getD x0.1.2.1 (Int.toNat r868.1.2.2) ((0 : Int), ((0 : Int), ((0 : Int), ((0 : Int), ((0 : Int), (⟨#[]⟩ : ByteArray))))))).1) ([] : (List Int))) (Int.toNat v961) (0 : Int)) r868.1.2.2).bind fun r983 => (if (decide ((r983 : Int) < (0 : Int))) then (f185.j982 k v961 ((f185.l869 k x0 r868 v866 q577) m869) (v958, v959, v960)) else (if (0 ≤ (List.getD (List.getD x0.2.2.1 (Int.toNat (List.getD x0.1.2.1 (Int.toNat r868.1.2.2) ((0 : Int), ((0 : Int), ((0 : Int), ((0 : Int), ((0 : Int), (⟨#[]⟩ : ByteArray))))))).1) ([] : (List Int))) (Int.toNat v961) (0 : Int)) ∧ (List.getD (List.getD x0.2.2.1 (Int.toNat (List.getD x0.1.2.1 (Int.toNat r868.1.2.2) ((0 : Int), ((0 : Int), ((0 : Int), ((0 : Int), ((0 : Int), (⟨#[]⟩ : ByteArray))))))).1) ([] : (List Int))) (Int.toNat v961) (0 : Int)) < (List.length x0.1.2.1 : Int)) then (if (0 ≤ (List.getD (List.getD x0.2.2.1 (Int.toNat (List.getD x0.1.2.1 (Int.toNat r868.1.2.2) ((0 : Int), ((0 : Int), ((0 : Int), ((0 : Int), ((0 : Int), (⟨#[]⟩ : ByteArray))))))).1) ([] : (List Int))) (Int.toNat v961) (0 : Int)) ∧ (List.getD (List.getD x0.2.2.1 (Int.toNat (List.getD x0.1.2.1 (Int.toNat r868.1.2.2) ((0 : Int), ((0 : Int), ((0 : Int), ((0 : Int), ((0 : Int), (⟨#[]⟩ : ByteArray))))))).1) ([] : (List Int))) (Int.toNat v961) (0 : Int)) < (List.length v958 : Int)) then (if (((decide (((List.getD v958 (Int.toNat (List.getD (List.getD x0.2.2.1 (Int.toNat (List.getD x0.1.2.1 (Int.toNat r868.1.2.2) ((0 : Int), ((0 : Int), ((0 : Int), ((0 : Int), ((0 : Int), (⟨#[]⟩ : ByteArray))))))).1) ([] : (List Int))) (Int.toNat v961) (0 : Int))) (0 : Int)) : Int) < (0 : Int))) = false) → (0 ≤ (List.getD (List.getD x0.2.2.1 (Int.toNat (List.getD x0.1.2.1 (Int.toNat r868.1.2.2) ((0 : Int), ((0 : Int), ((0 : Int), ((0 : Int), ((0 : Int), (⟨#[]⟩ : ByteArray))))))).1) ([] : (List Int))) (Int.toNat v961) (0 : Int)) ∧ (List.getD (List.getD x0.2.2.1 (Int.toNat (List.getD x0.1.2.1 (Int.toNat r868.1.2.2) ((0 : Int), ((0 : Int), ((0 : Int), ((0 : Int), ((0 : Int), (⟨#[]⟩ : ByteArray))))))).1) ([] : (List Int))) (Int.toNat v961) (0 : Int)) < (List.length v958 : Int))) then (if (((bif (decide (((List.getD v958 (Int.toNat (List.getD (List.getD x0.2.2.1 (Int.toNat (List.getD x0.1.2.1 (Int.toNat r868.1.2.2) ((0 : Int), ((0 : Int), ((0 : Int), ((0 : Int), ((0 : Int), (⟨#[]⟩ : ByteArray))))))).1) ([] : (List Int))) (Int.toNat v961) (0 : Int))) (0 : Int)) : Int) < (0 : Int))) then true else (decide (((IntKind.i64.wrap ((IntKind.i64.wrap (r868.1.1 + r983)) + (List.getD x0.1.2.1 (Int.toNat (List.getD (List.getD x0.2.2.1 (Int.toNat (List.getD x0.1.2.1 (Int.toNat r868.1.2.2) ((0 : Int), ((0 : Int), ((0 : Int), ((0 : Int), ((0 : Int), (⟨#[]⟩ : ByteArray))))))).1) ([] : (List Int))) (Int.toNat v961) (0 : Int))) ((0 : Int), ((0 : Int), ((0 : Int), ((0 : Int), ((0 : Int), (⟨#[]⟩ : ByteArray))))))).2.2.2.1)) : Int) < (List.getD v958 (Int.toNat (List.getD (List.getD x0.2.2.1 (Int.toNat (List.getD x0.1.2.1 (Int.toNat r868.1.2.2) ((0 : Int), ((0 : Int), ((0 : Int), ((0 : Int), ((0 : Int), (⟨#[]⟩ : ByteArray))))))).1) ([] : (List Int))) (Int.toNat v961) (0 : Int))) (0 : Int))))) = false) → (0 ≤ (List.getD (List.getD x0.2.2.1 (Int.toNat (List.getD x0.1.2.1 (Int.toNat r868.1.2.2) ((0 : Int), ((0 : Int), ((0 : Int), ((0 : Int), ((0 : Int), (⟨#[]⟩ : ByteArray))))))).1) ([] : (List Int))) (Int.toNat v961) (0 : Int)) ∧ (List.getD (List.getD x0.2.2.1 (Int.toNat (List.getD x0.1.2.1 (Int.toNat r868.1.2.2) ((0 : Int), ((0 : Int), ((0 : Int), ((0 : Int), ((0 : Int), (⟨#[]⟩ : ByteArray))))))).1) ([] : (List Int))) (Int.toNat v961) (0 : Int)) < (List.length v958 : Int))) then (if ((((bif (decide (((List.getD v958 (Int.toNat (List.getD (List.getD x0.2.2.1 (Int.toNat (List.getD x0.1.2.1 (Int.toNat r868.1.2.2) ((0 : Int), ((0 : Int), ((0 : Int), ((0 : Int), ((0 : Int), (⟨#[]⟩ : ByteArray))))))).1) ([] : (List Int))) (Int.toNat v961) (0 : Int))) (0 : Int)) : Int) < (0 : Int))) then true else (decide (((IntKind.i64.wrap ((IntKind.i64.wrap (r868.1.1 + r983)) + (List.getD x0.1.2.1 (Int.toNat (List.getD (List.getD x0.2.2.1 (Int.toNat (List.getD x0.1.2.1 (Int.toNat r868.1.2.2) ((0 : Int), ((0 : Int), ((0 : Int), ((0 : Int), ((0 : Int), (⟨#[]⟩ : ByteArray))))))).1) ([] : (List Int))) (Int.toNat v961) (0 : Int))) ((0 : Int), ((0 : Int), ((0 : Int), ((0 : Int), ((0 : Int), (⟨#[]⟩ : ByteArray))))))).2.2.2.1)) : Int) < (List.getD v958 (Int.toNat (List.getD (List.getD x0.2.2.1 (Int.toNat (List.getD x0.1.2.1 (Int.toNat r868.1.2.2) ((0 : Int), ((0 : Int), ((0 : Int), ((0 : Int), ((0 : Int), (⟨#[]⟩ : ByteArray))))))).1) ([] : (List Int))) (Int.toNat v961) (0 : Int))) (0 : Int))))) = false) ∧ ((((IntKind.i64.wrap ((IntKind.i64.wrap (r868.1.1 + r983)) + (List.getD x0.1.2.1 (Int.toNat (List.getD (List.getD x0.2.2.1 (Int.toNat (List.getD x0.1.2.1 (Int.toNat r868.1.2.2) ((0 : Int), ((0 : Int), ((0 : Int), ((0 : Int), ((0 : Int), (⟨#[]⟩ : ByteArray))))))).1) ([] : (List Int))) (Int.toNat v961) (0 : Int))) ((0 : Int), ((0 : Int), ((0 : Int), ((0 : Int), ((0 : Int), (⟨#[]⟩ : ByteArray))))))).2.2.2.1)) : Int) == (List.getD v958 (Int.toNat (List.getD (List.getD x0.2.2.1 (Int.toNat (List.getD x0.1.2.1 (Int.toNat r868.1.2.2) ((0 : Int), ((0 : Int), ((0 : Int), ((0 : Int), ((0 : Int), (⟨#[]⟩ : ByteArray))))))).1) ([] : (List Int))) (Int.toNat v961) (0 : Int))) (0 : Int))) = true)) → (0 ≤ (List.getD (List.getD x0.2.2.1 (Int.toNat (List.getD x0.1.2.1 (Int.toNat r868.1.2.2) ((0 : Int), ((0 : Int), ((0 : Int), ((0 : Int), ((0 : Int), (⟨#[]⟩ : ByteArray))))))).1) ([] : (List Int))) (Int.toNat v961) (0 : Int)) ∧ (List.getD (List.getD x0.2.2.1 (Int.toNat (List.getD x0.1.2.1 (Int.toNat r868.1.2.2) ((0 : Int), ((0 : Int), ((0 : Int), ((0 : Int), ((0 : Int), (⟨#[]⟩ : ByteArray))))))).1) ([] : (List Int))) (Int.toNat v961) (0 : Int)) < (List.length v959 : Int))) then ((some ((bif (bif (decide (((List.getD v958 (Int.toNat (List.getD (List.getD x0.2.2.1 (Int.toNat (List.getD x0.1.2.1 (Int.toNat r868.1.2.2) ((0 : Int), ((0 : Int), ((0 : Int), ((0 : Int), ((0 : Int), (⟨#[]⟩ : ByteArray))))))).1) ([] : (List Int))) (Int.toNat v961) (0 : Int))) (0 : Int)) : Int) < (0 : Int))) then true else (decide (((IntKind.i64.wrap ((IntKind.i64.wrap (r868.1.1 + r983)) + (List.getD x0.1.2.1 (Int.toNat (List.getD (List.getD x0.2.2.1 (Int.toNat (List.getD x0.1.2.1 (Int.toNat r868.1.2.2) ((0 : Int), ((0 : Int), ((0 : Int), ((0 : Int), ((0 : Int), (⟨#[]⟩ : ByteArray))))))).1) ([] : (List Int))) (Int.toNat v961) (0 : Int))) ((0 : Int), ((0 : Int), ((0 : Int), ((0 : Int), ((0 : Int), (⟨#[]⟩ : ByteArray))))))).2.2.2.1)) : Int) < (List.getD v958 (Int.toNat (List.getD (List.getD x0.2.2.1 (Int.toNat (List.getD x0.1.2.1 (Int.toNat r868.1.2.2) ((0 : Int), ((0 : Int), ((0 : Int), ((0 : Int), ((0 : Int), (⟨#[]⟩ : ByteArray))))))).1) ([] : (List Int))) (Int.toNat v961) (0 : Int))) (0 : Int))))) then true else (bif (((IntKind.i64.wrap ((IntKind.i64.wrap (r868.1.1 + r983)) + (List.getD x0.1.2.1 (Int.toNat (List.getD (List.getD x0.2.2.1 (Int.toNat (List.getD x0.1.2.1 (Int.toNat r868.1.2.2) ((0 : Int), ((0 : Int), ((0 : Int), ((0 : Int), ((0 : Int), (⟨#[]⟩ : ByteArray))))))).1) ([] : (List Int))) (Int.toNat v961) (0 : Int))) ((0 : Int), ((0 : Int), ((0 : Int), ((0 : Int), ((0 : Int), (⟨#[]⟩ : ByteArray))))))).2.2.2.1)) : Int) == (List.getD v958 (Int.toNat (List.getD (List.getD x0.2.2.1 (Int.toNat (List.getD x0.1.2.1 (Int.toNat r868.1.2.2) ((0 : Int), ((0 : Int), ((0 : Int), ((0 : Int), ((0 : Int), (⟨#[]⟩ : ByteArray))))))).1) ([] : (List Int))) (Int.toNat v961) (0 : Int))) (0 : Int))) then (decide (((IntKind.i64.wrap (r868.1.2.1 + (1 : Int))) : Int) < (List.getD v959 (Int.toNat (List.getD (List.getD x0.2.2.1 (Int.toNat (List.getD x0.1.2.1 (Int.toNat r868.1.2.2) ((0 : Int), ((0 : Int), ((0 : Int), ((0 : Int), ((0 : Int), (⟨#[]⟩ : ByteArray))))))).1) ([] : (List Int))) (Int.toNat v961) (0 : Int))) (0 : Int)))) else false)) : Bool)).bind fun v984 => (if v984 then (if (0 ≤ (List.getD (List.getD x0.2.2.1 (Int.toNat (List.getD x0.1.2.1 (Int.toNat r868.1.2.2) ((0 : Int), ((0 : Int), ((0 : Int), ((0 : Int), ((0 : Int), (⟨#[]⟩ : ByteArray))))))).1) ([] : (List Int))) (Int.toNat v961) (0 : Int)) ∧ (List.getD (List.getD x0.2.2.1 (Int.toNat (List.getD x0.1.2.1 (Int.toNat r868.1.2.2) ((0 : Int), ((0 : Int), ((0 : Int), ((0 : Int), ((0 : Int), (⟨#[]⟩ : ByteArray))))))).1) ([] : (List Int))) (Int.toNat v961) (0 : Int)) < (List.length v958 : Int)) then (if (0 ≤ (List.getD (List.getD x0.2.2.1 (Int.toNat (List.getD x0.1.2.1 (Int.toNat r868.1.2.2) ((0 : Int), ((0 : Int), ((0 : Int), ((0 : Int), ((0 : Int), (⟨#[]⟩ : ByteArray))))))).1) ([] : (List Int))) (Int.toNat v961) (0 : Int)) ∧ (List.getD (List.getD x0.2.2.1 (Int.toNat (List.getD x0.1.2.1 (Int.toNat r868.1.2.2) ((0 : Int), ((0 : Int), ((0 : Int), ((0 : Int), ((0 : Int), (⟨#[]⟩ : ByteArray))))))).1) ([] : (List Int))) (Int.toNat v961) (0 : Int)) < (List.length v959 : Int)) then ((some ((List.set v958 (Int.toNat (List.getD (List.getD x0.2.2.1 (Int.toNat (List.getD x0.1.2.1 (Int.toNat r868.1.2.2) ((0 : Int), ((0 : Int), ((0 : Int), ((0 : Int), ((0 : Int), (⟨#[]⟩ : ByteArray))))))).1) ([] : (List Int))) (Int.toNat v961) (0 : Int))) (IntKind.i64.wrap ((IntKind.i64.wrap (r868.1.1 + r983)) + (List.getD x0.1.2.1 (Int.toNat (List.getD (List.getD x0.2.2.1 (Int.toNat (List.getD x0.1.2.1 (Int.toNat r868.1.2.2) ((0 : Int), ((0 : Int), ((0 : Int), ((0 : Int), ((0 : Int), (⟨#[]⟩ : ByteArray))))))).1) ([] : (List Int))) (Int.toNat v961) (0 : Int))) ((0 : Int), ((0 : Int), ((0 : Int), ((0 : Int), ((0 : Int), (⟨#[]⟩ : ByteArray))))))).2.2.2.1))) : (List Int))).bind fun v985 => ((f224 k v960 ((IntKind.i64.wrap ((IntKind.i64.wrap (r868.1.1 + r983)) + (List.getD x0.1.2.1 (Int.toNat (List.getD (List.getD x0.2.2.1 (Int.toNat (List.getD x0.1.2.1 (Int.toNat r868.1.2.2) ((0 : Int), ((0 : Int), ((0 : Int), ((0 : Int), ((0 : Int), (⟨#[]⟩ : ByteArray))))))).1) ([] : (List Int))) (Int.toNat v961) (0 : Int))) ((0 : Int), ((0 : Int), ((0 : Int), ((0 : Int), ((0 : Int), (⟨#[]⟩ : ByteArray))))))).2.2.2.1)), ((IntKind.i64.wrap (r868.1.2.1 + (1 : Int))), (List.getD (List.getD x0.2.2.1 (Int.toNat (List.getD x0.1.2.1 (Int.toNat r868.1.2.2) ((0 : Int), ((0 : Int), ((0 : Int), ((0 : Int), ((0 : Int), (⟨#[]⟩ : ByteArray))))))).1) ([] : (List Int))) (Int.toNat v961) (0 : Int))))).bind fun r986 => (f185.j982 k v961 ((f185.l869 k x0 r868 v866 q577) m869) (v985, (List.set v959 (Int.toNat (List.getD (List.getD x0.2.2.1 (Int.toNat (List.getD x0.1.2.1 (Int.toNat r868.1.2.2) ((0 : Int), ((0 : Int), ((0 : Int), ((0 : Int), ((0 : Int), (⟨#[]⟩ : ByteArray))))))).1) ([] : (List Int))) (Int.toNat v961) (0 : Int))) (IntKind.i64.wrap (r868.1.2.1 + (1 : Int)))), r986)))) else none) else none) else (f185.j982 k v961 ((f185.l869 k x0 r868 v866 q577) m869) (v958, v959, v960)))) else none) else none) else none) else none) else none)))) else none) else none) else (q577 (v958, v959, (List.set v866 (Int.toNat r868.1.2.2) true), v960))
def f185.l577 (k : Nat) (x0 : (((List (Int × (Int × Int))) × ((List (Int × (Int × (Int × (Int × (Int × ByteArray)))))) × (List (Int × Int)))) × ((List (List Int)) × ((List (List Int)) × (Option (List ((Int × Int) × Bool))))))) : Nat → ((List Int) × (List Int) × (List Bool) × ((List (Int × (Int × Int))) × Unit)) → Option ((List Int) × (List Int))
  | 0, _ => none
  | m577 + 1, (v864, v865, v866, v867) => if (decide (((List.length v867.1 : Int) : Int) > (0 : Int))) then ((f225 k v867).bind fun r868 => (if (0 ≤ r868.1.2.2 ∧ r868.1.2.2 < (List.length v866 : Int)) then (if (List.getD v866 (Int.toNat r868.1.2.2) false) then ((f185.l577 k x0) m577 (v864, v865, v866, r868.2)) else (if (0 ≤ r868.1.2.2 ∧ r868.1.2.2 < (List.length v866 : Int)) then (if (0 ≤ r868.1.2.2 ∧ r868.1.2.2 < (List.length x0.1.2.1 : Int)) then (if (0 ≤ (List.getD x0.1.2.1 (Int.toNat r868.1.2.2) ((0 : Int), ((0 : Int), ((0 : Int), ((0 : Int), ((0 : Int), (⟨#[]⟩ : ByteArray))))))).1 ∧ (List.getD x0.1.2.1 (Int.toNat r868.1.2.2) ((0 : Int), ((0 : Int), ((0 : Int), ((0 : Int), ((0 : Int), (⟨#[]⟩ : ByteArray))))))).1 < (List.length x0.2.2.1 : Int)) then (f185.l869 k x0 r868 v866 ((f185.l577 k x0) m577) k (v864, v865, r868.2, (0 : Int))) else none) else none) else none)) else none)) else (some (v864, v865))
def f185.l90 (k : Nat) (x0 : (((List (Int × (Int × Int))) × ((List (Int × (Int × (Int × (Int × (Int × ByteArray)))))) × (List (Int × Int)))) × ((List (List Int)) × ((List (List Int)) × (Option (List ((Int × Int) × Bool))))))) (x1 : Int) : Nat → ((List Int) × (List Int) × ((List (Int × (Int × Int))) × Unit) × Int) → Option ((List Int) × (List Int))
  | 0, _ => none
  | m90 + 1, (v131, v132, v133, v134) => if (decide ((v134 : Int) < (List.length x0.1.2.1 : Int))) then (if (0 ≤ v134 ∧ v134 < (List.length x0.1.2.1 : Int)) then (if (((List.getD x0.1.2.1 (Int.toNat v134) ((0 : Int), ((0 : Int), ((0 : Int), ((0 : Int), ((0 : Int), (⟨#[]⟩ : ByteArray))))))).2.1 : Int) == x1) then (if (0 ≤ v134 ∧ v134 < (List.length v131 : Int)) then (if (0 ≤ v134 ∧ v134 < (List.length v132 : Int)) then ((f224 k v133 ((List.getD x0.1.2.1 (Int.toNat v134) ((0 : Int), ((0 : Int), ((0 : Int), ((0 : Int), ((0 : Int), (⟨#[]⟩ : ByteArray))))))).2.2.2.1, ((1 : Int), v134))).bind fun r144 => (f185.j143 k v134 ((f185.l90 k x0 x1) m90) ((List.set v131 (Int.toNat v134) (List.getD x0.1.2.1 (Int.toNat v134) ((0 : Int), ((0 : Int), ((0 : Int), ((0 : Int), ((0 : Int), (⟨#[]⟩ : ByteArray))))))).2.2.2.1), (List.set v132 (Int.toNat v134) (1 : Int)), r144))) else none) else none) else (f185.j143 k v134 ((f185.l90 k x0 x1) m90) (v131, v132, v133))) else none) else (f185.l577 k x0 k (v131, v132, (List.replicate (Int.toNat (List.length x0.1.2.1 : Int)) false), v133))
def f185.l16 (k : Nat) (x0 : (((List (Int × (Int × Int))) × ((List (Int × (Int × (Int × (Int × (Int × ByteArray)))))) × (List (Int × Int)))) × ((List (List Int)) × ((List (List Int)) × (Option (List ((Int × Int) × Bool))))))) (x1 : Int) : Nat → ((List Int) × Int) → Option ((List Int) × (List Int))
  | 0, _ => none
  | m16 + 1, (v27, v28) => if (decide ((v28 : Int) < (List.length (List.replicate (Int.toNat (List.length x0.1.2.1 : Int)) (0 : Int)) : Int))) then (if (0 ≤ v28 ∧ v28 < (List.length v27 : Int)) then ((f185.l16 k x0 x1) m16 ((List.set v27 (Int.toNat v28) (-1 : Int)), (IntKind.i64.wrap (v28 + (1 : Int))))) else none) else (f185.l90 k x0 x1 k (v27, (List.replicate (Int.toNat (List.length x0.1.2.1 : Int)) (0 : Int)), (([] : (List (Int × (Int × Int)))), ()), (0 : Int)))
def f185 (k : Nat) (x0 : (((List (Int × (Int × Int))) × ((List (Int × (Int × (Int × (Int × (Int × ByteArray)))))) × (List (Int × Int)))) × ((List (List Int)) × ((List (List Int)) × (Option (List ((Int × Int) × Bool))))))) (x1 : Int) : Option ((List Int) × (List Int)) := if (0 ≤ (List.length x0.1.2.1 : Int) ∧ Int.toNat (List.length x0.1.2.1 : Int) * 8 ≤ 140737488355328) then (if (0 ≤ (List.length x0.1.2.1 : Int) ∧ Int.toNat (List.length x0.1.2.1 : Int) * 8 ≤ 140737488355328) then (if (0 ≤ (List.length x0.1.2.1 : Int) ∧ Int.toNat (List.length x0.1.2.1 : Int) * 1 ≤ 140737488355328) then (f185.l16 k x0 x1 k ((List.replicate (Int.toNat (List.length x0.1.2.1 : Int)) (0 : Int)), (0 : Int))) else none) else none) else none
theorem c185 (k : Nat) (x0 : tN) (x1 : Int) (r : ((List Int) × (List Int))) (hF : f185 k x0 x1 = some r) : PCall Try.prog 185 [⟨sh31, some x0⟩, ⟨(.int .i64), x1⟩] [⟨(.sl true 2 (.int .i64)), r.1⟩, ⟨(.sl true 2 (.int .i64)), r.2⟩] := by
  refine pcall_intro Try.func185 rfl rfl (Nat.le_of_ble_eq_true rfl) ?_
  intro w0 Zi a w h
  rw [f185] at hF
  refine wp_reg_seq tok (orc := o0) (l := [0, 1]) nw h (by kernel_rfl) an fun a w h => ?_
  refine wp_reg_seq tok (orc := o0) (l := [0, 1, 6]) nw h (by kernel_rfl) an fun a w h => ?_
  obtain ⟨hc1005, hF⟩ := of_if hF
  obtain ⟨hc1006, hF⟩ := of_if hF
  obtain ⟨hc1007, hF⟩ := of_if hF
  refine wp_regy_seq tok (orc := o0) (l := [0, 1, 7, 8, 9]) ([], [(6, [27]), (7, [29])], [], [(2, [6]), (3, [28]), (4, [6]), (5, [30])]) 8 nw h (by kernel_rfl) (by kernel_rfl) (ac hc1005 (ac hc1006 (ac hc1007 an))) fun a w h => ?_
  refine wp_seq ?_
  refine wp_reg_seq tok (orc := o0) (l := [0, 1, 7, 8, 9, 33, 34]) nw h (by kernel_rfl) an fun a w h => ?_
  refine wp_block ?_
  refine wp_loop_fuel (f185.l16 k x0 x1) (fun ((v27, v28) : ((List Int) × Int)) => [(0, .val sh31 (some x0)), (1, .val (.int .i64) x1), (7, .val (.sl true 2 (.int .i64)) v27), (8, .val (.sl true 2 (.int .i64)) (List.replicate (tZ (List.length x0.1.2.1 : Int)) iO)), (9, .val (.sl true 4 .bool) (List.replicate (tZ (List.length x0.1.2.1 : Int)) false)), (33, .val (.int .i64) (List.length (List.replicate (tZ (List.length x0.1.2.1 : Int)) iO) : Int)), (34, .val (.int .i64) v28)]) (fun v h => by obtain ⟨v27, v28⟩ := v; rw [f185.l16] at h; cases h) ?_ hF (h.arrive (l := [0, 1, 7, 8, 9, 33, 34]) nw (by kernel_rfl))
  intro m16 v a w hF h
  obtain ⟨v27, v28⟩ := v
  rw [f185.l16] at hF
  refine wp_reg_seq tok (orc := o0) (l := [0, 1, 7, 8, 9, 33, 34, 35]) nw h (by kernel_rfl) an fun a w h => ?_
  refine wp_seq <| wp_if h (b := (decide ((v28 : Int) < (List.length (List.replicate (tZ (List.length x0.1.2.1 : Int)) iO) : Int)))) (by kernel_rfl) (fun hb => ?_) (fun hb => ?_)
  · replace hF := of_t hb hF
    refine wp_skip ?_
    refine wp_seq <| wp_block ?_
    refine wp_reg_seq tok (orc := o0) (l := [0, 1, 7, 8, 9, 10, 33, 34]) nw h (by kernel_rfl) an fun a w h => ?_
    obtain ⟨hc30, hF⟩ := of_if hF
    refine wp_reg tok (orc := o0) (l := [0, 1, 7, 8, 9, 33, 34]) nw h (by kernel_rfl) (ac hc30 an) fun a w h => ?_
    refine wp_reg tok (orc := o0) (l := [0, 1, 7, 8, 9, 33, 34]) nw h (by kernel_rfl) an fun a w h => ?_
    exact ⟨((List.set v27 (tZ v28) (-1 : Int)), (w64 (v28 + (1 : Int)))), hF, h.arrive (l := [0, 1, 7, 8, 9, 33, 34]) nw (by kernel_rfl)⟩
  · replace hF := of_f hb hF
    refine wp_exit ?_
    refine wp_reg_seq tok (orc := o0) (l := [0, 1, 7, 8, 9, 11]) nw h (by kernel_rfl) an fun a w h => ?_
    refine wp_seq ?_
    refine wp_reg_seq tok (orc := o0) (l := [0, 1, 7, 8, 9, 11, 47, 48, 49]) nw h (by kernel_rfl) an fun a w h => ?_
    refine wp_block ?_
    refine wp_loop_fuel (f185.l90 k x0 x1) (fun ((v131, v132, v133, v134) : ((List Int) × (List Int) × ((List (Int × (Int × Int))) × Unit) × Int)) => [(0, .val sh31 (some x0)), (1, .val (.int .i64) x1), (7, .val (.sl true 2 (.int .i64)) v131), (8, .val (.sl true 2 (.int .i64)) v132), (9, .val (.sl true 4 .bool) (List.replicate (tZ (List.length x0.1.2.1 : Int)) false)), (11, .val sh33 (some v133)), (47, .val sh28 x0.1.2.1), (48, .val (.int .i64) (List.length x0.1.2.1 : Int)), (49, .val (.int .i64) v134)]) (fun v h => by obtain ⟨v131, v132, v133, v134⟩ := v; rw [f185.l90] at h; cases h) ?_ hF (h.arrive (l := [0, 1, 7, 8, 9, 11, 47, 48, 49]) nw (by kernel_rfl))
    intro m90 v a w hF h
    obtain ⟨v131, v132, v133, v134⟩ := v
    rw [f185.l90] at hF
    refine wp_reg_seq tok (orc := o0) (l := [0, 1, 7, 8, 9, 11, 47, 48, 49, 50]) nw h (by kernel_rfl) an fun a w h => ?_
    refine wp_seq <| wp_if h (b := (decide ((v134 : Int) < (List.length x0.1.2.1 : Int)))) (by kernel_rfl) (fun hb => ?_) (fun hb => ?_)
    · replace hF := of_t hb hF
      refine wp_skip ?_
      refine wp_mid (fun a w => ∃ v : ((List Int) × (List Int) × ((List (Int × (Int × Int))) × Unit)), f185.j143 k v134 ((f185.l90 k x0 x1) m90) v = some r ∧ Rel w0 (fun _ => False) Zi Try.f185.ntmps ((fun ((v140, v141, v142) : ((List Int) × (List Int) × ((List (Int × (Int × Int))) × Unit))) => ([(0, .val sh31 (some x0)), (1, .val (.int .i64) x1), (7, .val (.sl true 2 (.int .i64)) v140), (8, .val (.sl true 2 (.int .i64)) v141), (9, .val (.sl true 4 .bool) (List.replicate (tZ (List.length x0.1.2.1 : Int)) false)), (11, .val sh33 (some v142)), (47, .val sh28 x0.1.2.1), (48, .val (.int .i64) (List.length x0.1.2.1 : Int)), (49, .val (.int .i64) v134)] : SS)) v) a w) ?_ ?_
      ·
        refine wp_block ?_
        obtain ⟨hc148, hF⟩ := of_if hF
        refine wp_reg_seq tok (orc := o0) (l := [0, 1, 7, 8, 9, 11, 12, 13, 47, 48, 49]) nw h (by kernel_rfl) (ac hc148 an) fun a w h => ?_
        refine wp_reg_seq tok (orc := o0) (l := [0, 1, 7, 8, 9, 11, 12, 13, 47, 48, 49, 57]) nw h (by kernel_rfl) an fun a w h => ?_
        refine wp_if h (b := (((gD x0.1.2.1 (tZ v134) zR).2.1 : Int) == x1)) (by kernel_rfl) (fun hb => ?_) (fun hb => ?_)
        · replace hF := of_t hb hF
          obtain ⟨hc146, hF⟩ := of_if hF
          obtain ⟨hc147, hF⟩ := of_if hF
          refine wp_reg_seq tok (orc := o0) (l := [0, 1, 7, 8, 9, 11, 12, 13, 47, 48, 49]) nw h (by kernel_rfl) (ac hc146 (ac hc147 an)) fun a w h => ?_
          obtain ⟨r144, hr145, hF⟩ := of_bind hF
          refine wp_reg tok (orc := orcL [(71, [⟨.pt false 4294967295 (.pt true 294 (.st (.pair (.sl true 297 (.st (.pair (.int .i64) (.pair (.int .i64) (.int .i64))))) .unit))), some (some r144)⟩])]) (l := [0, 1, 7, 8, 9, 11, 47, 48, 49]) nw h (by kernel_rfl) (ac (c224 k v133 ((gD x0.1.2.1 (tZ v134) zR).2.2.2.1, ((1 : Int), v134)) r144 hr145) an) fun a w h => ?_
          exact ⟨((List.set v131 (tZ v134) (gD x0.1.2.1 (tZ v134) zR).2.2.2.1), (List.set v132 (tZ v134) (1 : Int)), r144), hF, h.arrive (l := [0, 1, 7, 8, 9, 11, 47, 48, 49]) nw (by kernel_rfl)⟩
        · replace hF := of_f hb hF
          refine wp_skip ?_
          exact ⟨(v131, v132, v133), hF, h.arrive (l := [0, 1, 7, 8, 9, 11, 47, 48, 49]) nw (by kernel_rfl)⟩
      · rintro a w ⟨v, hF, h⟩
        obtain ⟨v140, v141, v142⟩ := v
        rw [f185.j143] at hF
        refine wp_reg tok (orc := o0) (l := [0, 1, 7, 8, 9, 11, 47, 48, 49]) nw h (by kernel_rfl) an fun a w h => ?_
        exact ⟨(v140, v141, v142, (w64 (v134 + (1 : Int)))), hF, h.arrive (l := [0, 1, 7, 8, 9, 11, 47, 48, 49]) nw (by kernel_rfl)⟩
    · replace hF := of_f hb hF
      refine wp_exit ?_
      refine wp_seq <| wp_block ?_
      refine wp_loop_fuel (f185.l577 k x0) (fun ((v864, v865, v866, v867) : ((List Int) × (List Int) × (List Bool) × ((List (Int × (Int × Int))) × Unit))) => [(0, .val sh31 (some x0)), (7, .val (.sl true 2 (.int .i64)) v864), (8, .val (.sl true 2 (.int .i64)) v865), (9, .val (.sl true 4 .bool) v866), (11, .val sh33 (some v867))]) (fun v h => by obtain ⟨v864, v865, v866, v867⟩ := v; rw [f185.l577] at h; cases h) ?_ hF (h.arrive (l := [0, 7, 8, 9, 11]) nw (by kernel_rfl))
      intro m577 v a w hF h
      obtain ⟨v864, v865, v866, v867⟩ := v
      rw [f185.l577] at hF
      refine wp_seq ?_
      refine wp_reg_seq tok (orc := o0) (l := [0, 7, 8, 9, 11, 78]) nw h (by kernel_rfl) an fun a w h => ?_
      refine wp_if h (b := (decide (((List.length v867.1 : Int) : Int) > iO))) (by kernel_rfl) (fun hb => ?_) (fun hb => ?_)
      · replace hF := of_t hb hF
        refine wp_skip ?_
        refine wp_block ?_
        obtain ⟨r868, hr1004, hF⟩ := of_bind hF
        refine wp_reg_seq tok (orc := orcL [(80, [⟨.pt false 4294967295 (.pt true 294 (.st (.pair (.sl true 297 (.st (.pair (.int .i64) (.pair (.int .i64) (.int .i64))))) .unit))), some (some r868.2)⟩, ⟨sh32, r868.1⟩])]) (l := [0, 7, 8, 9, 11, 14]) nw h (by kernel_rfl) (ac (c225 k v867 r868 hr1004) an) fun a w h => ?_
        refine wp_seq ?_
        obtain ⟨hc1003, hF⟩ := of_if hF
        refine wp_reg_seq tok (orc := o0) (l := [0, 7, 8, 9, 11, 14, 85]) nw h (by kernel_rfl) (ac hc1003 an) fun a w h => ?_
        refine wp_if h (b := (gD v866 (tZ r868.1.2.2) false)) (by kernel_rfl) (fun hb => ?_) (fun hb => ?_)
        · replace hF := of_t hb hF
          refine wp_exit ?_
          exact ⟨(v864, v865, v866, r868.2), hF, h.arrive (l := [0, 7, 8, 9, 11]) nw (by kernel_rfl)⟩
        · replace hF := of_f hb hF
          refine wp_skip ?_
          obtain ⟨hc1002, hF⟩ := of_if hF
          refine wp_reg_seq tok (orc := o0) (l := [0, 7, 8, 9, 11, 14]) nw h (by kernel_rfl) (ac hc1002 an) fun a w h => ?_
          obtain ⟨hc1000, hF⟩ := of_if hF
          obtain ⟨hc1001, hF⟩ := of_if hF
          refine wp_regy_seq tok (orc := o0) (l := [0, 7, 8, 9, 11, 14, 105, 106, 107]) ([], [], [], []) 18 nw h (by kernel_rfl) (by kernel_rfl) (ac hc1000 (ac hc1001 an)) fun a w h => ?_
          refine wp_block ?_
          refine wp_loop_fuel (f185.l869 k x0 r868 v866 ((f185.l577 k x0) m577)) (fun ((v958, v959, v960, v961) : ((List Int) × (List Int) × ((List (Int × (Int × Int))) × Unit) × Int)) => [(0, .val sh31 (some x0)), (7, .val (.sl true 2 (.int .i64)) v958), (8, .val (.sl true 2 (.int .i64)) v959), (9, .val (.sl true 4 .bool) (List.set v866 (tZ r868.1.2.2) true)), (11, .val sh33 (some v960)), (14, .val sh34 (some r868.1)), (105, .val (.sl false 2 (.int .i64)) (gD x0.2.2.1 (tZ (gD x0.1.2.1 (tZ r868.1.2.2) zR).1) lO)), (106, .val (.int .i64) (List.length (gD x0.2.2.1 (tZ (gD x0.1.2.1 (tZ r868.1.2.2) zR).1) lO) : Int)), (107, .val (.int .i64) v961)]) (fun v h => by obtain ⟨v958, v959, v960, v961⟩ := v; rw [f185.l869] at h; cases h) ?_ hF (h.arrive (l := [0, 7, 8, 9, 11, 14, 105, 106, 107]) nw (by kernel_rfl))
          intro m869 v a w hF h
          obtain ⟨v958, v959, v960, v961⟩ := v
          rw [f185.l869] at hF
          refine wp_reg_seq tok (orc := o0) (l := [0, 7, 8, 9, 11, 14, 105, 106, 107, 108]) nw h (by kernel_rfl) an fun a w h => ?_
          refine wp_seq <| wp_if h (b := (decide ((v961 : Int) < (List.length (gD x0.2.2.1 (tZ (gD x0.1.2.1 (tZ r868.1.2.2) zR).1) lO) : Int)))) (by kernel_rfl) (fun hb => ?_) (fun hb => ?_)
          · replace hF := of_t hb hF
            refine wp_skip ?_
            refine wp_mid (fun a w => ∃ v : ((List Int) × (List Int) × ((List (Int × (Int × Int))) × Unit)), f185.j982 k v961 ((f185.l869 k x0 r868 v866 ((f185.l577 k x0) m577)) m869) v = some r ∧ Rel w0 (fun _ => False) Zi Try.f185.ntmps ((fun ((v979, v980, v981) : ((List Int) × (List Int) × ((List (Int × (Int × Int))) × Unit))) => ([(0, .val sh31 (some x0)), (7, .val (.sl true 2 (.int .i64)) v979), (8, .val (.sl true 2 (.int .i64)) v980), (9, .val (.sl true 4 .bool) (List.set v866 (tZ r868.1.2.2) true)), (11, .val sh33 (some v981)), (14, .val sh34 (some r868.1)), (105, .val (.sl false 2 (.int .i64)) (gD x0.2.2.1 (tZ (gD x0.1.2.1 (tZ r868.1.2.2) zR).1) lO)), (106, .val (.int .i64) (List.length (gD x0.2.2.1 (tZ (gD x0.1.2.1 (tZ r868.1.2.2) zR).1) lO) : Int)), (107, .val (.int .i64) v961)] : SS)) v) a w) ?_ ?_
            ·
              refine wp_block ?_
              obtain ⟨hc999, hF⟩ := of_if hF
              refine wp_reg_seq tok (orc := o0) (l := [0, 7, 8, 9, 11, 14, 16, 105, 106, 107]) nw h (by kernel_rfl) (ac hc999 an) fun a w h => ?_
              refine wp_seq ?_
              obtain ⟨hc998, hF⟩ := of_if hF
              refine wp_reg_seq tok (orc := o0) (l := [0, 7, 8, 9, 11, 14, 16, 105, 106, 107, 114]) nw h (by kernel_rfl) (ac hc998 an) fun a w h => ?_
              refine wp_if h (b := (gD (List.set v866 (tZ r868.1.2.2) true) (tZ (gD (gD x0.2.2.1 (tZ (gD x0.1.2.1 (tZ r868.1.2.2) zR).1) lO) (tZ v961) iO)) false)) (by kernel_rfl) (fun hb => ?_) (fun hb => ?_)
              · replace hF := of_t hb hF
                refine wp_exit ?_
                exact ⟨(v958, v959, v960), hF, h.arrive (l := [0, 7, 8, 9, 11, 14, 105, 106, 107]) nw (by kernel_rfl)⟩
              · replace hF := of_f hb hF
                refine wp_skip ?_
                obtain ⟨r983, hr997, hF⟩ := of_bind hF
                refine wp_reg_seq tok (orc := orcL [(119, [⟨(.int .i64), r983⟩])]) (l := [0, 7, 8, 9, 11, 14, 16, 17, 105, 106, 107]) nw h (by kernel_rfl) (ac (c170 k x0 (gD (gD x0.2.2.1 (tZ (gD x0.1.2.1 (tZ r868.1.2.2) zR).1) lO) (tZ v961) iO) r868.1.2.2 r983 hr997) an) fun a w h => ?_
                refine wp_seq ?_
                refine wp_reg_seq tok (orc := o0) (l := [0, 7, 8, 9, 11, 14, 16, 17, 105, 106, 107, 121]) nw h (by kernel_rfl) an fun a w h => ?_
                refine wp_if h (b := (decide ((r983 : Int) < iO))) (by kernel_rfl) (fun hb => ?_) (fun hb => ?_)
                · replace hF := of_t hb hF
                  refine wp_exit ?_
                  exact ⟨(v958, v959, v960), hF, h.arrive (l := [0, 7, 8, 9, 11, 14, 105, 106, 107]) nw (by kernel_rfl)⟩
                · replace hF := of_f hb hF
                  refine wp_skip ?_
                  obtain ⟨hc996, hF⟩ := of_if hF
                  refine wp_regy_seq tok (orc := o0) (l := [0, 7, 8, 9, 11, 14, 16, 18, 19, 105, 106, 107]) ([], [], [], []) 19 nw h (by kernel_rfl) (by kernel_rfl) (ac hc996 an) fun a w h => ?_
                  obtain ⟨hc992, hF⟩ := of_if hF
                  obtain ⟨hc993, hF⟩ := of_if hF
                  obtain ⟨hc994, hF⟩ := of_if hF
                  obtain ⟨hc995, hF⟩ := of_if hF
                  refine wp_reg_seq tok (orc := o0) (l := [0, 7, 8, 9, 11, 14, 16, 18, 19, 105, 106, 107, 167]) nw h (by kernel_rfl) (ac hc992 (ac hc993 (ac hc994 (ac hc995 an)))) fun a w h => ?_
                  obtain ⟨v984, hv991, hF⟩ := of_bind hF
                  replace h := h.cast (S' := [(0, .val sh31 (some x0)), (7, .val (.sl true 2 (.int .i64)) v958), (8, .val (.sl true 2 (.int .i64)) v959), (9, .val (.sl true 4 .bool) (List.set v866 (tZ r868.1.2.2) true)), (11, .val sh33 (some v960)), (14, .val sh34 (some r868.1)), (16, .val (.int .i64) (gD (gD x0.2.2.1 (tZ (gD x0.1.2.1 (tZ r868.1.2.2) zR).1) lO) (tZ v961) iO)), (18, .val (.int .i64) (w64 ((w64 (r868.1.1 + r983)) + (gD x0.1.2.1 (tZ (gD (gD x0.2.2.1 (tZ (gD x0.1.2.1 (tZ r868.1.2.2) zR).1) lO) (tZ v961) iO)) zR).2.2.2.1))), (19, .val (.int .i64) (w64 (r868.1.2.1 + (1 : Int)))), (105, .val (.sl false 2 (.int .i64)) (gD x0.2.2.1 (tZ (gD x0.1.2.1 (tZ r868.1.2.2) zR).1) lO)), (106, .val (.int .i64) (List.length (gD x0.2.2.1 (tZ (gD x0.1.2.1 (tZ r868.1.2.2) zR).1) lO) : Int)), (107, .val (.int .i64) v961), (167, .val .bool v984)]) (by cases hv991; kernel_rfl)
                  refine wp_if h (b := v984) (by kernel_rfl) (fun hb => ?_) (fun hb => ?_)
                  · replace hF := of_t hb hF
                    obtain ⟨hc989, hF⟩ := of_if hF
                    obtain ⟨hc990, hF⟩ := of_if hF
                    refine wp_reg_seq tok (orc := o0) (l := [0, 7, 8, 9, 11, 14, 16, 18, 19, 105, 106, 107]) nw h (by kernel_rfl) (ac hc989 (ac hc990 an)) fun a w h => ?_
                    obtain ⟨v985, hv988, hF⟩ := of_bind hF
                    replace h := h.cast (S' := [(0, .val sh31 (some x0)), (7, .val (.sl true 2 (.int .i64)) v985), (8, .val (.sl true 2 (.int .i64)) (List.set v959 (tZ (gD (gD x0.2.2.1 (tZ (gD x0.1.2.1 (tZ r868.1.2.2) zR).1) lO) (tZ v961) iO)) (w64 (r868.1.2.1 + (1 : Int))))), (9, .val (.sl true 4 .bool) (List.set v866 (tZ r868.1.2.2) true)), (11, .val sh33 (some v960)), (14, .val sh34 (some r868.1)), (16, .val (.int .i64) (gD (gD x0.2.2.1 (tZ (gD x0.1.2.1 (tZ r868.1.2.2) zR).1) lO) (tZ v961) iO)), (18, .val (.int .i64) (w64 ((w64 (r868.1.1 + r983)) + (gD x0.1.2.1 (tZ (gD (gD x0.2.2.1 (tZ (gD x0.1.2.1 (tZ r868.1.2.2) zR).1) lO) (tZ v961) iO)) zR).2.2.2.1))), (19, .val (.int .i64) (w64 (r868.1.2.1 + (1 : Int)))), (105, .val (.sl false 2 (.int .i64)) (gD x0.2.2.1 (tZ (gD x0.1.2.1 (tZ r868.1.2.2) zR).1) lO)), (106, .val (.int .i64) (List.length (gD x0.2.2.1 (tZ (gD x0.1.2.1 (tZ r868.1.2.2) zR).1) lO) : Int)), (107, .val (.int .i64) v961)]) (by cases hv988; kernel_rfl)
                    obtain ⟨r986, hr987, hF⟩ := of_bind hF
                    refine wp_reg tok (orc := orcL [(181, [⟨.pt false 4294967295 (.pt true 294 (.st (.pair (.sl true 297 (.st (.pair (.int .i64) (.pair (.int .i64) (.int .i64))))) .unit))), some (some r986)⟩])]) (l := [0, 7, 8, 9, 11, 14, 105, 106, 107]) nw h (by kernel_rfl) (ac (c224 k v960 ((w64 ((w64 (r868.1.1 + r983)) + (gD x0.1.2.1 (tZ (gD (gD x0.2.2.1 (tZ (gD x0.1.2.1 (tZ r868.1.2.2) zR).1) lO) (tZ v961) iO)) zR).2.2.2.1)), ((w64 (r868.1.2.1 + (1 : Int))), (gD (gD x0.2.2.1 (tZ (gD x0.1.2.1 (tZ r868.1.2.2) zR).1) lO) (tZ v961) iO))) r986 hr987) an) fun a w h => ?_
                    exact ⟨(v985, (List.set v959 (tZ (gD (gD x0.2.2.1 (tZ (gD x0.1.2.1 (tZ r868.1.2.2) zR).1) lO) (tZ v961) iO)) (w64 (r868.1.2.1 + (1 : Int)))), r986), hF, h.arrive (l := [0, 7, 8, 9, 11, 14, 105, 106, 107]) nw (by kernel_rfl)⟩
                  · replace hF := of_f hb hF
                    refine wp_skip ?_
                    exact ⟨(v958, v959, v960), hF, h.arrive (l := [0, 7, 8, 9, 11, 14, 105, 106, 107]) nw (by kernel_rfl)⟩
            · rintro a w ⟨v, hF, h⟩
              obtain ⟨v979, v980, v981⟩ := v
              rw [f185.j982] at hF
              refine wp_reg tok (orc := o0) (l := [0, 7, 8, 9, 11, 14, 105, 106, 107]) nw h (by kernel_rfl) an fun a w h => ?_
              exact ⟨(v979, v980, v981, (w64 (v961 + (1 : Int)))), hF, h.arrive (l := [0, 7, 8, 9, 11, 14, 105, 106, 107]) nw (by kernel_rfl)⟩
          · replace hF := of_f hb hF
            refine wp_exit ?_
            exact ⟨(v958, v959, (List.set v866 (tZ r868.1.2.2) true), v960), hF, h.arrive (l := [0, 7, 8, 9, 11]) nw (by kernel_rfl)⟩
      · replace hF := of_f hb hF
        refine wp_exit ?_
        refine wp_reg_seq tok (orc := o0) (l := [4, 5, 7, 8]) nw h (by kernel_rfl) an fun a w h => ?_
        cases hF
        exact wp_ret (ret_okR tok h rfl (by kernel_rfl)).1

def f187 (k : Nat) (x0 : Int) : Option Int := some (0 : Int)
theorem c187 (k : Nat) (x0 : Int) (r : Int) (hF : f187 k x0 = some r) : PCall Try.prog 187 [⟨(.int .i64), x0⟩] [⟨(.int .i64), r⟩] := by
  refine pcall_intro Try.func187 rfl rfl (Nat.le_of_ble_eq_true rfl) ?_
  intro w0 Zi a w h
  rw [f187] at hF
  refine wp_reg_seq tok (orc := o0) (l := []) nw h (by kernel_rfl) an fun a w h => ?_
  refine wp_reg_seq tok (orc := o0) (l := [2]) nw h (by kernel_rfl) an fun a w h => ?_
  cases hF
  exact wp_ret (ret_okR tok h rfl (by kernel_rfl)).1

def f186.j130 (k : Nat) (v120 : Int) (q68 : (Int × Int × Int × Int) → Option Int) : (Int × Int × Int) → Option Int
  | (v127, v128, v129) => q68 (v127, v128, v129, (IntKind.i64.wrap (v120 + (1 : Int))))
def f186.l68 (k : Nat) (x0 : (List Int)) (x2_0 : (List Int)) (x3_0 : (List Int)) : Nat → (Int × Int × Int × Int) → Option Int
  | 0, _ => none
  | m68 + 1, (v117, v118, v119, v120) => if (decide ((v120 : Int) < (List.length x0 : Int))) then (if (0 ≤ v120 ∧ v120 < (List.length x0 : Int)) then ((f187 k (List.getD x0 (Int.toNat v120) (0 : Int))).bind fun r131 => (if (((decide ((r131 : Int) < (0 : Int))) = false) → (0 ≤ (List.getD x0 (Int.toNat v120) (0 : Int)) ∧ (List.getD x0 (Int.toNat v120) (0 : Int)) < (List.length x2_0 : Int))) then (if (bif (decide ((r131 : Int) < (0 : Int))) then true else (decide (((List.getD x2_0 (Int.toNat (List.getD x0 (Int.toNat v120) (0 : Int))) (0 : Int)) : Int) < (0 : Int)))) then (f186.j130 k v120 ((f186.l68 k x0 x2_0 x3_0) m68) (v117, v118, v119)) else (if (0 ≤ (List.getD x0 (Int.toNat v120) (0 : Int)) ∧ (List.getD x0 (Int.toNat v120) (0 : Int)) < (List.length x2_0 : Int)) then (if (0 ≤ (List.getD x0 (Int.toNat v120) (0 : Int)) ∧ (List.getD x0 (Int.toNat v120) (0 : Int)) < (List.length x3_0 : Int)) then (if (bif (bif (decide ((v117 : Int) < (0 : Int))) then true else (decide (((IntKind.i64.wrap ((List.getD x2_0 (Int.toNat (List.getD x0 (Int.toNat v120) (0 : Int))) (0 : Int)) + r131)) : Int) < v118))) then true else (bif (((IntKind.i64.wrap ((List.getD x2_0 (Int.toNat (List.getD x0 (Int.toNat v120) (0 : Int))) (0 : Int)) + r131)) : Int) == v118) then (decide (((List.getD x3_0 (Int.toNat (List.getD x0 (Int.toNat v120) (0 : Int))) (0 : Int)) : Int) < v119)) else false)) then (f186.j130 k v120 ((f186.l68 k x0 x2_0 x3_0) m68) ((List.getD x0 (Int.toNat v120) (0 : Int)), (IntKind.i64.wrap ((List.getD x2_0 (Int.toNat (List.getD x0 (Int.toNat v120) (0 : Int))) (0 : Int)) + r131)), (List.getD x3_0 (Int.toNat (List.getD x0 (Int.toNat v120) (0 : Int))) (0 : Int)))) else (f186.j130 k v120 ((f186.l68 k x0 x2_0 x3_0) m68) (v117, v118, v119))) else none) else none)) else none)) else none) else (some v117)
def f186 (k : Nat) (x0 : (List Int)) (x2_0 : (List Int)) (x3_0 : (List Int)) : Option Int := f186.l68 k x0 x2_0 x3_0 k ((-1 : Int), (0 : Int), (0 : Int), (0 : Int))
theorem c186 (k : Nat) (x0 : (List Int)) (x2_0 : (List Int)) (x3_0 : (List Int)) (r : Int) (hF : f186 k x0 x2_0 x3_0 = some r) : PCall Try.prog 186 [⟨(.sl false 2 (.int .i64)), x0⟩, ⟨(.fn 187 .unit), ()⟩, ⟨sh35, (some x2_0)⟩, ⟨sh35, (some x3_0)⟩] [⟨(.int .i64), r⟩] := by
  refine pcall_intro Try.func186 rfl rfl (Nat.le_of_ble_eq_true rfl) ?_
  intro w0 Zi a w h
  rw [f186] at hF
  refine wp_reg_seq tok (orc := o0) (l := [0, 1, 2, 3]) nw h (by kernel_rfl) an fun a w h => ?_
  refine wp_reg_seq tok (orc := o0) (l := [0, 1, 2, 3, 7]) nw h (by kernel_rfl) an fun a w h => ?_
  refine wp_reg_seq tok (orc := o0) (l := [0, 1, 2, 3, 7, 8, 9]) nw h (by kernel_rfl) an fun a w h => ?_
  refine wp_seq ?_
  refine wp_reg_seq tok (orc := o0) (l := [1, 2, 3, 7, 8, 9, 15, 16, 17]) nw h (by kernel_rfl) an fun a w h => ?_
  refine wp_block ?_
  refine wp_loop_fuel (f186.l68 k x0 x2_0 x3_0) (fun ((v117, v118, v119, v120) : (Int × Int × Int × Int)) => [(1, .val (.fn 187 .unit) ()), (2, .val sh35 (some x2_0)), (3, .val sh35 (some x3_0)), (7, .val (.int .i64) v117), (8, .val (.int .i64) v118), (9, .val (.int .i64) v119), (15, .val (.sl false 2 (.int .i64)) x0), (16, .val (.int .i64) (List.length x0 : Int)), (17, .val (.int .i64) v120)]) (fun v h => by obtain ⟨v117, v118, v119, v120⟩ := v; rw [f186.l68] at h; cases h) ?_ hF (h.arrive (l := [1, 2, 3, 7, 8, 9, 15, 16, 17]) nw (by kernel_rfl))
  intro m68 v a w hF h
  obtain ⟨v117, v118, v119, v120⟩ := v
  rw [f186.l68] at hF
  refine wp_reg_seq tok (orc := o0) (l := [1, 2, 3, 7, 8, 9, 15, 16, 17, 18]) nw h (by kernel_rfl) an fun a w h => ?_
  refine wp_seq <| wp_if h (b := (decide ((v120 : Int) < (List.length x0 : Int)))) (by kernel_rfl) (fun hb => ?_) (fun hb => ?_)
  · replace hF := of_t hb hF
    refine wp_skip ?_
    refine wp_mid (fun a w => ∃ v : (Int × Int × Int), f186.j130 k v120 ((f186.l68 k x0 x2_0 x3_0) m68) v = some r ∧ Rel w0 (fun _ => False) Zi Try.f186.ntmps ((fun ((v127, v128, v129) : (Int × Int × Int)) => ([(1, .val (.fn 187 .unit) ()), (2, .val sh35 (some x2_0)), (3, .val sh35 (some x3_0)), (7, .val (.int .i64) v127), (8, .val (.int .i64) v128), (9, .val (.int .i64) v129), (15, .val (.sl false 2 (.int .i64)) x0), (16, .val (.int .i64) (List.length x0 : Int)), (17, .val (.int .i64) v120)] : SS)) v) a w) ?_ ?_
    ·
      refine wp_block ?_
      obtain ⟨hc136, hF⟩ := of_if hF
      refine wp_reg_seq tok (orc := o0) (l := [1, 2, 3, 7, 8, 9, 11, 15, 16, 17]) nw h (by kernel_rfl) (ac hc136 an) fun a w h => ?_
      obtain ⟨r131, hr135, hF⟩ := of_bind hF
      refine wp_reg_seq tok (orc := orcL [(23, [⟨(.int .i64), r131⟩])]) (l := [1, 2, 3, 7, 8, 9, 11, 12, 15, 16, 17]) nw h (by kernel_rfl) (ac (c187 k (gD x0 (tZ v120) iO) r131 hr135) an) fun a w h => ?_
      refine wp_seq ?_
      obtain ⟨hc134, hF⟩ := of_if hF
      refine wp_reg_seq tok (orc := o0) (l := [1, 2, 3, 7, 8, 9, 11, 12, 15, 16, 17, 32]) nw h (by kernel_rfl) (ac hc134 an) fun a w h => ?_
      refine wp_if h (b := (bif (decide ((r131 : Int) < iO)) then true else (decide (((gD x2_0 (tZ (gD x0 (tZ v120) iO)) iO) : Int) < iO)))) (by kernel_rfl) (fun hb => ?_) (fun hb => ?_)
      · replace hF := of_t hb hF
        refine wp_exit ?_
        exact ⟨(v117, v118, v119), hF, h.arrive (l := [1, 2, 3, 7, 8, 9, 15, 16, 17]) nw (by kernel_rfl)⟩
      · replace hF := of_f hb hF
        refine wp_skip ?_
        obtain ⟨hc132, hF⟩ := of_if hF
        obtain ⟨hc133, hF⟩ := of_if hF
        refine wp_regy_seq tok (orc := o0) (l := [1, 2, 3, 7, 8, 9, 11, 13, 14, 15, 16, 17]) ([], [], [], []) 12 nw h (by kernel_rfl) (by kernel_rfl) (ac hc132 (ac hc133 an)) fun a w h => ?_
        refine wp_reg_seq tok (orc := o0) (l := [1, 2, 3, 7, 8, 9, 11, 13, 14, 15, 16, 17, 59]) nw h (by kernel_rfl) an fun a w h => ?_
        refine wp_if h (b := (bif (bif (decide ((v117 : Int) < iO)) then true else (decide (((w64 ((gD x2_0 (tZ (gD x0 (tZ v120) iO)) iO) + r131)) : Int) < v118))) then true else (bif (((w64 ((gD x2_0 (tZ (gD x0 (tZ v120) iO)) iO) + r131)) : Int) == v118) then (decide (((gD x3_0 (tZ (gD x0 (tZ v120) iO)) iO) : Int) < v119)) else false))) (by kernel_rfl) (fun hb => ?_) (fun hb => ?_)
        · replace hF := of_t hb hF
          refine wp_reg tok (orc := o0) (l := [1, 2, 3, 7, 8, 9, 15, 16, 17]) nw h (by kernel_rfl) an fun a w h => ?_
          exact ⟨((gD x0 (tZ v120) iO), (w64 ((gD x2_0 (tZ (gD x0 (tZ v120) iO)) iO) + r131)), (gD x3_0 (tZ (gD x0 (tZ v120) iO)) iO)), hF, h.arrive (l := [1, 2, 3, 7, 8, 9, 15, 16, 17]) nw (by kernel_rfl)⟩
        · replace hF := of_f hb hF
          refine wp_skip ?_
          exact ⟨(v117, v118, v119), hF, h.arrive (l := [1, 2, 3, 7, 8, 9, 15, 16, 17]) nw (by kernel_rfl)⟩
    · rintro a w ⟨v, hF, h⟩
      obtain ⟨v127, v128, v129⟩ := v
      rw [f186.j130] at hF
      refine wp_reg tok (orc := o0) (l := [1, 2, 3, 7, 8, 9, 15, 16, 17]) nw h (by kernel_rfl) an fun a w h => ?_
      exact ⟨(v127, v128, v129, (w64 (v120 + (1 : Int)))), hF, h.arrive (l := [1, 2, 3, 7, 8, 9, 15, 16, 17]) nw (by kernel_rfl)⟩
  · replace hF := of_f hb hF
    refine wp_exit ?_
    refine wp_reg_seq tok (orc := o0) (l := [6]) nw h (by kernel_rfl) an fun a w h => ?_
    cases hF
    exact wp_ret (ret_okR tok h rfl (by kernel_rfl)).1

def f188 (k : Nat) (x0 : Int) (x1_0 : (((List (Int × (Int × Int))) × ((List (Int × (Int × (Int × (Int × (Int × ByteArray)))))) × (List (Int × Int)))) × ((List (List Int)) × ((List (List Int)) × (Option (List ((Int × Int) × Bool))))))) (x2_0 : Int) : Option Int := (f170 k x1_0 x2_0 x0).bind fun r1 => (some r1)
theorem c188 (k : Nat) (x0 : Int) (x1_0 : tN) (x2_0 : Int) (r : Int) (hF : f188 k x0 x1_0 x2_0 = some r) : PCall Try.prog 188 [⟨(.int .i64), x0⟩, ⟨sh36, (some (some x1_0))⟩, ⟨(.pt false 0 (.int .i64)), (some x2_0)⟩] [⟨(.int .i64), r⟩] := by
  refine pcall_intro Try.func188 rfl rfl (Nat.le_of_ble_eq_true rfl) ?_
  intro w0 Zi a w h
  rw [f188] at hF
  refine wp_reg_seq tok (orc := o0) (l := [0, 1, 2]) nw h (by kernel_rfl) an fun a w h => ?_
  obtain ⟨r1, hr2, hF⟩ := of_bind hF
  refine wp_reg_seq tok (orc := orcL [(8, [⟨(.int .i64), r1⟩])]) (l := [4]) nw h (by kernel_rfl) (ac (c170 k x1_0 x2_0 x0 r1 hr2) an) fun a w h => ?_
  cases hF
  exact wp_ret (ret_okR tok h rfl (by kernel_rfl)).1

def f186b.j130 (k : Nat) (v120 : Int) (q68 : (Int × Int × Int × Int) → Option Int) : (Int × Int × Int) → Option Int
  | (v127, v128, v129) => q68 (v127, v128, v129, (IntKind.i64.wrap (v120 + (1 : Int))))
def f186b.l68 (k : Nat) (x0 : (List Int)) (x1_0 : (((List (Int × (Int × Int))) × ((List (Int × (Int × (Int × (Int × (Int × ByteArray)))))) × (List (Int × Int)))) × ((List (List Int)) × ((List (List Int)) × (Option (List ((Int × Int) × Bool))))))) (x1_1 : Int) (x2_0 : (List Int)) (x3_0 : (List Int)) : Nat → (Int × Int × Int × Int) → Option Int
  | 0, _ => none
  | m68 + 1, (v117, v118, v119, v120) => if (decide ((v120 : Int) < (List.length x0 : Int))) then (if (0 ≤ v120 ∧ v120 < (List.length x0 : Int)) then ((f188 k (List.getD x0 (Int.toNat v120) (0 : Int)) x1_0 x1_1).bind fun r131 => (if (((decide ((r131 : Int) < (0 : Int))) = false) → (0 ≤ (List.getD x0 (Int.toNat v120) (0 : Int)) ∧ (List.getD x0 (Int.toNat v120) (0 : Int)) < (List.length x2_0 : Int))) then (if (bif (decide ((r131 : Int) < (0 : Int))) then true else (decide (((List.getD x2_0 (Int.toNat (List.getD x0 (Int.toNat v120) (0 : Int))) (0 : Int)) : Int) < (0 : Int)))) then (f186b.j130 k v120 ((f186b.l68 k x0 x1_0 x1_1 x2_0 x3_0) m68) (v117, v118, v119)) else (if (0 ≤ (List.getD x0 (Int.toNat v120) (0 : Int)) ∧ (List.getD x0 (Int.toNat v120) (0 : Int)) < (List.length x2_0 : Int)) then (if (0 ≤ (List.getD x0 (Int.toNat v120) (0 : Int)) ∧ (List.getD x0 (Int.toNat v120) (0 : Int)) < (List.length x3_0 : Int)) then (if (bif (bif (decide ((v117 : Int) < (0 : Int))) then true else (decide (((IntKind.i64.wrap ((List.getD x2_0 (Int.toNat (List.getD x0 (Int.toNat v120) (0 : Int))) (0 : Int)) + r131)) : Int) < v118))) then true else (bif (((IntKind.i64.wrap ((List.getD x2_0 (Int.toNat (List.getD x0 (Int.toNat v120) (0 : Int))) (0 : Int)) + r131)) : Int) == v118) then (decide (((List.getD x3_0 (Int.toNat (List.getD x0 (Int.toNat v120) (0 : Int))) (0 : Int)) : Int) < v119)) else false)) then (f186b.j130 k v120 ((f186b.l68 k x0 x1_0 x1_1 x2_0 x3_0) m68) ((List.getD x0 (Int.toNat v120) (0 : Int)), (IntKind.i64.wrap ((List.getD x2_0 (Int.toNat (List.getD x0 (Int.toNat v120) (0 : Int))) (0 : Int)) + r131)), (List.getD x3_0 (Int.toNat (List.getD x0 (Int.toNat v120) (0 : Int))) (0 : Int)))) else (f186b.j130 k v120 ((f186b.l68 k x0 x1_0 x1_1 x2_0 x3_0) m68) (v117, v118, v119))) else none) else none)) else none)) else none) else (some v117)
def f186b (k : Nat) (x0 : (List Int)) (x1_0 : (((List (Int × (Int × Int))) × ((List (Int × (Int × (Int × (Int × (Int × ByteArray)))))) × (List (Int × Int)))) × ((List (List Int)) × ((List (List Int)) × (Option (List ((Int × Int) × Bool))))))) (x1_1 : Int) (x2_0 : (List Int)) (x3_0 : (List Int)) : Option Int := f186b.l68 k x0 x1_0 x1_1 x2_0 x3_0 k ((-1 : Int), (0 : Int), (0 : Int), (0 : Int))
theorem c186b (k : Nat) (x0 : (List Int)) (x1_0 : tN) (x1_1 : Int) (x2_0 : (List Int)) (x3_0 : (List Int)) (r : Int) (hF : f186b k x0 x1_0 x1_1 x2_0 x3_0 = some r) : PCall Try.prog 186 [⟨(.sl false 2 (.int .i64)), x0⟩, ⟨sh37, ((some (some x1_0)), ((some x1_1), ()))⟩, ⟨sh35, (some x2_0)⟩, ⟨sh35, (some x3_0)⟩] [⟨(.int .i64), r⟩] := by
  refine pcall_intro Try.func186 rfl rfl (Nat.le_of_ble_eq_true rfl) ?_
  intro w0 Zi a w h
  rw [f186b] at hF
  refine wp_reg_seq tok (orc := o0) (l := [0, 1, 2, 3]) nw h (by kernel_rfl) an fun a w h => ?_
  refine wp_reg_seq tok (orc := o0) (l := [0, 1, 2, 3, 7]) nw h (by kernel_rfl) an fun a w h => ?_
  refine wp_reg_seq tok (orc := o0) (l := [0, 1, 2, 3, 7, 8, 9]) nw h (by kernel_rfl) an fun a w h => ?_
  refine wp_seq ?_
  refine wp_reg_seq tok (orc := o0) (l := [1, 2, 3, 7, 8, 9, 15, 16, 17]) nw h (by kernel_rfl) an fun a w h => ?_
  refine wp_block ?_
  refine wp_loop_fuel (f186b.l68 k x0 x1_0 x1_1 x2_0 x3_0) (fun ((v117, v118, v119, v120) : (Int × Int × Int × Int)) => [(1, .val sh37 ((some (some x1_0)), ((some x1_1), ()))), (2, .val sh35 (some x2_0)), (3, .val sh35 (some x3_0)), (7, .val (.int .i64) v117), (8, .val (.int .i64) v118), (9, .val (.int .i64) v119), (15, .val (.sl false 2 (.int .i64)) x0), (16, .val (.int .i64) (List.length x0 : Int)), (17, .val (.int .i64) v120)]) (fun v h => by obtain ⟨v117, v118, v119, v120⟩ := v; rw [f186b.l68] at h; cases h) ?_ hF (h.arrive (l := [1, 2, 3, 7, 8, 9, 15, 16, 17]) nw (by kernel_rfl))
  intro m68 v a w hF h
  obtain ⟨v117, v118, v119, v120⟩ := v
  rw [f186b.l68] at hF
  refine wp_reg_seq tok (orc := o0) (l := [1, 2, 3, 7, 8, 9, 15, 16, 17, 18]) nw h (by kernel_rfl) an fun a w h => ?_
  refine wp_seq <| wp_if h (b := (decide ((v120 : Int) < (List.length x0 : Int)))) (by kernel_rfl) (fun hb => ?_) (fun hb => ?_)
  · replace hF := of_t hb hF
    refine wp_skip ?_
    refine wp_mid (fun a w => ∃ v : (Int × Int × Int), f186b.j130 k v120 ((f186b.l68 k x0 x1_0 x1_1 x2_0 x3_0) m68) v = some r ∧ Rel w0 (fun _ => False) Zi Try.f186.ntmps ((fun ((v127, v128, v129) : (Int × Int × Int)) => ([(1, .val sh37 ((some (some x1_0)), ((some x1_1), ()))), (2, .val sh35 (some x2_0)), (3, .val sh35 (some x3_0)), (7, .val (.int .i64) v127), (8, .val (.int .i64) v128), (9, .val (.int .i64) v129), (15, .val (.sl false 2 (.int .i64)) x0), (16, .val (.int .i64) (List.length x0 : Int)), (17, .val (.int .i64) v120)] : SS)) v) a w) ?_ ?_
    ·
      refine wp_block ?_
      obtain ⟨hc136, hF⟩ := of_if hF
      refine wp_reg_seq tok (orc := o0) (l := [1, 2, 3, 7, 8, 9, 11, 15, 16, 17]) nw h (by kernel_rfl) (ac hc136 an) fun a w h => ?_
      obtain ⟨r131, hr135, hF⟩ := of_bind hF
      refine wp_reg_seq tok (orc := orcL [(23, [⟨(.int .i64), r131⟩])]) (l := [1, 2, 3, 7, 8, 9, 11, 12, 15, 16, 17]) nw h (by kernel_rfl) (ac (c188 k (gD x0 (tZ v120) iO) x1_0 x1_1 r131 hr135) an) fun a w h => ?_
      refine wp_seq ?_
      obtain ⟨hc134, hF⟩ := of_if hF
      refine wp_reg_seq tok (orc := o0) (l := [1, 2, 3, 7, 8, 9, 11, 12, 15, 16, 17, 32]) nw h (by kernel_rfl) (ac hc134 an) fun a w h => ?_
      refine wp_if h (b := (bif (decide ((r131 : Int) < iO)) then true else (decide (((gD x2_0 (tZ (gD x0 (tZ v120) iO)) iO) : Int) < iO)))) (by kernel_rfl) (fun hb => ?_) (fun hb => ?_)
      · replace hF := of_t hb hF
        refine wp_exit ?_
        exact ⟨(v117, v118, v119), hF, h.arrive (l := [1, 2, 3, 7, 8, 9, 15, 16, 17]) nw (by kernel_rfl)⟩
      · replace hF := of_f hb hF
        refine wp_skip ?_
        obtain ⟨hc132, hF⟩ := of_if hF
        obtain ⟨hc133, hF⟩ := of_if hF
        refine wp_regy_seq tok (orc := o0) (l := [1, 2, 3, 7, 8, 9, 11, 13, 14, 15, 16, 17]) ([], [], [], []) 12 nw h (by kernel_rfl) (by kernel_rfl) (ac hc132 (ac hc133 an)) fun a w h => ?_
        refine wp_reg_seq tok (orc := o0) (l := [1, 2, 3, 7, 8, 9, 11, 13, 14, 15, 16, 17, 59]) nw h (by kernel_rfl) an fun a w h => ?_
        refine wp_if h (b := (bif (bif (decide ((v117 : Int) < iO)) then true else (decide (((w64 ((gD x2_0 (tZ (gD x0 (tZ v120) iO)) iO) + r131)) : Int) < v118))) then true else (bif (((w64 ((gD x2_0 (tZ (gD x0 (tZ v120) iO)) iO) + r131)) : Int) == v118) then (decide (((gD x3_0 (tZ (gD x0 (tZ v120) iO)) iO) : Int) < v119)) else false))) (by kernel_rfl) (fun hb => ?_) (fun hb => ?_)
        · replace hF := of_t hb hF
          refine wp_reg tok (orc := o0) (l := [1, 2, 3, 7, 8, 9, 15, 16, 17]) nw h (by kernel_rfl) an fun a w h => ?_
          exact ⟨((gD x0 (tZ v120) iO), (w64 ((gD x2_0 (tZ (gD x0 (tZ v120) iO)) iO) + r131)), (gD x3_0 (tZ (gD x0 (tZ v120) iO)) iO)), hF, h.arrive (l := [1, 2, 3, 7, 8, 9, 15, 16, 17]) nw (by kernel_rfl)⟩
        · replace hF := of_f hb hF
          refine wp_skip ?_
          exact ⟨(v117, v118, v119), hF, h.arrive (l := [1, 2, 3, 7, 8, 9, 15, 16, 17]) nw (by kernel_rfl)⟩
    · rintro a w ⟨v, hF, h⟩
      obtain ⟨v127, v128, v129⟩ := v
      rw [f186b.j130] at hF
      refine wp_reg tok (orc := o0) (l := [1, 2, 3, 7, 8, 9, 15, 16, 17]) nw h (by kernel_rfl) an fun a w h => ?_
      exact ⟨(v127, v128, v129, (w64 (v120 + (1 : Int)))), hF, h.arrive (l := [1, 2, 3, 7, 8, 9, 15, 16, 17]) nw (by kernel_rfl)⟩
  · replace hF := of_f hb hF
    refine wp_exit ?_
    refine wp_reg_seq tok (orc := o0) (l := [6]) nw h (by kernel_rfl) an fun a w h => ?_
    cases hF
    exact wp_ret (ret_okR tok h rfl (by kernel_rfl)).1

def f113.l3 (k : Nat) (x0 : (((List (Int × (Int × Int))) × ((List (Int × (Int × (Int × (Int × (Int × ByteArray)))))) × (List (Int × Int)))) × ((List (List Int)) × ((List (List Int)) × (Option (List ((Int × Int) × Bool))))))) (x2 : Int) (r1 : ((List Int) × (List Int))) (r2 : Int) : Nat → (Int × (List Int) × Int) → Option (Bool × ((List Int) × (Int × Int)))
  | 0, _ => none
  | m3 + 1, (v27, v28, v29) => if ((List.length v28 + List.length [v27]) * 8 ≤ 140737488355328) then (if (0 ≤ v27 ∧ v27 < (List.length x0.1.2.1 : Int)) then (if (0 ≤ v27 ∧ v27 < (List.length x0.1.2.1 : Int)) then (if (((List.getD x0.1.2.1 (Int.toNat v27) ((0 : Int), ((0 : Int), ((0 : Int), ((0 : Int), ((0 : Int), (⟨#[]⟩ : ByteArray))))))).2.1 : Int) == x2) then (some (true, ((List.append v28 [v27]), ((List.getD r1.1 (Int.toNat r2) (0 : Int)), (IntKind.i64.wrap (v29 + (List.getD x0.1.2.1 (Int.toNat v27) ((0 : Int), ((0 : Int), ((0 : Int), ((0 : Int), ((0 : Int), (⟨#[]⟩ : ByteArray))))))).2.2.2.2.1)))))) else (if (0 ≤ v27 ∧ v27 < (List.length x0.1.2.1 : Int)) then (if (0 ≤ (List.getD x0.1.2.1 (Int.toNat v27) ((0 : Int), ((0 : Int), ((0 : Int), ((0 : Int), ((0 : Int), (⟨#[]⟩ : ByteArray))))))).2.1 ∧ (List.getD x0.1.2.1 (Int.toNat v27) ((0 : Int), ((0 : Int), ((0 : Int), ((0 : Int), ((0 : Int), (⟨#[]⟩ : ByteArray))))))).2.1 < (List.length x0.2.1 : Int)) then ((f186b k (List.getD x0.2.1 (Int.toNat (List.getD x0.1.2.1 (Int.toNat v27) ((0 : Int), ((0 : Int), ((0 : Int), ((0 : Int), ((0 : Int), (⟨#[]⟩ : ByteArray))))))).2.1) ([] : (List Int))) x0 v27 r1.1 r1.2).bind fun r30 => ((f113.l3 k x0 x2 r1 r2) m3 (r30, (List.append v28 [v27]), (IntKind.i64.wrap (v29 + (List.getD x0.1.2.1 (Int.toNat v27) ((0 : Int), ((0 : Int), ((0 : Int), ((0 : Int), ((0 : Int), (⟨#[]⟩ : ByteArray))))))).2.2.2.2.1))))) else none) else none)) else none) else none) else none
def f113 (k : Nat) (x0 : (((List (Int × (Int × Int))) × ((List (Int × (Int × (Int × (Int × (Int × ByteArray)))))) × (List (Int × Int)))) × ((List (List Int)) × ((List (List Int)) × (Option (List ((Int × Int) × Bool))))))) (x1 : Int) (x2 : Int) : Option (Bool × ((List Int) × (Int × Int))) := if ((x1 : Int) == x2) then (some (true, (([] : (List Int)), ((0 : Int), (0 : Int))))) else ((f185 k x0 x2).bind fun r1 => (if (0 ≤ x1 ∧ x1 < (List.length x0.2.1 : Int)) then ((f186 k (List.getD x0.2.1 (Int.toNat x1) ([] : (List Int))) r1.1 r1.2).bind fun r2 => (if (decide ((r2 : Int) < (0 : Int))) then (some (false, (([] : (List Int)), ((0 : Int), (0 : Int))))) else (if (0 ≤ r2 ∧ r2 < (List.length r1.1 : Int)) then (f113.l3 k x0 x2 r1 r2 k (r2, ([] : (List Int)), (0 : Int))) else none))) else none))
theorem c113 (k : Nat) (x0 : tN) (x1 : Int) (x2 : Int) (r : (Bool × ((List Int) × (Int × Int)))) (hF : f113 k x0 x1 x2 = some r) : PCall Try.prog 113 [⟨sh31, some x0⟩, ⟨(.int .i64), x1⟩, ⟨(.int .i64), x2⟩] [⟨sh26, r⟩] := by
  refine pcall_intro Try.func113 rfl rfl (Nat.le_of_ble_eq_true rfl) ?_
  intro w0 Zi a w h
  rw [f113] at hF
  refine wp_reg_seq tok (orc := o0) (l := [1, 2, 3, 6]) nw h (by kernel_rfl) an fun a w h => ?_
  refine wp_seq ?_
  refine wp_reg_seq tok (orc := o0) (l := [1, 2, 3, 6, 15]) nw h (by kernel_rfl) an fun a w h => ?_
  refine wp_if h (b := ((x1 : Int) == x2)) (by kernel_rfl) (fun hb => ?_) (fun hb => ?_)
  · replace hF := of_t hb hF
    refine wp_reg_seq tok (orc := o0) (l := [6]) nw h (by kernel_rfl) an fun a w h => ?_
    cases hF
    exact wp_ret (ret_okR tok h rfl (by kernel_rfl)).1
  · replace hF := of_f hb hF
    refine wp_skip ?_
    obtain ⟨r1, hr40, hF⟩ := of_bind hF
    refine wp_reg_seq tok (orc := orcL [(20, [⟨(.sl true 2 (.int .i64)), r1.1⟩, ⟨(.sl true 2 (.int .i64)), r1.2⟩]), (17, [⟨.pt false 4294967292 .unit, some ()⟩])]) (l := [1, 2, 3, 6, 7, 8]) nw h (by kernel_rfl) (ac (c185 k x0 x2 r1 hr40) an) fun a w h => ?_
    refine wp_reg_seq tok (orc := o0) (l := [1, 2, 3, 6, 7, 8, 9]) nw h (by kernel_rfl) an fun a w h => ?_
    obtain ⟨hc38, hF⟩ := of_if hF
    obtain ⟨r2, hr39, hF⟩ := of_bind hF
    refine wp_reg_seq tok (orc := orcL [(32, [⟨(.int .i64), r2⟩])]) (l := [2, 3, 6, 7, 8, 9, 10]) nw h (by kernel_rfl) (ac hc38 (ac (c186 k (gD x0.2.1 (tZ x1) lO) r1.1 r1.2 r2 hr39) an)) fun a w h => ?_
    refine wp_seq ?_
    refine wp_reg_seq tok (orc := o0) (l := [2, 3, 6, 7, 8, 9, 10, 34]) nw h (by kernel_rfl) an fun a w h => ?_
    refine wp_if h (b := (decide ((r2 : Int) < iO))) (by kernel_rfl) (fun hb => ?_) (fun hb => ?_)
    · replace hF := of_t hb hF
      refine wp_reg_seq tok (orc := o0) (l := [6]) nw h (by kernel_rfl) an fun a w h => ?_
      cases hF
      exact wp_ret (ret_okR tok h rfl (by kernel_rfl)).1
    · replace hF := of_f hb hF
      refine wp_skip ?_
      obtain ⟨hc37, hF⟩ := of_if hF
      refine wp_reg_seq tok (orc := o0) (l := [2, 3, 6, 7, 8, 9, 10, 11]) nw h (by kernel_rfl) (ac hc37 an) fun a w h => ?_
      refine wp_block ?_
      refine wp_loop_fuel (f113.l3 k x0 x2 r1 r2) (fun ((v27, v28, v29) : (Int × (List Int) × Int)) => [(2, .val (.int .i64) x2), (3, .val sh38 (some (some x0))), (6, .val sh25 (some (false, (lO, (iO, iO))))), (7, .val sh39 (some r1.1)), (8, .val sh39 (some r1.2)), (9, .clo 186 [(7, []), (8, [])]), (10, .val (.int .i64) v27), (11, .val sh25 (some (true, (v28, ((gD r1.1 (tZ r2) iO), v29)))))]) (fun v h => by obtain ⟨v27, v28, v29⟩ := v; rw [f113.l3] at h; cases h) ?_ hF (h.arrive (l := [2, 3, 6, 7, 8, 9, 10, 11]) nw (by kernel_rfl))
      intro m3 v a w hF h
      obtain ⟨v27, v28, v29⟩ := v
      rw [f113.l3] at hF
      refine wp_block ?_
      obtain ⟨hc36, hF⟩ := of_if hF
      refine wp_reg_seq tok (orc := orcL [(45, [⟨.pt false 4294967293 .unit, some ()⟩])]) (l := [2, 3, 6, 7, 8, 9, 10, 11]) nw h (by kernel_rfl) (ac (PrefL.mk (l := [[.der, .snd, .fst], [.der, .snd, .fst]]) (p := [.der, .snd, .fst]) rfl) (ac hc36 (ac (show ([.der, .snd, .fst] : Path) = [.der, .snd, .fst] from rfl) an))) fun a w h => ?_
      obtain ⟨hc35, hF⟩ := of_if hF
      refine wp_regy_seq tok (orc := o0) (l := [2, 3, 6, 7, 8, 9, 10, 11]) ([], [], [], []) 13 nw h (by kernel_rfl) (by kernel_rfl) (ac hc35 an) fun a w h => ?_
      refine wp_seq ?_
      obtain ⟨hc34, hF⟩ := of_if hF
      refine wp_reg_seq tok (orc := o0) (l := [2, 3, 6, 7, 8, 9, 10, 11, 70]) nw h (by kernel_rfl) (ac hc34 an) fun a w h => ?_
      refine wp_if h (b := (((gD x0.1.2.1 (tZ v27) zR).2.1 : Int) == x2)) (by kernel_rfl) (fun hb => ?_) (fun hb => ?_)
      · replace hF := of_t hb hF
        refine wp_reg_seq tok (orc := o0) (l := [6]) nw h (by kernel_rfl) an fun a w h => ?_
        cases hF
        exact wp_ret (ret_okR tok h rfl (by kernel_rfl)).1
      · replace hF := of_f hb hF
        refine wp_skip ?_
        refine wp_reg_seq tok (orc := o0) (l := [2, 3, 6, 7, 8, 9, 10, 11, 12]) nw h (by kernel_rfl) an fun a w h => ?_
        obtain ⟨hc31, hF⟩ := of_if hF
        obtain ⟨hc32, hF⟩ := of_if hF
        obtain ⟨r30, hr33, hF⟩ := of_bind hF
        refine wp_regy tok (orc := orcL [(90, [⟨(.int .i64), r30⟩])]) (l := [2, 3, 6, 7, 8, 9, 10, 11]) ([], [], [], []) 19 nw h (by kernel_rfl) (by kernel_rfl) (ac hc31 (ac hc32 (ac (c186b k (gD x0.2.1 (tZ (gD x0.1.2.1 (tZ v27) zR).2.1) lO) x0 v27 r1.1 r1.2 r30 hr33) an))) fun a w h => ?_
        exact ⟨(r30, (List.append v28 [v27]), (w64 (v29 + (gD x0.1.2.1 (tZ v27) zR).2.2.2.2.1))), hF, h.arrive (l := [2, 3, 6, 7, 8, 9, 10, 11]) nw (by kernel_rfl)⟩

def f49.j11 (k : Nat) (r2 : (((List (Int × (Int × Int))) × ((List (Int × (Int × (Int × (Int × (Int × ByteArray)))))) × (List (Int × Int)))) × ((List (List Int)) × ((List (List Int)) × (Option (List ((Int × Int) × Bool))))))) (x4 : Int) : Int → Option (Bool × ((List Int) × (Int × Int)))
  | v10 => (f113 k r2 v10 x4).bind fun r12 => (some r12)
def f49.j7 (k : Nat) (r5 : ((List Int) × Bool)) (x0 : ((List (Int × (Int × Int))) × ((List (Int × (Int × (Int × (Int × (Int × ByteArray)))))) × (List (Int × Int))))) (r2 : (((List (Int × (Int × Int))) × ((List (Int × (Int × (Int × (Int × (Int × ByteArray)))))) × (List (Int × Int)))) × ((List (List Int)) × ((List (List Int)) × (Option (List ((Int × Int) × Bool))))))) (x4 : Int) (x2 : Int) : Int → Option (Bool × ((List Int) × (Int × Int)))
  | v6 => if (decide ((v6 : Int) > (0 : Int))) then (if (0 ≤ (IntKind.i64.wrap (v6 - (1 : Int))) ∧ (IntKind.i64.wrap (v6 - (1 : Int))) < (List.length r5.1 : Int)) then (if (0 ≤ (List.getD r5.1 (Int.toNat (IntKind.i64.wrap (v6 - (1 : Int)))) (0 : Int)) ∧ (List.getD r5.1 (Int.toNat (IntKind.i64.wrap (v6 - (1 : Int)))) (0 : Int)) < (List.length x0.2.1 : Int)) then (f49.j11 k r2 x4 (List.getD x0.2.1 (Int.toNat (List.getD r5.1 (Int.toNat (IntKind.i64.wrap (v6 - (1 : Int)))) (0 : Int))) ((0 : Int), ((0 : Int), ((0 : Int), ((0 : Int), ((0 : Int), (⟨#[]⟩ : ByteArray))))))).2.1) else none) else none) else (f49.j11 k r2 x4 x2)
def f49 (k : Nat) (x0 : ((List (Int × (Int × Int))) × ((List (Int × (Int × (Int × (Int × (Int × ByteArray)))))) × (List (Int × Int))))) (x1 : (List (Int × (Int × (ByteArray × (Int × Int)))))) (x2 : Int) (x3 : Int) (x4 : Int) : Option (Bool × ((List Int) × (Int × Int))) := (f79 k x0).bind fun r1 => (if (bif (!r1) then true else (decide ((x3 : Int) < (0 : Int)))) then (some (false, (([] : (List Int)), ((0 : Int), (0 : Int))))) else ((f80 k x0).bind fun r2 => ((f96 k r2 x2).bind fun r3 => ((if ((!r3) = false) then f96 k r2 x4 else some default).bind fun r4 => (if (bif (!r3) then true else (!r4)) then (some (false, (([] : (List Int)), ((0 : Int), (0 : Int))))) else ((f97 k r2 x2 x1).bind fun r5 => (if (!r5.2) then (some (false, (([] : (List Int)), ((0 : Int), (0 : Int))))) else (if (decide ((x3 : Int) > (List.length r5.1 : Int))) then (f49.j7 k r5 x0 r2 x4 x2 (List.length r5.1 : Int)) else (f49.j7 k r5 x0 r2 x4 x2 x3)))))))))
theorem c49 (k : Nat) (x0 : tG) (x1 : (List (Int × (Int × (ByteArray × (Int × Int)))))) (x2 : Int) (x3 : Int) (x4 : Int) (r : (Bool × ((List Int) × (Int × Int)))) (hF : f49 k x0 x1 x2 x3 x4 = some r) : PCall Try.prog 49 [⟨sh15, x0⟩, ⟨sh20, x1⟩, ⟨(.int .i64), x2⟩, ⟨(.int .i64), x3⟩, ⟨(.int .i64), x4⟩] [⟨sh26, r⟩] := by
  refine pcall_intro Try.func49 rfl rfl (Nat.le_of_ble_eq_true rfl) ?_
  intro w0 Zi a w h
  rw [f49] at hF
  refine wp_reg_seq tok (orc := o0) (l := [1, 2, 3, 4, 5, 10]) nw h (by kernel_rfl) an fun a w h => ?_
  refine wp_seq ?_
  obtain ⟨r1, hr20, hF⟩ := of_bind hF
  refine wp_reg_seq tok (orc := orcL [(15, [⟨.bool, r1⟩])]) (l := [1, 2, 3, 4, 5, 10, 20]) nw h (by kernel_rfl) (ac (c79 k x0 r1 hr20) an) fun a w h => ?_
  refine wp_if h (b := (bif (!r1) then true else (decide ((x3 : Int) < iO)))) (by kernel_rfl) (fun hb => ?_) (fun hb => ?_)
  · replace hF := of_t hb hF
    refine wp_reg_seq tok (orc := o0) (l := [10]) nw h (by kernel_rfl) an fun a w h => ?_
    cases hF
    exact wp_ret (ret_okR tok h rfl (by kernel_rfl)).1
  · replace hF := of_f hb hF
    refine wp_skip ?_
    obtain ⟨r2, hr19, hF⟩ := of_bind hF
    refine wp_reg_seq tok (orc := orcL [(23, [⟨sh30, some r2⟩])]) (l := [1, 2, 3, 4, 5, 10, 11]) nw h (by kernel_rfl) (ac (c80 k x0 r2 hr19) an) fun a w h => ?_
    refine wp_seq ?_
    obtain ⟨r3, hr17, hF⟩ := of_bind hF
    obtain ⟨r4, hr18, hF⟩ := of_bind hF
    refine wp_reg_seq tok (orc := orcL [(26, [⟨.bool, r3⟩]), (31, [⟨.bool, r4⟩])]) (l := [1, 2, 3, 4, 5, 10, 11, 33]) nw h (by kernel_rfl) (ac (c96 k r2 x2 r3 hr17) (ac (fun (hg : ((!r3) = false)) => c96 k r2 x4 r4 (of_g hg hr18)) an)) fun a w h => ?_
    refine wp_if h (b := (bif (!r3) then true else (!r4))) (by kernel_rfl) (fun hb => ?_) (fun hb => ?_)
    · replace hF := of_t hb hF
      refine wp_reg_seq tok (orc := o0) (l := [10]) nw h (by kernel_rfl) an fun a w h => ?_
      cases hF
      exact wp_ret (ret_okR tok h rfl (by kernel_rfl)).1
    · replace hF := of_f hb hF
      refine wp_skip ?_
      obtain ⟨r5, hr16, hF⟩ := of_bind hF
      refine wp_reg_seq tok (orc := orcL [(39, [⟨(.sl true 2 (.int .i64)), r5.1⟩, ⟨.bool, r5.2⟩]), (35, [⟨.pt false 4294967292 .unit, some ()⟩])]) (l := [2, 3, 4, 5, 10, 11, 12, 13]) nw h (by kernel_rfl) (ac (c97 k r2 x2 x1 r5 hr16) an) fun a w h => ?_
      refine wp_seq ?_
      refine wp_reg_seq tok (orc := o0) (l := [2, 3, 4, 5, 10, 11, 12, 43]) nw h (by kernel_rfl) an fun a w h => ?_
      refine wp_if h (b := (!r5.2)) (by kernel_rfl) (fun hb => ?_) (fun hb => ?_)
      · replace hF := of_t hb hF
        refine wp_reg_seq tok (orc := o0) (l := [10]) nw h (by kernel_rfl) an fun a w h => ?_
        cases hF
        exact wp_ret (ret_okR tok h rfl (by kernel_rfl)).1
      · replace hF := of_f hb hF
        refine wp_skip ?_
        refine wp_seq ?_
        refine wp_reg_seq tok (orc := o0) (l := [2, 3, 4, 5, 10, 11, 12, 48]) nw h (by kernel_rfl) an fun a w h => ?_
        refine wp_midT (fun a w => ∃ v : Int, f49.j7 k r5 x0 r2 x4 x2 v = some r ∧ Rel w0 (fun _ => False) Zi Try.f49.ntmps ((fun (v6 : Int) => ([(2, .val (.int .i64) x2), (3, .val (.int .i64) v6), (4, .val (.int .i64) x4), (5, .val sh14 (some x0)), (10, .val sh25 (some (false, (lO, (iO, iO))))), (11, .val sh30 (some r2)), (12, .val (.sl true 2 (.int .i64)) r5.1)] : SS)) v) a w) ?_ ?_
        ·
          refine wp_if h (b := (decide ((x3 : Int) > (List.length r5.1 : Int)))) (by kernel_rfl) (fun hb => ?_) (fun hb => ?_)
          · replace hF := of_t hb hF
            refine wp_reg tok (orc := o0) (l := [2, 3, 4, 5, 10, 11, 12]) nw h (by kernel_rfl) an fun a w h => ?_
            exact ⟨(List.length r5.1 : Int), hF, h.arrive (l := [2, 3, 4, 5, 10, 11, 12]) nw (by kernel_rfl)⟩
          · replace hF := of_f hb hF
            refine wp_skip ?_
            exact ⟨x3, hF, h.arrive (l := [2, 3, 4, 5, 10, 11, 12]) nw (by kernel_rfl)⟩
        · rintro a w ⟨v6, hF, h⟩
          rw [f49.j7] at hF
          refine wp_seq ?_
          refine wp_reg_seq tok (orc := o0) (l := [2, 3, 4, 5, 10, 11, 12, 52]) nw h (by kernel_rfl) an fun a w h => ?_
          refine wp_midT (fun a w => ∃ v : Int, f49.j11 k r2 x4 v = some r ∧ Rel w0 (fun _ => False) Zi Try.f49.ntmps ((fun (v10 : Int) => ([(2, .val (.int .i64) v10), (4, .val (.int .i64) x4), (10, .val sh25 (some (false, (lO, (iO, iO))))), (11, .val sh30 (some r2))] : SS)) v) a w) ?_ ?_
          ·
            refine wp_if h (b := (decide ((v6 : Int) > iO))) (by kernel_rfl) (fun hb => ?_) (fun hb => ?_)
            · replace hF := of_t hb hF
              obtain ⟨hc14, hF⟩ := of_if hF
              obtain ⟨hc15, hF⟩ := of_if hF
              refine wp_regy tok (orc := o0) (l := [2, 4, 10, 11]) ([], [], [], []) 11 nw h (by kernel_rfl) (by kernel_rfl) (ac hc14 (ac hc15 an)) fun a w h => ?_
              exact ⟨(gD x0.2.1 (tZ (gD r5.1 (tZ (w64 (v6 - (1 : Int)))) iO)) zR).2.1, hF, h.arrive (l := [2, 4, 10, 11]) nw (by kernel_rfl)⟩
            · replace hF := of_f hb hF
              refine wp_skip ?_
              exact ⟨x2, hF, h.arrive (l := [2, 4, 10, 11]) nw (by kernel_rfl)⟩
          · rintro a w ⟨v10, hF, h⟩
            rw [f49.j11] at hF
            obtain ⟨r12, hr13, hF⟩ := of_bind hF
            refine wp_reg_seq tok (orc := orcL [(66, [⟨sh26, r12⟩])]) (l := [10]) nw h (by kernel_rfl) (ac (c113 k r2 v10 x4 r12 hr13) an) fun a w h => ?_
            cases hF
            exact wp_ret (ret_okR tok h rfl (by kernel_rfl)).1

def f21.l18 (k : Nat) (x0 : (List Int)) (x1 : (List Int)) : Nat → Int → Option Bool
  | 0, _ => none
  | m18 + 1, v30 => if (decide ((v30 : Int) < (List.length x0 : Int))) then (if (0 ≤ v30 ∧ v30 < (List.length x0 : Int)) then (if (0 ≤ v30 ∧ v30 < (List.length x1 : Int)) then (if (((List.getD x0 (Int.toNat v30) (0 : Int)) : Int) != (List.getD x1 (Int.toNat v30) (0 : Int))) then (some false) else ((f21.l18 k x0 x1) m18 (IntKind.i64.wrap (v30 + (1 : Int))))) else none) else none) else (some true)
def f21 (k : Nat) (x0 : (List Int)) (x1 : (List Int)) : Option Bool := if (((List.length x0 : Int) : Int) != (List.length x1 : Int)) then (some false) else (f21.l18 k x0 x1 k (0 : Int))
theorem c21 (k : Nat) (x0 : (List Int)) (x1 : (List Int)) (r : Bool) (hF : f21 k x0 x1 = some r) : PCall Try.prog 21 [⟨(.sl false 2 (.int .i64)), x0⟩, ⟨(.sl false 2 (.int .i64)), x1⟩] [⟨.bool, r⟩] := by
  refine pcall_intro Try.func21 rfl rfl (Nat.le_of_ble_eq_true rfl) ?_
  intro w0 Zi a w h
  rw [f21] at hF
  refine wp_reg_seq tok (orc := o0) (l := [0, 1]) nw h (by kernel_rfl) an fun a w h => ?_
  refine wp_seq ?_
  refine wp_reg_seq tok (orc := o0) (l := [0, 1, 10]) nw h (by kernel_rfl) an fun a w h => ?_
  refine wp_if h (b := (((List.length x0 : Int) : Int) != (List.length x1 : Int))) (by kernel_rfl) (fun hb => ?_) (fun hb => ?_)
  · replace hF := of_t hb hF
    refine wp_reg_seq tok (orc := o0) (l := [4]) nw h (by kernel_rfl) an fun a w h => ?_
    cases hF
    exact wp_ret (ret_okR tok h rfl (by kernel_rfl)).1
  · replace hF := of_f hb hF
    refine wp_skip ?_
    refine wp_seq ?_
    refine wp_reg_seq tok (orc := o0) (l := [0, 1, 5]) nw h (by kernel_rfl) an fun a w h => ?_
    refine wp_block ?_
    refine wp_loop_fuel (f21.l18 k x0 x1) (fun (v30 : Int) => [(0, .val (.sl false 2 (.int .i64)) x0), (1, .val (.sl false 2 (.int .i64)) x1), (5, .val (.int .i64) v30)]) (fun v h => by rw [f21.l18] at h; cases h) ?_ hF (h.arrive (l := [0, 1, 5]) nw (by kernel_rfl))
    intro m18 v30 a w hF h
    rw [f21.l18] at hF
    refine wp_seq ?_
    refine wp_reg_seq tok (orc := o0) (l := [0, 1, 5, 14]) nw h (by kernel_rfl) an fun a w h => ?_
    refine wp_if h (b := (decide ((v30 : Int) < (List.length x0 : Int)))) (by kernel_rfl) (fun hb => ?_) (fun hb => ?_)
    · replace hF := of_t hb hF
      refine wp_skip ?_
      refine wp_seq <| wp_block ?_
      obtain ⟨hc33, hF⟩ := of_if hF
      obtain ⟨hc34, hF⟩ := of_if hF
      refine wp_regy_seq tok (orc := o0) (l := [0, 1, 5, 25]) ([], [], [], []) 9 nw h (by kernel_rfl) (by kernel_rfl) (ac hc33 (ac hc34 an)) fun a w h => ?_
      refine wp_if h (b := (((gD x0 (tZ v30) iO) : Int) != (gD x1 (tZ v30) iO))) (by kernel_rfl) (fun hb => ?_) (fun hb => ?_)
      · replace hF := of_t hb hF
        refine wp_reg_seq tok (orc := o0) (l := [4]) nw h (by kernel_rfl) an fun a w h => ?_
        cases hF
        exact wp_ret (ret_okR tok h rfl (by kernel_rfl)).1
      · replace hF := of_f hb hF
        refine wp_skip ?_
        refine wp_reg tok (orc := o0) (l := [0, 1, 5]) nw h (by kernel_rfl) an fun a w h => ?_
        exact ⟨(w64 (v30 + (1 : Int))), hF, h.arrive (l := [0, 1, 5]) nw (by kernel_rfl)⟩
    · replace hF := of_f hb hF
      refine wp_exit ?_
      refine wp_reg_seq tok (orc := o0) (l := [4]) nw h (by kernel_rfl) an fun a w h => ?_
      cases hF
      exact wp_ret (ret_okR tok h rfl (by kernel_rfl)).1

def f43 (k : Nat) (x0 : (Bool × ((List Int) × (Int × Int)))) (x1 : (Bool × ((List Int) × (Int × Int)))) : Option Bool := if (!((x0.1 : Bool) == x1.1)) then (some false) else ((f21 k x0.2.1 x1.2.1).bind fun r1 => (if (!r1) then (some false) else (if ((x0.2.2.1 : Int) != x1.2.2.1) then (some false) else (if ((x0.2.2.2 : Int) != x1.2.2.2) then (some false) else (some true)))))
theorem c43 (k : Nat) (x0 : (Bool × ((List Int) × (Int × Int)))) (x1 : (Bool × ((List Int) × (Int × Int)))) (r : Bool) (hF : f43 k x0 x1 = some r) : PCall Try.prog 43 [⟨sh40, x0⟩, ⟨sh40, x1⟩] [⟨.bool, r⟩] := by
  refine pcall_intro Try.func43 rfl rfl (Nat.le_of_ble_eq_true rfl) ?_
  intro w0 Zi a w h
  rw [f43] at hF
  refine wp_reg_seq tok (orc := o0) (l := [2, 3]) nw h (by kernel_rfl) an fun a w h => ?_
  refine wp_seq ?_
  refine wp_reg_seq tok (orc := o0) (l := [2, 3, 9]) nw h (by kernel_rfl) an fun a w h => ?_
  refine wp_if h (b := (!((x0.1 : Bool) == x1.1))) (by kernel_rfl) (fun hb => ?_) (fun hb => ?_)
  · replace hF := of_t hb hF
    refine wp_reg_seq tok (orc := o0) (l := [4]) nw h (by kernel_rfl) an fun a w h => ?_
    cases hF
    exact wp_ret (ret_okR tok h rfl (by kernel_rfl)).1
  · replace hF := of_f hb hF
    refine wp_skip ?_
    refine wp_seq ?_
    obtain ⟨r1, hr2, hF⟩ := of_bind hF
    refine wp_reg_seq tok (orc := orcL [(14, [⟨.bool, r1⟩])]) (l := [2, 3, 15]) nw h (by kernel_rfl) (ac (c21 k x0.2.1 x1.2.1 r1 hr2) an) fun a w h => ?_
    refine wp_if h (b := (!r1)) (by kernel_rfl) (fun hb => ?_) (fun hb => ?_)
    · replace hF := of_t hb hF
      refine wp_reg_seq tok (orc := o0) (l := [4]) nw h (by kernel_rfl) an fun a w h => ?_
      cases hF
      exact wp_ret (ret_okR tok h rfl (by kernel_rfl)).1
    · replace hF := of_f hb hF
      refine wp_skip ?_
      refine wp_seq ?_
      refine wp_reg_seq tok (orc := o0) (l := [2, 3, 20]) nw h (by kernel_rfl) an fun a w h => ?_
      refine wp_if h (b := ((x0.2.2.1 : Int) != x1.2.2.1)) (by kernel_rfl) (fun hb => ?_) (fun hb => ?_)
      · replace hF := of_t hb hF
        refine wp_reg_seq tok (orc := o0) (l := [4]) nw h (by kernel_rfl) an fun a w h => ?_
        cases hF
        exact wp_ret (ret_okR tok h rfl (by kernel_rfl)).1
      · replace hF := of_f hb hF
        refine wp_skip ?_
        refine wp_seq ?_
        refine wp_reg_seq tok (orc := o0) (l := [25]) nw h (by kernel_rfl) an fun a w h => ?_
        refine wp_if h (b := ((x0.2.2.2 : Int) != x1.2.2.2)) (by kernel_rfl) (fun hb => ?_) (fun hb => ?_)
        · replace hF := of_t hb hF
          refine wp_reg_seq tok (orc := o0) (l := [4]) nw h (by kernel_rfl) an fun a w h => ?_
          cases hF
          exact wp_ret (ret_okR tok h rfl (by kernel_rfl)).1
        · replace hF := of_f hb hF
          refine wp_skip ?_
          refine wp_reg_seq tok (orc := o0) (l := [4]) nw h (by kernel_rfl) an fun a w h => ?_
          cases hF
          exact wp_ret (ret_okR tok h rfl (by kernel_rfl)).1

def f222 (k : Nat) (x0 : (Int × Int)) (x1 : (Int × Int)) : Option Bool := if ((x0.1 : Int) != x1.1) then (some false) else (if ((x0.2 : Int) != x1.2) then (some false) else (some true))
theorem c222 (k : Nat) (x0 : (Int × Int)) (x1 : (Int × Int)) (r : Bool) (hF : f222 k x0 x1 = some r) : PCall Try.prog 222 [⟨sh7, x0⟩, ⟨sh7, x1⟩] [⟨.bool, r⟩] := by
  refine pcall_intro Try.func222 rfl rfl (Nat.le_of_ble_eq_true rfl) ?_
  intro w0 Zi a w h
  rw [f222] at hF
  refine wp_reg_seq tok (orc := o0) (l := [2, 3]) nw h (by kernel_rfl) an fun a w h => ?_
  refine wp_seq ?_
  refine wp_reg_seq tok (orc := o0) (l := [2, 3, 9]) nw h (by kernel_rfl) an fun a w h => ?_
  refine wp_if h (b := ((x0.1 : Int) != x1.1)) (by kernel_rfl) (fun hb => ?_) (fun hb => ?_)
  · replace hF := of_t hb hF
    refine wp_reg_seq tok (orc := o0) (l := [4]) nw h (by kernel_rfl) an fun a w h => ?_
    cases hF
    exact wp_ret (ret_okR tok h rfl (by kernel_rfl)).1
  · replace hF := of_f hb hF
    refine wp_skip ?_
    refine wp_seq ?_
    refine wp_reg_seq tok (orc := o0) (l := [14]) nw h (by kernel_rfl) an fun a w h => ?_
    refine wp_if h (b := ((x0.2 : Int) != x1.2)) (by kernel_rfl) (fun hb => ?_) (fun hb => ?_)
    · replace hF := of_t hb hF
      refine wp_reg_seq tok (orc := o0) (l := [4]) nw h (by kernel_rfl) an fun a w h => ?_
      cases hF
      exact wp_ret (ret_okR tok h rfl (by kernel_rfl)).1
    · replace hF := of_f hb hF
      refine wp_skip ?_
      refine wp_reg_seq tok (orc := o0) (l := [4]) nw h (by kernel_rfl) an fun a w h => ?_
      cases hF
      exact wp_ret (ret_okR tok h rfl (by kernel_rfl)).1

def f174 (k : Nat) (x0 : (Int × (Int × Int))) (x1 : (Int × (Int × Int))) : Option Bool := if ((x0.1 : Int) != x1.1) then (some false) else ((f222 k x0.2 x1.2).bind fun r1 => (if (!r1) then (some false) else (some true)))
theorem c174 (k : Nat) (x0 : (Int × (Int × Int))) (x1 : (Int × (Int × Int))) (r : Bool) (hF : f174 k x0 x1 = some r) : PCall Try.prog 174 [⟨sh8, x0⟩, ⟨sh8, x1⟩] [⟨.bool, r⟩] := by
  refine pcall_intro Try.func174 rfl rfl (Nat.le_of_ble_eq_true rfl) ?_
  intro w0 Zi a w h
  rw [f174] at hF
  refine wp_reg_seq tok (orc := o0) (l := [2, 3]) nw h (by kernel_rfl) an fun a w h => ?_
  refine wp_seq ?_
  refine wp_reg_seq tok (orc := o0) (l := [2, 3, 9]) nw h (by kernel_rfl) an fun a w h => ?_
  refine wp_if h (b := ((x0.1 : Int) != x1.1)) (by kernel_rfl) (fun hb => ?_) (fun hb => ?_)
  · replace hF := of_t hb hF
    refine wp_reg_seq tok (orc := o0) (l := [4]) nw h (by kernel_rfl) an fun a w h => ?_
    cases hF
    exact wp_ret (ret_okR tok h rfl (by kernel_rfl)).1
  · replace hF := of_f hb hF
    refine wp_skip ?_
    refine wp_seq ?_
    obtain ⟨r1, hr2, hF⟩ := of_bind hF
    refine wp_reg_seq tok (orc := orcL [(14, [⟨.bool, r1⟩])]) (l := [15]) nw h (by kernel_rfl) (ac (c222 k x0.2 x1.2 r1 hr2) an) fun a w h => ?_
    refine wp_if h (b := (!r1)) (by kernel_rfl) (fun hb => ?_) (fun hb => ?_)
    · replace hF := of_t hb hF
      refine wp_reg_seq tok (orc := o0) (l := [4]) nw h (by kernel_rfl) an fun a w h => ?_
      cases hF
      exact wp_ret (ret_okR tok h rfl (by kernel_rfl)).1
    · replace hF := of_f hb hF
      refine wp_skip ?_
      refine wp_reg_seq tok (orc := o0) (l := [4]) nw h (by kernel_rfl) an fun a w h => ?_
      cases hF
      exact wp_ret (ret_okR tok h rfl (by kernel_rfl)).1

def f85.l30 (k : Nat) (x0 : (List (Int × (Int × Int)))) (x1 : (List (Int × (Int × Int)))) : Nat → Int → Option Bool
  | 0, _ => none
  | m30 + 1, v50 => if (decide ((v50 : Int) < (List.length x0 : Int))) then (if (0 ≤ v50 ∧ v50 < (List.length x0 : Int)) then (if (0 ≤ v50 ∧ v50 < (List.length x1 : Int)) then ((f174 k (List.getD x0 (Int.toNat v50) ((0 : Int), ((0 : Int), (0 : Int)))) (List.getD x1 (Int.toNat v50) ((0 : Int), ((0 : Int), (0 : Int))))).bind fun r55 => (if (!r55) then (some false) else ((f85.l30 k x0 x1) m30 (IntKind.i64.wrap (v50 + (1 : Int)))))) else none) else none) else (some true)
def f85 (k : Nat) (x0 : (List (Int × (Int × Int)))) (x1 : (List (Int × (Int × Int)))) : Option Bool := if (((List.length x0 : Int) : Int) != (List.length x1 : Int)) then (some false) else (f85.l30 k x0 x1 k (0 : Int))
theorem c85 (k : Nat) (x0 : (List (Int × (Int × Int)))) (x1 : (List (Int × (Int × Int)))) (r : Bool) (hF : f85 k x0 x1 = some r) : PCall Try.prog 85 [⟨sh27, x0⟩, ⟨sh27, x1⟩] [⟨.bool, r⟩] := by
  refine pcall_intro Try.func85 rfl rfl (Nat.le_of_ble_eq_true rfl) ?_
  intro w0 Zi a w h
  rw [f85] at hF
  refine wp_reg_seq tok (orc := o0) (l := [0, 1]) nw h (by kernel_rfl) an fun a w h => ?_
  refine wp_seq ?_
  refine wp_reg_seq tok (orc := o0) (l := [0, 1, 10]) nw h (by kernel_rfl) an fun a w h => ?_
  refine wp_if h (b := (((List.length x0 : Int) : Int) != (List.length x1 : Int))) (by kernel_rfl) (fun hb => ?_) (fun hb => ?_)
  · replace hF := of_t hb hF
    refine wp_reg_seq tok (orc := o0) (l := [4]) nw h (by kernel_rfl) an fun a w h => ?_
    cases hF
    exact wp_ret (ret_okR tok h rfl (by kernel_rfl)).1
  · replace hF := of_f hb hF
    refine wp_skip ?_
    refine wp_seq ?_
    refine wp_reg_seq tok (orc := o0) (l := [0, 1, 5]) nw h (by kernel_rfl) an fun a w h => ?_
    refine wp_block ?_
    refine wp_loop_fuel (f85.l30 k x0 x1) (fun (v50 : Int) => [(0, .val sh27 x0), (1, .val sh27 x1), (5, .val (.int .i64) v50)]) (fun v h => by rw [f85.l30] at h; cases h) ?_ hF (h.arrive (l := [0, 1, 5]) nw (by kernel_rfl))
    intro m30 v50 a w hF h
    rw [f85.l30] at hF
    refine wp_seq ?_
    refine wp_reg_seq tok (orc := o0) (l := [0, 1, 5, 14]) nw h (by kernel_rfl) an fun a w h => ?_
    refine wp_if h (b := (decide ((v50 : Int) < (List.length x0 : Int)))) (by kernel_rfl) (fun hb => ?_) (fun hb => ?_)
    · replace hF := of_t hb hF
      refine wp_skip ?_
      refine wp_seq <| wp_block ?_
      obtain ⟨hc56, hF⟩ := of_if hF
      obtain ⟨hc57, hF⟩ := of_if hF
      obtain ⟨r55, hr58, hF⟩ := of_bind hF
      refine wp_regy_seq tok (orc := orcL [(25, [⟨.bool, r55⟩])]) (l := [0, 1, 5, 26]) ([], [], [], []) 10 nw h (by kernel_rfl) (by kernel_rfl) (ac hc56 (ac hc57 (ac (c174 k (gD x0 (tZ v50) (iO, (iO, iO))) (gD x1 (tZ v50) (iO, (iO, iO))) r55 hr58) an))) fun a w h => ?_
      refine wp_if h (b := (!r55)) (by kernel_rfl) (fun hb => ?_) (fun hb => ?_)
      · replace hF := of_t hb hF
        refine wp_reg_seq tok (orc := o0) (l := [4]) nw h (by kernel_rfl) an fun a w h => ?_
        cases hF
        exact wp_ret (ret_okR tok h rfl (by kernel_rfl)).1
      · replace hF := of_f hb hF
        refine wp_skip ?_
        refine wp_reg tok (orc := o0) (l := [0, 1, 5]) nw h (by kernel_rfl) an fun a w h => ?_
        exact ⟨(w64 (v50 + (1 : Int))), hF, h.arrive (l := [0, 1, 5]) nw (by kernel_rfl)⟩
    · replace hF := of_f hb hF
      refine wp_exit ?_
      refine wp_reg_seq tok (orc := o0) (l := [4]) nw h (by kernel_rfl) an fun a w h => ?_
      cases hF
      exact wp_ret (ret_okR tok h rfl (by kernel_rfl)).1

def f175 (k : Nat) (x0 : (Int × (Int × (Int × (Int × (Int × ByteArray)))))) (x1 : (Int × (Int × (Int × (Int × (Int × ByteArray)))))) : Option Bool := if ((x0.1 : Int) != x1.1) then (some false) else (if ((x0.2.1 : Int) != x1.2.1) then (some false) else (if ((x0.2.2.1 : Int) != x1.2.2.1) then (some false) else (if ((x0.2.2.2.1 : Int) != x1.2.2.2.1) then (some false) else (if ((x0.2.2.2.2.1 : Int) != x1.2.2.2.2.1) then (some false) else (if (!(ByteArray.toList x0.2.2.2.2.2 == ByteArray.toList x1.2.2.2.2.2)) then (some false) else (some true))))))
theorem c175 (k : Nat) (x0 : (Int × (Int × (Int × (Int × (Int × ByteArray)))))) (x1 : (Int × (Int × (Int × (Int × (Int × ByteArray)))))) (r : Bool) (hF : f175 k x0 x1 = some r) : PCall Try.prog 175 [⟨sh1, x0⟩, ⟨sh1, x1⟩] [⟨.bool, r⟩] := by
  refine pcall_intro Try.func175 rfl rfl (Nat.le_of_ble_eq_true rfl) ?_
  intro w0 Zi a w h
  rw [f175] at hF
  refine wp_reg_seq tok (orc := o0) (l := [2, 3]) nw h (by kernel_rfl) an fun a w h => ?_
  refine wp_seq ?_
  refine wp_reg_seq tok (orc := o0) (l := [2, 3, 9]) nw h (by kernel_rfl) an fun a w h => ?_
  refine wp_if h (b := ((x0.1 : Int) != x1.1)) (by kernel_rfl) (fun hb => ?_) (fun hb => ?_)
  · replace hF := of_t hb hF
    refine wp_reg_seq tok (orc := o0) (l := [4]) nw h (by kernel_rfl) an fun a w h => ?_
    cases hF
    exact wp_ret (ret_okR tok h rfl (by kernel_rfl)).1
  · replace hF := of_f hb hF
    refine wp_skip ?_
    refine wp_seq ?_
    refine wp_reg_seq tok (orc := o0) (l := [2, 3, 14]) nw h (by kernel_rfl) an fun a w h => ?_
    refine wp_if h (b := ((x0.2.1 : Int) != x1.2.1)) (by kernel_rfl) (fun hb => ?_) (fun hb => ?_)
    · replace hF := of_t hb hF
      refine wp_reg_seq tok (orc := o0) (l := [4]) nw h (by kernel_rfl) an fun a w h => ?_
      cases hF
      exact wp_ret (ret_okR tok h rfl (by kernel_rfl)).1
    · replace hF := of_f hb hF
      refine wp_skip ?_
      refine wp_seq ?_
      refine wp_reg_seq tok (orc := o0) (l := [2, 3, 19]) nw h (by kernel_rfl) an fun a w h => ?_
      refine wp_if h (b := ((x0.2.2.1 : Int) != x1.2.2.1)) (by kernel_rfl) (fun hb => ?_) (fun hb => ?_)
      · replace hF := of_t hb hF
        refine wp_reg_seq tok (orc := o0) (l := [4]) nw h (by kernel_rfl) an fun a w h => ?_
        cases hF
        exact wp_ret (ret_okR tok h rfl (by kernel_rfl)).1
      · replace hF := of_f hb hF
        refine wp_skip ?_
        refine wp_seq ?_
        refine wp_reg_seq tok (orc := o0) (l := [2, 3, 24]) nw h (by kernel_rfl) an fun a w h => ?_
        refine wp_if h (b := ((x0.2.2.2.1 : Int) != x1.2.2.2.1)) (by kernel_rfl) (fun hb => ?_) (fun hb => ?_)
        · replace hF := of_t hb hF
          refine wp_reg_seq tok (orc := o0) (l := [4]) nw h (by kernel_rfl) an fun a w h => ?_
          cases hF
          exact wp_ret (ret_okR tok h rfl (by kernel_rfl)).1
        · replace hF := of_f hb hF
          refine wp_skip ?_
          refine wp_seq ?_
          refine wp_reg_seq tok (orc := o0) (l := [2, 3, 29]) nw h (by kernel_rfl) an fun a w h => ?_
          refine wp_if h (b := ((x0.2.2.2.2.1 : Int) != x1.2.2.2.2.1)) (by kernel_rfl) (fun hb => ?_) (fun hb => ?_)
          · replace hF := of_t hb hF
            refine wp_reg_seq tok (orc := o0) (l := [4]) nw h (by kernel_rfl) an fun a w h => ?_
            cases hF
            exact wp_ret (ret_okR tok h rfl (by kernel_rfl)).1
          · replace hF := of_f hb hF
            refine wp_skip ?_
            refine wp_seq ?_
            refine wp_reg_seq tok (orc := o0) (l := [34]) nw h (by kernel_rfl) an fun a w h => ?_
            refine wp_if h (b := (!(ByteArray.toList x0.2.2.2.2.2 == ByteArray.toList x1.2.2.2.2.2))) (by kernel_rfl) (fun hb => ?_) (fun hb => ?_)
            · replace hF := of_t hb hF
              refine wp_reg_seq tok (orc := o0) (l := [4]) nw h (by kernel_rfl) an fun a w h => ?_
              cases hF
              exact wp_ret (ret_okR tok h rfl (by kernel_rfl)).1
            · replace hF := of_f hb hF
              refine wp_skip ?_
              refine wp_reg_seq tok (orc := o0) (l := [4]) nw h (by kernel_rfl) an fun a w h => ?_
              cases hF
              exact wp_ret (ret_okR tok h rfl (by kernel_rfl)).1

def f86.l30 (k : Nat) (x0 : (List (Int × (Int × (Int × (Int × (Int × ByteArray))))))) (x1 : (List (Int × (Int × (Int × (Int × (Int × ByteArray))))))) : Nat → Int → Option Bool
  | 0, _ => none
  | m30 + 1, v50 => if (decide ((v50 : Int) < (List.length x0 : Int))) then (if (0 ≤ v50 ∧ v50 < (List.length x0 : Int)) then (if (0 ≤ v50 ∧ v50 < (List.length x1 : Int)) then ((f175 k (List.getD x0 (Int.toNat v50) ((0 : Int), ((0 : Int), ((0 : Int), ((0 : Int), ((0 : Int), (⟨#[]⟩ : ByteArray))))))) (List.getD x1 (Int.toNat v50) ((0 : Int), ((0 : Int), ((0 : Int), ((0 : Int), ((0 : Int), (⟨#[]⟩ : ByteArray)))))))).bind fun r55 => (if (!r55) then (some false) else ((f86.l30 k x0 x1) m30 (IntKind.i64.wrap (v50 + (1 : Int)))))) else none) else none) else (some true)
def f86 (k : Nat) (x0 : (List (Int × (Int × (Int × (Int × (Int × ByteArray))))))) (x1 : (List (Int × (Int × (Int × (Int × (Int × ByteArray))))))) : Option Bool := if (((List.length x0 : Int) : Int) != (List.length x1 : Int)) then (some false) else (f86.l30 k x0 x1 k (0 : Int))
theorem c86 (k : Nat) (x0 : (List (Int × (Int × (Int × (Int × (Int × ByteArray))))))) (x1 : (List (Int × (Int × (Int × (Int × (Int × ByteArray))))))) (r : Bool) (hF : f86 k x0 x1 = some r) : PCall Try.prog 86 [⟨sh28, x0⟩, ⟨sh28, x1⟩] [⟨.bool, r⟩] := by
  refine pcall_intro Try.func86 rfl rfl (Nat.le_of_ble_eq_true rfl) ?_
  intro w0 Zi a w h
  rw [f86] at hF
  refine wp_reg_seq tok (orc := o0) (l := [0, 1]) nw h (by kernel_rfl) an fun a w h => ?_
  refine wp_seq ?_
  refine wp_reg_seq tok (orc := o0) (l := [0, 1, 10]) nw h (by kernel_rfl) an fun a w h => ?_
  refine wp_if h (b := (((List.length x0 : Int) : Int) != (List.length x1 : Int))) (by kernel_rfl) (fun hb => ?_) (fun hb => ?_)
  · replace hF := of_t hb hF
    refine wp_reg_seq tok (orc := o0) (l := [4]) nw h (by kernel_rfl) an fun a w h => ?_
    cases hF
    exact wp_ret (ret_okR tok h rfl (by kernel_rfl)).1
  · replace hF := of_f hb hF
    refine wp_skip ?_
    refine wp_seq ?_
    refine wp_reg_seq tok (orc := o0) (l := [0, 1, 5]) nw h (by kernel_rfl) an fun a w h => ?_
    refine wp_block ?_
    refine wp_loop_fuel (f86.l30 k x0 x1) (fun (v50 : Int) => [(0, .val sh28 x0), (1, .val sh28 x1), (5, .val (.int .i64) v50)]) (fun v h => by rw [f86.l30] at h; cases h) ?_ hF (h.arrive (l := [0, 1, 5]) nw (by kernel_rfl))
    intro m30 v50 a w hF h
    rw [f86.l30] at hF
    refine wp_seq ?_
    refine wp_reg_seq tok (orc := o0) (l := [0, 1, 5, 14]) nw h (by kernel_rfl) an fun a w h => ?_
    refine wp_if h (b := (decide ((v50 : Int) < (List.length x0 : Int)))) (by kernel_rfl) (fun hb => ?_) (fun hb => ?_)
    · replace hF := of_t hb hF
      refine wp_skip ?_
      refine wp_seq <| wp_block ?_
      obtain ⟨hc56, hF⟩ := of_if hF
      obtain ⟨hc57, hF⟩ := of_if hF
      obtain ⟨r55, hr58, hF⟩ := of_bind hF
      refine wp_regy_seq tok (orc := orcL [(25, [⟨.bool, r55⟩])]) (l := [0, 1, 5, 26]) ([], [], [], []) 10 nw h (by kernel_rfl) (by kernel_rfl) (ac hc56 (ac hc57 (ac (c175 k (gD x0 (tZ v50) zR) (gD x1 (tZ v50) zR) r55 hr58) an))) fun a w h => ?_
      refine wp_if h (b := (!r55)) (by kernel_rfl) (fun hb => ?_) (fun hb => ?_)
      · replace hF := of_t hb hF
        refine wp_reg_seq tok (orc := o0) (l := [4]) nw h (by kernel_rfl) an fun a w h => ?_
        cases hF
        exact wp_ret (ret_okR tok h rfl (by kernel_rfl)).1
      · replace hF := of_f hb hF
        refine wp_skip ?_
        refine wp_reg tok (orc := o0) (l := [0, 1, 5]) nw h (by kernel_rfl) an fun a w h => ?_
        exact ⟨(w64 (v50 + (1 : Int))), hF, h.arrive (l := [0, 1, 5]) nw (by kernel_rfl)⟩
    · replace hF := of_f hb hF
      refine wp_exit ?_
      refine wp_reg_seq tok (orc := o0) (l := [4]) nw h (by kernel_rfl) an fun a w h => ?_
      cases hF
      exact wp_ret (ret_okR tok h rfl (by kernel_rfl)).1

def f176 (k : Nat) (x0 : (Int × Int)) (x1 : (Int × Int)) : Option Bool := if ((x0.1 : Int) != x1.1) then (some false) else (if ((x0.2 : Int) != x1.2) then (some false) else (some true))
theorem c176 (k : Nat) (x0 : (Int × Int)) (x1 : (Int × Int)) (r : Bool) (hF : f176 k x0 x1 = some r) : PCall Try.prog 176 [⟨sh7, x0⟩, ⟨sh7, x1⟩] [⟨.bool, r⟩] := by
  refine pcall_intro Try.func176 rfl rfl (Nat.le_of_ble_eq_true rfl) ?_
  intro w0 Zi a w h
  rw [f176] at hF
  refine wp_reg_seq tok (orc := o0) (l := [2, 3]) nw h (by kernel_rfl) an fun a w h => ?_
  refine wp_seq ?_
  refine wp_reg_seq tok (orc := o0) (l := [2, 3, 9]) nw h (by kernel_rfl) an fun a w h => ?_
  refine wp_if h (b := ((x0.1 : Int) != x1.1)) (by kernel_rfl) (fun hb => ?_) (fun hb => ?_)
  · replace hF := of_t hb hF
    refine wp_reg_seq tok (orc := o0) (l := [4]) nw h (by kernel_rfl) an fun a w h => ?_
    cases hF
    exact wp_ret (ret_okR tok h rfl (by kernel_rfl)).1
  · replace hF := of_f hb hF
    refine wp_skip ?_
    refine wp_seq ?_
    refine wp_reg_seq tok (orc := o0) (l := [14]) nw h (by kernel_rfl) an fun a w h => ?_
    refine wp_if h (b := ((x0.2 : Int) != x1.2)) (by kernel_rfl) (fun hb => ?_) (fun hb => ?_)
    · replace hF := of_t hb hF
      refine wp_reg_seq tok (orc := o0) (l := [4]) nw h (by kernel_rfl) an fun a w h => ?_
      cases hF
      exact wp_ret (ret_okR tok h rfl (by kernel_rfl)).1
    · replace hF := of_f hb hF
      refine wp_skip ?_
      refine wp_reg_seq tok (orc := o0) (l := [4]) nw h (by kernel_rfl) an fun a w h => ?_
      cases hF
      exact wp_ret (ret_okR tok h rfl (by kernel_rfl)).1

def f87.l30 (k : Nat) (x0 : (List (Int × Int))) (x1 : (List (Int × Int))) : Nat → Int → Option Bool
  | 0, _ => none
  | m30 + 1, v50 => if (decide ((v50 : Int) < (List.length x0 : Int))) then (if (0 ≤ v50 ∧ v50 < (List.length x0 : Int)) then (if (0 ≤ v50 ∧ v50 < (List.length x1 : Int)) then ((f176 k (List.getD x0 (Int.toNat v50) ((0 : Int), (0 : Int))) (List.getD x1 (Int.toNat v50) ((0 : Int), (0 : Int)))).bind fun r55 => (if (!r55) then (some false) else ((f87.l30 k x0 x1) m30 (IntKind.i64.wrap (v50 + (1 : Int)))))) else none) else none) else (some true)
def f87 (k : Nat) (x0 : (List (Int × Int))) (x1 : (List (Int × Int))) : Option Bool := if (((List.length x0 : Int) : Int) != (List.length x1 : Int)) then (some false) else (f87.l30 k x0 x1 k (0 : Int))
theorem c87 (k : Nat) (x0 : (List (Int × Int))) (x1 : (List (Int × Int))) (r : Bool) (hF : f87 k x0 x1 = some r) : PCall Try.prog 87 [⟨sh29, x0⟩, ⟨sh29, x1⟩] [⟨.bool, r⟩] := by
  refine pcall_intro Try.func87 rfl rfl (Nat.le_of_ble_eq_true rfl) ?_
  intro w0 Zi a w h
  rw [f87] at hF
  refine wp_reg_seq tok (orc := o0) (l := [0, 1]) nw h (by kernel_rfl) an fun a w h => ?_
  refine wp_seq ?_
  refine wp_reg_seq tok (orc := o0) (l := [0, 1, 10]) nw h (by kernel_rfl) an fun a w h => ?_
  refine wp_if h (b := (((List.length x0 : Int) : Int) != (List.length x1 : Int))) (by kernel_rfl) (fun hb => ?_) (fun hb => ?_)
  · replace hF := of_t hb hF
    refine wp_reg_seq tok (orc := o0) (l := [4]) nw h (by kernel_rfl) an fun a w h => ?_
    cases hF
    exact wp_ret (ret_okR tok h rfl (by kernel_rfl)).1
  · replace hF := of_f hb hF
    refine wp_skip ?_
    refine wp_seq ?_
    refine wp_reg_seq tok (orc := o0) (l := [0, 1, 5]) nw h (by kernel_rfl) an fun a w h => ?_
    refine wp_block ?_
    refine wp_loop_fuel (f87.l30 k x0 x1) (fun (v50 : Int) => [(0, .val sh29 x0), (1, .val sh29 x1), (5, .val (.int .i64) v50)]) (fun v h => by rw [f87.l30] at h; cases h) ?_ hF (h.arrive (l := [0, 1, 5]) nw (by kernel_rfl))
    intro m30 v50 a w hF h
    rw [f87.l30] at hF
    refine wp_seq ?_
    refine wp_reg_seq tok (orc := o0) (l := [0, 1, 5, 14]) nw h (by kernel_rfl) an fun a w h => ?_
    refine wp_if h (b := (decide ((v50 : Int) < (List.length x0 : Int)))) (by kernel_rfl) (fun hb => ?_) (fun hb => ?_)
    · replace hF := of_t hb hF
      refine wp_skip ?_
      refine wp_seq <| wp_block ?_
      obtain ⟨hc56, hF⟩ := of_if hF
      obtain ⟨hc57, hF⟩ := of_if hF
      obtain ⟨r55, hr58, hF⟩ := of_bind hF
      refine wp_regy_seq tok (orc := orcL [(25, [⟨.bool, r55⟩])]) (l := [0, 1, 5, 26]) ([], [], [], []) 10 nw h (by kernel_rfl) (by kernel_rfl) (ac hc56 (ac hc57 (ac (c176 k (gD x0 (tZ v50) (iO, iO)) (gD x1 (tZ v50) (iO, iO)) r55 hr58) an))) fun a w h => ?_
      refine wp_if h (b := (!r55)) (by kernel_rfl) (fun hb => ?_) (fun hb => ?_)
      · replace hF := of_t hb hF
        refine wp_reg_seq tok (orc := o0) (l := [4]) nw h (by kernel_rfl) an fun a w h => ?_
        cases hF
        exact wp_ret (ret_okR tok h rfl (by kernel_rfl)).1
      · replace hF := of_f hb hF
        refine wp_skip ?_
        refine wp_reg tok (orc := o0) (l := [0, 1, 5]) nw h (by kernel_rfl) an fun a w h => ?_
        exact ⟨(w64 (v50 + (1 : Int))), hF, h.arrive (l := [0, 1, 5]) nw (by kernel_rfl)⟩
    · replace hF := of_f hb hF
      refine wp_exit ?_
      refine wp_reg_seq tok (orc := o0) (l := [4]) nw h (by kernel_rfl) an fun a w h => ?_
      cases hF
      exact wp_ret (ret_okR tok h rfl (by kernel_rfl)).1

def f20 (k : Nat) (x0 : ((List (Int × (Int × Int))) × ((List (Int × (Int × (Int × (Int × (Int × ByteArray)))))) × (List (Int × Int))))) (x1 : ((List (Int × (Int × Int))) × ((List (Int × (Int × (Int × (Int × (Int × ByteArray)))))) × (List (Int × Int))))) : Option Bool := (f85 k x0.1 x1.1).bind fun r1 => (if (!r1) then (some false) else ((f86 k x0.2.1 x1.2.1).bind fun r2 => (if (!r2) then (some false) else ((f87 k x0.2.2 x1.2.2).bind fun r3 => (if (!r3) then (some false) else (some true))))))
theorem c20 (k : Nat) (x0 : tG) (x1 : tG) (r : Bool) (hF : f20 k x0 x1 = some r) : PCall Try.prog 20 [⟨sh15, x0⟩, ⟨sh15, x1⟩] [⟨.bool, r⟩] := by
  refine pcall_intro Try.func20 rfl rfl (Nat.le_of_ble_eq_true rfl) ?_
  intro w0 Zi a w h
  rw [f20] at hF
  refine wp_reg_seq tok (orc := o0) (l := [2, 3]) nw h (by kernel_rfl) an fun a w h => ?_
  refine wp_seq ?_
  obtain ⟨r1, hr6, hF⟩ := of_bind hF
  refine wp_reg_seq tok (orc := orcL [(9, [⟨.bool, r1⟩])]) (l := [2, 3, 10]) nw h (by kernel_rfl) (ac (c85 k x0.1 x1.1 r1 hr6) an) fun a w h => ?_
  refine wp_if h (b := (!r1)) (by kernel_rfl) (fun hb => ?_) (fun hb => ?_)
  · replace hF := of_t hb hF
    refine wp_reg_seq tok (orc := o0) (l := [4]) nw h (by kernel_rfl) an fun a w h => ?_
    cases hF
    exact wp_ret (ret_okR tok h rfl (by kernel_rfl)).1
  · replace hF := of_f hb hF
    refine wp_skip ?_
    refine wp_seq ?_
    obtain ⟨r2, hr5, hF⟩ := of_bind hF
    refine wp_reg_seq tok (orc := orcL [(15, [⟨.bool, r2⟩])]) (l := [2, 3, 16]) nw h (by kernel_rfl) (ac (c86 k x0.2.1 x1.2.1 r2 hr5) an) fun a w h => ?_
    refine wp_if h (b := (!r2)) (by kernel_rfl) (fun hb => ?_) (fun hb => ?_)
    · replace hF := of_t hb hF
      refine wp_reg_seq tok (orc := o0) (l := [4]) nw h (by kernel_rfl) an fun a w h => ?_
      cases hF
      exact wp_ret (ret_okR tok h rfl (by kernel_rfl)).1
    · replace hF := of_f hb hF
      refine wp_skip ?_
      refine wp_seq ?_
      obtain ⟨r3, hr4, hF⟩ := of_bind hF
      refine wp_reg_seq tok (orc := orcL [(21, [⟨.bool, r3⟩])]) (l := [22]) nw h (by kernel_rfl) (ac (c87 k x0.2.2 x1.2.2 r3 hr4) an) fun a w h => ?_
      refine wp_if h (b := (!r3)) (by kernel_rfl) (fun hb => ?_) (fun hb => ?_)
      · replace hF := of_t hb hF
        refine wp_reg_seq tok (orc := o0) (l := [4]) nw h (by kernel_rfl) an fun a w h => ?_
        cases hF
        exact wp_ret (ret_okR tok h rfl (by kernel_rfl)).1
      · replace hF := of_f hb hF
        refine wp_skip ?_
        refine wp_reg_seq tok (orc := o0) (l := [4]) nw h (by kernel_rfl) an fun a w h => ?_
        cases hF
        exact wp_ret (ret_okR tok h rfl (by kernel_rfl)).1

def f84 (k : Nat) (x0 : (Int × (Int × (ByteArray × (Int × Int))))) (x1 : (Int × (Int × (ByteArray × (Int × Int))))) : Option Bool := if ((x0.1 : Int) != x1.1) then (some false) else (if ((x0.2.1 : Int) != x1.2.1) then (some false) else (if (!(ByteArray.toList x0.2.2.1 == ByteArray.toList x1.2.2.1)) then (some false) else (if ((x0.2.2.2.1 : Int) != x1.2.2.2.1) then (some false) else (if ((x0.2.2.2.2 : Int) != x1.2.2.2.2) then (some false) else (some true)))))
theorem c84 (k : Nat) (x0 : (Int × (Int × (ByteArray × (Int × Int))))) (x1 : (Int × (Int × (ByteArray × (Int × Int))))) (r : Bool) (hF : f84 k x0 x1 = some r) : PCall Try.prog 84 [⟨sh5, x0⟩, ⟨sh5, x1⟩] [⟨.bool, r⟩] := by
  refine pcall_intro Try.func84 rfl rfl (Nat.le_of_ble_eq_true rfl) ?_
  intro w0 Zi a w h
  rw [f84] at hF
  refine wp_reg_seq tok (orc := o0) (l := [2, 3]) nw h (by kernel_rfl) an fun a w h => ?_
  refine wp_seq ?_
  refine wp_reg_seq tok (orc := o0) (l := [2, 3, 9]) nw h (by kernel_rfl) an fun a w h => ?_
  refine wp_if h (b := ((x0.1 : Int) != x1.1)) (by kernel_rfl) (fun hb => ?_) (fun hb => ?_)
  · replace hF := of_t hb hF
    refine wp_reg_seq tok (orc := o0) (l := [4]) nw h (by kernel_rfl) an fun a w h => ?_
    cases hF
    exact wp_ret (ret_okR tok h rfl (by kernel_rfl)).1
  · replace hF := of_f hb hF
    refine wp_skip ?_
    refine wp_seq ?_
    refine wp_reg_seq tok (orc := o0) (l := [2, 3, 14]) nw h (by kernel_rfl) an fun a w h => ?_
    refine wp_if h (b := ((x0.2.1 : Int) != x1.2.1)) (by kernel_rfl) (fun hb => ?_) (fun hb => ?_)
    · replace hF := of_t hb hF
      refine wp_reg_seq tok (orc := o0) (l := [4]) nw h (by kernel_rfl) an fun a w h => ?_
      cases hF
      exact wp_ret (ret_okR tok h rfl (by kernel_rfl)).1
    · replace hF := of_f hb hF
      refine wp_skip ?_
      refine wp_seq ?_
      refine wp_reg_seq tok (orc := o0) (l := [2, 3, 19]) nw h (by kernel_rfl) an fun a w h => ?_
      refine wp_if h (b := (!(ByteArray.toList x0.2.2.1 == ByteArray.toList x1.2.2.1))) (by kernel_rfl) (fun hb => ?_) (fun hb => ?_)
      · replace hF := of_t hb hF
        refine wp_reg_seq tok (orc := o0) (l := [4]) nw h (by kernel_rfl) an fun a w h => ?_
        cases hF
        exact wp_ret (ret_okR tok h rfl (by kernel_rfl)).1
      · replace hF := of_f hb hF
        refine wp_skip ?_
        refine wp_seq ?_
        refine wp_reg_seq tok (orc := o0) (l := [2, 3, 24]) nw h (by kernel_rfl) an fun a w h => ?_
        refine wp_if h (b := ((x0.2.2.2.1 : Int) != x1.2.2.2.1)) (by kernel_rfl) (fun hb => ?_) (fun hb => ?_)
        · replace hF := of_t hb hF
          refine wp_reg_seq tok (orc := o0) (l := [4]) nw h (by kernel_rfl) an fun a w h => ?_
          cases hF
          exact wp_ret (ret_okR tok h rfl (by kernel_rfl)).1
        · replace hF := of_f hb hF
          refine wp_skip ?_
          refine wp_seq ?_
          refine wp_reg_seq tok (orc := o0) (l := [29]) nw h (by kernel_rfl) an fun a w h => ?_
          refine wp_if h (b := ((x0.2.2.2.2 : Int) != x1.2.2.2.2)) (by kernel_rfl) (fun hb => ?_) (fun hb => ?_)
          · replace hF := of_t hb hF
            refine wp_reg_seq tok (orc := o0) (l := [4]) nw h (by kernel_rfl) an fun a w h => ?_
            cases hF
            exact wp_ret (ret_okR tok h rfl (by kernel_rfl)).1
          · replace hF := of_f hb hF
            refine wp_skip ?_
            refine wp_reg_seq tok (orc := o0) (l := [4]) nw h (by kernel_rfl) an fun a w h => ?_
            cases hF
            exact wp_ret (ret_okR tok h rfl (by kernel_rfl)).1

def f19.l30 (k : Nat) (x0 : (List (Int × (Int × (ByteArray × (Int × Int)))))) (x1 : (List (Int × (Int × (ByteArray × (Int × Int)))))) : Nat → Int → Option Bool
  | 0, _ => none
  | m30 + 1, v50 => if (decide ((v50 : Int) < (List.length x0 : Int))) then (if (0 ≤ v50 ∧ v50 < (List.length x0 : Int)) then (if (0 ≤ v50 ∧ v50 < (List.length x1 : Int)) then ((f84 k (List.getD x0 (Int.toNat v50) ((0 : Int), ((0 : Int), ((⟨#[]⟩ : ByteArray), ((0 : Int), (0 : Int)))))) (List.getD x1 (Int.toNat v50) ((0 : Int), ((0 : Int), ((⟨#[]⟩ : ByteArray), ((0 : Int), (0 : Int))))))).bind fun r55 => (if (!r55) then (some false) else ((f19.l30 k x0 x1) m30 (IntKind.i64.wrap (v50 + (1 : Int)))))) else none) else none) else (some true)
def f19 (k : Nat) (x0 : (List (Int × (Int × (ByteArray × (Int × Int)))))) (x1 : (List (Int × (Int × (ByteArray × (Int × Int)))))) : Option Bool := if (((List.length x0 : Int) : Int) != (List.length x1 : Int)) then (some false) else (f19.l30 k x0 x1 k (0 : Int))
theorem c19 (k : Nat) (x0 : (List (Int × (Int × (ByteArray × (Int × Int)))))) (x1 : (List (Int × (Int × (ByteArray × (Int × Int)))))) (r : Bool) (hF : f19 k x0 x1 = some r) : PCall Try.prog 19 [⟨sh20, x0⟩, ⟨sh20, x1⟩] [⟨.bool, r⟩] := by
  refine pcall_intro Try.func19 rfl rfl (Nat.le_of_ble_eq_true rfl) ?_
  intro w0 Zi a w h
  rw [f19] at hF
  refine wp_reg_seq tok (orc := o0) (l := [0, 1]) nw h (by kernel_rfl) an fun a w h => ?_
  refine wp_seq ?_
  refine wp_reg_seq tok (orc := o0) (l := [0, 1, 10]) nw h (by kernel_rfl) an fun a w h => ?_
  refine wp_if h (b := (((List.length x0 : Int) : Int) != (List.length x1 : Int))) (by kernel_rfl) (fun hb => ?_) (fun hb => ?_)
  · replace hF := of_t hb hF
    refine wp_reg_seq tok (orc := o0) (l := [4]) nw h (by kernel_rfl) an fun a w h => ?_
    cases hF
    exact wp_ret (ret_okR tok h rfl (by kernel_rfl)).1
  · replace hF := of_f hb hF
    refine wp_skip ?_
    refine wp_seq ?_
    refine wp_reg_seq tok (orc := o0) (l := [0, 1, 5]) nw h (by kernel_rfl) an fun a w h => ?_
    refine wp_block ?_
    refine wp_loop_fuel (f19.l30 k x0 x1) (fun (v50 : Int) => [(0, .val sh20 x0), (1, .val sh20 x1), (5, .val (.int .i64) v50)]) (fun v h => by rw [f19.l30] at h; cases h) ?_ hF (h.arrive (l := [0, 1, 5]) nw (by kernel_rfl))
    intro m30 v50 a w hF h
    rw [f19.l30] at hF
    refine wp_seq ?_
    refine wp_reg_seq tok (orc := o0) (l := [0, 1, 5, 14]) nw h (by kernel_rfl) an fun a w h => ?_
    refine wp_if h (b := (decide ((v50 : Int) < (List.length x0 : Int)))) (by kernel_rfl) (fun hb => ?_) (fun hb => ?_)
    · replace hF := of_t hb hF
      refine wp_skip ?_
      refine wp_seq <| wp_block ?_
      obtain ⟨hc56, hF⟩ := of_if hF
      obtain ⟨hc57, hF⟩ := of_if hF
      obtain ⟨r55, hr58, hF⟩ := of_bind hF
      refine wp_regy_seq tok (orc := orcL [(25, [⟨.bool, r55⟩])]) (l := [0, 1, 5, 26]) ([], [], [], []) 10 nw h (by kernel_rfl) (by kernel_rfl) (ac hc56 (ac hc57 (ac (c84 k (gD x0 (tZ v50) (iO, (iO, ((⟨#[]⟩ : ByteArray), (iO, iO))))) (gD x1 (tZ v50) (iO, (iO, ((⟨#[]⟩ : ByteArray), (iO, iO))))) r55 hr58) an))) fun a w h => ?_
      refine wp_if h (b := (!r55)) (by kernel_rfl) (fun hb => ?_) (fun hb => ?_)
      · replace hF := of_t hb hF
        refine wp_reg_seq tok (orc := o0) (l := [4]) nw h (by kernel_rfl) an fun a w h => ?_
        cases hF
        exact wp_ret (ret_okR tok h rfl (by kernel_rfl)).1
      · replace hF := of_f hb hF
        refine wp_skip ?_
        refine wp_reg tok (orc := o0) (l := [0, 1, 5]) nw h (by kernel_rfl) an fun a w h => ?_
        exact ⟨(w64 (v50 + (1 : Int))), hF, h.arrive (l := [0, 1, 5]) nw (by kernel_rfl)⟩
    · replace hF := of_f hb hF
      refine wp_exit ?_
      refine wp_reg_seq tok (orc := o0) (l := [4]) nw h (by kernel_rfl) an fun a w h => ?_
      cases hF
      exact wp_ret (ret_okR tok h rfl (by kernel_rfl)).1

def f88.l44 (k : Nat) : Nat → ((List (Int × (Int × Int))) × Int × Int) → Option (Int × (List (Int × (Int × Int))))
  | 0, _ => none
  | m44 + 1, (v74, v75, v76) => if (decide ((v76 : Int) < (List.length v74 : Int))) then (if (0 ≤ v76 ∧ v76 < (List.length v74 : Int)) then (if (0 ≤ v76 ∧ v76 < (List.length (List.set v74 (Int.toNat v76) (v75, (List.getD v74 (Int.toNat v76) ((0 : Int), ((0 : Int), (0 : Int)))).2)) : Int)) then ((some ((List.set (List.set v74 (Int.toNat v76) (v75, (List.getD v74 (Int.toNat v76) ((0 : Int), ((0 : Int), (0 : Int)))).2)) (Int.toNat v76) ((List.getD (List.set v74 (Int.toNat v76) (v75, (List.getD v74 (Int.toNat v76) ((0 : Int), ((0 : Int), (0 : Int)))).2)) (Int.toNat v76) ((0 : Int), ((0 : Int), (0 : Int)))).1, ((IntKind.i64.wrap (v75 + (1 : Int))), (List.getD (List.set v74 (Int.toNat v76) (v75, (List.getD v74 (Int.toNat v76) ((0 : Int), ((0 : Int), (0 : Int)))).2)) (Int.toNat v76) ((0 : Int), ((0 : Int), (0 : Int)))).2.2))) : (List (Int × (Int × Int))))).bind fun v82 => (if (0 ≤ v76 ∧ v76 < (List.length v82 : Int)) then ((f88.l44 k) m44 ((List.set v82 (Int.toNat v76) ((List.getD v82 (Int.toNat v76) ((0 : Int), ((0 : Int), (0 : Int)))).1, ((List.getD v82 (Int.toNat v76) ((0 : Int), ((0 : Int), (0 : Int)))).2.1, (IntKind.i64.wrap ((IntKind.i64.wrap (v75 + (1 : Int))) + (1 : Int)))))), (IntKind.i64.wrap ((IntKind.i64.wrap ((IntKind.i64.wrap (v75 + (1 : Int))) + (1 : Int))) + (1 : Int))), (IntKind.i64.wrap (v76 + (1 : Int))))) else none)) else none) else none) else (some (v75, v74))
def f88 (k : Nat) (x0 : (List (Int × (Int × Int)))) (x1 : Int) : Option (Int × (List (Int × (Int × Int)))) := f88.l44 k k (x0, x1, (0 : Int))
theorem c88 (k : Nat) (x0 : (List (Int × (Int × Int)))) (x1 : Int) (r : (Int × (List (Int × (Int × Int))))) (hF : f88 k x0 x1 = some r) : PMut Try.prog 88 [⟨sh9, x0⟩, ⟨(.int .i64), x1⟩] [⟨(.int .i64), r.1⟩] (List.set [⟨sh9, x0⟩, ⟨(.int .i64), x1⟩] 0 ⟨sh9, r.2⟩) := by
  refine pmut_intro (j := 0) (fin := ⟨sh9, r.2⟩) Try.func88 rfl rfl (Nat.le_of_ble_eq_true rfl) (Nat.le_of_ble_eq_true rfl) (by kernel_rfl) ?_
  intro w0 Zi f0 v0 a w h
  rw [f88] at hF
  refine wp_reg_seq tok (orc := o0) (fz := []) (l := [0, 1]) (.inl rfl) h (by kernel_rfl) an fun a w h => ?_
  refine wp_seq ?_
  refine wp_reg_seq tok (orc := o0) (fz := []) (l := [0, 1, 5]) (.inl rfl) h (by kernel_rfl) an fun a w h => ?_
  refine wp_block ?_
  refine wp_loop_fuel (f88.l44 k) (fun ((v74, v75, v76) : ((List (Int × (Int × Int))) × Int × Int)) => [(0, .val sh9 v74), (1, .val (.int .i64) v75), (5, .val (.int .i64) v76)]) (fun v h => by obtain ⟨v74, v75, v76⟩ := v; rw [f88.l44] at h; cases h) ?_ hF (h.arrive (fz := []) (l := [0, 1, 5]) (.inl rfl) (by kernel_rfl))
  intro m44 v a w hF h
  obtain ⟨v74, v75, v76⟩ := v
  rw [f88.l44] at hF
  refine wp_seq ?_
  refine wp_reg_seq tok (orc := o0) (fz := []) (l := [0, 1, 5, 9]) (.inl rfl) h (by kernel_rfl) an fun a w h => ?_
  refine wp_if h (b := (decide ((v76 : Int) < (List.length v74 : Int)))) (by kernel_rfl) (fun hb => ?_) (fun hb => ?_)
  · replace hF := of_t hb hF
    refine wp_skip ?_
    refine wp_seq <| wp_block ?_
    obtain ⟨hc86, hF⟩ := of_if hF
    refine wp_reg_seq tok (orc := o0) (fz := []) (l := [0, 1, 5]) (.inl rfl) h (by kernel_rfl) (ac hc86 an) fun a w h => ?_
    refine wp_reg_seq tok (orc := o0) (fz := []) (l := [0, 1, 5]) (.inl rfl) h (by kernel_rfl) an fun a w h => ?_
    obtain ⟨hc85, hF⟩ := of_if hF
    refine wp_reg_seq tok (orc := o0) (fz := []) (l := [0, 1, 5]) (.inl rfl) h (by kernel_rfl) (ac hc85 an) fun a w h => ?_
    obtain ⟨v82, hv84, hF⟩ := of_bind hF
    replace h := h.cast (S' := [(0, .val sh9 v82), (1, .val (.int .i64) (w64 (v75 + (1 : Int)))), (5, .val (.int .i64) v76)]) (by cases hv84; kernel_rfl)
    refine wp_reg_seq tok (orc := o0) (fz := []) (l := [0, 1, 5]) (.inl rfl) h (by kernel_rfl) an fun a w h => ?_
    obtain ⟨hc83, hF⟩ := of_if hF
    refine wp_reg_seq tok (orc := o0) (fz := []) (l := [0, 1, 5]) (.inl rfl) h (by kernel_rfl) (ac hc83 an) fun a w h => ?_
    refine wp_reg tok (orc := o0) (fz := []) (l := [0, 1, 5]) (.inl rfl) h (by kernel_rfl) an fun a w h => ?_
    refine wp_reg tok (orc := o0) (fz := []) (l := [0, 1, 5]) (.inl rfl) h (by kernel_rfl) an fun a w h => ?_
    exact ⟨((List.set v82 (tZ v76) ((gD v82 (tZ v76) (iO, (iO, iO))).1, ((gD v82 (tZ v76) (iO, (iO, iO))).2.1, (w64 ((w64 (v75 + (1 : Int))) + (1 : Int)))))), (w64 ((w64 ((w64 (v75 + (1 : Int))) + (1 : Int))) + (1 : Int))), (w64 (v76 + (1 : Int)))), hF, h.arrive (fz := []) (l := [0, 1, 5]) (.inl rfl) (by kernel_rfl)⟩
  · replace hF := of_f hb hF
    refine wp_exit ?_
    refine wp_reg_seq tok (orc := o0) (fz := []) (l := [0, 4]) (.inl rfl) h (by kernel_rfl) an fun a w h => ?_
    cases hF
    exact wp_ret (retM_ok tok h rfl (by kernel_rfl) (by kernel_rfl)).1

def f91.l19 (k : Nat) : Nat → (Int × ByteArray) → Option ByteArray
  | 0, _ => none
  | m19 + 1, (v32, v33) => if (decide ((v32 : Int) > (0 : Int))) then (if (((10 : Int) : Int) ≠ 0) then (if (ByteArray.size (strOfNums [(IntKind.u8.wrap (IntKind.i64.wrap ((48 : Int) + (Int.tmod v32 (10 : Int)))))]) + ByteArray.size v33 ≤ 9223372036854775807) then (if (((10 : Int) : Int) ≠ 0) then ((f91.l19 k) m19 ((IntKind.i64.wrap (Int.tdiv v32 (10 : Int))), ((strOfNums [(IntKind.u8.wrap (IntKind.i64.wrap ((48 : Int) + (Int.tmod v32 (10 : Int)))))]) ++ v33))) else none) else none) else none) else (if (ByteArray.size (⟨#[109]⟩ : ByteArray) + ByteArray.size v33 ≤ 9223372036854775807) then (some ((⟨#[109]⟩ : ByteArray) ++ v33)) else none)
def f91 (k : Nat) (x0 : Int) : Option ByteArray := if (decide ((x0 : Int) ≤ (0 : Int))) then (some (⟨#[109, 48]⟩ : ByteArray)) else (f91.l19 k k (x0, (⟨#[]⟩ : ByteArray)))
theorem c91 (k : Nat) (x0 : Int) (r : ByteArray) (hF : f91 k x0 = some r) : PCall Try.prog 91 [⟨(.int .i64), x0⟩] [⟨.str, r⟩] := by
  refine pcall_intro Try.func91 rfl rfl (Nat.le_of_ble_eq_true rfl) ?_
  intro w0 Zi a w h
  rw [f91] at hF
  refine wp_reg_seq tok (orc := o0) (l := [0]) nw h (by kernel_rfl) an fun a w h => ?_
  refine wp_seq ?_
  refine wp_reg_seq tok (orc := o0) (l := [0, 5]) nw h (by kernel_rfl) an fun a w h => ?_
  refine wp_if h (b := (decide ((x0 : Int) ≤ iO))) (by kernel_rfl) (fun hb => ?_) (fun hb => ?_)
  · replace hF := of_t hb hF
    refine wp_reg_seq tok (orc := o0) (l := [2]) nw h (by kernel_rfl) an fun a w h => ?_
    cases hF
    exact wp_ret (ret_okR tok h rfl (by kernel_rfl)).1
  · replace hF := of_f hb hF
    refine wp_skip ?_
    refine wp_reg_seq tok (orc := o0) (l := [0, 3]) nw h (by kernel_rfl) an fun a w h => ?_
    refine wp_seq <| wp_block ?_
    refine wp_loop_fuel (f91.l19 k) (fun ((v32, v33) : (Int × ByteArray)) => [(0, .val (.int .i64) v32), (3, .val .str v33)]) (fun v h => by obtain ⟨v32, v33⟩ := v; rw [f91.l19] at h; cases h) ?_ hF (h.arrive (l := [0, 3]) nw (by kernel_rfl))
    intro m19 v a w hF h
    obtain ⟨v32, v33⟩ := v
    rw [f91.l19] at hF
    refine wp_seq ?_
    refine wp_reg_seq tok (orc := o0) (l := [0, 3, 7]) nw h (by kernel_rfl) an fun a w h => ?_
    refine wp_if h (b := (decide ((v32 : Int) > iO))) (by kernel_rfl) (fun hb => ?_) (fun hb => ?_)
    · replace hF := of_t hb hF
      refine wp_skip ?_
      refine wp_block ?_
      obtain ⟨hc35, hF⟩ := of_if hF
      obtain ⟨hc36, hF⟩ := of_if hF
      refine wp_reg_seq tok (orc := o0) (l := [0, 3]) nw h (by kernel_rfl) (ac hc35 (ac hc36 an)) fun a w h => ?_
      obtain ⟨hc34, hF⟩ := of_if hF
      refine wp_reg tok (orc := o0) (l := [0, 3]) nw h (by kernel_rfl) (ac hc34 an) fun a w h => ?_
      exact ⟨((w64 (Int.tdiv v32 (10 : Int))), ((strOfNums [(IntKind.u8.wrap (w64 ((48 : Int) + (Int.tmod v32 (10 : Int)))))]) ++ v33)), hF, h.arrive (l := [0, 3]) nw (by kernel_rfl)⟩
    · replace hF := of_f hb hF
      refine wp_exit ?_
      obtain ⟨hc37, hF⟩ := of_if hF
      refine wp_reg_seq tok (orc := o0) (l := [2]) nw h (by kernel_rfl) (ac hc37 an) fun a w h => ?_
      cases hF
      exact wp_ret (ret_okR tok h rfl (by kernel_rfl)).1

def f89.l110 (k : Nat) : Nat → ((List (Int × (Int × (Int × (Int × (Int × ByteArray)))))) × Int × Int) → Option (Int × (List (Int × (Int × (Int × (Int × (Int × ByteArray)))))))
  | 0, _ => none
  | m110 + 1, (v184, v185, v186) => if (decide ((v186 : Int) < (List.length v184 : Int))) then (if (0 ≤ v186 ∧ v186 < (List.length v184 : Int)) then (if (0 ≤ v186 ∧ v186 < (List.length (List.set v184 (Int.toNat v186) (v185, (List.getD v184 (Int.toNat v186) ((0 : Int), ((0 : Int), ((0 : Int), ((0 : Int), ((0 : Int), (⟨#[]⟩ : ByteArray))))))).2)) : Int)) then ((some ((List.set (List.set v184 (Int.toNat v186) (v185, (List.getD v184 (Int.toNat v186) ((0 : Int), ((0 : Int), ((0 : Int), ((0 : Int), ((0 : Int), (⟨#[]⟩ : ByteArray))))))).2)) (Int.toNat v186) ((List.getD (List.set v184 (Int.toNat v186) (v185, (List.getD v184 (Int.toNat v186) ((0 : Int), ((0 : Int), ((0 : Int), ((0 : Int), ((0 : Int), (⟨#[]⟩ : ByteArray))))))).2)) (Int.toNat v186) ((0 : Int), ((0 : Int), ((0 : Int), ((0 : Int), ((0 : Int), (⟨#[]⟩ : ByteArray))))))).1, ((IntKind.i64.wrap (v185 + (1 : Int))), (List.getD (List.set v184 (Int.toNat v186) (v185, (List.getD v184 (Int.toNat v186) ((0 : Int), ((0 : Int), ((0 : Int), ((0 : Int), ((0 : Int), (⟨#[]⟩ : ByteArray))))))).2)) (Int.toNat v186) ((0 : Int), ((0 : Int), ((0 : Int), ((0 : Int), ((0 : Int), (⟨#[]⟩ : ByteArray))))))).2.2))) : (List (Int × (Int × (Int × (Int × (Int × ByteArray)))))))).bind fun v203 => (if (0 ≤ v186 ∧ v186 < (List.length v203 : Int)) then (if (0 ≤ v186 ∧ v186 < (List.length (List.set v203 (Int.toNat v186) ((List.getD v203 (Int.toNat v186) ((0 : Int), ((0 : Int), ((0 : Int), ((0 : Int), ((0 : Int), (⟨#[]⟩ : ByteArray))))))).1, ((List.getD v203 (Int.toNat v186) ((0 : Int), ((0 : Int), ((0 : Int), ((0 : Int), ((0 : Int), (⟨#[]⟩ : ByteArray))))))).2.1, ((IntKind.i64.wrap ((IntKind.i64.wrap (v185 + (1 : Int))) + (1 : Int))), (List.getD v203 (Int.toNat v186) ((0 : Int), ((0 : Int), ((0 : Int), ((0 : Int), ((0 : Int), (⟨#[]⟩ : ByteArray))))))).2.2.2)))) : Int)) then ((some ((List.set (List.set v203 (Int.toNat v186) ((List.getD v203 (Int.toNat v186) ((0 : Int), ((0 : Int), ((0 : Int), ((0 : Int), ((0 : Int), (⟨#[]⟩ : ByteArray))))))).1, ((List.getD v203 (Int.toNat v186) ((0 : Int), ((0 : Int), ((0 : Int), ((0 : Int), ((0 : Int), (⟨#[]⟩ : ByteArray))))))).2.1, ((IntKind.i64.wrap ((IntKind.i64.wrap (v185 + (1 : Int))) + (1 : Int))), (List.getD v203 (Int.toNat v186) ((0 : Int), ((0 : Int), ((0 : Int), ((0 : Int), ((0 : Int), (⟨#[]⟩ : ByteArray))))))).2.2.2)))) (Int.toNat v186) ((List.getD (List.set v203 (Int.toNat v186) ((List.getD v203 (Int.toNat v186) ((0 : Int), ((0 : Int), ((0 : Int), ((0 : Int), ((0 : Int), (⟨#[]⟩ : ByteArray))))))).1, ((List.getD v203 (Int.toNat v186) ((0 : Int), ((0 : Int), ((0 : Int), ((0 : Int), ((0 : Int), (⟨#[]⟩ : ByteArray))))))).2.1, ((IntKind.i64.wrap ((IntKind.i64.wrap (v185 + (1 : Int))) + (1 : Int))), (List.getD v203 (Int.toNat v186) ((0 : Int), ((0 : Int), ((0 : Int), ((0 : Int), ((0 : Int), (⟨#[]⟩ : ByteArray))))))).2.2.2)))) (Int.toNat v186) ((0 : Int), ((0 : Int), ((0 : Int), ((0 : Int), ((0 : Int), (⟨#[]⟩ : ByteArray))))))).1, ((List.getD (List.set v203 (Int.toNat v186) ((List.getD v203 (Int.toNat v186) ((0 : Int), ((0 : Int), ((0 : Int), ((0 : Int), ((0 : Int), (⟨#[]⟩ : ByteArray))))))).1, ((List.getD v203 (Int.toNat v186) ((0 : Int), ((0 : Int), ((0 : Int), ((0 : Int), ((0 : Int), (⟨#[]⟩ : ByteArray))))))).2.1, ((IntKind.i64.wrap ((IntKind.i64.wrap (v185 + (1 : Int))) + (1 : Int))), (List.getD v203 (Int.toNat v186) ((0 : Int), ((0 : Int), ((0 : Int), ((0 : Int), ((0 : Int), (⟨#[]⟩ : ByteArray))))))).2.2.2)))) (Int.toNat v186) ((0 : Int), ((0 : Int), ((0 : Int), ((0 : Int), ((0 : Int), (⟨#[]⟩ : ByteArray))))))).2.1, ((List.getD (List.set v203 (Int.toNat v186) ((List.getD v203 (Int.toNat v186) ((0 : Int), ((0 : Int), ((0 : Int), ((0 : Int), ((0 : Int), (⟨#[]⟩ : ByteArray))))))).1, ((List.getD v203 (Int.toNat v186) ((0 : Int), ((0 : Int), ((0 : Int), ((0 : Int), ((0 : Int), (⟨#[]⟩ : ByteArray))))))).2.1, ((IntKind.i64.wrap ((IntKind.i64.wrap (v185 + (1 : Int))) + (1 : Int))), (List.getD v203 (Int.toNat v186) ((0 : Int), ((0 : Int), ((0 : Int), ((0 : Int), ((0 : Int), (⟨#[]⟩ : ByteArray))))))).2.2.2)))) (Int.toNat v186) ((0 : Int), ((0 : Int), ((0 : Int), ((0 : Int), ((0 : Int), (⟨#[]⟩ : ByteArray))))))).2.2.1, ((IntKind.i64.wrap ((IntKind.i64.wrap ((IntKind.i64.wrap (v185 + (1 : Int))) + (1 : Int))) + (1 : Int))), (List.getD (List.set v203 (Int.toNat v186) ((List.getD v203 (Int.toNat v186) ((0 : Int), ((0 : Int), ((0 : Int), ((0 : Int), ((0 : Int), (⟨#[]⟩ : ByteArray))))))).1, ((List.getD v203 (Int.toNat v186) ((0 : Int), ((0 : Int), ((0 : Int), ((0 : Int), ((0 : Int), (⟨#[]⟩ : ByteArray))))))).2.1, ((IntKind.i64.wrap ((IntKind.i64.wrap (v185 + (1 : Int))) + (1 : Int))), (List.getD v203 (Int.toNat v186) ((0 : Int), ((0 : Int), ((0 : Int), ((0 : Int), ((0 : Int), (⟨#[]⟩ : ByteArray))))))).2.2.2)))) (Int.toNat v186) ((0 : Int), ((0 : Int), ((0 : Int), ((0 : Int), ((0 : Int), (⟨#[]⟩ : ByteArray))))))).2.2.2.2))))) : (List (Int × (Int × (Int × (Int × (Int × ByteArray)))))))).bind fun v204 => (if (0 ≤ v186 ∧ v186 < (List.length v204 : Int)) then ((some ((List.set v204 (Int.toNat v186) ((List.getD v204 (Int.toNat v186) ((0 : Int), ((0 : Int), ((0 : Int), ((0 : Int), ((0 : Int), (⟨#[]⟩ : ByteArray))))))).1, ((List.getD v204 (Int.toNat v186) ((0 : Int), ((0 : Int), ((0 : Int), ((0 : Int), ((0 : Int), (⟨#[]⟩ : ByteArray))))))).2.1, ((List.getD v204 (Int.toNat v186) ((0 : Int), ((0 : Int), ((0 : Int), ((0 : Int), ((0 : Int), (⟨#[]⟩ : ByteArray))))))).2.2.1, ((List.getD v204 (Int.toNat v186) ((0 : Int), ((0 : Int), ((0 : Int), ((0 : Int), ((0 : Int), (⟨#[]⟩ : ByteArray))))))).2.2.2.1, ((IntKind.i64.wrap ((IntKind.i64.wrap ((IntKind.i64.wrap ((IntKind.i64.wrap (v185 + (1 : Int))) + (1 : Int))) + (1 : Int))) + (1 : Int))), (List.getD v204 (Int.toNat v186) ((0 : Int), ((0 : Int), ((0 : Int), ((0 : Int), ((0 : Int), (⟨#[]⟩ : ByteArray))))))).2.2.2.2.2)))))) : (List (Int × (Int × (Int × (Int × (Int × ByteArray)))))))).bind fun v205 => ((f91 k (IntKind.i64.wrap ((IntKind.i64.wrap ((IntKind.i64.wrap ((IntKind.i64.wrap ((IntKind.i64.wrap (v185 + (1 : Int))) + (1 : Int))) + (1 : Int))) + (1 : Int))) + (1 : Int)))).bind fun r206 => (if (0 ≤ v186 ∧ v186 < (List.length v205 : Int)) then ((some ((List.set v205 (Int.toNat v186) ((List.getD v205 (Int.toNat v186) ((0 : Int), ((0 : Int), ((0 : Int), ((0 : Int), ((0 : Int), (⟨#[]⟩ : ByteArray))))))).1, ((List.getD v205 (Int.toNat v186) ((0 : Int), ((0 : Int), ((0 : Int), ((0 : Int), ((0 : Int), (⟨#[]⟩ : ByteArray))))))).2.1, ((List.getD v205 (Int.toNat v186) ((0 : Int), ((0 : Int), ((0 : Int), ((0 : Int), ((0 : Int), (⟨#[]⟩ : ByteArray))))))).2.2.1, ((List.getD v205 (Int.toNat v186) ((0 : Int), ((0 : Int), ((0 : Int), ((0 : Int), ((0 : Int), (⟨#[]⟩ : ByteArray))))))).2.2.2.1, ((List.getD v205 (Int.toNat v186) ((0 : Int), ((0 : Int), ((0 : Int), ((0 : Int), ((0 : Int), (⟨#[]⟩ : ByteArray))))))).2.2.2.2.1, r206)))))) : (List (Int × (Int × (Int × (Int × (Int × ByteArray)))))))).bind fun v207 => ((f89.l110 k) m110 (v207, (IntKind.i64.wrap ((IntKind.i64.wrap ((IntKind.i64.wrap ((IntKind.i64.wrap ((IntKind.i64.wrap ((IntKind.i64.wrap (v185 + (1 : Int))) + (1 : Int))) + (1 : Int))) + (1 : Int))) + (1 : Int))) + (1 : Int))), (IntKind.i64.wrap (v186 + (1 : Int)))))) else none))) else none)) else none) else none)) else none) else none) else (some (v185, v184))
def f89 (k : Nat) (x0 : (List (Int × (Int × (Int × (Int × (Int × ByteArray))))))) (x1 : Int) : Option (Int × (List (Int × (Int × (Int × (Int × (Int × ByteArray))))))) := f89.l110 k k (x0, x1, (0 : Int))
theorem c89 (k : Nat) (x0 : (List (Int × (Int × (Int × (Int × (Int × ByteArray))))))) (x1 : Int) (r : (Int × (List (Int × (Int × (Int × (Int × (Int × ByteArray)))))))) (hF : f89 k x0 x1 = some r) : PMut Try.prog 89 [⟨sh10, x0⟩, ⟨(.int .i64), x1⟩] [⟨(.int .i64), r.1⟩] (List.set [⟨sh10, x0⟩, ⟨(.int .i64), x1⟩] 0 ⟨sh10, r.2⟩) := by
  refine pmut_intro (j := 0) (fin := ⟨sh10, r.2⟩) Try.func89 rfl rfl (Nat.le_of_ble_eq_true rfl) (Nat.le_of_ble_eq_true rfl) (by kernel_rfl) ?_
  intro w0 Zi f0 v0 a w h
  rw [f89] at hF
  refine wp_reg_seq tok (orc := o0) (fz := []) (l := [0, 1]) (.inl rfl) h (by kernel_rfl) an fun a w h => ?_
  refine wp_seq ?_
  refine wp_reg_seq tok (orc := o0) (fz := []) (l := [0, 1, 5]) (.inl rfl) h (by kernel_rfl) an fun a w h => ?_
  refine wp_block ?_
  refine wp_loop_fuel (f89.l110 k) (fun ((v184, v185, v186) : ((List (Int × (Int × (Int × (Int × (Int × ByteArray)))))) × Int × Int)) => [(0, .val sh10 v184), (1, .val (.int .i64) v185), (5, .val (.int .i64) v186)]) (fun v h => by obtain ⟨v184, v185, v186⟩ := v; rw [f89.l110] at h; cases h) ?_ hF (h.arrive (fz := []) (l := [0, 1, 5]) (.inl rfl) (by kernel_rfl))
  intro m110 v a w hF h
  obtain ⟨v184, v185, v186⟩ := v
  rw [f89.l110] at hF
  refine wp_seq ?_
  refine wp_reg_seq tok (orc := o0) (fz := []) (l := [0, 1, 5, 9]) (.inl rfl) h (by kernel_rfl) an fun a w h => ?_
  refine wp_if h (b := (decide ((v186 : Int) < (List.length v184 : Int)))) (by kernel_rfl) (fun hb => ?_) (fun hb => ?_)
  · replace hF := of_t hb hF
    refine wp_skip ?_
    refine wp_seq <| wp_block ?_
    obtain ⟨hc218, hF⟩ := of_if hF
    refine wp_reg_seq tok (orc := o0) (fz := []) (l := [0, 1, 5]) (.inl rfl) h (by kernel_rfl) (ac hc218 an) fun a w h => ?_
    refine wp_reg_seq tok (orc := o0) (fz := []) (l := [0, 1, 5]) (.inl rfl) h (by kernel_rfl) an fun a w h => ?_
    obtain ⟨hc217, hF⟩ := of_if hF
    refine wp_reg_seq tok (orc := o0) (fz := []) (l := [0, 1, 5]) (.inl rfl) h (by kernel_rfl) (ac hc217 an) fun a w h => ?_
    obtain ⟨v203, hv216, hF⟩ := of_bind hF
    replace h := h.cast (S' := [(0, .val sh10 v203), (1, .val (.int .i64) (w64 (v185 + (1 : Int)))), (5, .val (.int .i64) v186)]) (by cases hv216; kernel_rfl)
    refine wp_reg_seq tok (orc := o0) (fz := []) (l := [0, 1, 5]) (.inl rfl) h (by kernel_rfl) an fun a w h => ?_
    obtain ⟨hc215, hF⟩ := of_if hF
    refine wp_reg_seq tok (orc := o0) (fz := []) (l := [0, 1, 5]) (.inl rfl) h (by kernel_rfl) (ac hc215 an) fun a w h => ?_
    refine wp_reg_seq tok (orc := o0) (fz := []) (l := [0, 1, 5]) (.inl rfl) h (by kernel_rfl) an fun a w h => ?_
    obtain ⟨hc214, hF⟩ := of_if hF
    refine wp_reg_seq tok (orc := o0) (fz := []) (l := [0, 1, 5]) (.inl rfl) h (by kernel_rfl) (ac hc214 an) fun a w h => ?_
    obtain ⟨v204, hv213, hF⟩ := of_bind hF
    replace h := h.cast (S' := [(0, .val sh10 v204), (1, .val (.int .i64) (w64 ((w64 ((w64 (v185 + (1 : Int))) + (1 : Int))) + (1 : Int)))), (5, .val (.int .i64) v186)]) (by cases hv213; kernel_rfl)
    refine wp_reg_seq tok (orc := o0) (fz := []) (l := [0, 1, 5]) (.inl rfl) h (by kernel_rfl) an fun a w h => ?_
    obtain ⟨hc212, hF⟩ := of_if hF
    refine wp_reg_seq tok (orc := o0) (fz := []) (l := [0, 1, 5]) (.inl rfl) h (by kernel_rfl) (ac hc212 an) fun a w h => ?_
    obtain ⟨v205, hv211, hF⟩ := of_bind hF
    replace h := h.cast (S' := [(0, .val sh10 v205), (1, .val (.int .i64) (w64 ((w64 ((w64 ((w64 (v185 + (1 : Int))) + (1 : Int))) + (1 : Int))) + (1 : Int)))), (5, .val (.int .i64) v186)]) (by cases hv211; kernel_rfl)
    refine wp_reg_seq tok (orc := o0) (fz := []) (l := [0, 1, 5]) (.inl rfl) h (by kernel_rfl) an fun a w h => ?_
    obtain ⟨r206, hr209, hF⟩ := of_bind hF
    obtain ⟨hc210, hF⟩ := of_if hF
    refine wp_reg_seq tok (orc := orcL [(50, [⟨.str, r206⟩])]) (fz := []) (l := [0, 1, 5]) (.inl rfl) h (by kernel_rfl) (ac (c91 k (w64 ((w64 ((w64 ((w64 ((w64 (v185 + (1 : Int))) + (1 : Int))) + (1 : Int))) + (1 : Int))) + (1 : Int))) r206 hr209) (ac hc210 an)) fun a w h => ?_
    obtain ⟨v207, hv208, hF⟩ := of_bind hF
    replace h := h.cast (S' := [(0, .val sh10 v207), (1, .val (.int .i64) (w64 ((w64 ((w64 ((w64 ((w64 (v185 + (1 : Int))) + (1 : Int))) + (1 : Int))) + (1 : Int))) + (1 : Int)))), (5, .val (.int .i64) v186)]) (by cases hv208; kernel_rfl)
    refine wp_reg tok (orc := o0) (fz := []) (l := [0, 1, 5]) (.inl rfl) h (by kernel_rfl) an fun a w h => ?_
    refine wp_reg tok (orc := o0) (fz := []) (l := [0, 1, 5]) (.inl rfl) h (by kernel_rfl) an fun a w h => ?_
    exact ⟨(v207, (w64 ((w64 ((w64 ((w64 ((w64 ((w64 (v185 + (1 : Int))) + (1 : Int))) + (1 : Int))) + (1 : Int))) + (1 : Int))) + (1 : Int))), (w64 (v186 + (1 : Int)))), hF, h.arrive (fz := []) (l := [0, 1, 5]) (.inl rfl) (by kernel_rfl)⟩
  · replace hF := of_f hb hF
    refine wp_exit ?_
    refine wp_reg_seq tok (orc := o0) (fz := []) (l := [0, 4]) (.inl rfl) h (by kernel_rfl) an fun a w h => ?_
    cases hF
    exact wp_ret (retM_ok tok h rfl (by kernel_rfl) (by kernel_rfl)).1

def f90.l26 (k : Nat) : Nat → ((List (Int × Int)) × Int × Int) → Option (Int × (List (Int × Int)))
  | 0, _ => none
  | m26 + 1, (v44, v45, v46) => if (decide ((v46 : Int) < (List.length v44 : Int))) then (if (0 ≤ v46 ∧ v46 < (List.length v44 : Int)) then (if (0 ≤ v46 ∧ v46 < (List.length (List.set v44 (Int.toNat v46) (v45, (List.getD v44 (Int.toNat v46) ((0 : Int), (0 : Int))).2)) : Int)) then ((f90.l26 k) m26 ((List.set (List.set v44 (Int.toNat v46) (v45, (List.getD v44 (Int.toNat v46) ((0 : Int), (0 : Int))).2)) (Int.toNat v46) ((List.getD (List.set v44 (Int.toNat v46) (v45, (List.getD v44 (Int.toNat v46) ((0 : Int), (0 : Int))).2)) (Int.toNat v46) ((0 : Int), (0 : Int))).1, (IntKind.i64.wrap (v45 + (1 : Int))))), (IntKind.i64.wrap ((IntKind.i64.wrap (v45 + (1 : Int))) + (1 : Int))), (IntKind.i64.wrap (v46 + (1 : Int))))) else none) else none) else (some (v45, v44))
def f90 (k : Nat) (x0 : (List (Int × Int))) (x1 : Int) : Option (Int × (List (Int × Int))) := f90.l26 k k (x0, x1, (0 : Int))
theorem c90 (k : Nat) (x0 : (List (Int × Int))) (x1 : Int) (r : (Int × (List (Int × Int)))) (hF : f90 k x0 x1 = some r) : PMut Try.prog 90 [⟨sh11, x0⟩, ⟨(.int .i64), x1⟩] [⟨(.int .i64), r.1⟩] (List.set [⟨sh11, x0⟩, ⟨(.int .i64), x1⟩] 0 ⟨sh11, r.2⟩) := by
  refine pmut_intro (j := 0) (fin := ⟨sh11, r.2⟩) Try.func90 rfl rfl (Nat.le_of_ble_eq_true rfl) (Nat.le_of_ble_eq_true rfl) (by kernel_rfl) ?_
  intro w0 Zi f0 v0 a w h
  rw [f90] at hF
  refine wp_reg_seq tok (orc := o0) (fz := []) (l := [0, 1]) (.inl rfl) h (by kernel_rfl) an fun a w h => ?_
  refine wp_seq ?_
  refine wp_reg_seq tok (orc := o0) (fz := []) (l := [0, 1, 5]) (.inl rfl) h (by kernel_rfl) an fun a w h => ?_
  refine wp_block ?_
  refine wp_loop_fuel (f90.l26 k) (fun ((v44, v45, v46) : ((List (Int × Int)) × Int × Int)) => [(0, .val sh11 v44), (1, .val (.int .i64) v45), (5, .val (.int .i64) v46)]) (fun v h => by obtain ⟨v44, v45, v46⟩ := v; rw [f90.l26] at h; cases h) ?_ hF (h.arrive (fz := []) (l := [0, 1, 5]) (.inl rfl) (by kernel_rfl))
  intro m26 v a w hF h
  obtain ⟨v44, v45, v46⟩ := v
  rw [f90.l26] at hF
  refine wp_seq ?_
  refine wp_reg_seq tok (orc := o0) (fz := []) (l := [0, 1, 5, 9]) (.inl rfl) h (by kernel_rfl) an fun a w h => ?_
  refine wp_if h (b := (decide ((v46 : Int) < (List.length v44 : Int)))) (by kernel_rfl) (fun hb => ?_) (fun hb => ?_)
  · replace hF := of_t hb hF
    refine wp_skip ?_
    refine wp_seq <| wp_block ?_
    obtain ⟨hc50, hF⟩ := of_if hF
    refine wp_reg_seq tok (orc := o0) (fz := []) (l := [0, 1, 5]) (.inl rfl) h (by kernel_rfl) (ac hc50 an) fun a w h => ?_
    refine wp_reg_seq tok (orc := o0) (fz := []) (l := [0, 1, 5]) (.inl rfl) h (by kernel_rfl) an fun a w h => ?_
    obtain ⟨hc49, hF⟩ := of_if hF
    refine wp_reg_seq tok (orc := o0) (fz := []) (l := [0, 1, 5]) (.inl rfl) h (by kernel_rfl) (ac hc49 an) fun a w h => ?_
    refine wp_reg tok (orc := o0) (fz := []) (l := [0, 1, 5]) (.inl rfl) h (by kernel_rfl) an fun a w h => ?_
    refine wp_reg tok (orc := o0) (fz := []) (l := [0, 1, 5]) (.inl rfl) h (by kernel_rfl) an fun a w h => ?_
    exact ⟨((List.set (List.set v44 (tZ v46) (v45, (gD v44 (tZ v46) (iO, iO)).2)) (tZ v46) ((gD (List.set v44 (tZ v46) (v45, (gD v44 (tZ v46) (iO, iO)).2)) (tZ v46) (iO, iO)).1, (w64 (v45 + (1 : Int))))), (w64 ((w64 (v45 + (1 : Int))) + (1 : Int))), (w64 (v46 + (1 : Int)))), hF, h.arrive (fz := []) (l := [0, 1, 5]) (.inl rfl) (by kernel_rfl)⟩
  · replace hF := of_f hb hF
    refine wp_exit ?_
    refine wp_reg_seq tok (orc := o0) (fz := []) (l := [0, 4]) (.inl rfl) h (by kernel_rfl) an fun a w h => ?_
    cases hF
    exact wp_ret (retM_ok tok h rfl (by kernel_rfl) (by kernel_rfl)).1

def f22 (k : Nat) (x0 : ((List (Int × (Int × Int))) × ((List (Int × (Int × (Int × (Int × (Int × ByteArray)))))) × (List (Int × Int))))) (x1 : Int) : Option (Int × ((List (Int × (Int × Int))) × ((List (Int × (Int × (Int × (Int × (Int × ByteArray)))))) × (List (Int × Int))))) := (f88 k x0.1 x1).bind fun r1 => ((f89 k x0.2.1 r1.1).bind fun r2 => ((f90 k x0.2.2 r2.1).bind fun r3 => (some (r3.1, (r1.2, (r2.2, r3.2))))))
theorem c22 (k : Nat) (x0 : tG) (x1 : Int) (r : (Int × tG)) (hF : f22 k x0 x1 = some r) : PMut Try.prog 22 [⟨sh12, x0⟩, ⟨(.int .i64), x1⟩] [⟨(.int .i64), r.1⟩] (List.set [⟨sh12, x0⟩, ⟨(.int .i64), x1⟩] 0 ⟨sh12, r.2⟩) := by
  refine pmut_intro (j := 0) (fin := ⟨sh12, r.2⟩) Try.func22 rfl rfl (Nat.le_of_ble_eq_true rfl) (Nat.le_of_ble_eq_true rfl) (by kernel_rfl) ?_
  intro w0 Zi f0 v0 a w h
  rw [f22] at hF
  refine wp_reg_seq tok (orc := o0) (fz := []) (l := [0, 1, 2]) (.inl rfl) h (by kernel_rfl) an fun a w h => ?_
  obtain ⟨r1, hr6, hF⟩ := of_bind hF
  refine wp_reg_seq tok (orc := orcL [(8, [⟨.pt false 4294967295 (.sl true 176 (.st (.pair (.int .i64) (.st (.pair (.int .i64) (.int .i64)))))), some r1.2⟩, ⟨(.int .i64), r1.1⟩])]) (fz := []) (l := [0, 1, 2]) (.inl rfl) h (by kernel_rfl) (ac (c88 k x0.1 x1 r1 hr6) an) fun a w h => ?_
  obtain ⟨r2, hr5, hF⟩ := of_bind hF
  refine wp_reg_seq tok (orc := orcL [(12, [⟨.pt false 4294967295 (.sl true 110 (.st (.pair (.int .i64) (.pair (.int .i64) (.pair (.int .i64) (.pair (.int .i64) (.pair (.int .i64) .str))))))), some r2.2⟩, ⟨(.int .i64), r2.1⟩])]) (fz := []) (l := [0, 1, 2]) (.inl rfl) h (by kernel_rfl) (ac (c89 k x0.2.1 r1.1 r2 hr5) an) fun a w h => ?_
  obtain ⟨r3, hr4, hF⟩ := of_bind hF
  refine wp_reg_seq tok (orc := orcL [(16, [⟨.pt false 4294967295 (.sl true 167 (.st (.pair (.int .i64) (.int .i64)))), some r3.2⟩, ⟨(.int .i64), r3.1⟩])]) (fz := []) (l := [0, 1, 2]) (.inl rfl) h (by kernel_rfl) (ac (c90 k x0.2.2 r2.1 r3 hr4) an) fun a w h => ?_
  refine wp_reg_seq tok (orc := o0) (fz := []) (l := [0, 2, 4]) (.inl rfl) h (by kernel_rfl) an fun a w h => ?_
  cases hF
  exact wp_ret (retMS_ok (d := 2) (t := 35) tok h rfl (by kernel_rfl) (by kernel_rfl)).1

def f24.l92 (k : Nat) : Nat → ((List (Int × (Int × (ByteArray × (Int × Int))))) × Int × Int) → Option (Int × (List (Int × (Int × (ByteArray × (Int × Int))))))
  | 0, _ => none
  | m92 + 1, (v154, v155, v156) => if (decide ((v156 : Int) < (List.length v154 : Int))) then (if (0 ≤ v156 ∧ v156 < (List.length v154 : Int)) then (if (0 ≤ v156 ∧ v156 < (List.length (List.set v154 (Int.toNat v156) (v155, (List.getD v154 (Int.toNat v156) ((0 : Int), ((0 : Int), ((⟨#[]⟩ : ByteArray), ((0 : Int), (0 : Int)))))).2)) : Int)) then ((some ((List.set (List.set v154 (Int.toNat v156) (v155, (List.getD v154 (Int.toNat v156) ((0 : Int), ((0 : Int), ((⟨#[]⟩ : ByteArray), ((0 : Int), (0 : Int)))))).2)) (Int.toNat v156) ((List.getD (List.set v154 (Int.toNat v156) (v155, (List.getD v154 (Int.toNat v156) ((0 : Int), ((0 : Int), ((⟨#[]⟩ : ByteArray), ((0 : Int), (0 : Int)))))).2)) (Int.toNat v156) ((0 : Int), ((0 : Int), ((⟨#[]⟩ : ByteArray), ((0 : Int), (0 : Int)))))).1, ((IntKind.i64.wrap (v155 + (1 : Int))), (List.getD (List.set v154 (Int.toNat v156) (v155, (List.getD v154 (Int.toNat v156) ((0 : Int), ((0 : Int), ((⟨#[]⟩ : ByteArray), ((0 : Int), (0 : Int)))))).2)) (Int.toNat v156) ((0 : Int), ((0 : Int), ((⟨#[]⟩ : ByteArray), ((0 : Int), (0 : Int)))))).2.2))) : (List (Int × (Int × (ByteArray × (Int × Int))))))).bind fun v170 => ((f91 k (IntKind.i64.wrap ((IntKind.i64.wrap (v155 + (1 : Int))) + (1 : Int)))).bind fun r171 => (if (0 ≤ v156 ∧ v156 < (List.length v170 : Int)) then (if (0 ≤ v156 ∧ v156 < (List.length (List.set v170 (Int.toNat v156) ((List.getD v170 (Int.toNat v156) ((0 : Int), ((0 : Int), ((⟨#[]⟩ : ByteArray), ((0 : Int), (0 : Int)))))).1, ((List.getD v170 (Int.toNat v156) ((0 : Int), ((0 : Int), ((⟨#[]⟩ : ByteArray), ((0 : Int), (0 : Int)))))).2.1, (r171, (List.getD v170 (Int.toNat v156) ((0 : Int), ((0 : Int), ((⟨#[]⟩ : ByteArray), ((0 : Int), (0 : Int)))))).2.2.2)))) : Int)) then ((some ((List.set (List.set v170 (Int.toNat v156) ((List.getD v170 (Int.toNat v156) ((0 : Int), ((0 : Int), ((⟨#[]⟩ : ByteArray), ((0 : Int), (0 : Int)))))).1, ((List.getD v170 (Int.toNat v156) ((0 : Int), ((0 : Int), ((⟨#[]⟩ : ByteArray), ((0 : Int), (0 : Int)))))).2.1, (r171, (List.getD v170 (Int.toNat v156) ((0 : Int), ((0 : Int), ((⟨#[]⟩ : ByteArray), ((0 : Int), (0 : Int)))))).2.2.2)))) (Int.toNat v156) ((List.getD (List.set v170 (Int.toNat v156) ((List.getD v170 (Int.toNat v156) ((0 : Int), ((0 : Int), ((⟨#[]⟩ : ByteArray), ((0 : Int), (0 : Int)))))).1, ((List.getD v170 (Int.toNat v156) ((0 : Int), ((0 : Int), ((⟨#[]⟩ : ByteArray), ((0 : Int), (0 : Int)))))).2.1, (r171, (List.getD v170 (Int.toNat v156) ((0 : Int), ((0 : Int), ((⟨#[]⟩ : ByteArray), ((0 : Int), (0 : Int)))))).2.2.2)))) (Int.toNat v156) ((0 : Int), ((0 : Int), ((⟨#[]⟩ : ByteArray), ((0 : Int), (0 : Int)))))).1, ((List.getD (List.set v170 (Int.toNat v156) ((List.getD v170 (Int.toNat v156) ((0 : Int), ((0 : Int), ((⟨#[]⟩ : ByteArray), ((0 : Int), (0 : Int)))))).1, ((List.getD v170 (Int.toNat v156) ((0 : Int), ((0 : Int), ((⟨#[]⟩ : ByteArray), ((0 : Int), (0 : Int)))))).2.1, (r171, (List.getD v170 (Int.toNat v156) ((0 : Int), ((0 : Int), ((⟨#[]⟩ : ByteArray), ((0 : Int), (0 : Int)))))).2.2.2)))) (Int.toNat v156) ((0 : Int), ((0 : Int), ((⟨#[]⟩ : ByteArray), ((0 : Int), (0 : Int)))))).2.1, ((List.getD (List.set v170 (Int.toNat v156) ((List.getD v170 (Int.toNat v156) ((0 : Int), ((0 : Int), ((⟨#[]⟩ : ByteArray), ((0 : Int), (0 : Int)))))).1, ((List.getD v170 (Int.toNat v156) ((0 : Int), ((0 : Int), ((⟨#[]⟩ : ByteArray), ((0 : Int), (0 : Int)))))).2.1, (r171, (List.getD v170 (Int.toNat v156) ((0 : Int), ((0 : Int), ((⟨#[]⟩ : ByteArray), ((0 : Int), (0 : Int)))))).2.2.2)))) (Int.toNat v156) ((0 : Int), ((0 : Int), ((⟨#[]⟩ : ByteArray), ((0 : Int), (0 : Int)))))).2.2.1, ((IntKind.i64.wrap ((IntKind.i64.wrap ((IntKind.i64.wrap (v155 + (1 : Int))) + (1 : Int))) + (1 : Int))), (List.getD (List.set v170 (Int.toNat v156) ((List.getD v170 (Int.toNat v156) ((0 : Int), ((0 : Int), ((⟨#[]⟩ : ByteArray), ((0 : Int), (0 : Int)))))).1, ((List.getD v170 (Int.toNat v156) ((0 : Int), ((0 : Int), ((⟨#[]⟩ : ByteArray), ((0 : Int), (0 : Int)))))).2.1, (r171, (List.getD v170 (Int.toNat v156) ((0 : Int), ((0 : Int), ((⟨#[]⟩ : ByteArray), ((0 : Int), (0 : Int)))))).2.2.2)))) (Int.toNat v156) ((0 : Int), ((0 : Int), ((⟨#[]⟩ : ByteArray), ((0 : Int), (0 : Int)))))).2.2.2.2))))) : (List (Int × (Int × (ByteArray × (Int × Int))))))).bind fun v172 => (if (0 ≤ v156 ∧ v156 < (List.length v172 : Int)) then ((some ((List.set v172 (Int.toNat v156) ((List.getD v172 (Int.toNat v156) ((0 : Int), ((0 : Int), ((⟨#[]⟩ : ByteArray), ((0 : Int), (0 : Int)))))).1, ((List.getD v172 (Int.toNat v156) ((0 : Int), ((0 : Int), ((⟨#[]⟩ : ByteArray), ((0 : Int), (0 : Int)))))).2.1, ((List.getD v172 (Int.toNat v156) ((0 : Int), ((0 : Int), ((⟨#[]⟩ : ByteArray), ((0 : Int), (0 : Int)))))).2.2.1, ((List.getD v172 (Int.toNat v156) ((0 : Int), ((0 : Int), ((⟨#[]⟩ : ByteArray), ((0 : Int), (0 : Int)))))).2.2.2.1, (IntKind.i64.wrap ((IntKind.i64.wrap ((IntKind.i64.wrap ((IntKind.i64.wrap (v155 + (1 : Int))) + (1 : Int))) + (1 : Int))) + (1 : Int)))))))) : (List (Int × (Int × (ByteArray × (Int × Int))))))).bind fun v173 => ((f24.l92 k) m92 (v173, (IntKind.i64.wrap ((IntKind.i64.wrap ((IntKind.i64.wrap ((IntKind.i64.wrap ((IntKind.i64.wrap (v155 + (1 : Int))) + (1 : Int))) + (1 : Int))) + (1 : Int))) + (1 : Int))), (IntKind.i64.wrap (v156 + (1 : Int)))))) else none)) else none) else none))) else none) else none) else (some (v155, v154))
def f24 (k : Nat) (x0 : (List (Int × (Int × (ByteArray × (Int × Int)))))) (x1 : Int) : Option (Int × (List (Int × (Int × (ByteArray × (Int × Int)))))) := f24.l92 k k (x0, x1, (0 : Int))
theorem c24 (k : Nat) (x0 : (List (Int × (Int × (ByteArray × (Int × Int)))))) (x1 : Int) (r : (Int × (List (Int × (Int × (ByteArray × (Int × Int))))))) (hF : f24 k x0 x1 = some r) : PMut Try.prog 24 [⟨sh13, x0⟩, ⟨(.int .i64), x1⟩] [⟨(.int .i64), r.1⟩] (List.set [⟨sh13, x0⟩, ⟨(.int .i64), x1⟩] 0 ⟨sh13, r.2⟩) := by
  refine pmut_intro (j := 0) (fin := ⟨sh13, r.2⟩) Try.func24 rfl rfl (Nat.le_of_ble_eq_true rfl) (Nat.le_of_ble_eq_true rfl) (by kernel_rfl) ?_
  intro w0 Zi f0 v0 a w h
  rw [f24] at hF
  refine wp_reg_seq tok (orc := o0) (fz := []) (l := [0, 1]) (.inl rfl) h (by kernel_rfl) an fun a w h => ?_
  refine wp_seq ?_
  refine wp_reg_seq tok (orc := o0) (fz := []) (l := [0, 1, 5]) (.inl rfl) h (by kernel_rfl) an fun a w h => ?_
  refine wp_block ?_
  refine wp_loop_fuel (f24.l92 k) (fun ((v154, v155, v156) : ((List (Int × (Int × (ByteArray × (Int × Int))))) × Int × Int)) => [(0, .val sh13 v154), (1, .val (.int .i64) v155), (5, .val (.int .i64) v156)]) (fun v h => by obtain ⟨v154, v155, v156⟩ := v; rw [f24.l92] at h; cases h) ?_ hF (h.arrive (fz := []) (l := [0, 1, 5]) (.inl rfl) (by kernel_rfl))
  intro m92 v a w hF h
  obtain ⟨v154, v155, v156⟩ := v
  rw [f24.l92] at hF
  refine wp_seq ?_
  refine wp_reg_seq tok (orc := o0) (fz := []) (l := [0, 1, 5, 9]) (.inl rfl) h (by kernel_rfl) an fun a w h => ?_
  refine wp_if h (b := (decide ((v156 : Int) < (List.length v154 : Int)))) (by kernel_rfl) (fun hb => ?_) (fun hb => ?_)
  · replace hF := of_t hb hF
    refine wp_skip ?_
    refine wp_seq <| wp_block ?_
    obtain ⟨hc182, hF⟩ := of_if hF
    refine wp_reg_seq tok (orc := o0) (fz := []) (l := [0, 1, 5]) (.inl rfl) h (by kernel_rfl) (ac hc182 an) fun a w h => ?_
    refine wp_reg_seq tok (orc := o0) (fz := []) (l := [0, 1, 5]) (.inl rfl) h (by kernel_rfl) an fun a w h => ?_
    obtain ⟨hc181, hF⟩ := of_if hF
    refine wp_reg_seq tok (orc := o0) (fz := []) (l := [0, 1, 5]) (.inl rfl) h (by kernel_rfl) (ac hc181 an) fun a w h => ?_
    obtain ⟨v170, hv180, hF⟩ := of_bind hF
    replace h := h.cast (S' := [(0, .val sh13 v170), (1, .val (.int .i64) (w64 (v155 + (1 : Int)))), (5, .val (.int .i64) v156)]) (by cases hv180; kernel_rfl)
    refine wp_reg_seq tok (orc := o0) (fz := []) (l := [0, 1, 5]) (.inl rfl) h (by kernel_rfl) an fun a w h => ?_
    obtain ⟨r171, hr178, hF⟩ := of_bind hF
    obtain ⟨hc179, hF⟩ := of_if hF
    refine wp_reg_seq tok (orc := orcL [(29, [⟨.str, r171⟩])]) (fz := []) (l := [0, 1, 5]) (.inl rfl) h (by kernel_rfl) (ac (c91 k (w64 ((w64 (v155 + (1 : Int))) + (1 : Int))) r171 hr178) (ac hc179 an)) fun a w h => ?_
    refine wp_reg_seq tok (orc := o0) (fz := []) (l := [0, 1, 5]) (.inl rfl) h (by kernel_rfl) an fun a w h => ?_
    obtain ⟨hc177, hF⟩ := of_if hF
    refine wp_reg_seq tok (orc := o0) (fz := []) (l := [0, 1, 5]) (.inl rfl) h (by kernel_rfl) (ac hc177 an) fun a w h => ?_
    obtain ⟨v172, hv176, hF⟩ := of_bind hF
    replace h := h.cast (S' := [(0, .val sh13 v172), (1, .val (.int .i64) (w64 ((w64 ((w64 (v155 + (1 : Int))) + (1 : Int))) + (1 : Int)))), (5, .val (.int .i64) v156)]) (by cases hv176; kernel_rfl)
    refine wp_reg_seq tok (orc := o0) (fz := []) (l := [0, 1, 5]) (.inl rfl) h (by kernel_rfl) an fun a w h => ?_
    obtain ⟨hc175, hF⟩ := of_if hF
    refine wp_reg_seq tok (orc := o0) (fz := []) (l := [0, 1, 5]) (.inl rfl) h (by kernel_rfl) (ac hc175 an) fun a w h => ?_
    obtain ⟨v173, hv174, hF⟩ := of_bind hF
    replace h := h.cast (S' := [(0, .val sh13 v173), (1, .val (.int .i64) (w64 ((w64 ((w64 ((w64 (v155 + (1 : Int))) + (1 : Int))) + (1 : Int))) + (1 : Int)))), (5, .val (.int .i64) v156)]) (by cases hv174; kernel_rfl)
    refine wp_reg tok (orc := o0) (fz := []) (l := [0, 1, 5]) (.inl rfl) h (by kernel_rfl) an fun a w h => ?_
    refine wp_reg tok (orc := o0) (fz := []) (l := [0, 1, 5]) (.inl rfl) h (by kernel_rfl) an fun a w h => ?_
    exact ⟨(v173, (w64 ((w64 ((w64 ((w64 ((w64 (v155 + (1 : Int))) + (1 : Int))) + (1 : Int))) + (1 : Int))) + (1 : Int))), (w64 (v156 + (1 : Int)))), hF, h.arrive (fz := []) (l := [0, 1, 5]) (.inl rfl) (by kernel_rfl)⟩
  · replace hF := of_f hb hF
    refine wp_exit ?_
    refine wp_reg_seq tok (orc := o0) (fz := []) (l := [0, 4]) (.inl rfl) h (by kernel_rfl) an fun a w h => ?_
    cases hF
    exact wp_ret (retM_ok tok h rfl (by kernel_rfl) (by kernel_rfl)).1

def f23.l20 (k : Nat) : Nat → ((List Int) × Int × Int) → Option (Int × (List Int))
  | 0, _ => none
  | m20 + 1, (v34, v35, v36) => if (decide ((v36 : Int) < (List.length v34 : Int))) then (if (0 ≤ v36 ∧ v36 < (List.length v34 : Int)) then ((f23.l20 k) m20 ((List.set v34 (Int.toNat v36) v35), (IntKind.i64.wrap (v35 + (1 : Int))), (IntKind.i64.wrap (v36 + (1 : Int))))) else none) else (some (v35, v34))
def f23 (k : Nat) (x0 : (List Int)) (x1 : Int) : Option (Int × (List Int)) := f23.l20 k k (x0, x1, (0 : Int))
theorem c23 (k : Nat) (x0 : (List Int)) (x1 : Int) (r : (Int × (List Int))) (hF : f23 k x0 x1 = some r) : PMut Try.prog 23 [⟨(.sl true 2 (.int .i64)), x0⟩, ⟨(.int .i64), x1⟩] [⟨(.int .i64), r.1⟩] (List.set [⟨(.sl true 2 (.int .i64)), x0⟩, ⟨(.int .i64), x1⟩] 0 ⟨(.sl true 2 (.int .i64)), r.2⟩) := by
  refine pmut_intro (j := 0) (fin := ⟨(.sl true 2 (.int .i64)), r.2⟩) Try.func23 rfl rfl (Nat.le_of_ble_eq_true rfl) (Nat.le_of_ble_eq_true rfl) (by kernel_rfl) ?_
  intro w0 Zi f0 v0 a w h
  rw [f23] at hF
  refine wp_reg_seq tok (orc := o0) (fz := []) (l := [0, 1]) (.inl rfl) h (by kernel_rfl) an fun a w h => ?_
  refine wp_seq ?_
  refine wp_reg_seq tok (orc := o0) (fz := []) (l := [0, 1, 5]) (.inl rfl) h (by kernel_rfl) an fun a w h => ?_
  refine wp_block ?_
  refine wp_loop_fuel (f23.l20 k) (fun ((v34, v35, v36) : ((List Int) × Int × Int)) => [(0, .val (.sl true 2 (.int .i64)) v34), (1, .val (.int .i64) v35), (5, .val (.int .i64) v36)]) (fun v h => by obtain ⟨v34, v35, v36⟩ := v; rw [f23.l20] at h; cases h) ?_ hF (h.arrive (fz := []) (l := [0, 1, 5]) (.inl rfl) (by kernel_rfl))
  intro m20 v a w hF h
  obtain ⟨v34, v35, v36⟩ := v
  rw [f23.l20] at hF
  refine wp_seq ?_
  refine wp_reg_seq tok (orc := o0) (fz := []) (l := [0, 1, 5, 9]) (.inl rfl) h (by kernel_rfl) an fun a w h => ?_
  refine wp_if h (b := (decide ((v36 : Int) < (List.length v34 : Int)))) (by kernel_rfl) (fun hb => ?_) (fun hb => ?_)
  · replace hF := of_t hb hF
    refine wp_skip ?_
    refine wp_seq <| wp_block ?_
    obtain ⟨hc38, hF⟩ := of_if hF
    refine wp_reg_seq tok (orc := o0) (fz := []) (l := [0, 1, 5]) (.inl rfl) h (by kernel_rfl) (ac hc38 an) fun a w h => ?_
    refine wp_reg tok (orc := o0) (fz := []) (l := [0, 1, 5]) (.inl rfl) h (by kernel_rfl) an fun a w h => ?_
    refine wp_reg tok (orc := o0) (fz := []) (l := [0, 1, 5]) (.inl rfl) h (by kernel_rfl) an fun a w h => ?_
    exact ⟨((List.set v34 (tZ v36) v35), (w64 (v35 + (1 : Int))), (w64 (v36 + (1 : Int)))), hF, h.arrive (fz := []) (l := [0, 1, 5]) (.inl rfl) (by kernel_rfl)⟩
  · replace hF := of_f hb hF
    refine wp_exit ?_
    refine wp_reg_seq tok (orc := o0) (fz := []) (l := [0, 4]) (.inl rfl) h (by kernel_rfl) an fun a w h => ?_
    cases hF
    exact wp_ret (retM_ok tok h rfl (by kernel_rfl) (by kernel_rfl)).1

def f44 (k : Nat) (x0 : (Bool × ((List Int) × (Int × Int)))) (x1 : Int) : Option (Int × (Bool × ((List Int) × (Int × Int)))) := (f23 k x0.2.1 x1).bind fun r1 => (some (r1.1, (x0.1, (r1.2, x0.2.2))))
theorem c44 (k : Nat) (x0 : (Bool × ((List Int) × (Int × Int)))) (x1 : Int) (r : (Int × (Bool × ((List Int) × (Int × Int))))) (hF : f44 k x0 x1 = some r) : PMut Try.prog 44 [⟨sh26, x0⟩, ⟨(.int .i64), x1⟩] [⟨(.int .i64), r.1⟩] (List.set [⟨sh26, x0⟩, ⟨(.int .i64), x1⟩] 0 ⟨sh26, r.2⟩) := by
  refine pmut_intro (j := 0) (fin := ⟨sh26, r.2⟩) Try.func44 rfl rfl (Nat.le_of_ble_eq_true rfl) (Nat.le_of_ble_eq_true rfl) (by kernel_rfl) ?_
  intro w0 Zi f0 v0 a w h
  rw [f44] at hF
  refine wp_reg_seq tok (orc := o0) (fz := []) (l := [0, 1, 2]) (.inl rfl) h (by kernel_rfl) an fun a w h => ?_
  obtain ⟨r1, hr2, hF⟩ := of_bind hF
  refine wp_reg_seq tok (orc := orcL [(8, [⟨.pt false 4294967295 (.sl true 2 (.int .i64)), some r1.2⟩, ⟨(.int .i64), r1.1⟩])]) (fz := []) (l := [0, 1, 2]) (.inl rfl) h (by kernel_rfl) (ac (c23 k x0.2.1 x1 r1 hr2) an) fun a w h => ?_
  refine wp_reg_seq tok (orc := o0) (fz := []) (l := [0, 2, 4]) (.inl rfl) h (by kernel_rfl) an fun a w h => ?_
  cases hF
  exact wp_ret (retMS_ok (d := 2) (t := 69) tok h rfl (by kernel_rfl) (by kernel_rfl)).1

def f30.l16 (k : Nat) (x0 : (List Int)) : Nat → (Int × Int) → Option Int
  | 0, _ => none
  | m16 + 1, (v27, v28) => if (decide ((v28 : Int) < (List.length x0 : Int))) then (if (0 ≤ v28 ∧ v28 < (List.length x0 : Int)) then (if (((List.getD x0 (Int.toNat v28) (0 : Int)) : Int) != v27) then (some (-1 : Int)) else ((f30.l16 k x0) m16 ((IntKind.i64.wrap (v27 + (1 : Int))), (IntKind.i64.wrap (v28 + (1 : Int)))))) else none) else (some v27)
def f30 (k : Nat) (x0 : (List Int)) (x1 : Int) : Option Int := f30.l16 k x0 k (x1, (0 : Int))
theorem c30 (k : Nat) (x0 : (List Int)) (x1 : Int) (r : Int) (hF : f30 k x0 x1 = some r) : PCall Try.prog 30 [⟨(.sl false 2 (.int .i64)), x0⟩, ⟨(.int .i64), x1⟩] [⟨(.int .i64), r⟩] := by
  refine pcall_intro Try.func30 rfl rfl (Nat.le_of_ble_eq_true rfl) ?_
  intro w0 Zi a w h
  rw [f30] at hF
  refine wp_reg_seq tok (orc := o0) (l := [0, 1]) nw h (by kernel_rfl) an fun a w h => ?_
  refine wp_seq ?_
  refine wp_reg_seq tok (orc := o0) (l := [0, 1, 5]) nw h (by kernel_rfl) an fun a w h => ?_
  refine wp_block ?_
  refine wp_loop_fuel (f30.l16 k x0) (fun ((v27, v28) : (Int × Int)) => [(0, .val (.sl false 2 (.int .i64)) x0), (1, .val (.int .i64) v27), (5, .val (.int .i64) v28)]) (fun v h => by obtain ⟨v27, v28⟩ := v; rw [f30.l16] at h; cases h) ?_ hF (h.arrive (l := [0, 1, 5]) nw (by kernel_rfl))
  intro m16 v a w hF h
  obtain ⟨v27, v28⟩ := v
  rw [f30.l16] at hF
  refine wp_seq ?_
  refine wp_reg_seq tok (orc := o0) (l := [0, 1, 5, 9]) nw h (by kernel_rfl) an fun a w h => ?_
  refine wp_if h (b := (decide ((v28 : Int) < (List.length x0 : Int)))) (by kernel_rfl) (fun hb => ?_) (fun hb => ?_)
  · replace hF := of_t hb hF
    refine wp_skip ?_
    refine wp_seq <| wp_block ?_
    refine wp_seq ?_
    obtain ⟨hc30, hF⟩ := of_if hF
    refine wp_reg_seq tok (orc := o0) (l := [0, 1, 5, 17]) nw h (by kernel_rfl) (ac hc30 an) fun a w h => ?_
    refine wp_if h (b := (((gD x0 (tZ v28) iO) : Int) != v27)) (by kernel_rfl) (fun hb => ?_) (fun hb => ?_)
    · replace hF := of_t hb hF
      refine wp_reg_seq tok (orc := o0) (l := [4]) nw h (by kernel_rfl) an fun a w h => ?_
      cases hF
      exact wp_ret (ret_okR tok h rfl (by kernel_rfl)).1
    · replace hF := of_f hb hF
      refine wp_skip ?_
      refine wp_reg tok (orc := o0) (l := [0, 1, 5]) nw h (by kernel_rfl) an fun a w h => ?_
      refine wp_reg tok (orc := o0) (l := [0, 1, 5]) nw h (by kernel_rfl) an fun a w h => ?_
      exact ⟨((w64 (v27 + (1 : Int))), (w64 (v28 + (1 : Int)))), hF, h.arrive (l := [0, 1, 5]) nw (by kernel_rfl)⟩
  · replace hF := of_f hb hF
    refine wp_exit ?_
    refine wp_reg_seq tok (orc := o0) (l := [4]) nw h (by kernel_rfl) an fun a w h => ?_
    cases hF
    exact wp_ret (ret_okR tok h rfl (by kernel_rfl)).1

def f45 (k : Nat) (x0 : (Bool × ((List Int) × (Int × Int)))) (x1 : Int) : Option Int := (f30 k x0.2.1 x1).bind fun r1 => (if (decide ((r1 : Int) < (0 : Int))) then (some (-1 : Int)) else (some r1))
theorem c45 (k : Nat) (x0 : (Bool × ((List Int) × (Int × Int)))) (x1 : Int) (r : Int) (hF : f45 k x0 x1 = some r) : PCall Try.prog 45 [⟨sh40, x0⟩, ⟨(.int .i64), x1⟩] [⟨(.int .i64), r⟩] := by
  refine pcall_intro Try.func45 rfl rfl (Nat.le_of_ble_eq_true rfl) ?_
  intro w0 Zi a w h
  rw [f45] at hF
  refine wp_reg_seq tok (orc := o0) (l := [1, 2]) nw h (by kernel_rfl) an fun a w h => ?_
  obtain ⟨r1, hr2, hF⟩ := of_bind hF
  refine wp_reg_seq tok (orc := orcL [(8, [⟨(.int .i64), r1⟩])]) (l := [1]) nw h (by kernel_rfl) (ac (c30 k x0.2.1 x1 r1 hr2) an) fun a w h => ?_
  refine wp_seq ?_
  refine wp_reg_seq tok (orc := o0) (l := [1, 10]) nw h (by kernel_rfl) an fun a w h => ?_
  refine wp_if h (b := (decide ((r1 : Int) < iO))) (by kernel_rfl) (fun hb => ?_) (fun hb => ?_)
  · replace hF := of_t hb hF
    refine wp_reg_seq tok (orc := o0) (l := [4]) nw h (by kernel_rfl) an fun a w h => ?_
    cases hF
    exact wp_ret (ret_okR tok h rfl (by kernel_rfl)).1
  · replace hF := of_f hb hF
    refine wp_skip ?_
    refine wp_reg_seq tok (orc := o0) (l := [4]) nw h (by kernel_rfl) an fun a w h => ?_
    cases hF
    exact wp_ret (ret_okR tok h rfl (by kernel_rfl)).1

def f9 (k : Nat) (x0 : ((List (Int × (Int × Int))) × ((List (Int × (Int × (Int × (Int × (Int × ByteArray)))))) × (List (Int × Int))))) (x1 : (List (Int × (Int × (ByteArray × (Int × Int)))))) (x2 : Int) (x3 : Int) (x4 : Int) : Option Bool := (f14 k x0 (1048576 : Int)).bind fun r1 => (if (decide ((r1 : Int) < (0 : Int))) then (some true) else ((f26 k x1 r1).bind fun r2 => (if (decide ((r2 : Int) < (0 : Int))) then (some true) else ((f16 k x0).bind fun r3 => ((f28 k x1).bind fun r4 => ((f48 k r3 r4 x2 x3 x4).bind fun r5 => ((f16 k x0).bind fun r6 => ((f28 k x1).bind fun r7 => ((f49 k r6 r7 x2 x3 x4).bind fun r8 => ((f43 k r8 r5).bind fun r9 => (if (!r9) then (some false) else ((f16 k x0).bind fun r10 => ((f20 k r6 r10).bind fun r11 => (if (!r11) then (some false) else ((f28 k x1).bind fun r12 => ((f19 k r7 r12).bind fun r13 => (if (!r13) then (some false) else ((f22 k r6 (1 : Int)).bind fun r14 => ((f24 k r7 r14.1).bind fun r15 => ((if ((decide ((r15.1 : Int) < (0 : Int))) = false) then f43 k r8 r5 else some default).bind fun r16 => (if (bif (decide ((r15.1 : Int) < (0 : Int))) then true else (!r16)) then (some false) else ((f44 k r8 (1 : Int)).bind fun r17 => ((f45 k r17.2 (1 : Int)).bind fun r18 => (if (decide ((r18 : Int) < (0 : Int))) then (some false) else (if ((r18 : Int) != r17.1) then (some false) else ((f16 k x0).bind fun r19 => ((f28 k x1).bind fun r20 => ((f49 k r19 r20 x2 x3 x4).bind fun r21 => ((f43 k r21 r5).bind fun r22 => (if (!r22) then (some false) else ((f45 k r17.2 (1 : Int)).bind fun r23 => (if (decide ((r23 : Int) < (0 : Int))) then (some false) else (if ((r23 : Int) != r17.1) then (some false) else (some true))))))))))))))))))))))))))))))))))
theorem c9 (k : Nat) (x0 : tG) (x1 : (List (Int × (Int × (ByteArray × (Int × Int)))))) (x2 : Int) (x3 : Int) (x4 : Int) (r : Bool) (hF : f9 k x0 x1 x2 x3 x4 = some r) : PCall Try.prog 9 [⟨sh4, x0⟩, ⟨sh6, x1⟩, ⟨(.int .i64), x2⟩, ⟨(.int .i64), x3⟩, ⟨(.int .i64), x4⟩] [⟨.bool, r⟩] := by
  refine pcall_intro Try.func9 rfl rfl (Nat.le_of_ble_eq_true rfl) ?_
  intro w0 Zi a w h
  rw [f9] at hF
  refine wp_reg_seq tok (orc := o0) (l := [1, 2, 3, 4, 5]) nw h (by kernel_rfl) an fun a w h => ?_
  refine wp_reg_seq tok (orc := o0) (l := [1, 2, 3, 4, 5, 11]) nw h (by kernel_rfl) an fun a w h => ?_
  obtain ⟨r1, hr46, hF⟩ := of_bind hF
  refine wp_reg_seq tok (orc := orcL [(22, [⟨(.int .i64), r1⟩])]) (l := [1, 2, 3, 4, 5, 11]) nw h (by kernel_rfl) (ac (c14 k x0 (1048576 : Int) r1 hr46) an) fun a w h => ?_
  refine wp_seq ?_
  refine wp_reg_seq tok (orc := o0) (l := [1, 2, 3, 4, 5, 11, 24]) nw h (by kernel_rfl) an fun a w h => ?_
  refine wp_if h (b := (decide ((r1 : Int) < iO))) (by kernel_rfl) (fun hb => ?_) (fun hb => ?_)
  · replace hF := of_t hb hF
    refine wp_reg_seq tok (orc := o0) (l := [10]) nw h (by kernel_rfl) an fun a w h => ?_
    cases hF
    exact wp_ret (ret_okR tok h rfl (by kernel_rfl)).1
  · replace hF := of_f hb hF
    refine wp_skip ?_
    obtain ⟨r2, hr45, hF⟩ := of_bind hF
    refine wp_reg_seq tok (orc := orcL [(27, [⟨(.int .i64), r2⟩])]) (l := [1, 2, 3, 4, 5, 11]) nw h (by kernel_rfl) (ac (c26 k x1 r1 r2 hr45) an) fun a w h => ?_
    refine wp_seq ?_
    refine wp_reg_seq tok (orc := o0) (l := [1, 2, 3, 4, 5, 29]) nw h (by kernel_rfl) an fun a w h => ?_
    refine wp_if h (b := (decide ((r2 : Int) < iO))) (by kernel_rfl) (fun hb => ?_) (fun hb => ?_)
    · replace hF := of_t hb hF
      refine wp_reg_seq tok (orc := o0) (l := [10]) nw h (by kernel_rfl) an fun a w h => ?_
      cases hF
      exact wp_ret (ret_okR tok h rfl (by kernel_rfl)).1
    · replace hF := of_f hb hF
      refine wp_skip ?_
      obtain ⟨r3, hr42, hF⟩ := of_bind hF
      obtain ⟨r4, hr43, hF⟩ := of_bind hF
      obtain ⟨r5, hr44, hF⟩ := of_bind hF
      refine wp_reg_seq tok (orc := orcL [(31, [⟨sh12, r3⟩]), (33, [⟨sh13, r4⟩]), (37, [⟨sh26, r5⟩])]) (l := [1, 2, 3, 4, 5, 12]) nw h (by kernel_rfl) (ac (c16 k x0 r3 hr42) (ac (c28 k x1 r4 hr43) (ac (c48 k r3 r4 x2 x3 x4 r5 hr44) an))) fun a w h => ?_
      obtain ⟨r6, hr41, hF⟩ := of_bind hF
      refine wp_reg_seq tok (orc := orcL [(39, [⟨sh12, r6⟩])]) (l := [1, 2, 3, 4, 5, 12, 13]) nw h (by kernel_rfl) (ac (c16 k x0 r6 hr41) an) fun a w h => ?_
      obtain ⟨r7, hr40, hF⟩ := of_bind hF
      refine wp_reg_seq tok (orc := orcL [(41, [⟨sh13, r7⟩])]) (l := [1, 2, 3, 4, 5, 12, 13, 14]) nw h (by kernel_rfl) (ac (c28 k x1 r7 hr40) an) fun a w h => ?_
      obtain ⟨r8, hr39, hF⟩ := of_bind hF
      refine wp_reg_seq tok (orc := orcL [(47, [⟨sh26, r8⟩])]) (l := [1, 2, 3, 4, 5, 12, 13, 14, 15]) nw h (by kernel_rfl) (ac (c49 k r6 r7 x2 x3 x4 r8 hr39) an) fun a w h => ?_
      refine wp_seq ?_
      obtain ⟨r9, hr38, hF⟩ := of_bind hF
      refine wp_reg_seq tok (orc := orcL [(50, [⟨.bool, r9⟩])]) (l := [1, 2, 3, 4, 5, 12, 13, 14, 15, 51]) nw h (by kernel_rfl) (ac (c43 k r8 r5 r9 hr38) an) fun a w h => ?_
      refine wp_if h (b := (!r9)) (by kernel_rfl) (fun hb => ?_) (fun hb => ?_)
      · replace hF := of_t hb hF
        refine wp_reg_seq tok (orc := o0) (l := [10]) nw h (by kernel_rfl) an fun a w h => ?_
        cases hF
        exact wp_ret (ret_okR tok h rfl (by kernel_rfl)).1
      · replace hF := of_f hb hF
        refine wp_skip ?_
        refine wp_seq ?_
        obtain ⟨r10, hr36, hF⟩ := of_bind hF
        obtain ⟨r11, hr37, hF⟩ := of_bind hF
        refine wp_regy_seq tok (orc := orcL [(54, [⟨sh12, r10⟩]), (55, [⟨.bool, r11⟩])]) (l := [1, 2, 3, 4, 5, 12, 13, 14, 15, 56]) ([], [], [], []) 5 nw h (by kernel_rfl) (by kernel_rfl) (ac (c16 k x0 r10 hr36) (ac (c20 k r6 r10 r11 hr37) an)) fun a w h => ?_
        refine wp_if h (b := (!r11)) (by kernel_rfl) (fun hb => ?_) (fun hb => ?_)
        · replace hF := of_t hb hF
          refine wp_reg_seq tok (orc := o0) (l := [10]) nw h (by kernel_rfl) an fun a w h => ?_
          cases hF
          exact wp_ret (ret_okR tok h rfl (by kernel_rfl)).1
        · replace hF := of_f hb hF
          refine wp_skip ?_
          refine wp_seq ?_
          obtain ⟨r12, hr34, hF⟩ := of_bind hF
          obtain ⟨r13, hr35, hF⟩ := of_bind hF
          refine wp_reg_seq tok (orc := orcL [(59, [⟨sh13, r12⟩]), (60, [⟨.bool, r13⟩])]) (l := [1, 2, 3, 4, 5, 12, 13, 14, 15, 61]) nw h (by kernel_rfl) (ac (c28 k x1 r12 hr34) (ac (c19 k r7 r12 r13 hr35) an)) fun a w h => ?_
          refine wp_if h (b := (!r13)) (by kernel_rfl) (fun hb => ?_) (fun hb => ?_)
          · replace hF := of_t hb hF
            refine wp_reg_seq tok (orc := o0) (l := [10]) nw h (by kernel_rfl) an fun a w h => ?_
            cases hF
            exact wp_ret (ret_okR tok h rfl (by kernel_rfl)).1
          · replace hF := of_f hb hF
            refine wp_skip ?_
            refine wp_reg_seq tok (orc := o0) (l := [1, 2, 3, 4, 5, 12, 13, 14, 15, 16]) nw h (by kernel_rfl) an fun a w h => ?_
            obtain ⟨r14, hr33, hF⟩ := of_bind hF
            refine wp_reg_seq tok (orc := orcL [(64, [⟨.pt false 4294967295 (.st (.pair (.sl true 176 (.st (.pair (.int .i64) (.st (.pair (.int .i64) (.int .i64)))))) (.pair (.sl true 110 (.st (.pair (.int .i64) (.pair (.int .i64) (.pair (.int .i64) (.pair (.int .i64) (.pair (.int .i64) .str))))))) (.sl true 167 (.st (.pair (.int .i64) (.int .i64))))))), some r14.2⟩, ⟨(.int .i64), r14.1⟩])]) (l := [1, 2, 3, 4, 5, 12, 14, 15, 16]) nw h (by kernel_rfl) (ac (c22 k r6 (1 : Int) r14 hr33) an) fun a w h => ?_
            obtain ⟨r15, hr32, hF⟩ := of_bind hF
            refine wp_reg_seq tok (orc := orcL [(67, [⟨.pt false 4294967295 (.sl true 114 (.st (.pair (.int .i64) (.pair (.int .i64) (.pair .str (.pair (.int .i64) (.int .i64))))))), some r15.2⟩, ⟨(.int .i64), r15.1⟩])]) (l := [1, 2, 3, 4, 5, 12, 15, 16]) nw h (by kernel_rfl) (ac (c24 k r7 r14.1 r15 hr32) an) fun a w h => ?_
            refine wp_seq ?_
            obtain ⟨r16, hr31, hF⟩ := of_bind hF
            refine wp_reg_seq tok (orc := orcL [(73, [⟨.bool, r16⟩])]) (l := [1, 2, 3, 4, 5, 12, 15, 75]) nw h (by kernel_rfl) (ac (fun (hg : ((decide ((r15.1 : Int) < iO)) = false)) => c43 k r8 r5 r16 (of_g hg hr31)) an) fun a w h => ?_
            refine wp_if h (b := (bif (decide ((r15.1 : Int) < iO)) then true else (!r16))) (by kernel_rfl) (fun hb => ?_) (fun hb => ?_)
            · replace hF := of_t hb hF
              refine wp_reg_seq tok (orc := o0) (l := [10]) nw h (by kernel_rfl) an fun a w h => ?_
              cases hF
              exact wp_ret (ret_okR tok h rfl (by kernel_rfl)).1
            · replace hF := of_f hb hF
              refine wp_skip ?_
              refine wp_reg_seq tok (orc := o0) (l := [1, 2, 3, 4, 5, 12, 15, 17]) nw h (by kernel_rfl) an fun a w h => ?_
              obtain ⟨r17, hr30, hF⟩ := of_bind hF
              refine wp_reg_seq tok (orc := orcL [(78, [⟨.pt false 4294967295 (.st (.pair .bool (.pair (.sl true 2 (.int .i64)) (.pair (.int .i64) (.int .i64))))), some r17.2⟩, ⟨(.int .i64), r17.1⟩])]) (l := [1, 2, 3, 4, 5, 12, 15, 17]) nw h (by kernel_rfl) (ac (c44 k r8 (1 : Int) r17 hr30) an) fun a w h => ?_
              refine wp_reg_seq tok (orc := o0) (l := [1, 2, 3, 4, 5, 12, 15, 17, 18]) nw h (by kernel_rfl) an fun a w h => ?_
              obtain ⟨r18, hr29, hF⟩ := of_bind hF
              refine wp_reg_seq tok (orc := orcL [(81, [⟨(.int .i64), r18⟩])]) (l := [1, 2, 3, 4, 5, 12, 15, 17, 18]) nw h (by kernel_rfl) (ac (c45 k r17.2 (1 : Int) r18 hr29) an) fun a w h => ?_
              refine wp_seq ?_
              refine wp_reg_seq tok (orc := o0) (l := [1, 2, 3, 4, 5, 12, 15, 17, 18, 83]) nw h (by kernel_rfl) an fun a w h => ?_
              refine wp_if h (b := (decide ((r18 : Int) < iO))) (by kernel_rfl) (fun hb => ?_) (fun hb => ?_)
              · replace hF := of_t hb hF
                refine wp_reg_seq tok (orc := o0) (l := [10]) nw h (by kernel_rfl) an fun a w h => ?_
                cases hF
                exact wp_ret (ret_okR tok h rfl (by kernel_rfl)).1
              · replace hF := of_f hb hF
                refine wp_skip ?_
                refine wp_seq ?_
                refine wp_reg_seq tok (orc := o0) (l := [1, 2, 3, 4, 5, 12, 15, 17, 86]) nw h (by kernel_rfl) an fun a w h => ?_
                refine wp_if h (b := ((r18 : Int) != r17.1)) (by kernel_rfl) (fun hb => ?_) (fun hb => ?_)
                · replace hF := of_t hb hF
                  refine wp_reg_seq tok (orc := o0) (l := [10]) nw h (by kernel_rfl) an fun a w h => ?_
                  cases hF
                  exact wp_ret (ret_okR tok h rfl (by kernel_rfl)).1
                · replace hF := of_f hb hF
                  refine wp_skip ?_
                  obtain ⟨r19, hr26, hF⟩ := of_bind hF
                  obtain ⟨r20, hr27, hF⟩ := of_bind hF
                  obtain ⟨r21, hr28, hF⟩ := of_bind hF
                  refine wp_reg_seq tok (orc := orcL [(88, [⟨sh12, r19⟩]), (90, [⟨sh13, r20⟩]), (94, [⟨sh26, r21⟩])]) (l := [12, 15, 17, 19]) nw h (by kernel_rfl) (ac (c16 k x0 r19 hr26) (ac (c28 k x1 r20 hr27) (ac (c49 k r19 r20 x2 x3 x4 r21 hr28) an))) fun a w h => ?_
                  refine wp_seq ?_
                  obtain ⟨r22, hr25, hF⟩ := of_bind hF
                  refine wp_reg_seq tok (orc := orcL [(97, [⟨.bool, r22⟩])]) (l := [15, 17, 98]) nw h (by kernel_rfl) (ac (c43 k r21 r5 r22 hr25) an) fun a w h => ?_
                  refine wp_if h (b := (!r22)) (by kernel_rfl) (fun hb => ?_) (fun hb => ?_)
                  · replace hF := of_t hb hF
                    refine wp_reg_seq tok (orc := o0) (l := [10]) nw h (by kernel_rfl) an fun a w h => ?_
                    cases hF
                    exact wp_ret (ret_okR tok h rfl (by kernel_rfl)).1
                  · replace hF := of_f hb hF
                    refine wp_skip ?_
                    refine wp_reg_seq tok (orc := o0) (l := [15, 17, 18]) nw h (by kernel_rfl) an fun a w h => ?_
                    obtain ⟨r23, hr24, hF⟩ := of_bind hF
                    refine wp_reg_seq tok (orc := orcL [(101, [⟨(.int .i64), r23⟩])]) (l := [17, 18]) nw h (by kernel_rfl) (ac (c45 k r17.2 (1 : Int) r23 hr24) an) fun a w h => ?_
                    refine wp_seq ?_
                    refine wp_reg_seq tok (orc := o0) (l := [17, 18, 103]) nw h (by kernel_rfl) an fun a w h => ?_
                    refine wp_if h (b := (decide ((r23 : Int) < iO))) (by kernel_rfl) (fun hb => ?_) (fun hb => ?_)
                    · replace hF := of_t hb hF
                      refine wp_reg_seq tok (orc := o0) (l := [10]) nw h (by kernel_rfl) an fun a w h => ?_
                      cases hF
                      exact wp_ret (ret_okR tok h rfl (by kernel_rfl)).1
                    · replace hF := of_f hb hF
                      refine wp_skip ?_
                      refine wp_seq ?_
                      refine wp_reg_seq tok (orc := o0) (l := [106]) nw h (by kernel_rfl) an fun a w h => ?_
                      refine wp_if h (b := ((r23 : Int) != r17.1)) (by kernel_rfl) (fun hb => ?_) (fun hb => ?_)
                      · replace hF := of_t hb hF
                        refine wp_reg_seq tok (orc := o0) (l := [10]) nw h (by kernel_rfl) an fun a w h => ?_
                        cases hF
                        exact wp_ret (ret_okR tok h rfl (by kernel_rfl)).1
                      · replace hF := of_f hb hF
                        refine wp_skip ?_
                        refine wp_reg_seq tok (orc := o0) (l := [10]) nw h (by kernel_rfl) an fun a w h => ?_
                        cases hF
                        exact wp_ret (ret_okR tok h rfl (by kernel_rfl)).1
end Go.Proofs.Ytchbpdnaodicaaa.V
