/-
  THE CONTRACTS OF SOME FUNCTIONS OF THIS SEAT, PRINTED BY A PROGRAM OF THIS PROJECT (wip/gen/vgen.py).
-/
import Derived.Test.YtdjadmdiehkfdaaProg
import Derived.Test.YtdjadmdiehkfdaaVmW
import Derived.Test.YtdjadmdiehkfdaaVmAn
import Derived.KernelRfl
import Derived.Test.YtdjadmdiehkfdaaR6vB
set_option linter.unusedVariables false
open Go Go.Vm Go.Proofs
namespace Go.Proofs.Ytdjadmdiehkfdaa.V
set_option maxRecDepth 100000
def f45.j143 (k:Nat) (v134:Int) (q90:((List Int) × (List Int) × ((List (Int × (Int × Int))) × Unit) × Int)→Option ((List Int) × (List Int))):((List Int) × (List Int) × ((List (Int × (Int × Int))) × Unit))→Option ((List Int) × (List Int))
 | (v140,v141,v142) => q90 (v140,v141,v142,(IntKind.i64.wrap (v134 + (1:Int))))
def f45.j982 (k:Nat) (v961:Int) (q869:((List Int) × (List Int) × ((List (Int × (Int × Int))) × Unit) × Int)→Option ((List Int) × (List Int))):((List Int) × (List Int) × ((List (Int × (Int × Int))) × Unit))→Option ((List Int) × (List Int))
 | (v979,v980,v981) => q869 (v979,v980,v981,(IntKind.i64.wrap (v961 + (1:Int))))
def f45.l869 (k:Nat) (x0:(((List (Int × (Int × Int))) × ((List (Int × (Int × (Int × (Int × (Int × ByteArray)))))) × (List (Int × Int)))) × ((List (List Int)) × ((List (List Int)) × (Option (List ((Int × Int) × Bool))))))) (r868:((Int × (Int × Int)) × ((List (Int × (Int × Int))) × Unit))) (v866:(List Bool)) (q577:((List Int) × (List Int) × (List Bool) × ((List (Int × (Int × Int))) × Unit))→Option ((List Int) × (List Int))):Nat → ((List Int) × (List Int) × ((List (Int × (Int × Int))) × Unit) × Int)→Option ((List Int) × (List Int))
 | 0,_ => none
 | m869+1,(v958,v959,v960,v961) => if (decide (v961 < (List.length (List.getD x0.2.2.1 (Int.toNat (List.getD x0.1.2.1 (Int.toNat r868.1.2.2) ((0:Int),((0:Int),((0:Int),((0:Int),((0:Int),(⟨#[]⟩:ByteArray))))))).1) ([]:(List Int))):Int))) then (if (0≤v961∧v961 < (List.length (List.getD x0.2.2.1 (Int.toNat (List.getD x0.1.2.1 (Int.toNat r868.1.2.2) ((0:Int),((0:Int),((0:Int),((0:Int),((0:Int),(⟨#[]⟩:ByteArray))))))).1) ([]:(List Int))):Int)) then (if (0 ≤ (List.getD (List.getD x0.2.2.1 (Int.toNat (List.getD x0.1.2.1 (Int.toNat r868.1.2.2) ((0:Int),((0:Int),((0:Int),((0:Int),((0:Int),(⟨#[]⟩:ByteArray))))))).1) ([]:(List Int))) (Int.toNat v961) (0:Int)) ∧ (List.getD (List.getD x0.2.2.1 (Int.toNat (List.getD x0.1.2.1 (Int.toNat r868.1.2.2) ((0:Int),((0:Int),((0:Int),((0:Int),((0:Int),(⟨#[]⟩:ByteArray))))))).1) ([]:(List Int))) (Int.toNat v961) (0:Int)) < (List.length (List.set v866 (Int.toNat r868.1.2.2) true):Int)) then (if (List.getD (List.set v866 (Int.toNat r868.1.2.2) true) (Int.toNat (List.getD (List.getD x0.2.2.1 (Int.toNat (List.getD x0.1.2.1 (Int.toNat r868.1.2.2) ((0:Int),((0:Int),((0:Int),((0:Int),((0:Int),(⟨#[]⟩:ByteArray))))))).1) ([]:(List Int))) (Int.toNat v961) (0:Int))) false) then (f45.j982 k v961 ((f45.l869 k x0 r868 v866 q577) m869) (v958,v959,v960)) else ((f66 k x0 (List.getD (List.getD x0.2.2.1 (Int.toNat (List.getD x0.1.2.1 (Int.toNat r868.1.2.2) ((0:Int),((0:Int),((0:Int),((0:Int),((0:Int),(⟨#[]⟩:ByteArray))))))).1) ([]:(List Int))) (Int.toNat v961) (0:Int)) r868.1.2.2).bind fun r983 => (if (decide (r983 < (0:Int))) then (f45.j982 k v961 ((f45.l869 k x0 r868 v866 q577) m869) (v958,v959,v960)) else (if (0 ≤ (List.getD (List.getD x0.2.2.1 (Int.toNat (List.getD x0.1.2.1 (Int.toNat r868.1.2.2) ((0:Int),((0:Int),((0:Int),((0:Int),((0:Int),(⟨#[]⟩:ByteArray))))))).1) ([]:(List Int))) (Int.toNat v961) (0:Int)) ∧ (List.getD (List.getD x0.2.2.1 (Int.toNat (List.getD x0.1.2.1 (Int.toNat r868.1.2.2) ((0:Int),((0:Int),((0:Int),((0:Int),((0:Int),(⟨#[]⟩:ByteArray))))))).1) ([]:(List Int))) (Int.toNat v961) (0:Int)) < (List.length x0.1.2.1:Int)) then (if (0 ≤ (List.getD (List.getD x0.2.2.1 (Int.toNat (List.getD x0.1.2.1 (Int.toNat r868.1.2.2) ((0:Int),((0:Int),((0:Int),((0:Int),((0:Int),(⟨#[]⟩:ByteArray))))))).1) ([]:(List Int))) (Int.toNat v961) (0:Int)) ∧ (List.getD (List.getD x0.2.2.1 (Int.toNat (List.getD x0.1.2.1 (Int.toNat r868.1.2.2) ((0:Int),((0:Int),((0:Int),((0:Int),((0:Int),(⟨#[]⟩:ByteArray))))))).1) ([]:(List Int))) (Int.toNat v961) (0:Int)) < (List.length v958:Int)) then (if (((decide (((List.getD v958 (Int.toNat (List.getD (List.getD x0.2.2.1 (Int.toNat (List.getD x0.1.2.1 (Int.toNat r868.1.2.2) ((0:Int),((0:Int),((0:Int),((0:Int),((0:Int),(⟨#[]⟩:ByteArray))))))).1) ([]:(List Int))) (Int.toNat v961) (0:Int))) (0:Int)):Int) < (0:Int)))=false) → (0 ≤ (List.getD (List.getD x0.2.2.1 (Int.toNat (List.getD x0.1.2.1 (Int.toNat r868.1.2.2) ((0:Int),((0:Int),((0:Int),((0:Int),((0:Int),(⟨#[]⟩:ByteArray))))))).1) ([]:(List Int))) (Int.toNat v961) (0:Int)) ∧ (List.getD (List.getD x0.2.2.1 (Int.toNat (List.getD x0.1.2.1 (Int.toNat r868.1.2.2) ((0:Int),((0:Int),((0:Int),((0:Int),((0:Int),(⟨#[]⟩:ByteArray))))))).1) ([]:(List Int))) (Int.toNat v961) (0:Int)) < (List.length v958:Int))) then (if (((bif (decide (((List.getD v958 (Int.toNat (List.getD (List.getD x0.2.2.1 (Int.toNat (List.getD x0.1.2.1 (Int.toNat r868.1.2.2) ((0:Int),((0:Int),((0:Int),((0:Int),((0:Int),(⟨#[]⟩:ByteArray))))))).1) ([]:(List Int))) (Int.toNat v961) (0:Int))) (0:Int)):Int) < (0:Int))) then true else (decide (((IntKind.i64.wrap ((IntKind.i64.wrap (r868.1.1+r983)) + (List.getD x0.1.2.1 (Int.toNat (List.getD (List.getD x0.2.2.1 (Int.toNat (List.getD x0.1.2.1 (Int.toNat r868.1.2.2) ((0:Int),((0:Int),((0:Int),((0:Int),((0:Int),(⟨#[]⟩:ByteArray))))))).1) ([]:(List Int))) (Int.toNat v961) (0:Int))) ((0:Int),((0:Int),((0:Int),((0:Int),((0:Int),(⟨#[]⟩:ByteArray))))))).2.2.2.1)):Int) < (List.getD v958 (Int.toNat (List.getD (List.getD x0.2.2.1 (Int.toNat (List.getD x0.1.2.1 (Int.toNat r868.1.2.2) ((0:Int),((0:Int),((0:Int),((0:Int),((0:Int),(⟨#[]⟩:ByteArray))))))).1) ([]:(List Int))) (Int.toNat v961) (0:Int))) (0:Int)))))=false) → (0 ≤ (List.getD (List.getD x0.2.2.1 (Int.toNat (List.getD x0.1.2.1 (Int.toNat r868.1.2.2) ((0:Int),((0:Int),((0:Int),((0:Int),((0:Int),(⟨#[]⟩:ByteArray))))))).1) ([]:(List Int))) (Int.toNat v961) (0:Int)) ∧ (List.getD (List.getD x0.2.2.1 (Int.toNat (List.getD x0.1.2.1 (Int.toNat r868.1.2.2) ((0:Int),((0:Int),((0:Int),((0:Int),((0:Int),(⟨#[]⟩:ByteArray))))))).1) ([]:(List Int))) (Int.toNat v961) (0:Int)) < (List.length v958:Int))) then (if ((((bif (decide (((List.getD v958 (Int.toNat (List.getD (List.getD x0.2.2.1 (Int.toNat (List.getD x0.1.2.1 (Int.toNat r868.1.2.2) ((0:Int),((0:Int),((0:Int),((0:Int),((0:Int),(⟨#[]⟩:ByteArray))))))).1) ([]:(List Int))) (Int.toNat v961) (0:Int))) (0:Int)):Int) < (0:Int))) then true else (decide (((IntKind.i64.wrap ((IntKind.i64.wrap (r868.1.1+r983)) + (List.getD x0.1.2.1 (Int.toNat (List.getD (List.getD x0.2.2.1 (Int.toNat (List.getD x0.1.2.1 (Int.toNat r868.1.2.2) ((0:Int),((0:Int),((0:Int),((0:Int),((0:Int),(⟨#[]⟩:ByteArray))))))).1) ([]:(List Int))) (Int.toNat v961) (0:Int))) ((0:Int),((0:Int),((0:Int),((0:Int),((0:Int),(⟨#[]⟩:ByteArray))))))).2.2.2.1)):Int) < (List.getD v958 (Int.toNat (List.getD (List.getD x0.2.2.1 (Int.toNat (List.getD x0.1.2.1 (Int.toNat r868.1.2.2) ((0:Int),((0:Int),((0:Int),((0:Int),((0:Int),(⟨#[]⟩:ByteArray))))))).1) ([]:(List Int))) (Int.toNat v961) (0:Int))) (0:Int)))))=false) ∧ ((((IntKind.i64.wrap ((IntKind.i64.wrap (r868.1.1+r983)) + (List.getD x0.1.2.1 (Int.toNat (List.getD (List.getD x0.2.2.1 (Int.toNat (List.getD x0.1.2.1 (Int.toNat r868.1.2.2) ((0:Int),((0:Int),((0:Int),((0:Int),((0:Int),(⟨#[]⟩:ByteArray))))))).1) ([]:(List Int))) (Int.toNat v961) (0:Int))) ((0:Int),((0:Int),((0:Int),((0:Int),((0:Int),(⟨#[]⟩:ByteArray))))))).2.2.2.1)):Int) == (List.getD v958 (Int.toNat (List.getD (List.getD x0.2.2.1 (Int.toNat (List.getD x0.1.2.1 (Int.toNat r868.1.2.2) ((0:Int),((0:Int),((0:Int),((0:Int),((0:Int),(⟨#[]⟩:ByteArray))))))).1) ([]:(List Int))) (Int.toNat v961) (0:Int))) (0:Int)))=true)) → (0 ≤ (List.getD (List.getD x0.2.2.1 (Int.toNat (List.getD x0.1.2.1 (Int.toNat r868.1.2.2) ((0:Int),((0:Int),((0:Int),((0:Int),((0:Int),(⟨#[]⟩:ByteArray))))))).1) ([]:(List Int))) (Int.toNat v961) (0:Int)) ∧ (List.getD (List.getD x0.2.2.1 (Int.toNat (List.getD x0.1.2.1 (Int.toNat r868.1.2.2) ((0:Int),((0:Int),((0:Int),((0:Int),((0:Int),(⟨#[]⟩:ByteArray))))))).1) ([]:(List Int))) (Int.toNat v961) (0:Int)) < (List.length v959:Int))) then ((some ((bif (bif (decide (((List.getD v958 (Int.toNat (List.getD (List.getD x0.2.2.1 (Int.toNat (List.getD x0.1.2.1 (Int.toNat r868.1.2.2) ((0:Int),((0:Int),((0:Int),((0:Int),((0:Int),(⟨#[]⟩:ByteArray))))))).1) ([]:(List Int))) (Int.toNat v961) (0:Int))) (0:Int)):Int) < (0:Int))) then true else (decide (((IntKind.i64.wrap ((IntKind.i64.wrap (r868.1.1+r983)) + (List.getD x0.1.2.1 (Int.toNat (List.getD (List.getD x0.2.2.1 (Int.toNat (List.getD x0.1.2.1 (Int.toNat r868.1.2.2) ((0:Int),((0:Int),((0:Int),((0:Int),((0:Int),(⟨#[]⟩:ByteArray))))))).1) ([]:(List Int))) (Int.toNat v961) (0:Int))) ((0:Int),((0:Int),((0:Int),((0:Int),((0:Int),(⟨#[]⟩:ByteArray))))))).2.2.2.1)):Int) < (List.getD v958 (Int.toNat (List.getD (List.getD x0.2.2.1 (Int.toNat (List.getD x0.1.2.1 (Int.toNat r868.1.2.2) ((0:Int),((0:Int),((0:Int),((0:Int),((0:Int),(⟨#[]⟩:ByteArray))))))).1) ([]:(List Int))) (Int.toNat v961) (0:Int))) (0:Int))))) then true else (bif (((IntKind.i64.wrap ((IntKind.i64.wrap (r868.1.1+r983)) + (List.getD x0.1.2.1 (Int.toNat (List.getD (List.getD x0.2.2.1 (Int.toNat (List.getD x0.1.2.1 (Int.toNat r868.1.2.2) ((0:Int),((0:Int),((0:Int),((0:Int),((0:Int),(⟨#[]⟩:ByteArray))))))).1) ([]:(List Int))) (Int.toNat v961) (0:Int))) ((0:Int),((0:Int),((0:Int),((0:Int),((0:Int),(⟨#[]⟩:ByteArray))))))).2.2.2.1)):Int) == (List.getD v958 (Int.toNat (List.getD (List.getD x0.2.2.1 (Int.toNat (List.getD x0.1.2.1 (Int.toNat r868.1.2.2) ((0:Int),((0:Int),((0:Int),((0:Int),((0:Int),(⟨#[]⟩:ByteArray))))))).1) ([]:(List Int))) (Int.toNat v961) (0:Int))) (0:Int))) then (decide (((IntKind.i64.wrap (r868.1.2.1 + (1:Int))):Int) < (List.getD v959 (Int.toNat (List.getD (List.getD x0.2.2.1 (Int.toNat (List.getD x0.1.2.1 (Int.toNat r868.1.2.2) ((0:Int),((0:Int),((0:Int),((0:Int),((0:Int),(⟨#[]⟩:ByteArray))))))).1) ([]:(List Int))) (Int.toNat v961) (0:Int))) (0:Int)))) else false)):Bool)).bind fun v984 => (if v984 then (if (0 ≤ (List.getD (List.getD x0.2.2.1 (Int.toNat (List.getD x0.1.2.1 (Int.toNat r868.1.2.2) ((0:Int),((0:Int),((0:Int),((0:Int),((0:Int),(⟨#[]⟩:ByteArray))))))).1) ([]:(List Int))) (Int.toNat v961) (0:Int)) ∧ (List.getD (List.getD x0.2.2.1 (Int.toNat (List.getD x0.1.2.1 (Int.toNat r868.1.2.2) ((0:Int),((0:Int),((0:Int),((0:Int),((0:Int),(⟨#[]⟩:ByteArray))))))).1) ([]:(List Int))) (Int.toNat v961) (0:Int)) < (List.length v958:Int)) then (if (0 ≤ (List.getD (List.getD x0.2.2.1 (Int.toNat (List.getD x0.1.2.1 (Int.toNat r868.1.2.2) ((0:Int),((0:Int),((0:Int),((0:Int),((0:Int),(⟨#[]⟩:ByteArray))))))).1) ([]:(List Int))) (Int.toNat v961) (0:Int)) ∧ (List.getD (List.getD x0.2.2.1 (Int.toNat (List.getD x0.1.2.1 (Int.toNat r868.1.2.2) ((0:Int),((0:Int),((0:Int),((0:Int),((0:Int),(⟨#[]⟩:ByteArray))))))).1) ([]:(List Int))) (Int.toNat v961) (0:Int)) < (List.length v959:Int)) then ((some ((List.set v958 (Int.toNat (List.getD (List.getD x0.2.2.1 (Int.toNat (List.getD x0.1.2.1 (Int.toNat r868.1.2.2) ((0:Int),((0:Int),((0:Int),((0:Int),((0:Int),(⟨#[]⟩:ByteArray))))))).1) ([]:(List Int))) (Int.toNat v961) (0:Int))) (IntKind.i64.wrap ((IntKind.i64.wrap (r868.1.1+r983)) + (List.getD x0.1.2.1 (Int.toNat (List.getD (List.getD x0.2.2.1 (Int.toNat (List.getD x0.1.2.1 (Int.toNat r868.1.2.2) ((0:Int),((0:Int),((0:Int),((0:Int),((0:Int),(⟨#[]⟩:ByteArray))))))).1) ([]:(List Int))) (Int.toNat v961) (0:Int))) ((0:Int),((0:Int),((0:Int),((0:Int),((0:Int),(⟨#[]⟩:ByteArray))))))).2.2.2.1))):(List Int))).bind fun v985 => ((f68 k v960 ((IntKind.i64.wrap ((IntKind.i64.wrap (r868.1.1+r983)) + (List.getD x0.1.2.1 (Int.toNat (List.getD (List.getD x0.2.2.1 (Int.toNat (List.getD x0.1.2.1 (Int.toNat r868.1.2.2) ((0:Int),((0:Int),((0:Int),((0:Int),((0:Int),(⟨#[]⟩:ByteArray))))))).1) ([]:(List Int))) (Int.toNat v961) (0:Int))) ((0:Int),((0:Int),((0:Int),((0:Int),((0:Int),(⟨#[]⟩:ByteArray))))))).2.2.2.1)),((IntKind.i64.wrap (r868.1.2.1 + (1:Int))),(List.getD (List.getD x0.2.2.1 (Int.toNat (List.getD x0.1.2.1 (Int.toNat r868.1.2.2) ((0:Int),((0:Int),((0:Int),((0:Int),((0:Int),(⟨#[]⟩:ByteArray))))))).1) ([]:(List Int))) (Int.toNat v961) (0:Int))))).bind fun r986 => (f45.j982 k v961 ((f45.l869 k x0 r868 v866 q577) m869) (v985,(List.set v959 (Int.toNat (List.getD (List.getD x0.2.2.1 (Int.toNat (List.getD x0.1.2.1 (Int.toNat r868.1.2.2) ((0:Int),((0:Int),((0:Int),((0:Int),((0:Int),(⟨#[]⟩:ByteArray))))))).1) ([]:(List Int))) (Int.toNat v961) (0:Int))) (IntKind.i64.wrap (r868.1.2.1 + (1:Int)))),r986)))) else none) else none) else (f45.j982 k v961 ((f45.l869 k x0 r868 v866 q577) m869) (v958,v959,v960)))) else none) else none) else none) else none) else none)))) else none) else none) else (q577 (v958,v959,(List.set v866 (Int.toNat r868.1.2.2) true),v960))
def f45.l577 (k:Nat) (x0:(((List (Int × (Int × Int))) × ((List (Int × (Int × (Int × (Int × (Int × ByteArray)))))) × (List (Int × Int)))) × ((List (List Int)) × ((List (List Int)) × (Option (List ((Int × Int) × Bool))))))):Nat → ((List Int) × (List Int) × (List Bool) × ((List (Int × (Int × Int))) × Unit))→Option ((List Int) × (List Int))
 | 0,_ => none
 | m577+1,(v864,v865,v866,v867) => if (decide (((List.length v867.1:Int):Int) > (0:Int))) then ((f69 k v867).bind fun r868 => (if (0≤r868.1.2.2∧r868.1.2.2 < (List.length v866:Int)) then (if (List.getD v866 (Int.toNat r868.1.2.2) false) then ((f45.l577 k x0) m577 (v864,v865,v866,r868.2)) else (if (0≤r868.1.2.2∧r868.1.2.2 < (List.length v866:Int)) then (if (0≤r868.1.2.2∧r868.1.2.2 < (List.length x0.1.2.1:Int)) then (if (0 ≤ (List.getD x0.1.2.1 (Int.toNat r868.1.2.2) ((0:Int),((0:Int),((0:Int),((0:Int),((0:Int),(⟨#[]⟩:ByteArray))))))).1 ∧ (List.getD x0.1.2.1 (Int.toNat r868.1.2.2) ((0:Int),((0:Int),((0:Int),((0:Int),((0:Int),(⟨#[]⟩:ByteArray))))))).1 < (List.length x0.2.2.1:Int)) then (f45.l869 k x0 r868 v866 ((f45.l577 k x0) m577) k (v864,v865,r868.2,(0:Int))) else none) else none) else none)) else none)) else (some (v864,v865))
def f45.l90 (k:Nat) (x0:(((List (Int × (Int × Int))) × ((List (Int × (Int × (Int × (Int × (Int × ByteArray)))))) × (List (Int × Int)))) × ((List (List Int)) × ((List (List Int)) × (Option (List ((Int × Int) × Bool))))))) (x1:Int):Nat → ((List Int) × (List Int) × ((List (Int × (Int × Int))) × Unit) × Int)→Option ((List Int) × (List Int))
 | 0,_ => none
 | m90+1,(v131,v132,v133,v134) => if (decide (v134 < (List.length x0.1.2.1:Int))) then (if (0≤v134∧v134 < (List.length x0.1.2.1:Int)) then (if (((List.getD x0.1.2.1 (Int.toNat v134) ((0:Int),((0:Int),((0:Int),((0:Int),((0:Int),(⟨#[]⟩:ByteArray))))))).2.1:Int) == x1) then (if (0≤v134∧v134 < (List.length v131:Int)) then (if (0≤v134∧v134 < (List.length v132:Int)) then ((f68 k v133 ((List.getD x0.1.2.1 (Int.toNat v134) ((0:Int),((0:Int),((0:Int),((0:Int),((0:Int),(⟨#[]⟩:ByteArray))))))).2.2.2.1,((1:Int),v134))).bind fun r144 => (f45.j143 k v134 ((f45.l90 k x0 x1) m90) ((List.set v131 (Int.toNat v134) (List.getD x0.1.2.1 (Int.toNat v134) ((0:Int),((0:Int),((0:Int),((0:Int),((0:Int),(⟨#[]⟩:ByteArray))))))).2.2.2.1),(List.set v132 (Int.toNat v134) (1:Int)),r144))) else none) else none) else (f45.j143 k v134 ((f45.l90 k x0 x1) m90) (v131,v132,v133))) else none) else (f45.l577 k x0 k (v131,v132,(List.replicate (Int.toNat (List.length x0.1.2.1:Int)) false),v133))
def f45.l16 (k:Nat) (x0:(((List (Int × (Int × Int))) × ((List (Int × (Int × (Int × (Int × (Int × ByteArray)))))) × (List (Int × Int)))) × ((List (List Int)) × ((List (List Int)) × (Option (List ((Int × Int) × Bool))))))) (x1:Int):Nat → ((List Int) × Int)→Option ((List Int) × (List Int))
 | 0,_ => none
 | m16+1,(v27,v28) => if (decide (v28 < (List.length (List.replicate (Int.toNat (List.length x0.1.2.1:Int)) (0:Int)):Int))) then (if (0≤v28∧v28 < (List.length v27:Int)) then ((f45.l16 k x0 x1) m16 ((List.set v27 (Int.toNat v28) (-1:Int)),(IntKind.i64.wrap (v28 + (1:Int))))) else none) else (f45.l90 k x0 x1 k (v27,(List.replicate (Int.toNat (List.length x0.1.2.1:Int)) (0:Int)),(([]:(List (Int × (Int × Int)))),()),(0:Int)))
def f45 (k:Nat) (x0:(((List (Int × (Int × Int))) × ((List (Int × (Int × (Int × (Int × (Int × ByteArray)))))) × (List (Int × Int)))) × ((List (List Int)) × ((List (List Int)) × (Option (List ((Int × Int) × Bool))))))) (x1:Int):Option ((List Int) × (List Int)):=if (0 ≤ (List.length x0.1.2.1:Int)∧Int.toNat (List.length x0.1.2.1:Int)*8≤140737488355328) then (if (0 ≤ (List.length x0.1.2.1:Int)∧Int.toNat (List.length x0.1.2.1:Int)*8≤140737488355328) then (if (0 ≤ (List.length x0.1.2.1:Int)∧Int.toNat (List.length x0.1.2.1:Int)*1≤140737488355328) then (f45.l16 k x0 x1 k ((List.replicate (Int.toNat (List.length x0.1.2.1:Int)) (0:Int)),(0:Int))) else none) else none) else none
theorem c45 (k:Nat) (x0:tN) (x1:Int) (r:((List Int) × (List Int))) (hF:f45 k x0 x1=some r):PCall Try.prog 45 [⟨sh32,some x0⟩,⟨iS,x1⟩] [⟨(.sl true 2 iS),r.1⟩,⟨(.sl true 2 iS),r.2⟩]:=by
 refine pcall_intro Try.func45 rfl rfl (Nat.le_of_ble_eq_true rfl) ?_
 intro w0 Zi a w h
 rw [f45] at hF
 refine zs [0,1] h an fun a w h => ?_
 refine zs [0,1,6] h an fun a w h => ?_
 obtain ⟨hc1005,hF⟩:=of_if hF
 obtain ⟨hc1006,hF⟩:=of_if hF
 obtain ⟨hc1007,hF⟩:=of_if hF
 refine wp_regy_seq tok (orc:=o0) (l:=[0,1,7,8,9]) ([],[(6,[27]),(7,[29])],[],[(2,[6]),(3,[28]),(4,[6]),(5,[30])]) 8 nw h (by kernel_rfl) (by kernel_rfl) (ac hc1005 (ac hc1006 (ac hc1007 an))) fun a w h => ?_
 refine wp_seq ?_
 refine zs [0,1,7,8,9,33,34] h an fun a w h => ?_
 refine wp_block ?_
 refine wp_loop_fuel (f45.l16 k x0 x1) (fun ((v27,v28):((List Int) × Int)) => [(0,.val sh32 (some x0)),(1,.val iS x1),(7,.val (.sl true 2 iS) v27),(8,.val (.sl true 2 iS) (List.replicate (tZ (List.length x0.1.2.1:Int)) iO)),(9,.val (.sl true 4 .bool) (List.replicate (tZ (List.length x0.1.2.1:Int)) false)),(33,.val iS (List.length (List.replicate (tZ (List.length x0.1.2.1:Int)) iO):Int)),(34,.val iS v28)]) (fun v h => by obtain ⟨v27,v28⟩:=v; rw [f45.l16] at h; cases h) ?_ hF (ar h [0,1,7,8,9,33,34])
 intro m16 v a w hF h
 obtain ⟨v27,v28⟩:=v
 rw [f45.l16] at hF
 refine zs [0,1,7,8,9,33,34,35] h an fun a w h => ?_
 refine wp_seq <| zi h hF (fun hF => ?_) (fun hF => ?_)
 ·refine wp_skip ?_
  refine wp_seq <| wp_block ?_
  refine zs [0,1,7,8,9,10,33,34] h an fun a w h => ?_
  obtain ⟨hc30,hF⟩:=of_if hF
  refine zt [0,1,7,8,9,33,34] h (ac hc30 an) fun a w h => ?_
  refine zt [0,1,7,8,9,33,34] h an fun a w h => ?_
  exact ⟨((List.set v27 (tZ v28) (-1:Int)),(w64 (v28 + (1:Int)))),hF,ar h [0,1,7,8,9,33,34]⟩
 ·refine wp_exit ?_
  refine zs [0,1,7,8,9,11] h an fun a w h => ?_
  refine wp_seq ?_
  refine zs [0,1,7,8,9,11,47,48,49] h an fun a w h => ?_
  refine wp_block ?_
  refine wp_loop_fuel (f45.l90 k x0 x1) (fun ((v131,v132,v133,v134):((List Int) × (List Int) × ((List (Int × (Int × Int))) × Unit) × Int)) => [(0,.val sh32 (some x0)),(1,.val iS x1),(7,.val (.sl true 2 iS) v131),(8,.val (.sl true 2 iS) v132),(9,.val (.sl true 4 .bool) (List.replicate (tZ (List.length x0.1.2.1:Int)) false)),(11,.val sh34 (some v133)),(47,.val sh30 x0.1.2.1),(48,.val iS (List.length x0.1.2.1:Int)),(49,.val iS v134)]) (fun v h => by obtain ⟨v131,v132,v133,v134⟩:=v; rw [f45.l90] at h; cases h) ?_ hF (ar h [0,1,7,8,9,11,47,48,49])
  intro m90 v a w hF h
  obtain ⟨v131,v132,v133,v134⟩:=v
  rw [f45.l90] at hF
  refine zs [0,1,7,8,9,11,47,48,49,50] h an fun a w h => ?_
  refine wp_seq <| zi h hF (fun hF => ?_) (fun hF => ?_)
  ·refine wp_skip ?_
   refine wp_mid (fun a w => ∃ v:((List Int) × (List Int) × ((List (Int × (Int × Int))) × Unit)),f45.j143 k v134 ((f45.l90 k x0 x1) m90) v=some r∧Rel w0 (fun _ => False) Zi Try.f45.ntmps ((fun ((v140,v141,v142):((List Int) × (List Int) × ((List (Int × (Int × Int))) × Unit))) => ([(0,.val sh32 (some x0)),(1,.val iS x1),(7,.val (.sl true 2 iS) v140),(8,.val (.sl true 2 iS) v141),(9,.val (.sl true 4 .bool) (List.replicate (tZ (List.length x0.1.2.1:Int)) false)),(11,.val sh34 (some v142)),(47,.val sh30 x0.1.2.1),(48,.val iS (List.length x0.1.2.1:Int)),(49,.val iS v134)]:SS)) v) a w) ?_ ?_
   ·
    refine wp_block ?_
    obtain ⟨hc148,hF⟩:=of_if hF
    refine zs [0,1,7,8,9,11,12,13,47,48,49] h (ac hc148 an) fun a w h => ?_
    refine zs [0,1,7,8,9,11,12,13,47,48,49,57] h an fun a w h => ?_
    refine zi h hF (fun hF => ?_) (fun hF => ?_)
    ·obtain ⟨hc146,hF⟩:=of_if hF
     obtain ⟨hc147,hF⟩:=of_if hF
     refine zs [0,1,7,8,9,11,12,13,47,48,49] h (ac hc146 (ac hc147 an)) fun a w h => ?_
     obtain ⟨r144,hr145,hF⟩:=of_bind hF
     refine zd (orcL [(71,[⟨.pt false 4294967295 (.pt true 109 (.st (.pair (.sl true 112 (.st (.pair iS (.pair iS iS)))) .unit))),some (some r144)⟩])]) [0,1,7,8,9,11,47,48,49] h (ac (c68 k v133 ((gD x0.1.2.1 (tZ v134) zR).2.2.2.1,((1:Int),v134)) r144 hr145) an) fun a w h => ?_
     exact ⟨((List.set v131 (tZ v134) (gD x0.1.2.1 (tZ v134) zR).2.2.2.1),(List.set v132 (tZ v134) (1:Int)),r144),hF,ar h [0,1,7,8,9,11,47,48,49]⟩
    ·refine wp_skip ?_
     exact ⟨(v131,v132,v133),hF,ar h [0,1,7,8,9,11,47,48,49]⟩
   ·rintro a w ⟨v,hF,h⟩
    obtain ⟨v140,v141,v142⟩:=v
    rw [f45.j143] at hF
    refine zt [0,1,7,8,9,11,47,48,49] h an fun a w h => ?_
    exact ⟨(v140,v141,v142,(w64 (v134 + (1:Int)))),hF,ar h [0,1,7,8,9,11,47,48,49]⟩
  ·refine wp_exit ?_
   refine wp_seq <| wp_block ?_
   refine wp_loop_fuel (f45.l577 k x0) (fun ((v864,v865,v866,v867):((List Int) × (List Int) × (List Bool) × ((List (Int × (Int × Int))) × Unit))) => [(0,.val sh32 (some x0)),(7,.val (.sl true 2 iS) v864),(8,.val (.sl true 2 iS) v865),(9,.val (.sl true 4 .bool) v866),(11,.val sh34 (some v867))]) (fun v h => by obtain ⟨v864,v865,v866,v867⟩:=v; rw [f45.l577] at h; cases h) ?_ hF (ar h [0,7,8,9,11])
   intro m577 v a w hF h
   obtain ⟨v864,v865,v866,v867⟩:=v
   rw [f45.l577] at hF
   refine wp_seq ?_
   refine zs [0,7,8,9,11,78] h an fun a w h => ?_
   refine zi h hF (fun hF => ?_) (fun hF => ?_)
   ·refine wp_skip ?_
    refine wp_block ?_
    obtain ⟨r868,hr1004,hF⟩:=of_bind hF
    refine zc (orcL [(80,[⟨.pt false 4294967295 (.pt true 109 (.st (.pair (.sl true 112 (.st (.pair iS (.pair iS iS)))) .unit))),some (some r868.2)⟩,⟨sh33,r868.1⟩])]) [0,7,8,9,11,14] h (ac (c69 k v867 r868 hr1004) an) fun a w h => ?_
    refine wp_seq ?_
    obtain ⟨hc1003,hF⟩:=of_if hF
    refine zs [0,7,8,9,11,14,85] h (ac hc1003 an) fun a w h => ?_
    refine zi h hF (fun hF => ?_) (fun hF => ?_)
    ·refine wp_exit ?_
     exact ⟨(v864,v865,v866,r868.2),hF,ar h [0,7,8,9,11]⟩
    ·refine wp_skip ?_
     obtain ⟨hc1002,hF⟩:=of_if hF
     refine zs [0,7,8,9,11,14] h (ac hc1002 an) fun a w h => ?_
     obtain ⟨hc1000,hF⟩:=of_if hF
     obtain ⟨hc1001,hF⟩:=of_if hF
     refine wp_regy_seq tok (orc:=o0) (l:=[0,7,8,9,11,14,105,106,107]) ([],[],[],[]) 18 nw h (by kernel_rfl) (by kernel_rfl) (ac hc1000 (ac hc1001 an)) fun a w h => ?_
     refine wp_block ?_
     refine wp_loop_fuel (f45.l869 k x0 r868 v866 ((f45.l577 k x0) m577)) (fun ((v958,v959,v960,v961):((List Int) × (List Int) × ((List (Int × (Int × Int))) × Unit) × Int)) => [(0,.val sh32 (some x0)),(7,.val (.sl true 2 iS) v958),(8,.val (.sl true 2 iS) v959),(9,.val (.sl true 4 .bool) (List.set v866 (tZ r868.1.2.2) true)),(11,.val sh34 (some v960)),(14,.val sh35 (some r868.1)),(105,.val (.sl false 2 iS) (gD x0.2.2.1 (tZ (gD x0.1.2.1 (tZ r868.1.2.2) zR).1) lO)),(106,.val iS (List.length (gD x0.2.2.1 (tZ (gD x0.1.2.1 (tZ r868.1.2.2) zR).1) lO):Int)),(107,.val iS v961)]) (fun v h => by obtain ⟨v958,v959,v960,v961⟩:=v; rw [f45.l869] at h; cases h) ?_ hF (ar h [0,7,8,9,11,14,105,106,107])
     intro m869 v a w hF h
     obtain ⟨v958,v959,v960,v961⟩:=v
     rw [f45.l869] at hF
     refine zs [0,7,8,9,11,14,105,106,107,108] h an fun a w h => ?_
     refine wp_seq <| zi h hF (fun hF => ?_) (fun hF => ?_)
     ·refine wp_skip ?_
      refine wp_mid (fun a w => ∃ v:((List Int) × (List Int) × ((List (Int × (Int × Int))) × Unit)),f45.j982 k v961 ((f45.l869 k x0 r868 v866 ((f45.l577 k x0) m577)) m869) v=some r∧Rel w0 (fun _ => False) Zi Try.f45.ntmps ((fun ((v979,v980,v981):((List Int) × (List Int) × ((List (Int × (Int × Int))) × Unit))) => ([(0,.val sh32 (some x0)),(7,.val (.sl true 2 iS) v979),(8,.val (.sl true 2 iS) v980),(9,.val (.sl true 4 .bool) (List.set v866 (tZ r868.1.2.2) true)),(11,.val sh34 (some v981)),(14,.val sh35 (some r868.1)),(105,.val (.sl false 2 iS) (gD x0.2.2.1 (tZ (gD x0.1.2.1 (tZ r868.1.2.2) zR).1) lO)),(106,.val iS (List.length (gD x0.2.2.1 (tZ (gD x0.1.2.1 (tZ r868.1.2.2) zR).1) lO):Int)),(107,.val iS v961)]:SS)) v) a w) ?_ ?_
      ·
       refine wp_block ?_
       obtain ⟨hc999,hF⟩:=of_if hF
       refine zs [0,7,8,9,11,14,16,105,106,107] h (ac hc999 an) fun a w h => ?_
       refine wp_seq ?_
       obtain ⟨hc998,hF⟩:=of_if hF
       refine zs [0,7,8,9,11,14,16,105,106,107,114] h (ac hc998 an) fun a w h => ?_
       refine zi h hF (fun hF => ?_) (fun hF => ?_)
       ·refine wp_exit ?_
        exact ⟨(v958,v959,v960),hF,ar h [0,7,8,9,11,14,105,106,107]⟩
       ·refine wp_skip ?_
        obtain ⟨r983,hr997,hF⟩:=of_bind hF
        refine zc (orcL [(119,[⟨iS,r983⟩])]) [0,7,8,9,11,14,16,17,105,106,107] h (ac (c66 k x0 (gD (gD x0.2.2.1 (tZ (gD x0.1.2.1 (tZ r868.1.2.2) zR).1) lO) (tZ v961) iO) r868.1.2.2 r983 hr997) an) fun a w h => ?_
        refine wp_seq ?_
        refine zs [0,7,8,9,11,14,16,17,105,106,107,121] h an fun a w h => ?_
        refine zi h hF (fun hF => ?_) (fun hF => ?_)
        ·refine wp_exit ?_
         exact ⟨(v958,v959,v960),hF,ar h [0,7,8,9,11,14,105,106,107]⟩
        ·refine wp_skip ?_
         obtain ⟨hc996,hF⟩:=of_if hF
         refine wp_regy_seq tok (orc:=o0) (l:=[0,7,8,9,11,14,16,18,19,105,106,107]) ([],[],[],[]) 19 nw h (by kernel_rfl) (by kernel_rfl) (ac hc996 an) fun a w h => ?_
         obtain ⟨hc992,hF⟩:=of_if hF
         obtain ⟨hc993,hF⟩:=of_if hF
         obtain ⟨hc994,hF⟩:=of_if hF
         obtain ⟨hc995,hF⟩:=of_if hF
         refine zs [0,7,8,9,11,14,16,18,19,105,106,107,167] h (ac hc992 (ac hc993 (ac hc994 (ac hc995 an)))) fun a w h => ?_
         obtain ⟨v984,hv991,hF⟩:=of_bind hF
         replace h:=h.cast (S':=[(0,.val sh32 (some x0)),(7,.val (.sl true 2 iS) v958),(8,.val (.sl true 2 iS) v959),(9,.val (.sl true 4 .bool) (List.set v866 (tZ r868.1.2.2) true)),(11,.val sh34 (some v960)),(14,.val sh35 (some r868.1)),(16,.val iS (gD (gD x0.2.2.1 (tZ (gD x0.1.2.1 (tZ r868.1.2.2) zR).1) lO) (tZ v961) iO)),(18,.val iS (w64 ((w64 (r868.1.1+r983)) + (gD x0.1.2.1 (tZ (gD (gD x0.2.2.1 (tZ (gD x0.1.2.1 (tZ r868.1.2.2) zR).1) lO) (tZ v961) iO)) zR).2.2.2.1))),(19,.val iS (w64 (r868.1.2.1 + (1:Int)))),(105,.val (.sl false 2 iS) (gD x0.2.2.1 (tZ (gD x0.1.2.1 (tZ r868.1.2.2) zR).1) lO)),(106,.val iS (List.length (gD x0.2.2.1 (tZ (gD x0.1.2.1 (tZ r868.1.2.2) zR).1) lO):Int)),(107,.val iS v961),(167,.val .bool v984)]) (by cases hv991; kernel_rfl)
         refine zi h hF (fun hF => ?_) (fun hF => ?_)
         ·obtain ⟨hc989,hF⟩:=of_if hF
          obtain ⟨hc990,hF⟩:=of_if hF
          refine zs [0,7,8,9,11,14,16,18,19,105,106,107] h (ac hc989 (ac hc990 an)) fun a w h => ?_
          obtain ⟨v985,hv988,hF⟩:=of_bind hF
          replace h:=h.cast (S':=[(0,.val sh32 (some x0)),(7,.val (.sl true 2 iS) v985),(8,.val (.sl true 2 iS) (List.set v959 (tZ (gD (gD x0.2.2.1 (tZ (gD x0.1.2.1 (tZ r868.1.2.2) zR).1) lO) (tZ v961) iO)) (w64 (r868.1.2.1 + (1:Int))))),(9,.val (.sl true 4 .bool) (List.set v866 (tZ r868.1.2.2) true)),(11,.val sh34 (some v960)),(14,.val sh35 (some r868.1)),(16,.val iS (gD (gD x0.2.2.1 (tZ (gD x0.1.2.1 (tZ r868.1.2.2) zR).1) lO) (tZ v961) iO)),(18,.val iS (w64 ((w64 (r868.1.1+r983)) + (gD x0.1.2.1 (tZ (gD (gD x0.2.2.1 (tZ (gD x0.1.2.1 (tZ r868.1.2.2) zR).1) lO) (tZ v961) iO)) zR).2.2.2.1))),(19,.val iS (w64 (r868.1.2.1 + (1:Int)))),(105,.val (.sl false 2 iS) (gD x0.2.2.1 (tZ (gD x0.1.2.1 (tZ r868.1.2.2) zR).1) lO)),(106,.val iS (List.length (gD x0.2.2.1 (tZ (gD x0.1.2.1 (tZ r868.1.2.2) zR).1) lO):Int)),(107,.val iS v961)]) (by cases hv988; kernel_rfl)
          obtain ⟨r986,hr987,hF⟩:=of_bind hF
          refine zd (orcL [(181,[⟨.pt false 4294967295 (.pt true 109 (.st (.pair (.sl true 112 (.st (.pair iS (.pair iS iS)))) .unit))),some (some r986)⟩])]) [0,7,8,9,11,14,105,106,107] h (ac (c68 k v960 ((w64 ((w64 (r868.1.1+r983)) + (gD x0.1.2.1 (tZ (gD (gD x0.2.2.1 (tZ (gD x0.1.2.1 (tZ r868.1.2.2) zR).1) lO) (tZ v961) iO)) zR).2.2.2.1)),((w64 (r868.1.2.1 + (1:Int))),(gD (gD x0.2.2.1 (tZ (gD x0.1.2.1 (tZ r868.1.2.2) zR).1) lO) (tZ v961) iO))) r986 hr987) an) fun a w h => ?_
          exact ⟨(v985,(List.set v959 (tZ (gD (gD x0.2.2.1 (tZ (gD x0.1.2.1 (tZ r868.1.2.2) zR).1) lO) (tZ v961) iO)) (w64 (r868.1.2.1 + (1:Int)))),r986),hF,ar h [0,7,8,9,11,14,105,106,107]⟩
         ·refine wp_skip ?_
          exact ⟨(v958,v959,v960),hF,ar h [0,7,8,9,11,14,105,106,107]⟩
      ·rintro a w ⟨v,hF,h⟩
       obtain ⟨v979,v980,v981⟩:=v
       rw [f45.j982] at hF
       refine zt [0,7,8,9,11,14,105,106,107] h an fun a w h => ?_
       exact ⟨(v979,v980,v981,(w64 (v961 + (1:Int)))),hF,ar h [0,7,8,9,11,14,105,106,107]⟩
     ·refine wp_exit ?_
      exact ⟨(v958,v959,(List.set v866 (tZ r868.1.2.2) true),v960),hF,ar h [0,7,8,9,11]⟩
   ·refine wp_exit ?_
    refine zs [4,5,7,8] h an fun a w h => ?_
    cases hF
    exact wp_ret (ret_okR tok h rfl (by kernel_rfl)).1
def f64 (k:Nat) (x0:Int):Option Int:=some (0:Int)
theorem c64 (k:Nat) (x0:Int) (r:Int) (hF:f64 k x0=some r):PCall Try.prog 64 [⟨iS,x0⟩] [⟨iS,r⟩]:=by
 refine pcall_intro Try.func64 rfl rfl (Nat.le_of_ble_eq_true rfl) ?_
 intro w0 Zi a w h
 rw [f64] at hF
 refine zs [] h an fun a w h => ?_
 refine zs [2] h an fun a w h => ?_
 cases hF
 exact wp_ret (ret_okR tok h rfl (by kernel_rfl)).1
def f63.j130 (k:Nat) (v120:Int) (q68:(Int × Int × Int × Int)→Option Int):(Int × Int × Int)→Option Int
 | (v127,v128,v129) => q68 (v127,v128,v129,(IntKind.i64.wrap (v120 + (1:Int))))
def f63.l68 (k:Nat) (x0:(List Int)) (x2_0:(List Int)) (x3_0:(List Int)):Nat → (Int × Int × Int × Int)→Option Int
 | 0,_ => none
 | m68+1,(v117,v118,v119,v120) => if (decide (v120 < (List.length x0:Int))) then (if (0≤v120∧v120 < (List.length x0:Int)) then ((f64 k (List.getD x0 (Int.toNat v120) (0:Int))).bind fun r131 => (if (((decide (r131 < (0:Int)))=false) → (0 ≤ (List.getD x0 (Int.toNat v120) (0:Int)) ∧ (List.getD x0 (Int.toNat v120) (0:Int)) < (List.length x2_0:Int))) then (if (bif (decide (r131 < (0:Int))) then true else (decide (((List.getD x2_0 (Int.toNat (List.getD x0 (Int.toNat v120) (0:Int))) (0:Int)):Int) < (0:Int)))) then (f63.j130 k v120 ((f63.l68 k x0 x2_0 x3_0) m68) (v117,v118,v119)) else (if (0 ≤ (List.getD x0 (Int.toNat v120) (0:Int)) ∧ (List.getD x0 (Int.toNat v120) (0:Int)) < (List.length x2_0:Int)) then (if (0 ≤ (List.getD x0 (Int.toNat v120) (0:Int)) ∧ (List.getD x0 (Int.toNat v120) (0:Int)) < (List.length x3_0:Int)) then (if (bif (bif (decide (v117 < (0:Int))) then true else (decide (((IntKind.i64.wrap ((List.getD x2_0 (Int.toNat (List.getD x0 (Int.toNat v120) (0:Int))) (0:Int))+r131)):Int) < v118))) then true else (bif (((IntKind.i64.wrap ((List.getD x2_0 (Int.toNat (List.getD x0 (Int.toNat v120) (0:Int))) (0:Int))+r131)):Int) == v118) then (decide (((List.getD x3_0 (Int.toNat (List.getD x0 (Int.toNat v120) (0:Int))) (0:Int)):Int) < v119)) else false)) then (f63.j130 k v120 ((f63.l68 k x0 x2_0 x3_0) m68) ((List.getD x0 (Int.toNat v120) (0:Int)),(IntKind.i64.wrap ((List.getD x2_0 (Int.toNat (List.getD x0 (Int.toNat v120) (0:Int))) (0:Int))+r131)),(List.getD x3_0 (Int.toNat (List.getD x0 (Int.toNat v120) (0:Int))) (0:Int)))) else (f63.j130 k v120 ((f63.l68 k x0 x2_0 x3_0) m68) (v117,v118,v119))) else none) else none)) else none)) else none) else (some v117)
def f63 (k:Nat) (x0:(List Int)) (x2_0:(List Int)) (x3_0:(List Int)):Option Int:=f63.l68 k x0 x2_0 x3_0 k ((-1:Int),(0:Int),(0:Int),(0:Int))
theorem c63 (k:Nat) (x0:(List Int)) (x2_0:(List Int)) (x3_0:(List Int)) (r:Int) (hF:f63 k x0 x2_0 x3_0=some r):PCall Try.prog 63 [⟨(.sl false 2 iS),x0⟩,⟨(.fn 64 .unit),()⟩,⟨sh28,(some x2_0)⟩,⟨sh28,(some x3_0)⟩] [⟨iS,r⟩]:=by
 refine pcall_intro Try.func63 rfl rfl (Nat.le_of_ble_eq_true rfl) ?_
 intro w0 Zi a w h
 rw [f63] at hF
 refine zs [0,1,2,3] h an fun a w h => ?_
 refine zs [0,1,2,3,7] h an fun a w h => ?_
 refine zs [0,1,2,3,7,8,9] h an fun a w h => ?_
 refine wp_seq ?_
 refine zs [1,2,3,7,8,9,15,16,17] h an fun a w h => ?_
 refine wp_block ?_
 refine wp_loop_fuel (f63.l68 k x0 x2_0 x3_0) (fun ((v117,v118,v119,v120):(Int × Int × Int × Int)) => [(1,.val (.fn 64 .unit) ()),(2,.val sh28 (some x2_0)),(3,.val sh28 (some x3_0)),(7,.val iS v117),(8,.val iS v118),(9,.val iS v119),(15,.val (.sl false 2 iS) x0),(16,.val iS (List.length x0:Int)),(17,.val iS v120)]) (fun v h => by obtain ⟨v117,v118,v119,v120⟩:=v; rw [f63.l68] at h; cases h) ?_ hF (ar h [1,2,3,7,8,9,15,16,17])
 intro m68 v a w hF h
 obtain ⟨v117,v118,v119,v120⟩:=v
 rw [f63.l68] at hF
 refine zs [1,2,3,7,8,9,15,16,17,18] h an fun a w h => ?_
 refine wp_seq <| zi h hF (fun hF => ?_) (fun hF => ?_)
 ·refine wp_skip ?_
  refine wp_mid (fun a w => ∃ v:(Int × Int × Int),f63.j130 k v120 ((f63.l68 k x0 x2_0 x3_0) m68) v=some r∧Rel w0 (fun _ => False) Zi Try.f63.ntmps ((fun ((v127,v128,v129):(Int × Int × Int)) => ([(1,.val (.fn 64 .unit) ()),(2,.val sh28 (some x2_0)),(3,.val sh28 (some x3_0)),(7,.val iS v127),(8,.val iS v128),(9,.val iS v129),(15,.val (.sl false 2 iS) x0),(16,.val iS (List.length x0:Int)),(17,.val iS v120)]:SS)) v) a w) ?_ ?_
  ·
   refine wp_block ?_
   obtain ⟨hc136,hF⟩:=of_if hF
   refine zs [1,2,3,7,8,9,11,15,16,17] h (ac hc136 an) fun a w h => ?_
   obtain ⟨r131,hr135,hF⟩:=of_bind hF
   refine zc (orcL [(23,[⟨iS,r131⟩])]) [1,2,3,7,8,9,11,12,15,16,17] h (ac (c64 k (gD x0 (tZ v120) iO) r131 hr135) an) fun a w h => ?_
   refine wp_seq ?_
   obtain ⟨hc134,hF⟩:=of_if hF
   refine zs [1,2,3,7,8,9,11,12,15,16,17,32] h (ac hc134 an) fun a w h => ?_
   refine zi h hF (fun hF => ?_) (fun hF => ?_)
   ·refine wp_exit ?_
    exact ⟨(v117,v118,v119),hF,ar h [1,2,3,7,8,9,15,16,17]⟩
   ·refine wp_skip ?_
    obtain ⟨hc132,hF⟩:=of_if hF
    obtain ⟨hc133,hF⟩:=of_if hF
    refine wp_regy_seq tok (orc:=o0) (l:=[1,2,3,7,8,9,11,13,14,15,16,17]) ([],[],[],[]) 12 nw h (by kernel_rfl) (by kernel_rfl) (ac hc132 (ac hc133 an)) fun a w h => ?_
    refine zs [1,2,3,7,8,9,11,13,14,15,16,17,59] h an fun a w h => ?_
    refine zi h hF (fun hF => ?_) (fun hF => ?_)
    ·refine zt [1,2,3,7,8,9,15,16,17] h an fun a w h => ?_
     exact ⟨((gD x0 (tZ v120) iO),(w64 ((gD x2_0 (tZ (gD x0 (tZ v120) iO)) iO)+r131)),(gD x3_0 (tZ (gD x0 (tZ v120) iO)) iO)),hF,ar h [1,2,3,7,8,9,15,16,17]⟩
    ·refine wp_skip ?_
     exact ⟨(v117,v118,v119),hF,ar h [1,2,3,7,8,9,15,16,17]⟩
  ·rintro a w ⟨v,hF,h⟩
   obtain ⟨v127,v128,v129⟩:=v
   rw [f63.j130] at hF
   refine zt [1,2,3,7,8,9,15,16,17] h an fun a w h => ?_
   exact ⟨(v127,v128,v129,(w64 (v120 + (1:Int)))),hF,ar h [1,2,3,7,8,9,15,16,17]⟩
 ·refine wp_exit ?_
  refine zs [6] h an fun a w h => ?_
  cases hF
  exact wp_ret (ret_okR tok h rfl (by kernel_rfl)).1
def f65 (k:Nat) (x0:Int) (x1_0:(((List (Int × (Int × Int))) × ((List (Int × (Int × (Int × (Int × (Int × ByteArray)))))) × (List (Int × Int)))) × ((List (List Int)) × ((List (List Int)) × (Option (List ((Int × Int) × Bool))))))) (x2_0:Int):Option Int:=(f66 k x1_0 x2_0 x0).bind fun r1 => (some r1)
theorem c65 (k:Nat) (x0:Int) (x1_0:tN) (x2_0:Int) (r:Int) (hF:f65 k x0 x1_0 x2_0=some r):PCall Try.prog 65 [⟨iS,x0⟩,⟨sh36,(some (some x1_0))⟩,⟨(.pt false 0 iS),(some x2_0)⟩] [⟨iS,r⟩]:=by
 refine pcall_intro Try.func65 rfl rfl (Nat.le_of_ble_eq_true rfl) ?_
 intro w0 Zi a w h
 rw [f65] at hF
 refine zs [0,1,2] h an fun a w h => ?_
 obtain ⟨r1,hr2,hF⟩:=of_bind hF
 refine zc (orcL [(8,[⟨iS,r1⟩])]) [4] h (ac (c66 k x1_0 x2_0 x0 r1 hr2) an) fun a w h => ?_
 cases hF
 exact wp_ret (ret_okR tok h rfl (by kernel_rfl)).1
def f63b.j130 (k:Nat) (v120:Int) (q68:(Int × Int × Int × Int)→Option Int):(Int × Int × Int)→Option Int
 | (v127,v128,v129) => q68 (v127,v128,v129,(IntKind.i64.wrap (v120 + (1:Int))))
def f63b.l68 (k:Nat) (x0:(List Int)) (x1_0:(((List (Int × (Int × Int))) × ((List (Int × (Int × (Int × (Int × (Int × ByteArray)))))) × (List (Int × Int)))) × ((List (List Int)) × ((List (List Int)) × (Option (List ((Int × Int) × Bool))))))) (x1_1:Int) (x2_0:(List Int)) (x3_0:(List Int)):Nat → (Int × Int × Int × Int)→Option Int
 | 0,_ => none
 | m68+1,(v117,v118,v119,v120) => if (decide (v120 < (List.length x0:Int))) then (if (0≤v120∧v120 < (List.length x0:Int)) then ((f65 k (List.getD x0 (Int.toNat v120) (0:Int)) x1_0 x1_1).bind fun r131 => (if (((decide (r131 < (0:Int)))=false) → (0 ≤ (List.getD x0 (Int.toNat v120) (0:Int)) ∧ (List.getD x0 (Int.toNat v120) (0:Int)) < (List.length x2_0:Int))) then (if (bif (decide (r131 < (0:Int))) then true else (decide (((List.getD x2_0 (Int.toNat (List.getD x0 (Int.toNat v120) (0:Int))) (0:Int)):Int) < (0:Int)))) then (f63b.j130 k v120 ((f63b.l68 k x0 x1_0 x1_1 x2_0 x3_0) m68) (v117,v118,v119)) else (if (0 ≤ (List.getD x0 (Int.toNat v120) (0:Int)) ∧ (List.getD x0 (Int.toNat v120) (0:Int)) < (List.length x2_0:Int)) then (if (0 ≤ (List.getD x0 (Int.toNat v120) (0:Int)) ∧ (List.getD x0 (Int.toNat v120) (0:Int)) < (List.length x3_0:Int)) then (if (bif (bif (decide (v117 < (0:Int))) then true else (decide (((IntKind.i64.wrap ((List.getD x2_0 (Int.toNat (List.getD x0 (Int.toNat v120) (0:Int))) (0:Int))+r131)):Int) < v118))) then true else (bif (((IntKind.i64.wrap ((List.getD x2_0 (Int.toNat (List.getD x0 (Int.toNat v120) (0:Int))) (0:Int))+r131)):Int) == v118) then (decide (((List.getD x3_0 (Int.toNat (List.getD x0 (Int.toNat v120) (0:Int))) (0:Int)):Int) < v119)) else false)) then (f63b.j130 k v120 ((f63b.l68 k x0 x1_0 x1_1 x2_0 x3_0) m68) ((List.getD x0 (Int.toNat v120) (0:Int)),(IntKind.i64.wrap ((List.getD x2_0 (Int.toNat (List.getD x0 (Int.toNat v120) (0:Int))) (0:Int))+r131)),(List.getD x3_0 (Int.toNat (List.getD x0 (Int.toNat v120) (0:Int))) (0:Int)))) else (f63b.j130 k v120 ((f63b.l68 k x0 x1_0 x1_1 x2_0 x3_0) m68) (v117,v118,v119))) else none) else none)) else none)) else none) else (some v117)
def f63b (k:Nat) (x0:(List Int)) (x1_0:(((List (Int × (Int × Int))) × ((List (Int × (Int × (Int × (Int × (Int × ByteArray)))))) × (List (Int × Int)))) × ((List (List Int)) × ((List (List Int)) × (Option (List ((Int × Int) × Bool))))))) (x1_1:Int) (x2_0:(List Int)) (x3_0:(List Int)):Option Int:=f63b.l68 k x0 x1_0 x1_1 x2_0 x3_0 k ((-1:Int),(0:Int),(0:Int),(0:Int))
theorem c63b (k:Nat) (x0:(List Int)) (x1_0:tN) (x1_1:Int) (x2_0:(List Int)) (x3_0:(List Int)) (r:Int) (hF:f63b k x0 x1_0 x1_1 x2_0 x3_0=some r):PCall Try.prog 63 [⟨(.sl false 2 iS),x0⟩,⟨sh37,((some (some x1_0)),((some x1_1),()))⟩,⟨sh28,(some x2_0)⟩,⟨sh28,(some x3_0)⟩] [⟨iS,r⟩]:=by
 refine pcall_intro Try.func63 rfl rfl (Nat.le_of_ble_eq_true rfl) ?_
 intro w0 Zi a w h
 rw [f63b] at hF
 refine zs [0,1,2,3] h an fun a w h => ?_
 refine zs [0,1,2,3,7] h an fun a w h => ?_
 refine zs [0,1,2,3,7,8,9] h an fun a w h => ?_
 refine wp_seq ?_
 refine zs [1,2,3,7,8,9,15,16,17] h an fun a w h => ?_
 refine wp_block ?_
 refine wp_loop_fuel (f63b.l68 k x0 x1_0 x1_1 x2_0 x3_0) (fun ((v117,v118,v119,v120):(Int × Int × Int × Int)) => [(1,.val sh37 ((some (some x1_0)),((some x1_1),()))),(2,.val sh28 (some x2_0)),(3,.val sh28 (some x3_0)),(7,.val iS v117),(8,.val iS v118),(9,.val iS v119),(15,.val (.sl false 2 iS) x0),(16,.val iS (List.length x0:Int)),(17,.val iS v120)]) (fun v h => by obtain ⟨v117,v118,v119,v120⟩:=v; rw [f63b.l68] at h; cases h) ?_ hF (ar h [1,2,3,7,8,9,15,16,17])
 intro m68 v a w hF h
 obtain ⟨v117,v118,v119,v120⟩:=v
 rw [f63b.l68] at hF
 refine zs [1,2,3,7,8,9,15,16,17,18] h an fun a w h => ?_
 refine wp_seq <| zi h hF (fun hF => ?_) (fun hF => ?_)
 ·refine wp_skip ?_
  refine wp_mid (fun a w => ∃ v:(Int × Int × Int),f63b.j130 k v120 ((f63b.l68 k x0 x1_0 x1_1 x2_0 x3_0) m68) v=some r∧Rel w0 (fun _ => False) Zi Try.f63.ntmps ((fun ((v127,v128,v129):(Int × Int × Int)) => ([(1,.val sh37 ((some (some x1_0)),((some x1_1),()))),(2,.val sh28 (some x2_0)),(3,.val sh28 (some x3_0)),(7,.val iS v127),(8,.val iS v128),(9,.val iS v129),(15,.val (.sl false 2 iS) x0),(16,.val iS (List.length x0:Int)),(17,.val iS v120)]:SS)) v) a w) ?_ ?_
  ·
   refine wp_block ?_
   obtain ⟨hc136,hF⟩:=of_if hF
   refine zs [1,2,3,7,8,9,11,15,16,17] h (ac hc136 an) fun a w h => ?_
   obtain ⟨r131,hr135,hF⟩:=of_bind hF
   refine zc (orcL [(23,[⟨iS,r131⟩])]) [1,2,3,7,8,9,11,12,15,16,17] h (ac (c65 k (gD x0 (tZ v120) iO) x1_0 x1_1 r131 hr135) an) fun a w h => ?_
   refine wp_seq ?_
   obtain ⟨hc134,hF⟩:=of_if hF
   refine zs [1,2,3,7,8,9,11,12,15,16,17,32] h (ac hc134 an) fun a w h => ?_
   refine zi h hF (fun hF => ?_) (fun hF => ?_)
   ·refine wp_exit ?_
    exact ⟨(v117,v118,v119),hF,ar h [1,2,3,7,8,9,15,16,17]⟩
   ·refine wp_skip ?_
    obtain ⟨hc132,hF⟩:=of_if hF
    obtain ⟨hc133,hF⟩:=of_if hF
    refine wp_regy_seq tok (orc:=o0) (l:=[1,2,3,7,8,9,11,13,14,15,16,17]) ([],[],[],[]) 12 nw h (by kernel_rfl) (by kernel_rfl) (ac hc132 (ac hc133 an)) fun a w h => ?_
    refine zs [1,2,3,7,8,9,11,13,14,15,16,17,59] h an fun a w h => ?_
    refine zi h hF (fun hF => ?_) (fun hF => ?_)
    ·refine zt [1,2,3,7,8,9,15,16,17] h an fun a w h => ?_
     exact ⟨((gD x0 (tZ v120) iO),(w64 ((gD x2_0 (tZ (gD x0 (tZ v120) iO)) iO)+r131)),(gD x3_0 (tZ (gD x0 (tZ v120) iO)) iO)),hF,ar h [1,2,3,7,8,9,15,16,17]⟩
    ·refine wp_skip ?_
     exact ⟨(v117,v118,v119),hF,ar h [1,2,3,7,8,9,15,16,17]⟩
  ·rintro a w ⟨v,hF,h⟩
   obtain ⟨v127,v128,v129⟩:=v
   rw [f63b.j130] at hF
   refine zt [1,2,3,7,8,9,15,16,17] h an fun a w h => ?_
   exact ⟨(v127,v128,v129,(w64 (v120 + (1:Int)))),hF,ar h [1,2,3,7,8,9,15,16,17]⟩
 ·refine wp_exit ?_
  refine zs [6] h an fun a w h => ?_
  cases hF
  exact wp_ret (ret_okR tok h rfl (by kernel_rfl)).1
def f38.l3 (k:Nat) (x0:(((List (Int × (Int × Int))) × ((List (Int × (Int × (Int × (Int × (Int × ByteArray)))))) × (List (Int × Int)))) × ((List (List Int)) × ((List (List Int)) × (Option (List ((Int × Int) × Bool))))))) (x2:Int) (r1:((List Int) × (List Int))) (r2:Int):Nat → (Int × (List Int) × Int)→Option (Bool × ((List Int) × (Int × Int)))
 | 0,_ => none
 | m3+1,(v27,v28,v29) => if ((List.length v28+List.length [v27])*8≤140737488355328) then (if (0≤v27∧v27 < (List.length x0.1.2.1:Int)) then (if (0≤v27∧v27 < (List.length x0.1.2.1:Int)) then (if (((List.getD x0.1.2.1 (Int.toNat v27) ((0:Int),((0:Int),((0:Int),((0:Int),((0:Int),(⟨#[]⟩:ByteArray))))))).2.1:Int) == x2) then (some (true,((List.append v28 [v27]),((List.getD r1.1 (Int.toNat r2) (0:Int)),(IntKind.i64.wrap (v29 + (List.getD x0.1.2.1 (Int.toNat v27) ((0:Int),((0:Int),((0:Int),((0:Int),((0:Int),(⟨#[]⟩:ByteArray))))))).2.2.2.2.1)))))) else (if (0≤v27∧v27 < (List.length x0.1.2.1:Int)) then (if (0 ≤ (List.getD x0.1.2.1 (Int.toNat v27) ((0:Int),((0:Int),((0:Int),((0:Int),((0:Int),(⟨#[]⟩:ByteArray))))))).2.1 ∧ (List.getD x0.1.2.1 (Int.toNat v27) ((0:Int),((0:Int),((0:Int),((0:Int),((0:Int),(⟨#[]⟩:ByteArray))))))).2.1 < (List.length x0.2.1:Int)) then ((f63b k (List.getD x0.2.1 (Int.toNat (List.getD x0.1.2.1 (Int.toNat v27) ((0:Int),((0:Int),((0:Int),((0:Int),((0:Int),(⟨#[]⟩:ByteArray))))))).2.1) ([]:(List Int))) x0 v27 r1.1 r1.2).bind fun r30 => ((f38.l3 k x0 x2 r1 r2) m3 (r30,(List.append v28 [v27]),(IntKind.i64.wrap (v29 + (List.getD x0.1.2.1 (Int.toNat v27) ((0:Int),((0:Int),((0:Int),((0:Int),((0:Int),(⟨#[]⟩:ByteArray))))))).2.2.2.2.1))))) else none) else none)) else none) else none) else none
def f38 (k:Nat) (x0:(((List (Int × (Int × Int))) × ((List (Int × (Int × (Int × (Int × (Int × ByteArray)))))) × (List (Int × Int)))) × ((List (List Int)) × ((List (List Int)) × (Option (List ((Int × Int) × Bool))))))) (x1:Int) (x2:Int):Option (Bool × ((List Int) × (Int × Int))):=if (x1 == x2) then (some (true,(([]:(List Int)),((0:Int),(0:Int))))) else ((f45 k x0 x2).bind fun r1 => (if (0≤x1∧x1 < (List.length x0.2.1:Int)) then ((f63 k (List.getD x0.2.1 (Int.toNat x1) ([]:(List Int))) r1.1 r1.2).bind fun r2 => (if (decide (r2 < (0:Int))) then (some (false,(([]:(List Int)),((0:Int),(0:Int))))) else (if (0≤r2∧r2 < (List.length r1.1:Int)) then (f38.l3 k x0 x2 r1 r2 k (r2,([]:(List Int)),(0:Int))) else none))) else none))
theorem c38 (k:Nat) (x0:tN) (x1:Int) (x2:Int) (r:(Bool × ((List Int) × (Int × Int)))) (hF:f38 k x0 x1 x2=some r):PCall Try.prog 38 [⟨sh32,some x0⟩,⟨iS,x1⟩,⟨iS,x2⟩] [⟨sh41,r⟩]:=by
 refine pcall_intro Try.func38 rfl rfl (Nat.le_of_ble_eq_true rfl) ?_
 intro w0 Zi a w h
 rw [f38] at hF
 refine zs [1,2,3,6] h an fun a w h => ?_
 refine wp_seq ?_
 refine zs [1,2,3,6,15] h an fun a w h => ?_
 refine zi h hF (fun hF => ?_) (fun hF => ?_)
 ·refine zs [6] h an fun a w h => ?_
  cases hF
  exact wp_ret (ret_okR tok h rfl (by kernel_rfl)).1
 ·refine wp_skip ?_
  obtain ⟨r1,hr40,hF⟩:=of_bind hF
  refine zc (orcL [(20,[⟨(.sl true 2 iS),r1.1⟩,⟨(.sl true 2 iS),r1.2⟩]),(17,[⟨.pt false 4294967292 .unit,some ()⟩])]) [1,2,3,6,7,8] h (ac (c45 k x0 x2 r1 hr40) an) fun a w h => ?_
  refine zs [1,2,3,6,7,8,9] h an fun a w h => ?_
  obtain ⟨hc38,hF⟩:=of_if hF
  obtain ⟨r2,hr39,hF⟩:=of_bind hF
  refine zc (orcL [(32,[⟨iS,r2⟩])]) [2,3,6,7,8,9,10] h (ac hc38 (ac (c63 k (gD x0.2.1 (tZ x1) lO) r1.1 r1.2 r2 hr39) an)) fun a w h => ?_
  refine wp_seq ?_
  refine zs [2,3,6,7,8,9,10,34] h an fun a w h => ?_
  refine zi h hF (fun hF => ?_) (fun hF => ?_)
  ·refine zs [6] h an fun a w h => ?_
   cases hF
   exact wp_ret (ret_okR tok h rfl (by kernel_rfl)).1
  ·refine wp_skip ?_
   obtain ⟨hc37,hF⟩:=of_if hF
   refine zs [2,3,6,7,8,9,10,11] h (ac hc37 an) fun a w h => ?_
   refine wp_block ?_
   refine wp_loop_fuel (f38.l3 k x0 x2 r1 r2) (fun ((v27,v28,v29):(Int × (List Int) × Int)) => [(2,.val iS x2),(3,.val sh38 (some (some x0))),(6,.val sh39 (some (false,(lO,(iO,iO))))),(7,.val sh40 (some r1.1)),(8,.val sh40 (some r1.2)),(9,.clo 63 [(7,[]),(8,[])]),(10,.val iS v27),(11,.val sh39 (some (true,(v28,((gD r1.1 (tZ r2) iO),v29)))))]) (fun v h => by obtain ⟨v27,v28,v29⟩:=v; rw [f38.l3] at h; cases h) ?_ hF (ar h [2,3,6,7,8,9,10,11])
   intro m3 v a w hF h
   obtain ⟨v27,v28,v29⟩:=v
   rw [f38.l3] at hF
   refine wp_block ?_
   obtain ⟨hc36,hF⟩:=of_if hF
   refine zc (orcL [(45,[⟨.pt false 4294967293 .unit,some ()⟩])]) [2,3,6,7,8,9,10,11] h (ac (PrefL.mk (l:=[[.der,.snd,.fst],[.der,.snd,.fst]]) (p:=[.der,.snd,.fst]) rfl) (ac hc36 (ac (show ([.der,.snd,.fst]:Path)=[.der,.snd,.fst] from rfl) an))) fun a w h => ?_
   obtain ⟨hc35,hF⟩:=of_if hF
   refine wp_regy_seq tok (orc:=o0) (l:=[2,3,6,7,8,9,10,11]) ([],[],[],[]) 13 nw h (by kernel_rfl) (by kernel_rfl) (ac hc35 an) fun a w h => ?_
   refine wp_seq ?_
   obtain ⟨hc34,hF⟩:=of_if hF
   refine zs [2,3,6,7,8,9,10,11,70] h (ac hc34 an) fun a w h => ?_
   refine zi h hF (fun hF => ?_) (fun hF => ?_)
   ·refine zs [6] h an fun a w h => ?_
    cases hF
    exact wp_ret (ret_okR tok h rfl (by kernel_rfl)).1
   ·refine wp_skip ?_
    refine zs [2,3,6,7,8,9,10,11,12] h an fun a w h => ?_
    obtain ⟨hc31,hF⟩:=of_if hF
    obtain ⟨hc32,hF⟩:=of_if hF
    obtain ⟨r30,hr33,hF⟩:=of_bind hF
    refine wp_regy tok (orc:=orcL [(90,[⟨iS,r30⟩])]) (l:=[2,3,6,7,8,9,10,11]) ([],[],[],[]) 19 nw h (by kernel_rfl) (by kernel_rfl) (ac hc31 (ac hc32 (ac (c63b k (gD x0.2.1 (tZ (gD x0.1.2.1 (tZ v27) zR).2.1) lO) x0 v27 r1.1 r1.2 r30 hr33) an))) fun a w h => ?_
    exact ⟨(r30,(List.append v28 [v27]),(w64 (v29 + (gD x0.1.2.1 (tZ v27) zR).2.2.2.2.1))),hF,ar h [2,3,6,7,8,9,10,11]⟩
def f46.j6 (k:Nat) (x1:(Bool × ((List Int) × (Int × Int)))) (x2:(Bool × ((List Int) × (Int × Int)))):Int→Option (Bool × ((List Int) × (Int × Int)))
 | v5 => if ((List.length ([]:List Int)+List.length x1.2.1)*8≤140737488355328) then (if ((List.length (([]:List Int) ++ x1.2.1)+List.length x2.2.1)*8≤140737488355328) then (some (true,(((([]:List Int) ++ x1.2.1) ++ x2.2.1),(v5,(IntKind.i64.wrap (x1.2.2.2+x2.2.2.2)))))) else none) else none
def f46 (k:Nat) (x0:(((List (Int × (Int × Int))) × ((List (Int × (Int × (Int × (Int × (Int × ByteArray)))))) × (List (Int × Int)))) × ((List (List Int)) × ((List (List Int)) × (Option (List ((Int × Int) × Bool))))))) (x1:(Bool × ((List Int) × (Int × Int)))) (x2:(Bool × ((List Int) × (Int × Int)))):Option (Bool × ((List Int) × (Int × Int))):=if (bif (!x1.1) then true else (!x2.1)) then (some (false,(([]:(List Int)),((0:Int),(0:Int))))) else (if (bif (decide (((List.length x1.2.1:Int):Int) > (0:Int))) then (decide (((List.length x2.2.1:Int):Int) > (0:Int))) else false) then (if (0 ≤ (IntKind.i64.wrap ((List.length x1.2.1:Int) - (1:Int))) ∧ (IntKind.i64.wrap ((List.length x1.2.1:Int) - (1:Int))) < (List.length x1.2.1:Int)) then (if (0 ≤ (0:Int) ∧ (0:Int) < (List.length x2.2.1:Int)) then ((f66 k x0 (List.getD x1.2.1 (Int.toNat (IntKind.i64.wrap ((List.length x1.2.1:Int) - (1:Int)))) (0:Int)) (List.getD x2.2.1 (Int.toNat (0:Int)) (0:Int))).bind fun r9 => (if (decide (r9 < (0:Int))) then (some (false,(([]:(List Int)),((0:Int),(0:Int))))) else (f46.j6 k x1 x2 (IntKind.i64.wrap ((IntKind.i64.wrap (x1.2.2.1+x2.2.2.1))+r9))))) else none) else none) else (f46.j6 k x1 x2 (IntKind.i64.wrap (x1.2.2.1+x2.2.2.1))))
theorem c46 (k:Nat) (x0:tN) (x1:(Bool × ((List Int) × (Int × Int)))) (x2:(Bool × ((List Int) × (Int × Int)))) (r:(Bool × ((List Int) × (Int × Int)))) (hF:f46 k x0 x1 x2=some r):PCall Try.prog 46 [⟨sh32,some x0⟩,⟨sh43,x1⟩,⟨sh43,x2⟩] [⟨sh41,r⟩]:=by
 refine pcall_intro Try.func46 rfl rfl (Nat.le_of_ble_eq_true rfl) ?_
 intro w0 Zi a w h
 rw [f46] at hF
 refine zs [0,4,5,6] h an fun a w h => ?_
 refine wp_seq ?_
 refine zs [0,4,5,6,16] h an fun a w h => ?_
 refine zi h hF (fun hF => ?_) (fun hF => ?_)
 ·refine zs [6] h an fun a w h => ?_
  cases hF
  exact wp_ret (ret_okR tok h rfl (by kernel_rfl)).1
 ·refine wp_skip ?_
  refine zs [0,4,5,6,7] h an fun a w h => ?_
  refine wp_seq ?_
  refine zs [0,4,5,6,7,38] h an fun a w h => ?_
  refine wp_midT (fun a w => ∃ v:Int,f46.j6 k x1 x2 v=some r∧Rel w0 (fun _ => False) Zi Try.f46.ntmps ((fun v5 => ([(4,.val sh42 (some x1)),(5,.val sh42 (some x2)),(6,.val sh39 (some (false,(lO,(iO,iO))))),(7,.val sh39 (some (true,(lO,(v5,(w64 (x1.2.2.2+x2.2.2.2)))))))]:SS)) v) a w) ?_ ?_
  ·
   refine zi h hF (fun hF => ?_) (fun hF => ?_)
   ·obtain ⟨hc10,hF⟩:=of_if hF
    obtain ⟨hc11,hF⟩:=of_if hF
    obtain ⟨r9,hr12,hF⟩:=of_bind hF
    refine wp_regy_seq tok (orc:=orcL [(52,[⟨iS,r9⟩])]) (l:=[4,5,6,7,8]) ([],[],[],[]) 15 nw h (by kernel_rfl) (by kernel_rfl) (ac hc10 (ac hc11 (ac (c66 k x0 (gD x1.2.1 (tZ (w64 ((List.length x1.2.1:Int) - (1:Int)))) iO) (gD x2.2.1 (tZ iO) iO) r9 hr12) an))) fun a w h => ?_
    refine wp_seq ?_
    refine zs [4,5,6,7,8,54] h an fun a w h => ?_
    refine zi h hF (fun hF => ?_) (fun hF => ?_)
    ·refine zs [6] h an fun a w h => ?_
     cases hF
     exact wp_ret (ret_okR tok h rfl (by kernel_rfl)).1
    ·refine wp_skip ?_
     refine zt [4,5,6,7] h an fun a w h => ?_
     exact ⟨(w64 ((w64 (x1.2.2.1+x2.2.2.1))+r9)),hF,ar h [4,5,6,7]⟩
   ·refine wp_skip ?_
    exact ⟨(w64 (x1.2.2.1+x2.2.2.1)),hF,ar h [4,5,6,7]⟩
  ·rintro a w ⟨v5,hF,h⟩
   rw [f46.j6] at hF
   obtain ⟨hc7,hF⟩:=of_if hF
   obtain ⟨hc8,hF⟩:=of_if hF
   refine wp_regy_seq tok (orc:=o0) (l:=[6,7]) ([],[(3,[61])],[],[(4,[5]),(5,[5,65])]) 6 nw h (by kernel_rfl) (by kernel_rfl) (ac hc7 (ac hc8 an)) fun a w h => ?_
   refine zs [6] h an fun a w h => ?_
   cases hF
   exact wp_ret (ret_okR tok h rfl (by kernel_rfl)).1
def f21 (k:Nat) (x0:((List (Int × (Int × Int))) × ((List (Int × (Int × (Int × (Int × (Int × ByteArray)))))) × (List (Int × Int))))) (x1:Int) (x2:Int) (x3:Int):Option (Bool × ((List Int) × (Int × Int))):=(f9 k x0).bind fun r1 => (if (!r1) then (some (false,(([]:(List Int)),((0:Int),(0:Int))))) else ((f36 k x0).bind fun r2 => ((f37 k r2 x1).bind fun r3 => ((if ((!r3)=false) then f37 k r2 x2 else some default).bind fun r4 => ((if ((bif (!r3) then true else (!r4))=false) then f37 k r2 x3 else some default).bind fun r5 => (if (bif (bif (!r3) then true else (!r4)) then true else (!r5)) then (some (false,(([]:(List Int)),((0:Int),(0:Int))))) else ((f38 k r2 x1 x2).bind fun r6 => ((f38 k r2 x2 x3).bind fun r7 => ((f46 k r2 r6 r7).bind fun r8 => (some r8))))))))))
theorem c21 (k:Nat) (x0:tG) (x1:Int) (x2:Int) (x3:Int) (r:(Bool × ((List Int) × (Int × Int)))) (hF:f21 k x0 x1 x2 x3=some r):PCall Try.prog 21 [⟨sh18,x0⟩,⟨iS,x1⟩,⟨iS,x2⟩,⟨iS,x3⟩] [⟨sh41,r⟩]:=by
 refine pcall_intro Try.func21 rfl rfl (Nat.le_of_ble_eq_true rfl) ?_
 intro w0 Zi a w h
 rw [f21] at hF
 refine zs [1,2,3,4,8] h an fun a w h => ?_
 refine wp_seq ?_
 obtain ⟨r1,hr16,hF⟩:=of_bind hF
 refine zc (orcL [(11,[⟨.bool,r1⟩])]) [1,2,3,4,8,12] h (ac (c9 k x0 r1 hr16) an) fun a w h => ?_
 refine zi h hF (fun hF => ?_) (fun hF => ?_)
 ·refine zs [8] h an fun a w h => ?_
  cases hF
  exact wp_ret (ret_okR tok h rfl (by kernel_rfl)).1
 ·refine wp_skip ?_
  obtain ⟨r2,hr15,hF⟩:=of_bind hF
  refine zc (orcL [(15,[⟨sh31,some r2⟩])]) [1,2,3,8,9] h (ac (c36 k x0 r2 hr15) an) fun a w h => ?_
  refine wp_seq ?_
  obtain ⟨r3,hr12,hF⟩:=of_bind hF
  obtain ⟨r4,hr13,hF⟩:=of_bind hF
  obtain ⟨r5,hr14,hF⟩:=of_bind hF
  refine zc (orcL [(18,[⟨.bool,r3⟩]),(23,[⟨.bool,r4⟩]),(29,[⟨.bool,r5⟩])]) [1,2,3,8,9,31] h (ac (c37 k r2 x1 r3 hr12) (ac (fun (hg:((!r3)=false)) => c37 k r2 x2 r4 (of_g hg hr13)) (ac (fun (hg:((bif (!r3) then true else (!r4))=false)) => c37 k r2 x3 r5 (of_g hg hr14)) an))) fun a w h => ?_
  refine zi h hF (fun hF => ?_) (fun hF => ?_)
  ·refine zs [8] h an fun a w h => ?_
   cases hF
   exact wp_ret (ret_okR tok h rfl (by kernel_rfl)).1
  ·refine wp_skip ?_
   obtain ⟨r6,hr9,hF⟩:=of_bind hF
   obtain ⟨r7,hr10,hF⟩:=of_bind hF
   obtain ⟨r8,hr11,hF⟩:=of_bind hF
   refine zc (orcL [(37,[⟨sh41,r6⟩]),(41,[⟨sh41,r7⟩]),(42,[⟨sh41,r8⟩])]) [8] h (ac (c38 k r2 x1 x2 r6 hr9) (ac (c38 k r2 x2 x3 r7 hr10) (ac (c46 k r2 r6 r7 r8 hr11) an))) fun a w h => ?_
   cases hF
   exact wp_ret (ret_okR tok h rfl (by kernel_rfl)).1
def f48 (k:Nat) (x0:((List (Int × (Int × Int))) × ((List (Int × (Int × (Int × (Int × (Int × ByteArray)))))) × (List (Int × Int))))) (x1:Int):Option Bool:=some (bif (decide (x1 ≥ (0:Int))) then (decide (x1 < (List.length x0.1:Int))) else false)
theorem c48 (k:Nat) (x0:tG) (x1:Int) (r:Bool) (hF:f48 k x0 x1=some r):PCall Try.prog 48 [⟨sh18,x0⟩,⟨iS,x1⟩] [⟨.bool,r⟩]:=by
 refine pcall_intro Try.func48 rfl rfl (Nat.le_of_ble_eq_true rfl) ?_
 intro w0 Zi a w h
 rw [f48] at hF
 refine zs [1,2] h an fun a w h => ?_
 refine zs [4] h an fun a w h => ?_
 cases hF
 exact wp_ret (ret_okR tok h rfl (by kernel_rfl)).1
def f49.j109 (k:Nat) (v97:(List (List Int))) (v98:Int) (q58:((List (List Int)) × Int)→Option (List (List Int))):Int→Option (List (List Int))
 | v108 => if (0≤v108∧v108 < (List.length v97:Int)) then (if ((List.length (List.getD v97 (Int.toNat v108) ([]:(List Int)))+List.length [v98])*8≤140737488355328) then (if (0≤v108∧v108 < (List.length v97:Int)) then (q58 ((List.set v97 (Int.toNat v108) (List.append (List.getD v97 (Int.toNat v108) ([]:(List Int))) [v98])),(IntKind.i64.wrap (v98 + (1:Int))))) else none) else none) else none
def f49.l58 (k:Nat) (x0:((List (Int × (Int × Int))) × ((List (Int × (Int × (Int × (Int × (Int × ByteArray)))))) × (List (Int × Int))))) (x1:Bool):Nat → ((List (List Int)) × Int)→Option (List (List Int))
 | 0,_ => none
 | m58+1,(v97,v98) => if (decide (v98 < (List.length x0.2.1:Int))) then (if (0≤v98∧v98 < (List.length x0.2.1:Int)) then (if x1 then (if (0≤v98∧v98 < (List.length x0.2.1:Int)) then (f49.j109 k v97 v98 ((f49.l58 k x0 x1) m58) (List.getD x0.2.1 (Int.toNat v98) ((0:Int),((0:Int),((0:Int),((0:Int),((0:Int),(⟨#[]⟩:ByteArray))))))).2.1) else none) else (f49.j109 k v97 v98 ((f49.l58 k x0 x1) m58) (List.getD x0.2.1 (Int.toNat v98) ((0:Int),((0:Int),((0:Int),((0:Int),((0:Int),(⟨#[]⟩:ByteArray))))))).1)) else none) else (some v97)
def f49 (k:Nat) (x0:((List (Int × (Int × Int))) × ((List (Int × (Int × (Int × (Int × (Int × ByteArray)))))) × (List (Int × Int))))) (x1:Bool):Option (List (List Int)):=if (0 ≤ (List.length x0.1:Int)∧Int.toNat (List.length x0.1:Int)*24≤140737488355328) then (f49.l58 k x0 x1 k ((List.replicate (Int.toNat (List.length x0.1:Int)) ([]:(List Int))),(0:Int))) else none
theorem c49 (k:Nat) (x0:tG) (x1:Bool) (r:(List (List Int))) (hF:f49 k x0 x1=some r):PCall Try.prog 49 [⟨sh18,x0⟩,⟨.bool,x1⟩] [⟨sh21,r⟩]:=by
 refine pcall_intro Try.func49 rfl rfl (Nat.le_of_ble_eq_true rfl) ?_
 intro w0 Zi a w h
 rw [f49] at hF
 refine zs [1,2] h an fun a w h => ?_
 obtain ⟨hc115,hF⟩:=of_if hF
 refine zs [1,2,5] h (ac hc115 an) fun a w h => ?_
 refine wp_seq ?_
 refine zs [1,2,5,6] h an fun a w h => ?_
 refine wp_block ?_
 refine wp_loop_fuel (f49.l58 k x0 x1) (fun ((v97,v98):((List (List Int)) × Int)) => [(1,.val .bool x1),(2,.val sh17 (some x0)),(5,.val sh21 v97),(6,.val iS v98)]) (fun v h => by obtain ⟨v97,v98⟩:=v; rw [f49.l58] at h; cases h) ?_ hF (ar h [1,2,5,6])
 intro m58 v a w hF h
 obtain ⟨v97,v98⟩:=v
 rw [f49.l58] at hF
 refine wp_seq ?_
 refine zs [1,2,5,6,16] h an fun a w h => ?_
 refine zi h hF (fun hF => ?_) (fun hF => ?_)
 ·refine wp_skip ?_
  refine wp_seq <| wp_block ?_
  obtain ⟨hc114,hF⟩:=of_if hF
  refine zs [1,2,5,6,7] h (ac hc114 an) fun a w h => ?_
  refine wp_seq ?_
  refine zs [1,2,5,6,7,25] h an fun a w h => ?_
  refine wp_midT (fun a w => ∃ v:Int,f49.j109 k v97 v98 ((f49.l58 k x0 x1) m58) v=some r∧Rel w0 (fun _ => False) Zi Try.f49.ntmps ((fun v108 => ([(1,.val .bool x1),(2,.val sh17 (some x0)),(5,.val sh21 v97),(6,.val iS v98),(7,.val iS v108)]:SS)) v) a w) ?_ ?_
  ·
   refine zi h hF (fun hF => ?_) (fun hF => ?_)
   ·obtain ⟨hc113,hF⟩:=of_if hF
    refine zt [1,2,5,6,7] h (ac hc113 an) fun a w h => ?_
    exact ⟨(gD x0.2.1 (tZ v98) zR).2.1,hF,ar h [1,2,5,6,7]⟩
   ·refine wp_skip ?_
    exact ⟨(gD x0.2.1 (tZ v98) zR).1,hF,ar h [1,2,5,6,7]⟩
  ·rintro a w ⟨v108,hF,h⟩
   rw [f49.j109] at hF
   obtain ⟨hc110,hF⟩:=of_if hF
   obtain ⟨hc111,hF⟩:=of_if hF
   obtain ⟨hc112,hF⟩:=of_if hF
   refine zd (orcL [(40,[⟨.pt false 4294967293 .unit,some ()⟩])]) [1,2,5,6] h (ac hc110 (ac (PrefL.mk (l:=[[],[],[.idx (tZ v108)],[.idx (tZ v108)]]) (p:=[.idx (tZ v108)]) rfl) (ac hc111 (ac hc112 (ac (show ([.idx (tZ v108)]:Path)=[.idx (tZ v108)] from rfl) an))))) fun a w h => ?_
   refine zt [1,2,5,6] h an fun a w h => ?_
   exact ⟨((List.set v97 (tZ v108) (List.append (gD v97 (tZ v108) lO) [v98])),(w64 (v98 + (1:Int)))),hF,ar h [1,2,5,6]⟩
 ·refine wp_exit ?_
  refine zs [4,5] h an fun a w h => ?_
  cases hF
  exact wp_ret (ret_okR tok h rfl (by kernel_rfl)).1
def f88.l22 (k:Nat) (x0:((List (Int × (Int × Int))) × ((List (Int × (Int × (Int × (Int × (Int × ByteArray)))))) × (List (Int × Int))))) (x1:Int) (x2:Int):Nat → (Int × Int)→Option Bool
 | 0,_ => none
 | m22+1,(v37,v38) => if (decide (v37 < v38)) then (if (((2:Int):Int)≠0) then (if (0 ≤ (IntKind.i64.wrap (Int.tdiv (IntKind.i64.wrap (v37+v38)) (2:Int))) ∧ (IntKind.i64.wrap (Int.tdiv (IntKind.i64.wrap (v37+v38)) (2:Int))) < (List.length x0.2.2:Int)) then ((f72 k (List.getD x0.2.2 (Int.toNat (IntKind.i64.wrap (Int.tdiv (IntKind.i64.wrap (v37+v38)) (2:Int)))) ((0:Int),(0:Int))) (x1,x2)).bind fun r39 => (if r39 then ((f88.l22 k x0 x1 x2) m22 ((IntKind.i64.wrap ((IntKind.i64.wrap (Int.tdiv (IntKind.i64.wrap (v37+v38)) (2:Int))) + (1:Int))),v38)) else ((f88.l22 k x0 x1 x2) m22 (v37,(IntKind.i64.wrap (Int.tdiv (IntKind.i64.wrap (v37+v38)) (2:Int))))))) else none) else none) else (if (((decide (v37 < (List.length x0.2.2:Int)))=true) → (0≤v37∧v37 < (List.length x0.2.2:Int))) then (some (bif (decide (v37 < (List.length x0.2.2:Int))) then (Sh.beq sh5 (List.getD x0.2.2 (Int.toNat v37) ((0:Int),(0:Int))) (x1,x2)) else false)) else none)
def f88 (k:Nat) (x0:((List (Int × (Int × Int))) × ((List (Int × (Int × (Int × (Int × (Int × ByteArray)))))) × (List (Int × Int))))) (x1:Int) (x2:Int):Option Bool:=f88.l22 k x0 x1 x2 k ((0:Int),(List.length x0.2.2:Int))
theorem c88 (k:Nat) (x0:tG) (x1:Int) (x2:Int) (r:Bool) (hF:f88 k x0 x1 x2=some r):PCall Try.prog 88 [⟨sh18,x0⟩,⟨iS,x1⟩,⟨iS,x2⟩] [⟨.bool,r⟩]:=by
 refine pcall_intro Try.func88 rfl rfl (Nat.le_of_ble_eq_true rfl) ?_
 intro w0 Zi a w h
 rw [f88] at hF
 refine zs [1,2,3] h an fun a w h => ?_
 refine zs [3,7] h an fun a w h => ?_
 refine zs [3,7,8] h an fun a w h => ?_
 refine zs [3,7,8,9] h an fun a w h => ?_
 refine wp_seq <| wp_block ?_
 refine wp_loop_fuel (f88.l22 k x0 x1 x2) (fun ((v37,v38):(Int × Int)) => [(3,.val sh17 (some x0)),(7,.val sh24 (some (x1,x2))),(8,.val iS v37),(9,.val iS v38)]) (fun v h => by obtain ⟨v37,v38⟩:=v; rw [f88.l22] at h; cases h) ?_ hF (ar h [3,7,8,9])
 intro m22 v a w hF h
 obtain ⟨v37,v38⟩:=v
 rw [f88.l22] at hF
 refine wp_seq ?_
 refine zs [3,7,8,9,19] h an fun a w h => ?_
 refine zi h hF (fun hF => ?_) (fun hF => ?_)
 ·refine wp_skip ?_
  refine wp_block ?_
  obtain ⟨hc42,hF⟩:=of_if hF
  refine zs [3,7,8,9,10] h (ac hc42 an) fun a w h => ?_
  obtain ⟨hc40,hF⟩:=of_if hF
  obtain ⟨r39,hr41,hF⟩:=of_bind hF
  refine wp_regy_seq tok (orc:=orcL [(30,[⟨.bool,r39⟩])]) (l:=[3,7,8,9,10,30]) ([],[],[],[]) 7 nw h (by kernel_rfl) (by kernel_rfl) (ac hc40 (ac (c72 k (gD x0.2.2 (tZ (w64 (Int.tdiv (w64 (v37+v38)) (2:Int)))) (iO,iO)) (x1,x2) r39 hr41) an)) fun a w h => ?_
  refine zi h hF (fun hF => ?_) (fun hF => ?_)
  ·refine zt [3,7,8,9] h an fun a w h => ?_
   exact ⟨((w64 ((w64 (Int.tdiv (w64 (v37+v38)) (2:Int))) + (1:Int))),v38),hF,ar h [3,7,8,9]⟩
  ·refine zt [3,7,8,9] h an fun a w h => ?_
   exact ⟨(v37,(w64 (Int.tdiv (w64 (v37+v38)) (2:Int)))),hF,ar h [3,7,8,9]⟩
 ·refine wp_exit ?_
  obtain ⟨hc43,hF⟩:=of_if hF
  refine wp_regy_seq tok (orc:=o0) (l:=[6]) ([],[],[],[]) 15 nw h (by kernel_rfl) (by kernel_rfl) (ac hc43 (ac (fun (_:((decide (v37 < (List.length x0.2.2:Int)))=true)) => (And.intro (show eqTy Try.prog 9 69 (.st (.pair iS iS))=true from by kernel_rfl) (show Try.prog.eqGuardType Try.prog.depth 69=false from by kernel_rfl))) an)) fun a w h => ?_
  cases hF
  exact wp_ret (ret_okR tok h rfl (by kernel_rfl)).1
def f108 (k:Nat) (x0:Int):Option Int:=if (decide (x0 < (0:Int))) then (some (IntKind.i64.wrap (0 - x0))) else (some x0)
theorem c108 (k:Nat) (x0:Int) (r:Int) (hF:f108 k x0=some r):PCall Try.prog 108 [⟨iS,x0⟩] [⟨iS,r⟩]:=by
 refine pcall_intro Try.func108 rfl rfl (Nat.le_of_ble_eq_true rfl) ?_
 intro w0 Zi a w h
 rw [f108] at hF
 refine zs [0] h an fun a w h => ?_
 refine wp_seq ?_
 refine zs [0,4] h an fun a w h => ?_
 refine zi h hF (fun hF => ?_) (fun hF => ?_)
 ·refine zs [2] h an fun a w h => ?_
  cases hF
  exact wp_ret (ret_okR tok h rfl (by kernel_rfl)).1
 ·refine wp_skip ?_
  refine zs [2] h an fun a w h => ?_
  cases hF
  exact wp_ret (ret_okR tok h rfl (by kernel_rfl)).1
def f89 (k:Nat) (x0:(Int × Int)) (x1:(Int × Int)):Option Int:=(f71 k x0).bind fun r1 => ((if ((!r1)=false) then f71 k x1 else some default).bind fun r2 => (if (bif (bif (!r1) then true else (!r2)) then true else (Sh.beq sh5 x0 x1)) then (some (-1:Int)) else ((f108 k (IntKind.i64.wrap (x1.1 - x0.1))).bind fun r3 => ((f108 k (IntKind.i64.wrap (x1.2 - x0.2))).bind fun r4 => (if (bif (decide (((IntKind.i64.wrap ((5:Int)*r4)):Int) < (IntKind.i64.wrap ((2:Int)*r3)))) then (decide (((IntKind.i64.wrap (x1.1 - x0.1)):Int) > (0:Int))) else false) then (some (0:Int)) else (if (decide (((IntKind.i64.wrap ((5:Int)*r4)):Int) < (IntKind.i64.wrap ((2:Int)*r3)))) then (some (4:Int)) else (if (bif (decide (((IntKind.i64.wrap ((5:Int)*r3)):Int) < (IntKind.i64.wrap ((2:Int)*r4)))) then (decide (((IntKind.i64.wrap (x1.2 - x0.2)):Int) > (0:Int))) else false) then (some (2:Int)) else (if (decide (((IntKind.i64.wrap ((5:Int)*r3)):Int) < (IntKind.i64.wrap ((2:Int)*r4)))) then (some (6:Int)) else (if (bif (decide (((IntKind.i64.wrap (x1.1 - x0.1)):Int) > (0:Int))) then (decide (((IntKind.i64.wrap (x1.2 - x0.2)):Int) > (0:Int))) else false) then (some (1:Int)) else (if (bif (decide (((IntKind.i64.wrap (x1.1 - x0.1)):Int) < (0:Int))) then (decide (((IntKind.i64.wrap (x1.2 - x0.2)):Int) > (0:Int))) else false) then (some (3:Int)) else (if (decide (((IntKind.i64.wrap (x1.1 - x0.1)):Int) < (0:Int))) then (some (5:Int)) else (some (7:Int)))))))))))))
theorem c89 (k:Nat) (x0:(Int × Int)) (x1:(Int × Int)) (r:Int) (hF:f89 k x0 x1=some r):PCall Try.prog 89 [⟨sh5,x0⟩,⟨sh5,x1⟩] [⟨iS,r⟩]:=by
 refine pcall_intro Try.func89 rfl rfl (Nat.le_of_ble_eq_true rfl) ?_
 intro w0 Zi a w h
 rw [f89] at hF
 refine zs [2,3] h an fun a w h => ?_
 refine wp_seq ?_
 obtain ⟨r1,hr7,hF⟩:=of_bind hF
 obtain ⟨r2,hr8,hF⟩:=of_bind hF
 refine zc (orcL [(10,[⟨.bool,r1⟩]),(14,[⟨.bool,r2⟩])]) [2,3,21] h (ac (c71 k x0 r1 hr7) (ac (fun (hg:((!r1)=false)) => c71 k x1 r2 (of_g hg hr8)) (ac (fun (_:((bif (!r1) then true else (!r2))=false)) => (And.intro (show eqTy Try.prog 9 63 (.st (.pair iS iS))=true from by kernel_rfl) (show Try.prog.eqGuardType Try.prog.depth 63=false from by kernel_rfl))) an))) fun a w h => ?_
 refine zi h hF (fun hF => ?_) (fun hF => ?_)
 ·refine zs [4] h an fun a w h => ?_
  cases hF
  exact wp_ret (ret_okR tok h rfl (by kernel_rfl)).1
 ·refine wp_skip ?_
  refine zs [2,3,5] h an fun a w h => ?_
  refine zs [5,6] h an fun a w h => ?_
  obtain ⟨r3,hr6,hF⟩:=of_bind hF
  refine zc (orcL [(33,[⟨iS,r3⟩])]) [5,6,7] h (ac (c108 k (w64 (x1.1 - x0.1)) r3 hr6) an) fun a w h => ?_
  obtain ⟨r4,hr5,hF⟩:=of_bind hF
  refine zc (orcL [(35,[⟨iS,r4⟩])]) [5,6,7,8] h (ac (c108 k (w64 (x1.2 - x0.2)) r4 hr5) an) fun a w h => ?_
  refine wp_seq <| wp_block ?_
  refine zs [5,6,7,8,36] h an fun a w h => ?_
  refine zi h hF (fun hF => ?_) (fun hF => ?_)
  ·refine zs [4] h an fun a w h => ?_
   cases hF
   exact wp_ret (ret_okR tok h rfl (by kernel_rfl)).1
  ·refine zs [5,6,7,8,46] h an fun a w h => ?_
   refine zi h hF (fun hF => ?_) (fun hF => ?_)
   ·refine zs [4] h an fun a w h => ?_
    cases hF
    exact wp_ret (ret_okR tok h rfl (by kernel_rfl)).1
   ·refine zs [5,6,7,8,52] h an fun a w h => ?_
    refine zi h hF (fun hF => ?_) (fun hF => ?_)
    ·refine zs [4] h an fun a w h => ?_
     cases hF
     exact wp_ret (ret_okR tok h rfl (by kernel_rfl)).1
    ·refine zs [5,6,62] h an fun a w h => ?_
     refine zi h hF (fun hF => ?_) (fun hF => ?_)
     ·refine zs [4] h an fun a w h => ?_
      cases hF
      exact wp_ret (ret_okR tok h rfl (by kernel_rfl)).1
     ·refine zs [5,6,68] h an fun a w h => ?_
      refine zi h hF (fun hF => ?_) (fun hF => ?_)
      ·refine zs [4] h an fun a w h => ?_
       cases hF
       exact wp_ret (ret_okR tok h rfl (by kernel_rfl)).1
      ·refine zs [5,75] h an fun a w h => ?_
       refine zi h hF (fun hF => ?_) (fun hF => ?_)
       ·refine zs [4] h an fun a w h => ?_
        cases hF
        exact wp_ret (ret_okR tok h rfl (by kernel_rfl)).1
       ·refine zs [82] h an fun a w h => ?_
        refine zi h hF (fun hF => ?_) (fun hF => ?_)
        ·refine zs [4] h an fun a w h => ?_
         cases hF
         exact wp_ret (ret_okR tok h rfl (by kernel_rfl)).1
        ·refine wp_skip ?_
         refine zs [4] h an fun a w h => ?_
         cases hF
         exact wp_ret (ret_okR tok h rfl (by kernel_rfl)).1
def f73.j11 (k:Nat):Bool→Option Int
 | v10 => if v10 then (some (3:Int)) else (some (0:Int))
def f73.j9 (k:Nat) (r3:Int) (r2:Int):Bool→Option Int
 | v8 => if v8 then (some (5:Int)) else (if (((Int.tmod (IntKind.i64.wrap ((IntKind.i64.wrap (r3 - r2)) + (8:Int))) (8:Int)):Int) == (5:Int)) then (f73.j11 k (((Int.tmod (IntKind.i64.wrap ((IntKind.i64.wrap (r3 - r2)) + (8:Int))) (8:Int)):Int) == (5:Int))) else (f73.j11 k (((Int.tmod (IntKind.i64.wrap ((IntKind.i64.wrap (r3 - r2)) + (8:Int))) (8:Int)):Int) == (6:Int))))
def f73 (k:Nat) (x0:((List (Int × (Int × Int))) × ((List (Int × (Int × (Int × (Int × (Int × ByteArray)))))) × (List (Int × Int))))) (x1:Int) (x2:Int):Option Int:=(f88 k x0 x1 x2).bind fun r1 => (if r1 then (some (-1:Int)) else (if (0≤x1∧x1 < (List.length x0.2.1:Int)) then (if (0≤x2∧x2 < (List.length x0.2.1:Int)) then (if (((List.getD x0.2.1 (Int.toNat x2) ((0:Int),((0:Int),((0:Int),((0:Int),((0:Int),(⟨#[]⟩:ByteArray))))))).2.1:Int) == (List.getD x0.2.1 (Int.toNat x1) ((0:Int),((0:Int),((0:Int),((0:Int),((0:Int),(⟨#[]⟩:ByteArray))))))).1) then (some (20:Int)) else (if (0 ≤ (List.getD x0.2.1 (Int.toNat x1) ((0:Int),((0:Int),((0:Int),((0:Int),((0:Int),(⟨#[]⟩:ByteArray))))))).1 ∧ (List.getD x0.2.1 (Int.toNat x1) ((0:Int),((0:Int),((0:Int),((0:Int),((0:Int),(⟨#[]⟩:ByteArray))))))).1 < (List.length x0.1:Int)) then (if (0 ≤ (List.getD x0.2.1 (Int.toNat x1) ((0:Int),((0:Int),((0:Int),((0:Int),((0:Int),(⟨#[]⟩:ByteArray))))))).2.1 ∧ (List.getD x0.2.1 (Int.toNat x1) ((0:Int),((0:Int),((0:Int),((0:Int),((0:Int),(⟨#[]⟩:ByteArray))))))).2.1 < (List.length x0.1:Int)) then ((f89 k (List.getD x0.1 (Int.toNat (List.getD x0.2.1 (Int.toNat x1) ((0:Int),((0:Int),((0:Int),((0:Int),((0:Int),(⟨#[]⟩:ByteArray))))))).1) ((0:Int),((0:Int),(0:Int)))).2 (List.getD x0.1 (Int.toNat (List.getD x0.2.1 (Int.toNat x1) ((0:Int),((0:Int),((0:Int),((0:Int),((0:Int),(⟨#[]⟩:ByteArray))))))).2.1) ((0:Int),((0:Int),(0:Int)))).2).bind fun r2 => (if (0 ≤ (List.getD x0.2.1 (Int.toNat x2) ((0:Int),((0:Int),((0:Int),((0:Int),((0:Int),(⟨#[]⟩:ByteArray))))))).1 ∧ (List.getD x0.2.1 (Int.toNat x2) ((0:Int),((0:Int),((0:Int),((0:Int),((0:Int),(⟨#[]⟩:ByteArray))))))).1 < (List.length x0.1:Int)) then (if (0 ≤ (List.getD x0.2.1 (Int.toNat x2) ((0:Int),((0:Int),((0:Int),((0:Int),((0:Int),(⟨#[]⟩:ByteArray))))))).2.1 ∧ (List.getD x0.2.1 (Int.toNat x2) ((0:Int),((0:Int),((0:Int),((0:Int),((0:Int),(⟨#[]⟩:ByteArray))))))).2.1 < (List.length x0.1:Int)) then ((f89 k (List.getD x0.1 (Int.toNat (List.getD x0.2.1 (Int.toNat x2) ((0:Int),((0:Int),((0:Int),((0:Int),((0:Int),(⟨#[]⟩:ByteArray))))))).1) ((0:Int),((0:Int),(0:Int)))).2 (List.getD x0.1 (Int.toNat (List.getD x0.2.1 (Int.toNat x2) ((0:Int),((0:Int),((0:Int),((0:Int),((0:Int),(⟨#[]⟩:ByteArray))))))).2.1) ((0:Int),((0:Int),(0:Int)))).2).bind fun r3 => (if (bif (decide (r2 < (0:Int))) then true else (decide (r3 < (0:Int)))) then (some (0:Int)) else (if (((8:Int):Int)≠0) then (if (((Int.tmod (IntKind.i64.wrap ((IntKind.i64.wrap (r3 - r2)) + (8:Int))) (8:Int)):Int) == (2:Int)) then (f73.j9 k r3 r2 (((Int.tmod (IntKind.i64.wrap ((IntKind.i64.wrap (r3 - r2)) + (8:Int))) (8:Int)):Int) == (2:Int))) else (if (((Int.tmod (IntKind.i64.wrap ((IntKind.i64.wrap (r3 - r2)) + (8:Int))) (8:Int)):Int) == (3:Int)) then (f73.j9 k r3 r2 (((Int.tmod (IntKind.i64.wrap ((IntKind.i64.wrap (r3 - r2)) + (8:Int))) (8:Int)):Int) == (3:Int))) else (f73.j9 k r3 r2 (((Int.tmod (IntKind.i64.wrap ((IntKind.i64.wrap (r3 - r2)) + (8:Int))) (8:Int)):Int) == (4:Int))))) else none))) else none) else none)) else none) else none)) else none) else none))
theorem c73 (k:Nat) (x0:tG) (x1:Int) (x2:Int) (r:Int) (hF:f73 k x0 x1 x2=some r):PCall Try.prog 73 [⟨sh18,x0⟩,⟨iS,x1⟩,⟨iS,x2⟩] [⟨iS,r⟩]:=by
 refine pcall_intro Try.func73 rfl rfl (Nat.le_of_ble_eq_true rfl) ?_
 intro w0 Zi a w h
 rw [f73] at hF
 refine zs [1,2,3] h an fun a w h => ?_
 refine wp_seq ?_
 obtain ⟨r1,hr21,hF⟩:=of_bind hF
 refine zc (orcL [(14,[⟨.bool,r1⟩])]) [1,2,3,14] h (ac (c88 k x0 x1 x2 r1 hr21) an) fun a w h => ?_
 refine zi h hF (fun hF => ?_) (fun hF => ?_)
 ·refine zs [6] h an fun a w h => ?_
  cases hF
  exact wp_ret (ret_okR tok h rfl (by kernel_rfl)).1
 ·refine wp_skip ?_
  obtain ⟨hc20,hF⟩:=of_if hF
  refine zs [2,3,7] h (ac hc20 an) fun a w h => ?_
  obtain ⟨hc19,hF⟩:=of_if hF
  refine zs [3,7,8] h (ac hc19 an) fun a w h => ?_
  refine wp_seq ?_
  refine zs [3,7,8,29] h an fun a w h => ?_
  refine zi h hF (fun hF => ?_) (fun hF => ?_)
  ·refine zs [6] h an fun a w h => ?_
   cases hF
   exact wp_ret (ret_okR tok h rfl (by kernel_rfl)).1
  ·refine wp_skip ?_
   obtain ⟨hc16,hF⟩:=of_if hF
   obtain ⟨hc17,hF⟩:=of_if hF
   obtain ⟨r2,hr18,hF⟩:=of_bind hF
   refine wp_regy_seq tok (orc:=orcL [(44,[⟨iS,r2⟩])]) (l:=[3,8,9]) ([],[],[],[]) 16 nw h (by kernel_rfl) (by kernel_rfl) (ac hc16 (ac hc17 (ac (c89 k (gD x0.1 (tZ (gD x0.2.1 (tZ x1) zR).1) (iO,(iO,iO))).2 (gD x0.1 (tZ (gD x0.2.1 (tZ x1) zR).2.1) (iO,(iO,iO))).2 r2 hr18) an))) fun a w h => ?_
   obtain ⟨hc13,hF⟩:=of_if hF
   obtain ⟨hc14,hF⟩:=of_if hF
   obtain ⟨r3,hr15,hF⟩:=of_bind hF
   refine wp_regy_seq tok (orc:=orcL [(59,[⟨iS,r3⟩])]) (l:=[9,10]) ([],[],[],[]) 16 nw h (by kernel_rfl) (by kernel_rfl) (ac hc13 (ac hc14 (ac (c89 k (gD x0.1 (tZ (gD x0.2.1 (tZ x2) zR).1) (iO,(iO,iO))).2 (gD x0.1 (tZ (gD x0.2.1 (tZ x2) zR).2.1) (iO,(iO,iO))).2 r3 hr15) an))) fun a w h => ?_
   refine wp_seq ?_
   refine zs [9,10,65] h an fun a w h => ?_
   refine zi h hF (fun hF => ?_) (fun hF => ?_)
   ·refine zs [6] h an fun a w h => ?_
    cases hF
    exact wp_ret (ret_okR tok h rfl (by kernel_rfl)).1
   ·refine wp_skip ?_
    refine wp_seq ?_
    obtain ⟨hc12,hF⟩:=of_if hF
    refine zs [70] h (ac hc12 an) fun a w h => ?_
    refine wp_block ?_
    refine wp_seq ?_
    refine zs [70,71] h an fun a w h => ?_
    refine wp_midT (fun a w => ∃ v:Bool,f73.j9 k r3 r2 v=some r∧Rel w0 (fun _ => False) Zi Try.f73.ntmps ((fun (v8:Bool) => ([(70,.val iS (Int.tmod (w64 ((w64 (r3 - r2)) + (8:Int))) (8:Int))),(71,.val .bool v8)]:SS)) v) a w) ?_ ?_
    ·
     refine zi h hF (fun hF => ?_) (fun hF => ?_)
     ·refine wp_skip ?_
      exact ⟨(((Int.tmod (w64 ((w64 (r3 - r2)) + (8:Int))) (8:Int)):Int) == (2:Int)),hF,ar h [70,71]⟩
     ·refine zs [70,71] h an fun a w h => ?_
      refine zi h hF (fun hF => ?_) (fun hF => ?_)
      ·refine wp_skip ?_
       exact ⟨(((Int.tmod (w64 ((w64 (r3 - r2)) + (8:Int))) (8:Int)):Int) == (3:Int)),hF,ar h [70,71]⟩
      ·refine zt [70,71] h an fun a w h => ?_
       exact ⟨(((Int.tmod (w64 ((w64 (r3 - r2)) + (8:Int))) (8:Int)):Int) == (4:Int)),hF,ar h [70,71]⟩
    ·rintro a w ⟨v8,hF,h⟩
     rw [f73.j9] at hF
     refine zi h hF (fun hF => ?_) (fun hF => ?_)
     ·refine zs [6] h an fun a w h => ?_
      cases hF
      exact wp_ret (ret_okR tok h rfl (by kernel_rfl)).1
     ·refine wp_seq ?_
      refine zs [70,75] h an fun a w h => ?_
      refine wp_midT (fun a w => ∃ v:Bool,f73.j11 k v=some r∧Rel w0 (fun _ => False) Zi Try.f73.ntmps ((fun (v10:Bool) => ([(75,.val .bool v10)]:SS)) v) a w) ?_ ?_
      ·
       refine zi h hF (fun hF => ?_) (fun hF => ?_)
       ·refine wp_skip ?_
        exact ⟨(((Int.tmod (w64 ((w64 (r3 - r2)) + (8:Int))) (8:Int)):Int) == (5:Int)),hF,ar h [75]⟩
       ·refine zt [75] h an fun a w h => ?_
        exact ⟨(((Int.tmod (w64 ((w64 (r3 - r2)) + (8:Int))) (8:Int)):Int) == (6:Int)),hF,ar h [75]⟩
      ·rintro a w ⟨v10,hF,h⟩
       rw [f73.j11] at hF
       refine zi h hF (fun hF => ?_) (fun hF => ?_)
       ·refine zs [6] h an fun a w h => ?_
        cases hF
        exact wp_ret (ret_okR tok h rfl (by kernel_rfl)).1
       ·refine wp_skip ?_
        refine zs [6] h an fun a w h => ?_
        cases hF
        exact wp_ret (ret_okR tok h rfl (by kernel_rfl)).1
def f52.j124 (k:Nat) (v114:Int) (q66:((List Int) × (List Int) × (List Int) × Int)→Option ((List Int) × (List Int))):((List Int) × (List Int) × (List Int))→Option ((List Int) × (List Int))
 | (v121,v122,v123) => q66 (v121,v122,v123,(IntKind.i64.wrap (v114 + (1:Int))))
def f52.j2115 (k:Nat) (v2103:Int) (q2051:(Int × Int)→Option ((List Int) × (List Int))):Int→Option ((List Int) × (List Int))
 | v2114 => q2051 (v2114,(IntKind.i64.wrap (v2103 + (1:Int))))
def f52.j2302 (k:Nat) (v2270:Int) (q2126:((List Int) × (List Int) × (List Int) × Int)→Option ((List Int) × (List Int))):((List Int) × (List Int) × (List Int))→Option ((List Int) × (List Int))
 | (v2299,v2300,v2301) => q2126 (v2299,v2300,v2301,(IntKind.i64.wrap (v2270 + (1:Int))))
def f52.j2313 (k:Nat) (r131:(List (List Int))) (x0:((List (Int × (Int × Int))) × ((List (Int × (Int × (Int × (Int × (Int × ByteArray)))))) × (List (Int × Int))))) (v1975:(List Int)) (v2102:Int) (v2270:Int) (v2267:(List Int)) (v2268:(List Int)) (v2304:Int) (q2302:((List Int) × (List Int) × (List Int))→Option ((List Int) × (List Int))):(List Int)→Option ((List Int) × (List Int))
 | v2312 => if (0 ≤ (List.getD (List.getD r131 (Int.toNat (List.getD x0.2.1 (Int.toNat (List.getD v1975 (Int.toNat v2102) (0:Int))) ((0:Int),((0:Int),((0:Int),((0:Int),((0:Int),(⟨#[]⟩:ByteArray))))))).1) ([]:(List Int))) (Int.toNat v2270) (0:Int)) ∧ (List.getD (List.getD r131 (Int.toNat (List.getD x0.2.1 (Int.toNat (List.getD v1975 (Int.toNat v2102) (0:Int))) ((0:Int),((0:Int),((0:Int),((0:Int),((0:Int),(⟨#[]⟩:ByteArray))))))).1) ([]:(List Int))) (Int.toNat v2270) (0:Int)) < (List.length v2267:Int)) then (if (0 ≤ (List.getD v1975 (Int.toNat v2102) (0:Int)) ∧ (List.getD v1975 (Int.toNat v2102) (0:Int)) < (List.length v2268:Int)) then (if (0 ≤ (List.getD (List.getD r131 (Int.toNat (List.getD x0.2.1 (Int.toNat (List.getD v1975 (Int.toNat v2102) (0:Int))) ((0:Int),((0:Int),((0:Int),((0:Int),((0:Int),(⟨#[]⟩:ByteArray))))))).1) ([]:(List Int))) (Int.toNat v2270) (0:Int)) ∧ (List.getD (List.getD r131 (Int.toNat (List.getD x0.2.1 (Int.toNat (List.getD v1975 (Int.toNat v2102) (0:Int))) ((0:Int),((0:Int),((0:Int),((0:Int),((0:Int),(⟨#[]⟩:ByteArray))))))).1) ([]:(List Int))) (Int.toNat v2270) (0:Int)) < (List.length v2268:Int)) then (q2302 ((List.set v2267 (Int.toNat (List.getD (List.getD r131 (Int.toNat (List.getD x0.2.1 (Int.toNat (List.getD v1975 (Int.toNat v2102) (0:Int))) ((0:Int),((0:Int),((0:Int),((0:Int),((0:Int),(⟨#[]⟩:ByteArray))))))).1) ([]:(List Int))) (Int.toNat v2270) (0:Int))) v2304),(List.set v2268 (Int.toNat (List.getD (List.getD r131 (Int.toNat (List.getD x0.2.1 (Int.toNat (List.getD v1975 (Int.toNat v2102) (0:Int))) ((0:Int),((0:Int),((0:Int),((0:Int),((0:Int),(⟨#[]⟩:ByteArray))))))).1) ([]:(List Int))) (Int.toNat v2270) (0:Int))) (IntKind.i64.wrap ((List.getD v2268 (Int.toNat (List.getD v1975 (Int.toNat v2102) (0:Int))) (0:Int)) + (1:Int)))),v2312)) else none) else none) else none
def f52.l2126 (k:Nat) (r131:(List (List Int))) (x0:((List (Int × (Int × Int))) × ((List (Int × (Int × (Int × (Int × (Int × ByteArray)))))) × (List (Int × Int))))) (v1975:(List Int)) (v2102:Int) (v1974:(List Bool)) (q1235:((List Int) × (List Int) × (List Bool) × (List Int))→Option ((List Int) × (List Int))):Nat → ((List Int) × (List Int) × (List Int) × Int)→Option ((List Int) × (List Int))
 | 0,_ => none
 | m2126+1,(v2267,v2268,v2269,v2270) => if (decide (v2270 < (List.length (List.getD r131 (Int.toNat (List.getD x0.2.1 (Int.toNat (List.getD v1975 (Int.toNat v2102) (0:Int))) ((0:Int),((0:Int),((0:Int),((0:Int),((0:Int),(⟨#[]⟩:ByteArray))))))).1) ([]:(List Int))):Int))) then (if (0≤v2270∧v2270 < (List.length (List.getD r131 (Int.toNat (List.getD x0.2.1 (Int.toNat (List.getD v1975 (Int.toNat v2102) (0:Int))) ((0:Int),((0:Int),((0:Int),((0:Int),((0:Int),(⟨#[]⟩:ByteArray))))))).1) ([]:(List Int))):Int)) then ((f73 k x0 (List.getD (List.getD r131 (Int.toNat (List.getD x0.2.1 (Int.toNat (List.getD v1975 (Int.toNat v2102) (0:Int))) ((0:Int),((0:Int),((0:Int),((0:Int),((0:Int),(⟨#[]⟩:ByteArray))))))).1) ([]:(List Int))) (Int.toNat v2270) (0:Int)) (List.getD v1975 (Int.toNat v2102) (0:Int))).bind fun r2303 => (if (0 ≤ (List.getD (List.getD r131 (Int.toNat (List.getD x0.2.1 (Int.toNat (List.getD v1975 (Int.toNat v2102) (0:Int))) ((0:Int),((0:Int),((0:Int),((0:Int),((0:Int),(⟨#[]⟩:ByteArray))))))).1) ([]:(List Int))) (Int.toNat v2270) (0:Int)) ∧ (List.getD (List.getD r131 (Int.toNat (List.getD x0.2.1 (Int.toNat (List.getD v1975 (Int.toNat v2102) (0:Int))) ((0:Int),((0:Int),((0:Int),((0:Int),((0:Int),(⟨#[]⟩:ByteArray))))))).1) ([]:(List Int))) (Int.toNat v2270) (0:Int)) < (List.length (List.set v1974 (Int.toNat (List.getD v1975 (Int.toNat v2102) (0:Int))) true):Int)) then (if (bif (List.getD (List.set v1974 (Int.toNat (List.getD v1975 (Int.toNat v2102) (0:Int))) true) (Int.toNat (List.getD (List.getD r131 (Int.toNat (List.getD x0.2.1 (Int.toNat (List.getD v1975 (Int.toNat v2102) (0:Int))) ((0:Int),((0:Int),((0:Int),((0:Int),((0:Int),(⟨#[]⟩:ByteArray))))))).1) ([]:(List Int))) (Int.toNat v2270) (0:Int))) false) then true else (decide (r2303 < (0:Int)))) then (f52.j2302 k v2270 ((f52.l2126 k r131 x0 v1975 v2102 v1974 q1235) m2126) (v2267,v2268,v2269)) else (if (0 ≤ (List.getD (List.getD r131 (Int.toNat (List.getD x0.2.1 (Int.toNat (List.getD v1975 (Int.toNat v2102) (0:Int))) ((0:Int),((0:Int),((0:Int),((0:Int),((0:Int),(⟨#[]⟩:ByteArray))))))).1) ([]:(List Int))) (Int.toNat v2270) (0:Int)) ∧ (List.getD (List.getD r131 (Int.toNat (List.getD x0.2.1 (Int.toNat (List.getD v1975 (Int.toNat v2102) (0:Int))) ((0:Int),((0:Int),((0:Int),((0:Int),((0:Int),(⟨#[]⟩:ByteArray))))))).1) ([]:(List Int))) (Int.toNat v2270) (0:Int)) < (List.length x0.2.1:Int)) then (if (0 ≤ (List.getD v1975 (Int.toNat v2102) (0:Int)) ∧ (List.getD v1975 (Int.toNat v2102) (0:Int)) < (List.length v2267:Int)) then ((some ((IntKind.i64.wrap ((IntKind.i64.wrap ((List.getD x0.2.1 (Int.toNat (List.getD (List.getD r131 (Int.toNat (List.getD x0.2.1 (Int.toNat (List.getD v1975 (Int.toNat v2102) (0:Int))) ((0:Int),((0:Int),((0:Int),((0:Int),((0:Int),(⟨#[]⟩:ByteArray))))))).1) ([]:(List Int))) (Int.toNat v2270) (0:Int))) ((0:Int),((0:Int),((0:Int),((0:Int),((0:Int),(⟨#[]⟩:ByteArray))))))).2.2.2.1+r2303)) + (List.getD v2267 (Int.toNat (List.getD v1975 (Int.toNat v2102) (0:Int))) (0:Int)))):Int)).bind fun v2304 => (if (0 ≤ (List.getD (List.getD r131 (Int.toNat (List.getD x0.2.1 (Int.toNat (List.getD v1975 (Int.toNat v2102) (0:Int))) ((0:Int),((0:Int),((0:Int),((0:Int),((0:Int),(⟨#[]⟩:ByteArray))))))).1) ([]:(List Int))) (Int.toNat v2270) (0:Int)) ∧ (List.getD (List.getD r131 (Int.toNat (List.getD x0.2.1 (Int.toNat (List.getD v1975 (Int.toNat v2102) (0:Int))) ((0:Int),((0:Int),((0:Int),((0:Int),((0:Int),(⟨#[]⟩:ByteArray))))))).1) ([]:(List Int))) (Int.toNat v2270) (0:Int)) < (List.length v2267:Int)) then (if (decide (((List.getD v2267 (Int.toNat (List.getD (List.getD r131 (Int.toNat (List.getD x0.2.1 (Int.toNat (List.getD v1975 (Int.toNat v2102) (0:Int))) ((0:Int),((0:Int),((0:Int),((0:Int),((0:Int),(⟨#[]⟩:ByteArray))))))).1) ([]:(List Int))) (Int.toNat v2270) (0:Int))) (0:Int)):Int) < (0:Int))) then (if ((List.length v2269+List.length [(List.getD (List.getD r131 (Int.toNat (List.getD x0.2.1 (Int.toNat (List.getD v1975 (Int.toNat v2102) (0:Int))) ((0:Int),((0:Int),((0:Int),((0:Int),((0:Int),(⟨#[]⟩:ByteArray))))))).1) ([]:(List Int))) (Int.toNat v2270) (0:Int))])*8≤140737488355328) then (f52.j2313 k r131 x0 v1975 v2102 v2270 v2267 v2268 v2304 (f52.j2302 k v2270 ((f52.l2126 k r131 x0 v1975 v2102 v1974 q1235) m2126)) (v2269 ++ [(List.getD (List.getD r131 (Int.toNat (List.getD x0.2.1 (Int.toNat (List.getD v1975 (Int.toNat v2102) (0:Int))) ((0:Int),((0:Int),((0:Int),((0:Int),((0:Int),(⟨#[]⟩:ByteArray))))))).1) ([]:(List Int))) (Int.toNat v2270) (0:Int))])) else none) else (if (0 ≤ (List.getD (List.getD r131 (Int.toNat (List.getD x0.2.1 (Int.toNat (List.getD v1975 (Int.toNat v2102) (0:Int))) ((0:Int),((0:Int),((0:Int),((0:Int),((0:Int),(⟨#[]⟩:ByteArray))))))).1) ([]:(List Int))) (Int.toNat v2270) (0:Int)) ∧ (List.getD (List.getD r131 (Int.toNat (List.getD x0.2.1 (Int.toNat (List.getD v1975 (Int.toNat v2102) (0:Int))) ((0:Int),((0:Int),((0:Int),((0:Int),((0:Int),(⟨#[]⟩:ByteArray))))))).1) ([]:(List Int))) (Int.toNat v2270) (0:Int)) < (List.length v2267:Int)) then (if (((decide (v2304 > (List.getD v2267 (Int.toNat (List.getD (List.getD r131 (Int.toNat (List.getD x0.2.1 (Int.toNat (List.getD v1975 (Int.toNat v2102) (0:Int))) ((0:Int),((0:Int),((0:Int),((0:Int),((0:Int),(⟨#[]⟩:ByteArray))))))).1) ([]:(List Int))) (Int.toNat v2270) (0:Int))) (0:Int))))=false) → (0 ≤ (List.getD (List.getD r131 (Int.toNat (List.getD x0.2.1 (Int.toNat (List.getD v1975 (Int.toNat v2102) (0:Int))) ((0:Int),((0:Int),((0:Int),((0:Int),((0:Int),(⟨#[]⟩:ByteArray))))))).1) ([]:(List Int))) (Int.toNat v2270) (0:Int)) ∧ (List.getD (List.getD r131 (Int.toNat (List.getD x0.2.1 (Int.toNat (List.getD v1975 (Int.toNat v2102) (0:Int))) ((0:Int),((0:Int),((0:Int),((0:Int),((0:Int),(⟨#[]⟩:ByteArray))))))).1) ([]:(List Int))) (Int.toNat v2270) (0:Int)) < (List.length v2267:Int))) then (if ((((decide (v2304 > (List.getD v2267 (Int.toNat (List.getD (List.getD r131 (Int.toNat (List.getD x0.2.1 (Int.toNat (List.getD v1975 (Int.toNat v2102) (0:Int))) ((0:Int),((0:Int),((0:Int),((0:Int),((0:Int),(⟨#[]⟩:ByteArray))))))).1) ([]:(List Int))) (Int.toNat v2270) (0:Int))) (0:Int))))=false) ∧ ((v2304 == (List.getD v2267 (Int.toNat (List.getD (List.getD r131 (Int.toNat (List.getD x0.2.1 (Int.toNat (List.getD v1975 (Int.toNat v2102) (0:Int))) ((0:Int),((0:Int),((0:Int),((0:Int),((0:Int),(⟨#[]⟩:ByteArray))))))).1) ([]:(List Int))) (Int.toNat v2270) (0:Int))) (0:Int)))=true)) → (0 ≤ (List.getD v1975 (Int.toNat v2102) (0:Int)) ∧ (List.getD v1975 (Int.toNat v2102) (0:Int)) < (List.length v2268:Int))) then (if ((((decide (v2304 > (List.getD v2267 (Int.toNat (List.getD (List.getD r131 (Int.toNat (List.getD x0.2.1 (Int.toNat (List.getD v1975 (Int.toNat v2102) (0:Int))) ((0:Int),((0:Int),((0:Int),((0:Int),((0:Int),(⟨#[]⟩:ByteArray))))))).1) ([]:(List Int))) (Int.toNat v2270) (0:Int))) (0:Int))))=false) ∧ ((v2304 == (List.getD v2267 (Int.toNat (List.getD (List.getD r131 (Int.toNat (List.getD x0.2.1 (Int.toNat (List.getD v1975 (Int.toNat v2102) (0:Int))) ((0:Int),((0:Int),((0:Int),((0:Int),((0:Int),(⟨#[]⟩:ByteArray))))))).1) ([]:(List Int))) (Int.toNat v2270) (0:Int))) (0:Int)))=true)) → (0 ≤ (List.getD (List.getD r131 (Int.toNat (List.getD x0.2.1 (Int.toNat (List.getD v1975 (Int.toNat v2102) (0:Int))) ((0:Int),((0:Int),((0:Int),((0:Int),((0:Int),(⟨#[]⟩:ByteArray))))))).1) ([]:(List Int))) (Int.toNat v2270) (0:Int)) ∧ (List.getD (List.getD r131 (Int.toNat (List.getD x0.2.1 (Int.toNat (List.getD v1975 (Int.toNat v2102) (0:Int))) ((0:Int),((0:Int),((0:Int),((0:Int),((0:Int),(⟨#[]⟩:ByteArray))))))).1) ([]:(List Int))) (Int.toNat v2270) (0:Int)) < (List.length v2268:Int))) then ((some ((bif (decide (v2304 > (List.getD v2267 (Int.toNat (List.getD (List.getD r131 (Int.toNat (List.getD x0.2.1 (Int.toNat (List.getD v1975 (Int.toNat v2102) (0:Int))) ((0:Int),((0:Int),((0:Int),((0:Int),((0:Int),(⟨#[]⟩:ByteArray))))))).1) ([]:(List Int))) (Int.toNat v2270) (0:Int))) (0:Int)))) then true else (bif (v2304 == (List.getD v2267 (Int.toNat (List.getD (List.getD r131 (Int.toNat (List.getD x0.2.1 (Int.toNat (List.getD v1975 (Int.toNat v2102) (0:Int))) ((0:Int),((0:Int),((0:Int),((0:Int),((0:Int),(⟨#[]⟩:ByteArray))))))).1) ([]:(List Int))) (Int.toNat v2270) (0:Int))) (0:Int))) then (decide (((IntKind.i64.wrap ((List.getD v2268 (Int.toNat (List.getD v1975 (Int.toNat v2102) (0:Int))) (0:Int)) + (1:Int))):Int) ≥ (List.getD v2268 (Int.toNat (List.getD (List.getD r131 (Int.toNat (List.getD x0.2.1 (Int.toNat (List.getD v1975 (Int.toNat v2102) (0:Int))) ((0:Int),((0:Int),((0:Int),((0:Int),((0:Int),(⟨#[]⟩:ByteArray))))))).1) ([]:(List Int))) (Int.toNat v2270) (0:Int))) (0:Int)))) else false)):Bool)).bind fun v2318 => (if v2318 then (f52.j2302 k v2270 ((f52.l2126 k r131 x0 v1975 v2102 v1974 q1235) m2126) (v2267,v2268,v2269)) else (f52.j2313 k r131 x0 v1975 v2102 v2270 v2267 v2268 v2304 (f52.j2302 k v2270 ((f52.l2126 k r131 x0 v1975 v2102 v1974 q1235) m2126)) v2269))) else none) else none) else none) else none)) else none)) else none) else none)) else none)) else none) else (q1235 (v2267,v2268,(List.set v1974 (Int.toNat (List.getD v1975 (Int.toNat v2102) (0:Int))) true),v2269))
def f52.l2051 (k:Nat) (v1975:(List Int)) (v1972:(List Int)) (v1973:(List Int)) (v1974:(List Bool)) (x0:((List (Int × (Int × Int))) × ((List (Int × (Int × (Int × (Int × (Int × ByteArray)))))) × (List (Int × Int))))) (r131:(List (List Int))) (q1235:((List Int) × (List Int) × (List Bool) × (List Int))→Option ((List Int) × (List Int))):Nat → (Int × Int)→Option ((List Int) × (List Int))
 | 0,_ => none
 | m2051+1,(v2102,v2103) => if (decide (v2103 < (List.length v1975:Int))) then (if (0≤v2103∧v2103 < (List.length v1975:Int)) then (if (0≤v2102∧v2102 < (List.length v1975:Int)) then (if (0 ≤ (List.getD v1975 (Int.toNat v2103) (0:Int)) ∧ (List.getD v1975 (Int.toNat v2103) (0:Int)) < (List.length v1972:Int)) then (if (0 ≤ (List.getD v1975 (Int.toNat v2102) (0:Int)) ∧ (List.getD v1975 (Int.toNat v2102) (0:Int)) < (List.length v1972:Int)) then (if (((decide (((List.getD v1972 (Int.toNat (List.getD v1975 (Int.toNat v2103) (0:Int))) (0:Int)):Int) < (List.getD v1972 (Int.toNat (List.getD v1975 (Int.toNat v2102) (0:Int))) (0:Int))))=false) → (0 ≤ (List.getD v1975 (Int.toNat v2103) (0:Int)) ∧ (List.getD v1975 (Int.toNat v2103) (0:Int)) < (List.length v1972:Int))) then (if (((decide (((List.getD v1972 (Int.toNat (List.getD v1975 (Int.toNat v2103) (0:Int))) (0:Int)):Int) < (List.getD v1972 (Int.toNat (List.getD v1975 (Int.toNat v2102) (0:Int))) (0:Int))))=false) → (0 ≤ (List.getD v1975 (Int.toNat v2102) (0:Int)) ∧ (List.getD v1975 (Int.toNat v2102) (0:Int)) < (List.length v1972:Int))) then (if ((((decide (((List.getD v1972 (Int.toNat (List.getD v1975 (Int.toNat v2103) (0:Int))) (0:Int)):Int) < (List.getD v1972 (Int.toNat (List.getD v1975 (Int.toNat v2102) (0:Int))) (0:Int))))=false) ∧ ((((List.getD v1972 (Int.toNat (List.getD v1975 (Int.toNat v2103) (0:Int))) (0:Int)):Int) == (List.getD v1972 (Int.toNat (List.getD v1975 (Int.toNat v2102) (0:Int))) (0:Int)))=true)) → (0 ≤ (List.getD v1975 (Int.toNat v2103) (0:Int)) ∧ (List.getD v1975 (Int.toNat v2103) (0:Int)) < (List.length v1973:Int))) then (if ((((decide (((List.getD v1972 (Int.toNat (List.getD v1975 (Int.toNat v2103) (0:Int))) (0:Int)):Int) < (List.getD v1972 (Int.toNat (List.getD v1975 (Int.toNat v2102) (0:Int))) (0:Int))))=false) ∧ ((((List.getD v1972 (Int.toNat (List.getD v1975 (Int.toNat v2103) (0:Int))) (0:Int)):Int) == (List.getD v1972 (Int.toNat (List.getD v1975 (Int.toNat v2102) (0:Int))) (0:Int)))=true)) → (0 ≤ (List.getD v1975 (Int.toNat v2102) (0:Int)) ∧ (List.getD v1975 (Int.toNat v2102) (0:Int)) < (List.length v1973:Int))) then ((some ((bif (decide (((List.getD v1972 (Int.toNat (List.getD v1975 (Int.toNat v2103) (0:Int))) (0:Int)):Int) < (List.getD v1972 (Int.toNat (List.getD v1975 (Int.toNat v2102) (0:Int))) (0:Int)))) then true else (bif (((List.getD v1972 (Int.toNat (List.getD v1975 (Int.toNat v2103) (0:Int))) (0:Int)):Int) == (List.getD v1972 (Int.toNat (List.getD v1975 (Int.toNat v2102) (0:Int))) (0:Int))) then (decide (((List.getD v1973 (Int.toNat (List.getD v1975 (Int.toNat v2103) (0:Int))) (0:Int)):Int) < (List.getD v1973 (Int.toNat (List.getD v1975 (Int.toNat v2102) (0:Int))) (0:Int)))) else false)):Bool)).bind fun v2116 => (if v2116 then (f52.j2115 k v2103 ((f52.l2051 k v1975 v1972 v1973 v1974 x0 r131 q1235) m2051) v2103) else (f52.j2115 k v2103 ((f52.l2051 k v1975 v1972 v1973 v1974 x0 r131 q1235) m2051) v2102))) else none) else none) else none) else none) else none) else none) else none) else none) else (if (0≤v2102∧v2102 < (List.length v1975:Int)) then (if (0 ≤ (IntKind.i64.wrap ((List.length v1975:Int) - (1:Int))) ∧ (IntKind.i64.wrap ((List.length v1975:Int) - (1:Int))) < (List.length v1975:Int)) then (if (0≤v2102∧v2102 < (List.length v1975:Int)) then (if ((0:Int) ≤ (IntKind.i64.wrap ((List.length (List.set v1975 (Int.toNat v2102) (List.getD v1975 (Int.toNat (IntKind.i64.wrap ((List.length v1975:Int) - (1:Int)))) (0:Int))):Int) - (1:Int))) ∧ ((IntKind.i64.wrap ((List.length (List.set v1975 (Int.toNat v2102) (List.getD v1975 (Int.toNat (IntKind.i64.wrap ((List.length v1975:Int) - (1:Int)))) (0:Int))):Int) - (1:Int))):Int) ≤ (List.length (List.set v1975 (Int.toNat v2102) (List.getD v1975 (Int.toNat (IntKind.i64.wrap ((List.length v1975:Int) - (1:Int)))) (0:Int))):Int)) then (if (0 ≤ (List.getD v1975 (Int.toNat v2102) (0:Int)) ∧ (List.getD v1975 (Int.toNat v2102) (0:Int)) < (List.length v1974:Int)) then (if (0 ≤ (List.getD v1975 (Int.toNat v2102) (0:Int)) ∧ (List.getD v1975 (Int.toNat v2102) (0:Int)) < (List.length x0.2.1:Int)) then (if (0 ≤ (List.getD x0.2.1 (Int.toNat (List.getD v1975 (Int.toNat v2102) (0:Int))) ((0:Int),((0:Int),((0:Int),((0:Int),((0:Int),(⟨#[]⟩:ByteArray))))))).1 ∧ (List.getD x0.2.1 (Int.toNat (List.getD v1975 (Int.toNat v2102) (0:Int))) ((0:Int),((0:Int),((0:Int),((0:Int),((0:Int),(⟨#[]⟩:ByteArray))))))).1 < (List.length r131:Int)) then (f52.l2126 k r131 x0 v1975 v2102 v1974 (q1235) k (v1972,v1973,(List.take (Int.toNat (IntKind.i64.wrap ((List.length (List.set v1975 (Int.toNat v2102) (List.getD v1975 (Int.toNat (IntKind.i64.wrap ((List.length v1975:Int) - (1:Int)))) (0:Int))):Int) - (1:Int)))) (List.set v1975 (Int.toNat v2102) (List.getD v1975 (Int.toNat (IntKind.i64.wrap ((List.length v1975:Int) - (1:Int)))) (0:Int)))),(0:Int))) else none) else none) else none) else none) else none) else none) else none)
def f52.l1235 (k:Nat) (x0:((List (Int × (Int × Int))) × ((List (Int × (Int × (Int × (Int × (Int × ByteArray)))))) × (List (Int × Int))))) (r131:(List (List Int))):Nat → ((List Int) × (List Int) × (List Bool) × (List Int))→Option ((List Int) × (List Int))
 | 0,_ => none
 | m1235+1,(v1972,v1973,v1974,v1975) => if (decide (((List.length v1975:Int):Int) > (0:Int))) then (f52.l2051 k v1975 v1972 v1973 v1974 x0 r131 ((f52.l1235 k x0 r131) m1235) k ((0:Int),(1:Int))) else (some (v1972,v1973))
def f52.l66 (k:Nat) (x0:((List (Int × (Int × Int))) × ((List (Int × (Int × (Int × (Int × (Int × ByteArray)))))) × (List (Int × Int))))) (x1:Int):Nat → ((List Int) × (List Int) × (List Int) × Int)→Option ((List Int) × (List Int))
 | 0,_ => none
 | m66+1,(v111,v112,v113,v114) => if (decide (v114 < (List.length x0.2.1:Int))) then (if (0≤v114∧v114 < (List.length v111:Int)) then (if (0≤v114∧v114 < (List.length x0.2.1:Int)) then (if (((List.getD x0.2.1 (Int.toNat v114) ((0:Int),((0:Int),((0:Int),((0:Int),((0:Int),(⟨#[]⟩:ByteArray))))))).2.1:Int) == x1) then (if (0≤v114∧v114 < (List.length x0.2.1:Int)) then (if (0≤v114∧v114 < (List.length (List.set v111 (Int.toNat v114) (-1:Int)):Int)) then (if (0≤v114∧v114 < (List.length v112:Int)) then (if ((List.length v113+List.length [v114])*8≤140737488355328) then (f52.j124 k v114 ((f52.l66 k x0 x1) m66) ((List.set (List.set v111 (Int.toNat v114) (-1:Int)) (Int.toNat v114) (List.getD x0.2.1 (Int.toNat v114) ((0:Int),((0:Int),((0:Int),((0:Int),((0:Int),(⟨#[]⟩:ByteArray))))))).2.2.2.1),(List.set v112 (Int.toNat v114) (1:Int)),(v113 ++ [v114]))) else none) else none) else none) else none) else (f52.j124 k v114 ((f52.l66 k x0 x1) m66) ((List.set v111 (Int.toNat v114) (-1:Int)),v112,v113))) else none) else none) else ((f49 k x0 true).bind fun r131 => (f52.l1235 k x0 r131 k (v111,v112,(List.replicate (Int.toNat (List.length x0.2.1:Int)) false),v113)))
def f52 (k:Nat) (x0:((List (Int × (Int × Int))) × ((List (Int × (Int × (Int × (Int × (Int × ByteArray)))))) × (List (Int × Int))))) (x1:Int):Option ((List Int) × (List Int)):=if (0 ≤ (List.length x0.2.1:Int)∧Int.toNat (List.length x0.2.1:Int)*8≤140737488355328) then (if (0 ≤ (List.length x0.2.1:Int)∧Int.toNat (List.length x0.2.1:Int)*8≤140737488355328) then (if (0 ≤ (List.length x0.2.1:Int)∧Int.toNat (List.length x0.2.1:Int)*1≤140737488355328) then (f52.l66 k x0 x1 k ((List.replicate (Int.toNat (List.length x0.2.1:Int)) (0:Int)),(List.replicate (Int.toNat (List.length x0.2.1:Int)) (0:Int)),([]:List Int),(0:Int))) else none) else none) else none
theorem c52 (k:Nat) (x0:tG) (x1:Int) (r:((List Int) × (List Int))) (hF:f52 k x0 x1=some r):PCall Try.prog 52 [⟨sh18,x0⟩,⟨iS,x1⟩] [⟨sh45,r⟩]:=by
 refine pcall_intro Try.func52 rfl rfl (Nat.le_of_ble_eq_true rfl) ?_
 intro w0 Zi a w h
 rw [f52] at hF
 refine zs [1,2,4] h an fun a w h => ?_
 refine zs [1,2,4,5] h an fun a w h => ?_
 obtain ⟨hc2340,hF⟩:=of_if hF
 obtain ⟨hc2341,hF⟩:=of_if hF
 refine wp_regy_seq tok (orc:=o0) (l:=[1,2,4,5,6]) ([],[(4,[25,27])],[],[(5,[])]) 6 nw h (by kernel_rfl) (by kernel_rfl) (ac hc2340 (ac hc2341 an)) fun a w h => ?_
 obtain ⟨hc2339,hF⟩:=of_if hF
 refine zs [1,2,4,5,6,7] h (ac hc2339 an) fun a w h => ?_
 refine zs [1,2,4,5,6,7,8] h an fun a w h => ?_
 refine wp_seq ?_
 refine zs [1,2,4,5,6,7,8,9] h an fun a w h => ?_
 refine wp_block ?_
 refine wp_loop_fuel (f52.l66 k x0 x1) (fun ((v111,v112,v113,v114):((List Int) × (List Int) × (List Int) × Int)) => [(1,.val iS x1),(2,.val sh17 (some x0)),(4,.val sh44 (some (lO,lO))),(5,.val iS (List.length x0.2.1:Int)),(6,.val sh44 (some (v111,v112))),(7,.val (.sl true 4 .bool) (List.replicate (tZ (List.length x0.2.1:Int)) false)),(8,.val (.sl true 2 iS) v113),(9,.val iS v114)]) (fun v h => by obtain ⟨v111,v112,v113,v114⟩:=v; rw [f52.l66] at h; cases h) ?_ hF (ar h [1,2,4,5,6,7,8,9])
 intro m66 v a w hF h
 obtain ⟨v111,v112,v113,v114⟩:=v
 rw [f52.l66] at hF
 refine wp_seq ?_
 refine zs [1,2,4,5,6,7,8,9,34] h an fun a w h => ?_
 refine zi h hF (fun hF => ?_) (fun hF => ?_)
 ·refine wp_skip ?_
  refine wp_mid (fun a w => ∃ v:((List Int) × (List Int) × (List Int)),f52.j124 k v114 ((f52.l66 k x0 x1) m66) v=some r∧Rel w0 (fun _ => False) Zi Try.f52.ntmps ((fun ((v121,v122,v123):((List Int) × (List Int) × (List Int))) => ([(1,.val iS x1),(2,.val sh17 (some x0)),(4,.val sh44 (some (lO,lO))),(5,.val iS (List.length x0.2.1:Int)),(6,.val sh44 (some (v121,v122))),(7,.val (.sl true 4 .bool) (List.replicate (tZ (List.length x0.2.1:Int)) false)),(8,.val (.sl true 2 iS) v123),(9,.val iS v114)]:SS)) v) a w) ?_ ?_
  ·
   refine wp_block ?_
   obtain ⟨hc130,hF⟩:=of_if hF
   refine zs [1,2,4,5,6,7,8,9] h (ac hc130 an) fun a w h => ?_
   obtain ⟨hc129,hF⟩:=of_if hF
   refine zs [1,2,4,5,6,7,8,9,48] h (ac hc129 an) fun a w h => ?_
   refine zi h hF (fun hF => ?_) (fun hF => ?_)
   ·obtain ⟨hc127,hF⟩:=of_if hF
    obtain ⟨hc128,hF⟩:=of_if hF
    refine wp_regy_seq tok (orc:=o0) (l:=[1,2,4,5,6,7,8,9]) ([],[],[],[]) 10 nw h (by kernel_rfl) (by kernel_rfl) (ac hc127 (ac hc128 an)) fun a w h => ?_
    obtain ⟨hc126,hF⟩:=of_if hF
    refine zs [1,2,4,5,6,7,8,9] h (ac hc126 an) fun a w h => ?_
    obtain ⟨hc125,hF⟩:=of_if hF
    refine zt [1,2,4,5,6,7,8,9] h (ac hc125 an) fun a w h => ?_
    exact ⟨((List.set (List.set v111 (tZ v114) (-1:Int)) (tZ v114) (gD x0.2.1 (tZ v114) zR).2.2.2.1),(List.set v112 (tZ v114) (1:Int)),(v113 ++ [v114])),hF,ar h [1,2,4,5,6,7,8,9]⟩
   ·refine wp_skip ?_
    exact ⟨((List.set v111 (tZ v114) (-1:Int)),v112,v113),hF,ar h [1,2,4,5,6,7,8,9]⟩
  ·rintro a w ⟨v,hF,h⟩
   obtain ⟨v121,v122,v123⟩:=v
   rw [f52.j124] at hF
   refine zt [1,2,4,5,6,7,8,9] h an fun a w h => ?_
   exact ⟨(v121,v122,v123,(w64 (v114 + (1:Int)))),hF,ar h [1,2,4,5,6,7,8,9]⟩
 ·refine wp_exit ?_
  obtain ⟨r131,hr2338,hF⟩:=of_bind hF
  refine zc (orcL [(68,[⟨sh21,r131⟩])]) [2,4,6,7,8,10] h (ac (c49 k x0 true r131 hr2338) an) fun a w h => ?_
  refine wp_seq <| wp_block ?_
  refine wp_loop_fuel (f52.l1235 k x0 r131) (fun ((v1972,v1973,v1974,v1975):((List Int) × (List Int) × (List Bool) × (List Int))) => [(2,.val sh17 (some x0)),(4,.val sh44 (some (lO,lO))),(6,.val sh44 (some (v1972,v1973))),(7,.val (.sl true 4 .bool) v1974),(8,.val (.sl true 2 iS) v1975),(10,.val sh21 r131)]) (fun v h => by obtain ⟨v1972,v1973,v1974,v1975⟩:=v; rw [f52.l1235] at h; cases h) ?_ hF (ar h [2,4,6,7,8,10])
  intro m1235 v a w hF h
  obtain ⟨v1972,v1973,v1974,v1975⟩:=v
  rw [f52.l1235] at hF
  refine wp_seq ?_
  refine zs [2,4,6,7,8,10,71] h an fun a w h => ?_
  refine zi h hF (fun hF => ?_) (fun hF => ?_)
  ·refine wp_skip ?_
   refine wp_block ?_
   refine zs [2,4,6,7,8,10,11] h an fun a w h => ?_
   refine wp_seq ?_
   refine zs [2,4,6,7,8,10,11,12] h an fun a w h => ?_
   refine wp_block ?_
   refine wp_loop_fuel (f52.l2051 k v1975 v1972 v1973 v1974 x0 r131 ((f52.l1235 k x0 r131) m1235)) (fun ((v2102,v2103):(Int × Int)) => [(2,.val sh17 (some x0)),(4,.val sh44 (some (lO,lO))),(6,.val sh44 (some (v1972,v1973))),(7,.val (.sl true 4 .bool) v1974),(8,.val (.sl true 2 iS) v1975),(10,.val sh21 r131),(11,.val iS v2102),(12,.val iS v2103)]) (fun v h => by obtain ⟨v2102,v2103⟩:=v; rw [f52.l2051] at h; cases h) ?_ hF (ar h [2,4,6,7,8,10,11,12])
   intro m2051 v a w hF h
   obtain ⟨v2102,v2103⟩:=v
   rw [f52.l2051] at hF
   refine wp_seq ?_
   refine zs [2,4,6,7,8,10,11,12,75] h an fun a w h => ?_
   refine zi h hF (fun hF => ?_) (fun hF => ?_)
   ·refine wp_skip ?_
    refine wp_mid (fun a w => ∃ v:Int,f52.j2115 k v2103 ((f52.l2051 k v1975 v1972 v1973 v1974 x0 r131 ((f52.l1235 k x0 r131) m1235)) m2051) v=some r∧Rel w0 (fun _ => False) Zi Try.f52.ntmps ((fun v2114 => ([(2,.val sh17 (some x0)),(4,.val sh44 (some (lO,lO))),(6,.val sh44 (some (v1972,v1973))),(7,.val (.sl true 4 .bool) v1974),(8,.val (.sl true 2 iS) v1975),(10,.val sh21 r131),(11,.val iS v2114),(12,.val iS v2103)]:SS)) v) a w) ?_ ?_
    ·
     refine wp_block ?_
     obtain ⟨hc2125,hF⟩:=of_if hF
     refine zs [2,4,6,7,8,10,11,12,13] h (ac hc2125 an) fun a w h => ?_
     obtain ⟨hc2124,hF⟩:=of_if hF
     refine zs [2,4,6,7,8,10,11,12,13,14] h (ac hc2124 an) fun a w h => ?_
     obtain ⟨hc2118,hF⟩:=of_if hF
     obtain ⟨hc2119,hF⟩:=of_if hF
     obtain ⟨hc2120,hF⟩:=of_if hF
     obtain ⟨hc2121,hF⟩:=of_if hF
     obtain ⟨hc2122,hF⟩:=of_if hF
     obtain ⟨hc2123,hF⟩:=of_if hF
     refine wp_regy_seq tok (orc:=o0) (l:=[2,4,6,7,8,10,11,12,122]) ([],[],[],[]) 37 nw h (by kernel_rfl) (by kernel_rfl) (ac hc2118 (ac hc2119 (ac hc2120 (ac hc2121 (ac hc2122 (ac hc2123 an)))))) fun a w h => ?_
     obtain ⟨v2116,hv2117,hF⟩:=of_bind hF
     replace h:=h.cast (S':=[(2,.val sh17 (some x0)),(4,.val sh44 (some (lO,lO))),(6,.val sh44 (some (v1972,v1973))),(7,.val (.sl true 4 .bool) v1974),(8,.val (.sl true 2 iS) v1975),(10,.val sh21 r131),(11,.val iS v2102),(12,.val iS v2103),(122,.val .bool v2116)]) (by cases hv2117; kernel_rfl)
     refine zi h hF (fun hF => ?_) (fun hF => ?_)
     ·refine zt [2,4,6,7,8,10,11,12] h an fun a w h => ?_
      exact ⟨v2103,hF,ar h [2,4,6,7,8,10,11,12]⟩
     ·refine wp_skip ?_
      exact ⟨v2102,hF,ar h [2,4,6,7,8,10,11,12]⟩
    ·rintro a w ⟨v2114,hF,h⟩
     rw [f52.j2115] at hF
     refine zt [2,4,6,7,8,10,11,12] h an fun a w h => ?_
     exact ⟨(v2114,(w64 (v2103 + (1:Int)))),hF,ar h [2,4,6,7,8,10,11,12]⟩
   ·refine wp_exit ?_
    obtain ⟨hc2337,hF⟩:=of_if hF
    refine zs [2,4,6,7,8,10,11,15] h (ac hc2337 an) fun a w h => ?_
    obtain ⟨hc2335,hF⟩:=of_if hF
    obtain ⟨hc2336,hF⟩:=of_if hF
    refine zs [2,4,6,7,8,10,15] h (ac hc2335 (ac hc2336 an)) fun a w h => ?_
    obtain ⟨hc2334,hF⟩:=of_if hF
    refine zs [2,4,6,7,8,10,15] h (ac hc2334 an) fun a w h => ?_
    obtain ⟨hc2333,hF⟩:=of_if hF
    refine zs [2,4,6,7,8,10,15] h (ac hc2333 an) fun a w h => ?_
    obtain ⟨hc2331,hF⟩:=of_if hF
    obtain ⟨hc2332,hF⟩:=of_if hF
    refine zs [2,4,6,7,8,10,15,16] h (ac hc2331 (ac hc2332 an)) fun a w h => ?_
    refine zs [2,4,6,7,8,10,15,16,17] h an fun a w h => ?_
    refine wp_block ?_
    refine wp_loop_fuel (f52.l2126 k r131 x0 v1975 v2102 v1974 ((f52.l1235 k x0 r131) m1235)) (fun ((v2267,v2268,v2269,v2270):((List Int) × (List Int) × (List Int) × Int)) => [(2,.val sh17 (some x0)),(4,.val sh44 (some (lO,lO))),(6,.val sh44 (some (v2267,v2268))),(7,.val (.sl true 4 .bool) (List.set v1974 (tZ (gD v1975 (tZ v2102) iO)) true)),(8,.val (.sl true 2 iS) v2269),(10,.val sh21 r131),(15,.val iS (gD v1975 (tZ v2102) iO)),(16,.copy 10 [.idx (tZ (gD x0.2.1 (tZ (gD v1975 (tZ v2102) iO)) zR).1)]),(17,.val iS v2270)]) (fun v h => by obtain ⟨v2267,v2268,v2269,v2270⟩:=v; rw [f52.l2126] at h; cases h) ?_ hF (ar h [2,4,6,7,8,10,15,16,17])
    intro m2126 v a w hF h
    obtain ⟨v2267,v2268,v2269,v2270⟩:=v
    rw [f52.l2126] at hF
    refine wp_seq ?_
    refine zs [2,4,6,7,8,10,15,16,17,157] h an fun a w h => ?_
    refine zi h hF (fun hF => ?_) (fun hF => ?_)
    ·refine wp_skip ?_
     refine wp_mid (fun a w => ∃ v:((List Int) × (List Int) × (List Int)),f52.j2302 k v2270 ((f52.l2126 k r131 x0 v1975 v2102 v1974 ((f52.l1235 k x0 r131) m1235)) m2126) v=some r∧Rel w0 (fun _ => False) Zi Try.f52.ntmps ((fun ((v2299,v2300,v2301):((List Int) × (List Int) × (List Int))) => ([(2,.val sh17 (some x0)),(4,.val sh44 (some (lO,lO))),(6,.val sh44 (some (v2299,v2300))),(7,.val (.sl true 4 .bool) (List.set v1974 (tZ (gD v1975 (tZ v2102) iO)) true)),(8,.val (.sl true 2 iS) v2301),(10,.val sh21 r131),(15,.val iS (gD v1975 (tZ v2102) iO)),(16,.copy 10 [.idx (tZ (gD x0.2.1 (tZ (gD v1975 (tZ v2102) iO)) zR).1)]),(17,.val iS v2270)]:SS)) v) a w) ?_ ?_
     ·
      refine wp_block ?_
      obtain ⟨hc2330,hF⟩:=of_if hF
      refine zs [2,4,6,7,8,10,15,16,17,18] h (ac hc2330 an) fun a w h => ?_
      obtain ⟨r2303,hr2329,hF⟩:=of_bind hF
      refine zc (orcL [(167,[⟨iS,r2303⟩])]) [2,4,6,7,8,10,15,16,17,18,19] h (ac (c73 k x0 (gD (gD r131 (tZ (gD x0.2.1 (tZ (gD v1975 (tZ v2102) iO)) zR).1) lO) (tZ v2270) iO) (gD v1975 (tZ v2102) iO) r2303 hr2329) an) fun a w h => ?_
      refine wp_seq ?_
      obtain ⟨hc2328,hF⟩:=of_if hF
      refine zs [2,4,6,7,8,10,15,16,17,18,19,175] h (ac hc2328 an) fun a w h => ?_
      refine zi h hF (fun hF => ?_) (fun hF => ?_)
      ·refine wp_exit ?_
       exact ⟨(v2267,v2268,v2269),hF,ar h [2,4,6,7,8,10,15,16,17]⟩
      ·refine wp_skip ?_
       obtain ⟨hc2326,hF⟩:=of_if hF
       obtain ⟨hc2327,hF⟩:=of_if hF
       refine wp_regy_seq tok (orc:=o0) (l:=[2,4,6,7,8,10,15,16,17,18,20]) ([],[],[],[]) 15 nw h (by kernel_rfl) (by kernel_rfl) (ac hc2326 (ac hc2327 an)) fun a w h => ?_
       obtain ⟨v2304,hv2325,hF⟩:=of_bind hF
       replace h:=h.cast (S':=[(2,.val sh17 (some x0)),(4,.val sh44 (some (lO,lO))),(6,.val sh44 (some (v2267,v2268))),(7,.val (.sl true 4 .bool) (List.set v1974 (tZ (gD v1975 (tZ v2102) iO)) true)),(8,.val (.sl true 2 iS) v2269),(10,.val sh21 r131),(15,.val iS (gD v1975 (tZ v2102) iO)),(16,.copy 10 [.idx (tZ (gD x0.2.1 (tZ (gD v1975 (tZ v2102) iO)) zR).1)]),(17,.val iS v2270),(18,.val iS (gD (gD r131 (tZ (gD x0.2.1 (tZ (gD v1975 (tZ v2102) iO)) zR).1) lO) (tZ v2270) iO)),(20,.val iS v2304)]) (by cases hv2325; kernel_rfl)
       refine wp_seq ?_
       obtain ⟨hc2324,hF⟩:=of_if hF
       refine zs [2,4,6,7,8,10,15,16,17,18,20,195] h (ac hc2324 an) fun a w h => ?_
       refine wp_midT (fun a w => ∃ v:(List Int),f52.j2313 k r131 x0 v1975 v2102 v2270 v2267 v2268 v2304 (f52.j2302 k v2270 ((f52.l2126 k r131 x0 v1975 v2102 v1974 ((f52.l1235 k x0 r131) m1235)) m2126)) v=some r∧Rel w0 (fun _ => False) Zi Try.f52.ntmps ((fun (v2312:(List Int)) => ([(2,.val sh17 (some x0)),(4,.val sh44 (some (lO,lO))),(6,.val sh44 (some (v2267,v2268))),(7,.val (.sl true 4 .bool) (List.set v1974 (tZ (gD v1975 (tZ v2102) iO)) true)),(8,.val (.sl true 2 iS) v2312),(10,.val sh21 r131),(15,.val iS (gD v1975 (tZ v2102) iO)),(16,.copy 10 [.idx (tZ (gD x0.2.1 (tZ (gD v1975 (tZ v2102) iO)) zR).1)]),(17,.val iS v2270),(18,.val iS (gD (gD r131 (tZ (gD x0.2.1 (tZ (gD v1975 (tZ v2102) iO)) zR).1) lO) (tZ v2270) iO)),(20,.val iS v2304)]:SS)) v) a w) ?_ ?_
       ·
        refine zi h hF (fun hF => ?_) (fun hF => ?_)
        ·obtain ⟨hc2317,hF⟩:=of_if hF
         refine zt [2,4,6,7,8,10,15,16,17,18,20] h (ac hc2317 an) fun a w h => ?_
         exact ⟨(v2269 ++ [(gD (gD r131 (tZ (gD x0.2.1 (tZ (gD v1975 (tZ v2102) iO)) zR).1) lO) (tZ v2270) iO)]),hF,ar h [2,4,6,7,8,10,15,16,17,18,20]⟩
        ·obtain ⟨hc2320,hF⟩:=of_if hF
         obtain ⟨hc2321,hF⟩:=of_if hF
         obtain ⟨hc2322,hF⟩:=of_if hF
         obtain ⟨hc2323,hF⟩:=of_if hF
         refine wp_regy_seq tok (orc:=o0) (l:=[2,4,6,7,8,10,15,16,17,18,20,229]) ([],[],[],[]) 30 nw h (by kernel_rfl) (by kernel_rfl) (ac hc2320 (ac hc2321 (ac hc2322 (ac hc2323 an)))) fun a w h => ?_
         obtain ⟨v2318,hv2319,hF⟩:=of_bind hF
         replace h:=h.cast (S':=[(2,.val sh17 (some x0)),(4,.val sh44 (some (lO,lO))),(6,.val sh44 (some (v2267,v2268))),(7,.val (.sl true 4 .bool) (List.set v1974 (tZ (gD v1975 (tZ v2102) iO)) true)),(8,.val (.sl true 2 iS) v2269),(10,.val sh21 r131),(15,.val iS (gD v1975 (tZ v2102) iO)),(16,.copy 10 [.idx (tZ (gD x0.2.1 (tZ (gD v1975 (tZ v2102) iO)) zR).1)]),(17,.val iS v2270),(18,.val iS (gD (gD r131 (tZ (gD x0.2.1 (tZ (gD v1975 (tZ v2102) iO)) zR).1) lO) (tZ v2270) iO)),(20,.val iS v2304),(229,.val .bool v2318)]) (by cases hv2319; kernel_rfl)
         refine zi h hF (fun hF => ?_) (fun hF => ?_)
         ·refine wp_exit ?_
          exact ⟨(v2267,v2268,v2269),hF,ar h [2,4,6,7,8,10,15,16,17]⟩
         ·refine wp_skip ?_
          exact ⟨v2269,hF,ar h [2,4,6,7,8,10,15,16,17,18,20]⟩
       ·rintro a w ⟨v2312,hF,h⟩
        rw [f52.j2313] at hF
        obtain ⟨hc2316,hF⟩:=of_if hF
        refine zs [2,4,6,7,8,10,15,16,17,18] h (ac hc2316 an) fun a w h => ?_
        obtain ⟨hc2314,hF⟩:=of_if hF
        obtain ⟨hc2315,hF⟩:=of_if hF
        refine wp_regy tok (orc:=o0) (l:=[2,4,6,7,8,10,15,16,17]) ([],[],[],[]) 10 nw h (by kernel_rfl) (by kernel_rfl) (ac hc2314 (ac hc2315 an)) fun a w h => ?_
        exact ⟨((List.set v2267 (tZ (gD (gD r131 (tZ (gD x0.2.1 (tZ (gD v1975 (tZ v2102) iO)) zR).1) lO) (tZ v2270) iO)) v2304),(List.set v2268 (tZ (gD (gD r131 (tZ (gD x0.2.1 (tZ (gD v1975 (tZ v2102) iO)) zR).1) lO) (tZ v2270) iO)) (w64 ((gD v2268 (tZ (gD v1975 (tZ v2102) iO)) iO) + (1:Int)))),v2312),hF,ar h [2,4,6,7,8,10,15,16,17]⟩
     ·rintro a w ⟨v,hF,h⟩
      obtain ⟨v2299,v2300,v2301⟩:=v
      rw [f52.j2302] at hF
      refine zt [2,4,6,7,8,10,15,16,17] h an fun a w h => ?_
      exact ⟨(v2299,v2300,v2301,(w64 (v2270 + (1:Int)))),hF,ar h [2,4,6,7,8,10,15,16,17]⟩
    ·refine wp_exit ?_
     exact ⟨(v2267,v2268,(List.set v1974 (tZ (gD v1975 (tZ v2102) iO)) true),v2269),hF,ar h [2,4,6,7,8,10]⟩
  ·refine wp_exit ?_
   refine zs [4] h an fun a w h => ?_
   cases hF
   exact wp_ret (ret_okR tok h rfl (by kernel_rfl)).1
def f74.j143 (k:Nat) (v131:Int) (q77:(Int × Int × Int)→Option Int):(Int × Int)→Option Int
 | (v141,v142) => q77 (v141,v142,(IntKind.i64.wrap (v131 + (1:Int))))
def f74.l77 (k:Nat) (x1:(List Int)) (x0:((List Int) × (List Int))) (x2:(List Int)):Nat → (Int × Int × Int)→Option Int
 | 0,_ => none
 | m77+1,(v129,v130,v131) => if (decide (v131 < (List.length x1:Int))) then (if (0≤v131∧v131 < (List.length x1:Int)) then (if (0 ≤ (List.getD x1 (Int.toNat v131) (0:Int)) ∧ (List.getD x1 (Int.toNat v131) (0:Int)) < (List.length x0.1:Int)) then (if (((decide (((List.getD x0.1 (Int.toNat (List.getD x1 (Int.toNat v131) (0:Int))) (0:Int)):Int) < (0:Int)))=false) → (0≤v131∧v131 < (List.length x2:Int))) then (if (bif (decide (((List.getD x0.1 (Int.toNat (List.getD x1 (Int.toNat v131) (0:Int))) (0:Int)):Int) < (0:Int))) then true else (decide (((List.getD x2 (Int.toNat v131) (0:Int)):Int) < (0:Int)))) then (f74.j143 k v131 ((f74.l77 k x1 x0 x2) m77) (v129,v130)) else (if (0 ≤ (List.getD x1 (Int.toNat v131) (0:Int)) ∧ (List.getD x1 (Int.toNat v131) (0:Int)) < (List.length x0.1:Int)) then (if (0≤v131∧v131 < (List.length x2:Int)) then (if ((((bif (decide (v129 < (0:Int))) then true else (decide (((IntKind.i64.wrap ((List.getD x0.1 (Int.toNat (List.getD x1 (Int.toNat v131) (0:Int))) (0:Int)) + (List.getD x2 (Int.toNat v131) (0:Int)))):Int) < v130)))=false) ∧ ((((IntKind.i64.wrap ((List.getD x0.1 (Int.toNat (List.getD x1 (Int.toNat v131) (0:Int))) (0:Int)) + (List.getD x2 (Int.toNat v131) (0:Int)))):Int) == v130)=true)) → (0 ≤ (List.getD x1 (Int.toNat v131) (0:Int)) ∧ (List.getD x1 (Int.toNat v131) (0:Int)) < (List.length x0.2:Int))) then (if ((((bif (decide (v129 < (0:Int))) then true else (decide (((IntKind.i64.wrap ((List.getD x0.1 (Int.toNat (List.getD x1 (Int.toNat v131) (0:Int))) (0:Int)) + (List.getD x2 (Int.toNat v131) (0:Int)))):Int) < v130)))=false) ∧ ((((IntKind.i64.wrap ((List.getD x0.1 (Int.toNat (List.getD x1 (Int.toNat v131) (0:Int))) (0:Int)) + (List.getD x2 (Int.toNat v131) (0:Int)))):Int) == v130)=true)) → (0≤v129∧v129 < (List.length x0.2:Int))) then ((some ((bif (bif (decide (v129 < (0:Int))) then true else (decide (((IntKind.i64.wrap ((List.getD x0.1 (Int.toNat (List.getD x1 (Int.toNat v131) (0:Int))) (0:Int)) + (List.getD x2 (Int.toNat v131) (0:Int)))):Int) < v130))) then true else (bif (((IntKind.i64.wrap ((List.getD x0.1 (Int.toNat (List.getD x1 (Int.toNat v131) (0:Int))) (0:Int)) + (List.getD x2 (Int.toNat v131) (0:Int)))):Int) == v130) then (decide (((List.getD x0.2 (Int.toNat (List.getD x1 (Int.toNat v131) (0:Int))) (0:Int)):Int) < (List.getD x0.2 (Int.toNat v129) (0:Int)))) else false)):Bool)).bind fun v144 => (if v144 then (f74.j143 k v131 ((f74.l77 k x1 x0 x2) m77) ((List.getD x1 (Int.toNat v131) (0:Int)),(IntKind.i64.wrap ((List.getD x0.1 (Int.toNat (List.getD x1 (Int.toNat v131) (0:Int))) (0:Int)) + (List.getD x2 (Int.toNat v131) (0:Int)))))) else (f74.j143 k v131 ((f74.l77 k x1 x0 x2) m77) (v129,v130)))) else none) else none) else none) else none)) else none) else none) else none) else (some v129)
def f74 (k:Nat) (x0:((List Int) × (List Int))) (x1:(List Int)) (x2:(List Int)):Option Int:=f74.l77 k x1 x0 x2 k ((-1:Int),(0:Int),(0:Int))
theorem c74 (k:Nat) (x0:((List Int) × (List Int))) (x1:(List Int)) (x2:(List Int)) (r:Int) (hF:f74 k x0 x1 x2=some r):PCall Try.prog 74 [⟨sh47,x0⟩,⟨(.sl false 2 iS),x1⟩,⟨(.sl false 2 iS),x2⟩] [⟨iS,r⟩]:=by
 refine pcall_intro Try.func74 rfl rfl (Nat.le_of_ble_eq_true rfl) ?_
 intro w0 Zi a w h
 rw [f74] at hF
 refine zs [1,2,3] h an fun a w h => ?_
 refine zs [1,2,3,7] h an fun a w h => ?_
 refine zs [1,2,3,7,8] h an fun a w h => ?_
 refine wp_seq ?_
 refine zs [1,2,3,7,8,9] h an fun a w h => ?_
 refine wp_block ?_
 refine wp_loop_fuel (f74.l77 k x1 x0 x2) (fun ((v129,v130,v131):(Int × Int × Int)) => [(1,.val (.sl false 2 iS) x1),(2,.val (.sl false 2 iS) x2),(3,.val sh46 (some x0)),(7,.val iS v129),(8,.val iS v130),(9,.val iS v131)]) (fun v h => by obtain ⟨v129,v130,v131⟩:=v; rw [f74.l77] at h; cases h) ?_ hF (ar h [1,2,3,7,8,9])
 intro m77 v a w hF h
 obtain ⟨v129,v130,v131⟩:=v
 rw [f74.l77] at hF
 refine wp_seq ?_
 refine zs [1,2,3,7,8,9,15] h an fun a w h => ?_
 refine zi h hF (fun hF => ?_) (fun hF => ?_)
 ·refine wp_skip ?_
  refine wp_mid (fun a w => ∃ v:(Int × Int),f74.j143 k v131 ((f74.l77 k x1 x0 x2) m77) v=some r∧Rel w0 (fun _ => False) Zi Try.f74.ntmps ((fun ((v141,v142):(Int × Int)) => ([(1,.val (.sl false 2 iS) x1),(2,.val (.sl false 2 iS) x2),(3,.val sh46 (some x0)),(7,.val iS v141),(8,.val iS v142),(9,.val iS v131)]:SS)) v) a w) ?_ ?_
  ·
   refine wp_block ?_
   obtain ⟨hc152,hF⟩:=of_if hF
   refine zs [1,2,3,7,8,9,10] h (ac hc152 an) fun a w h => ?_
   refine wp_seq ?_
   obtain ⟨hc150,hF⟩:=of_if hF
   obtain ⟨hc151,hF⟩:=of_if hF
   refine zs [1,2,3,7,8,9,10,34] h (ac hc150 (ac hc151 an)) fun a w h => ?_
   refine zi h hF (fun hF => ?_) (fun hF => ?_)
   ·refine wp_exit ?_
    exact ⟨(v129,v130),hF,ar h [1,2,3,7,8,9]⟩
   ·refine wp_skip ?_
    obtain ⟨hc148,hF⟩:=of_if hF
    obtain ⟨hc149,hF⟩:=of_if hF
    refine wp_regy_seq tok (orc:=o0) (l:=[1,2,3,7,8,9,10,11]) ([],[],[],[]) 11 nw h (by kernel_rfl) (by kernel_rfl) (ac hc148 (ac hc149 an)) fun a w h => ?_
    obtain ⟨hc146,hF⟩:=of_if hF
    obtain ⟨hc147,hF⟩:=of_if hF
    refine wp_regy_seq tok (orc:=o0) (l:=[1,2,3,7,8,9,10,11,69]) ([],[],[],[]) 25 nw h (by kernel_rfl) (by kernel_rfl) (ac hc146 (ac hc147 an)) fun a w h => ?_
    obtain ⟨v144,hv145,hF⟩:=of_bind hF
    replace h:=h.cast (S':=[(1,.val (.sl false 2 iS) x1),(2,.val (.sl false 2 iS) x2),(3,.val sh46 (some x0)),(7,.val iS v129),(8,.val iS v130),(9,.val iS v131),(10,.val iS (gD x1 (tZ v131) iO)),(11,.val iS (w64 ((gD x0.1 (tZ (gD x1 (tZ v131) iO)) iO) + (gD x2 (tZ v131) iO)))),(69,.val .bool v144)]) (by cases hv145; kernel_rfl)
    refine zi h hF (fun hF => ?_) (fun hF => ?_)
    ·refine zs [1,2,3,7,9,11] h an fun a w h => ?_
     refine zt [1,2,3,7,8,9] h an fun a w h => ?_
     exact ⟨((gD x1 (tZ v131) iO),(w64 ((gD x0.1 (tZ (gD x1 (tZ v131) iO)) iO) + (gD x2 (tZ v131) iO)))),hF,ar h [1,2,3,7,8,9]⟩
    ·refine wp_skip ?_
     exact ⟨(v129,v130),hF,ar h [1,2,3,7,8,9]⟩
  ·rintro a w ⟨v,hF,h⟩
   obtain ⟨v141,v142⟩:=v
   rw [f74.j143] at hF
   refine zt [1,2,3,7,8,9] h an fun a w h => ?_
   exact ⟨(v141,v142,(w64 (v131 + (1:Int)))),hF,ar h [1,2,3,7,8,9]⟩
 ·refine wp_exit ?_
  refine zs [6] h an fun a w h => ?_
  cases hF
  exact wp_ret (ret_okR tok h rfl (by kernel_rfl)).1
def f51.j1317 (k:Nat) (x1:((List Int) × (List Int))) (r1:Int):((List Int) × Int)→Option (Bool × ((List Int) × (Int × Int)))
 | (v1315,v1316) => some (true,(v1315,((List.getD x1.1 (Int.toNat r1) (0:Int)),v1316)))
def f51.j2612 (k:Nat) (v2591:(List Int)) (v2592:Int) (q2520:((List Int) × Int)→Option (Bool × ((List Int) × (Int × Int)))):Int→Option (Bool × ((List Int) × (Int × Int)))
 | v2611 => if ((List.length v2591+List.length [v2611])*8≤140737488355328) then (q2520 ((v2591 ++ [v2611]),(IntKind.i64.wrap (v2592 + (1:Int))))) else none
def f51.l2520 (k:Nat) (x2:(List (List Int))) (x0:((List (Int × (Int × Int))) × ((List (Int × (Int × (Int × (Int × (Int × ByteArray)))))) × (List (Int × Int))))) (v2195:Int) (x1:((List Int) × (List Int))) (v2198:Int) (v2196:(List Int)) (v2197:Int) (q1318:(Int × (List Int) × Int × Int)→Option (Bool × ((List Int) × (Int × Int)))):Nat → ((List Int) × Int)→Option (Bool × ((List Int) × (Int × Int)))
 | 0,_ => none
 | m2520+1,(v2591,v2592) => if (decide (v2592 < (List.length (List.getD x2 (Int.toNat (List.getD x0.2.1 (Int.toNat v2195) ((0:Int),((0:Int),((0:Int),((0:Int),((0:Int),(⟨#[]⟩:ByteArray))))))).2.1) ([]:(List Int))):Int))) then (if (0≤v2592∧v2592 < (List.length (List.getD x2 (Int.toNat (List.getD x0.2.1 (Int.toNat v2195) ((0:Int),((0:Int),((0:Int),((0:Int),((0:Int),(⟨#[]⟩:ByteArray))))))).2.1) ([]:(List Int))):Int)) then ((f73 k x0 v2195 (List.getD (List.getD x2 (Int.toNat (List.getD x0.2.1 (Int.toNat v2195) ((0:Int),((0:Int),((0:Int),((0:Int),((0:Int),(⟨#[]⟩:ByteArray))))))).2.1) ([]:(List Int))) (Int.toNat v2592) (0:Int))).bind fun r2609 => (if (0≤v2592∧v2592 < (List.length (List.getD x2 (Int.toNat (List.getD x0.2.1 (Int.toNat v2195) ((0:Int),((0:Int),((0:Int),((0:Int),((0:Int),(⟨#[]⟩:ByteArray))))))).2.1) ([]:(List Int))):Int)) then (if (0 ≤ (List.getD (List.getD x2 (Int.toNat (List.getD x0.2.1 (Int.toNat v2195) ((0:Int),((0:Int),((0:Int),((0:Int),((0:Int),(⟨#[]⟩:ByteArray))))))).2.1) ([]:(List Int))) (Int.toNat v2592) (0:Int)) ∧ (List.getD (List.getD x2 (Int.toNat (List.getD x0.2.1 (Int.toNat v2195) ((0:Int),((0:Int),((0:Int),((0:Int),((0:Int),(⟨#[]⟩:ByteArray))))))).2.1) ([]:(List Int))) (Int.toNat v2592) (0:Int)) < (List.length x1.2:Int)) then (if (((bif (((List.getD x1.2 (Int.toNat (List.getD (List.getD x2 (Int.toNat (List.getD x0.2.1 (Int.toNat v2195) ((0:Int),((0:Int),((0:Int),((0:Int),((0:Int),(⟨#[]⟩:ByteArray))))))).2.1) ([]:(List Int))) (Int.toNat v2592) (0:Int))) (0:Int)):Int) != (IntKind.i64.wrap (v2198 - (1:Int)))) then true else (decide (r2609 < (0:Int))))=false) → (0≤v2592∧v2592 < (List.length (List.getD x2 (Int.toNat (List.getD x0.2.1 (Int.toNat v2195) ((0:Int),((0:Int),((0:Int),((0:Int),((0:Int),(⟨#[]⟩:ByteArray))))))).2.1) ([]:(List Int))):Int))) then (if (((bif (((List.getD x1.2 (Int.toNat (List.getD (List.getD x2 (Int.toNat (List.getD x0.2.1 (Int.toNat v2195) ((0:Int),((0:Int),((0:Int),((0:Int),((0:Int),(⟨#[]⟩:ByteArray))))))).2.1) ([]:(List Int))) (Int.toNat v2592) (0:Int))) (0:Int)):Int) != (IntKind.i64.wrap (v2198 - (1:Int)))) then true else (decide (r2609 < (0:Int))))=false) → (0 ≤ (List.getD (List.getD x2 (Int.toNat (List.getD x0.2.1 (Int.toNat v2195) ((0:Int),((0:Int),((0:Int),((0:Int),((0:Int),(⟨#[]⟩:ByteArray))))))).2.1) ([]:(List Int))) (Int.toNat v2592) (0:Int)) ∧ (List.getD (List.getD x2 (Int.toNat (List.getD x0.2.1 (Int.toNat v2195) ((0:Int),((0:Int),((0:Int),((0:Int),((0:Int),(⟨#[]⟩:ByteArray))))))).2.1) ([]:(List Int))) (Int.toNat v2592) (0:Int)) < (List.length x1.1:Int))) then (if (((bif (bif (((List.getD x1.2 (Int.toNat (List.getD (List.getD x2 (Int.toNat (List.getD x0.2.1 (Int.toNat v2195) ((0:Int),((0:Int),((0:Int),((0:Int),((0:Int),(⟨#[]⟩:ByteArray))))))).2.1) ([]:(List Int))) (Int.toNat v2592) (0:Int))) (0:Int)):Int) != (IntKind.i64.wrap (v2198 - (1:Int)))) then true else (decide (r2609 < (0:Int)))) then true else (decide (((List.getD x1.1 (Int.toNat (List.getD (List.getD x2 (Int.toNat (List.getD x0.2.1 (Int.toNat v2195) ((0:Int),((0:Int),((0:Int),((0:Int),((0:Int),(⟨#[]⟩:ByteArray))))))).2.1) ([]:(List Int))) (Int.toNat v2592) (0:Int))) (0:Int)):Int) < (0:Int))))=false) → (0≤v2195∧v2195 < (List.length x0.2.1:Int))) then (if (((bif (bif (((List.getD x1.2 (Int.toNat (List.getD (List.getD x2 (Int.toNat (List.getD x0.2.1 (Int.toNat v2195) ((0:Int),((0:Int),((0:Int),((0:Int),((0:Int),(⟨#[]⟩:ByteArray))))))).2.1) ([]:(List Int))) (Int.toNat v2592) (0:Int))) (0:Int)):Int) != (IntKind.i64.wrap (v2198 - (1:Int)))) then true else (decide (r2609 < (0:Int)))) then true else (decide (((List.getD x1.1 (Int.toNat (List.getD (List.getD x2 (Int.toNat (List.getD x0.2.1 (Int.toNat v2195) ((0:Int),((0:Int),((0:Int),((0:Int),((0:Int),(⟨#[]⟩:ByteArray))))))).2.1) ([]:(List Int))) (Int.toNat v2592) (0:Int))) (0:Int)):Int) < (0:Int))))=false) → (0≤v2592∧v2592 < (List.length (List.getD x2 (Int.toNat (List.getD x0.2.1 (Int.toNat v2195) ((0:Int),((0:Int),((0:Int),((0:Int),((0:Int),(⟨#[]⟩:ByteArray))))))).2.1) ([]:(List Int))):Int))) then (if (((bif (bif (((List.getD x1.2 (Int.toNat (List.getD (List.getD x2 (Int.toNat (List.getD x0.2.1 (Int.toNat v2195) ((0:Int),((0:Int),((0:Int),((0:Int),((0:Int),(⟨#[]⟩:ByteArray))))))).2.1) ([]:(List Int))) (Int.toNat v2592) (0:Int))) (0:Int)):Int) != (IntKind.i64.wrap (v2198 - (1:Int)))) then true else (decide (r2609 < (0:Int)))) then true else (decide (((List.getD x1.1 (Int.toNat (List.getD (List.getD x2 (Int.toNat (List.getD x0.2.1 (Int.toNat v2195) ((0:Int),((0:Int),((0:Int),((0:Int),((0:Int),(⟨#[]⟩:ByteArray))))))).2.1) ([]:(List Int))) (Int.toNat v2592) (0:Int))) (0:Int)):Int) < (0:Int))))=false) → (0 ≤ (List.getD (List.getD x2 (Int.toNat (List.getD x0.2.1 (Int.toNat v2195) ((0:Int),((0:Int),((0:Int),((0:Int),((0:Int),(⟨#[]⟩:ByteArray))))))).2.1) ([]:(List Int))) (Int.toNat v2592) (0:Int)) ∧ (List.getD (List.getD x2 (Int.toNat (List.getD x0.2.1 (Int.toNat v2195) ((0:Int),((0:Int),((0:Int),((0:Int),((0:Int),(⟨#[]⟩:ByteArray))))))).2.1) ([]:(List Int))) (Int.toNat v2592) (0:Int)) < (List.length x1.1:Int))) then (if (((bif (bif (((List.getD x1.2 (Int.toNat (List.getD (List.getD x2 (Int.toNat (List.getD x0.2.1 (Int.toNat v2195) ((0:Int),((0:Int),((0:Int),((0:Int),((0:Int),(⟨#[]⟩:ByteArray))))))).2.1) ([]:(List Int))) (Int.toNat v2592) (0:Int))) (0:Int)):Int) != (IntKind.i64.wrap (v2198 - (1:Int)))) then true else (decide (r2609 < (0:Int)))) then true else (decide (((List.getD x1.1 (Int.toNat (List.getD (List.getD x2 (Int.toNat (List.getD x0.2.1 (Int.toNat v2195) ((0:Int),((0:Int),((0:Int),((0:Int),((0:Int),(⟨#[]⟩:ByteArray))))))).2.1) ([]:(List Int))) (Int.toNat v2592) (0:Int))) (0:Int)):Int) < (0:Int))))=false) → (0≤v2195∧v2195 < (List.length x1.1:Int))) then ((some ((bif (bif (bif (((List.getD x1.2 (Int.toNat (List.getD (List.getD x2 (Int.toNat (List.getD x0.2.1 (Int.toNat v2195) ((0:Int),((0:Int),((0:Int),((0:Int),((0:Int),(⟨#[]⟩:ByteArray))))))).2.1) ([]:(List Int))) (Int.toNat v2592) (0:Int))) (0:Int)):Int) != (IntKind.i64.wrap (v2198 - (1:Int)))) then true else (decide (r2609 < (0:Int)))) then true else (decide (((List.getD x1.1 (Int.toNat (List.getD (List.getD x2 (Int.toNat (List.getD x0.2.1 (Int.toNat v2195) ((0:Int),((0:Int),((0:Int),((0:Int),((0:Int),(⟨#[]⟩:ByteArray))))))).2.1) ([]:(List Int))) (Int.toNat v2592) (0:Int))) (0:Int)):Int) < (0:Int)))) then true else (((IntKind.i64.wrap ((IntKind.i64.wrap ((List.getD x0.2.1 (Int.toNat v2195) ((0:Int),((0:Int),((0:Int),((0:Int),((0:Int),(⟨#[]⟩:ByteArray))))))).2.2.2.1+r2609)) + (List.getD x1.1 (Int.toNat (List.getD (List.getD x2 (Int.toNat (List.getD x0.2.1 (Int.toNat v2195) ((0:Int),((0:Int),((0:Int),((0:Int),((0:Int),(⟨#[]⟩:ByteArray))))))).2.1) ([]:(List Int))) (Int.toNat v2592) (0:Int))) (0:Int)))):Int) != (List.getD x1.1 (Int.toNat v2195) (0:Int)))):Bool)).bind fun v2610 => (if v2610 then (f51.j2612 k v2591 v2592 ((f51.l2520 k x2 x0 v2195 x1 v2198 v2196 v2197 q1318) m2520) (-1:Int)) else (f51.j2612 k v2591 v2592 ((f51.l2520 k x2 x0 v2195 x1 v2198 v2196 v2197 q1318) m2520) r2609))) else none) else none) else none) else none) else none) else none) else none) else none)) else none) else ((f74 k x1 (List.getD x2 (Int.toNat (List.getD x0.2.1 (Int.toNat v2195) ((0:Int),((0:Int),((0:Int),((0:Int),((0:Int),(⟨#[]⟩:ByteArray))))))).2.1) ([]:(List Int))) v2591).bind fun r2625 => (q1318 (r2625,(List.append v2196 [v2195]),(IntKind.i64.wrap (v2197 + (List.getD x0.2.1 (Int.toNat v2195) ((0:Int),((0:Int),((0:Int),((0:Int),((0:Int),(⟨#[]⟩:ByteArray))))))).2.2.2.2.1)),(IntKind.i64.wrap (v2198 - (1:Int))))))
def f51.l1318 (k:Nat) (x0:((List (Int × (Int × Int))) × ((List (Int × (Int × (Int × (Int × (Int × ByteArray)))))) × (List (Int × Int))))) (x2:(List (List Int))) (x1:((List Int) × (List Int))) (q1317:((List Int) × Int)→Option (Bool × ((List Int) × (Int × Int)))):Nat → (Int × (List Int) × Int × Int)→Option (Bool × ((List Int) × (Int × Int)))
 | 0,_ => none
 | m1318+1,(v2195,v2196,v2197,v2198) => if (decide (v2198 > (0:Int))) then (if ((List.length v2196+List.length [v2195])*8≤140737488355328) then (if (0≤v2195∧v2195 < (List.length x0.2.1:Int)) then (if (v2198 == (1:Int)) then (q1317 ((List.append v2196 [v2195]),(IntKind.i64.wrap (v2197 + (List.getD x0.2.1 (Int.toNat v2195) ((0:Int),((0:Int),((0:Int),((0:Int),((0:Int),(⟨#[]⟩:ByteArray))))))).2.2.2.2.1)))) else (if (0≤v2195∧v2195 < (List.length x0.2.1:Int)) then (if (0 ≤ (List.getD x0.2.1 (Int.toNat v2195) ((0:Int),((0:Int),((0:Int),((0:Int),((0:Int),(⟨#[]⟩:ByteArray))))))).2.1 ∧ (List.getD x0.2.1 (Int.toNat v2195) ((0:Int),((0:Int),((0:Int),((0:Int),((0:Int),(⟨#[]⟩:ByteArray))))))).2.1 < (List.length x2:Int)) then (f51.l2520 k x2 x0 v2195 x1 v2198 v2196 v2197 ((f51.l1318 k x0 x2 x1 q1317) m1318) k (([]:List Int),(0:Int))) else none) else none)) else none) else none) else (q1317 (v2196,v2197))
def f51 (k:Nat) (x0:((List (Int × (Int × Int))) × ((List (Int × (Int × (Int × (Int × (Int × ByteArray)))))) × (List (Int × Int))))) (x1:((List Int) × (List Int))) (x2:(List (List Int))) (x3:Int) (x4:Int):Option (Bool × ((List Int) × (Int × Int))):=if (x3 == x4) then (some (true,(([]:(List Int)),((0:Int),(0:Int))))) else (if (0≤x3∧x3 < (List.length x2:Int)) then (if (0≤x3∧x3 < (List.length x2:Int)) then (if (0 ≤ (List.length (List.getD x2 (Int.toNat x3) ([]:(List Int))):Int)∧Int.toNat (List.length (List.getD x2 (Int.toNat x3) ([]:(List Int))):Int)*8≤140737488355328) then ((f74 k x1 (List.getD x2 (Int.toNat x3) ([]:(List Int))) (List.replicate (Int.toNat (List.length (List.getD x2 (Int.toNat x3) ([]:(List Int))):Int)) (0:Int))).bind fun r1 => (if (decide (r1 < (0:Int))) then (some (false,(([]:(List Int)),((0:Int),(0:Int))))) else (if (0≤r1∧r1 < (List.length x1.1:Int)) then (if (0≤r1∧r1 < (List.length x1.2:Int)) then (f51.l1318 k x0 x2 x1 (f51.j1317 k x1 r1) k (r1,([]:(List Int)),(0:Int),(List.getD x1.2 (Int.toNat r1) (0:Int)))) else none) else none))) else none) else none) else none)
theorem c51 (k:Nat) (x0:tG) (x1:((List Int) × (List Int))) (x2:(List (List Int))) (x3:Int) (x4:Int) (r:(Bool × ((List Int) × (Int × Int)))) (hF:f51 k x0 x1 x2 x3 x4=some r):PCall Try.prog 51 [⟨sh18,x0⟩,⟨sh47,x1⟩,⟨sh26,x2⟩,⟨iS,x3⟩,⟨iS,x4⟩] [⟨sh41,r⟩]:=by
 refine pcall_intro Try.func51 rfl rfl (Nat.le_of_ble_eq_true rfl) ?_
 intro w0 Zi a w h
 rw [f51] at hF
 refine zs [2,3,4,5,6,10] h an fun a w h => ?_
 refine wp_seq ?_
 refine zs [2,3,5,6,10,20] h an fun a w h => ?_
 refine zi h hF (fun hF => ?_) (fun hF => ?_)
 ·refine zs [10] h an fun a w h => ?_
  cases hF
  exact wp_ret (ret_okR tok h rfl (by kernel_rfl)).1
 ·refine wp_skip ?_
  obtain ⟨hc2633,hF⟩:=of_if hF
  obtain ⟨hc2634,hF⟩:=of_if hF
  obtain ⟨hc2635,hF⟩:=of_if hF
  obtain ⟨r1,hr2636,hF⟩:=of_bind hF
  refine wp_regy_seq tok (orc:=orcL [(33,[⟨iS,r1⟩])]) (l:=[2,5,6,10,11]) ([],[],[],[]) 13 nw h (by kernel_rfl) (by kernel_rfl) (ac hc2633 (ac hc2634 (ac hc2635 (ac (c74 k x1 (gD x2 (tZ x3) lO) (List.replicate (tZ (List.length (gD x2 (tZ x3) lO):Int)) iO) r1 hr2636) an)))) fun a w h => ?_
  refine wp_seq ?_
  refine zs [2,5,6,10,11,35] h an fun a w h => ?_
  refine zi h hF (fun hF => ?_) (fun hF => ?_)
  ·refine zs [10] h an fun a w h => ?_
   cases hF
   exact wp_ret (ret_okR tok h rfl (by kernel_rfl)).1
  ·refine wp_skip ?_
   obtain ⟨hc2632,hF⟩:=of_if hF
   refine zs [2,5,6,10,11,12] h (ac hc2632 an) fun a w h => ?_
   refine wp_seq ?_
   obtain ⟨hc2631,hF⟩:=of_if hF
   refine zs [2,5,6,10,11,12,13] h (ac hc2631 an) fun a w h => ?_
   refine wp_midT (fun a w => ∃ v:((List Int) × Int),f51.j1317 k x1 r1 v=some r∧Rel w0 (fun _ => False) Zi Try.f51.ntmps ((fun ((v1315,v1316):((List Int) × Int)) => ([(10,.val sh39 (some (false,(lO,(iO,iO))))),(12,.val sh39 (some (true,(v1315,((gD x1.1 (tZ r1) iO),v1316)))))]:SS)) v) a w) ?_ ?_
   ·
    refine wp_block ?_
    refine wp_loop_fuel (f51.l1318 k x0 x2 x1 (f51.j1317 k x1 r1)) (fun ((v2195,v2196,v2197,v2198):(Int × (List Int) × Int × Int)) => [(2,.val sh26 x2),(5,.val sh17 (some x0)),(6,.val sh46 (some x1)),(10,.val sh39 (some (false,(lO,(iO,iO))))),(11,.val iS v2195),(12,.val sh39 (some (true,(v2196,((gD x1.1 (tZ r1) iO),v2197))))),(13,.val iS v2198)]) (fun v h => by obtain ⟨v2195,v2196,v2197,v2198⟩:=v; rw [f51.l1318] at h; cases h) ?_ hF (ar h [2,5,6,10,11,12,13])
    intro m1318 v a w hF h
    obtain ⟨v2195,v2196,v2197,v2198⟩:=v
    rw [f51.l1318] at hF
    refine wp_seq ?_
    refine zs [2,5,6,10,11,12,13,49] h an fun a w h => ?_
    refine zi h hF (fun hF => ?_) (fun hF => ?_)
    ·refine wp_skip ?_
     refine wp_seq <| wp_block ?_
     obtain ⟨hc2630,hF⟩:=of_if hF
     refine zc (orcL [(56,[⟨.pt false 4294967293 .unit,some ()⟩])]) [2,5,6,10,11,12,13] h (ac (PrefL.mk (l:=[[.der,.snd,.fst],[.der,.snd,.fst]]) (p:=[.der,.snd,.fst]) rfl) (ac hc2630 (ac (show ([.der,.snd,.fst]:Path)=[.der,.snd,.fst] from rfl) an))) fun a w h => ?_
     obtain ⟨hc2629,hF⟩:=of_if hF
     refine wp_regy_seq tok (orc:=o0) (l:=[2,5,6,10,11,12,13]) ([],[],[],[]) 10 nw h (by kernel_rfl) (by kernel_rfl) (ac hc2629 an) fun a w h => ?_
     refine wp_seq ?_
     refine zs [2,5,6,10,11,12,13,69] h an fun a w h => ?_
     refine zi h hF (fun hF => ?_) (fun hF => ?_)
     ·refine wp_exit ?_
      exact ⟨((List.append v2196 [v2195]),(w64 (v2197 + (gD x0.2.1 (tZ v2195) zR).2.2.2.2.1))),hF,ar h [10,12]⟩
     ·refine wp_skip ?_
      obtain ⟨hc2627,hF⟩:=of_if hF
      obtain ⟨hc2628,hF⟩:=of_if hF
      refine zs [2,5,6,10,11,12,13,14] h (ac hc2627 (ac hc2628 an)) fun a w h => ?_
      refine zs [2,5,6,10,11,12,13,14,15] h an fun a w h => ?_
      refine wp_seq ?_
      refine zs [2,5,6,10,11,12,13,14,15,16] h an fun a w h => ?_
      refine wp_block ?_
      refine wp_loop_fuel (f51.l2520 k x2 x0 v2195 x1 v2198 v2196 v2197 ((f51.l1318 k x0 x2 x1 (f51.j1317 k x1 r1)) m1318)) (fun ((v2591,v2592):((List Int) × Int)) => [(2,.val sh26 x2),(5,.val sh17 (some x0)),(6,.val sh46 (some x1)),(10,.val sh39 (some (false,(lO,(iO,iO))))),(11,.val iS v2195),(12,.val sh39 (some (true,((List.append v2196 [v2195]),((gD x1.1 (tZ r1) iO),(w64 (v2197 + (gD x0.2.1 (tZ v2195) zR).2.2.2.2.1))))))),(13,.val iS v2198),(14,.val (.sl false 2 iS) (gD x2 (tZ (gD x0.2.1 (tZ v2195) zR).2.1) lO)),(15,.val (.sl true 2 iS) v2591),(16,.val iS v2592)]) (fun v h => by obtain ⟨v2591,v2592⟩:=v; rw [f51.l2520] at h; cases h) ?_ hF (ar h [2,5,6,10,11,12,13,14,15,16])
      intro m2520 v a w hF h
      obtain ⟨v2591,v2592⟩:=v
      rw [f51.l2520] at hF
      refine wp_seq ?_
      refine zs [2,5,6,10,11,12,13,14,15,16,83] h an fun a w h => ?_
      refine zi h hF (fun hF => ?_) (fun hF => ?_)
      ·refine wp_skip ?_
       refine wp_seq <| wp_block ?_
       obtain ⟨hc2623,hF⟩:=of_if hF
       obtain ⟨r2609,hr2624,hF⟩:=of_bind hF
       refine wp_regy_seq tok (orc:=orcL [(92,[⟨iS,r2609⟩])]) (l:=[2,5,6,10,11,12,13,14,15,16,17]) ([],[],[],[]) 8 nw h (by kernel_rfl) (by kernel_rfl) (ac hc2623 (ac (c73 k x0 v2195 (gD (gD x2 (tZ (gD x0.2.1 (tZ v2195) zR).2.1) lO) (tZ v2592) iO) r2609 hr2624) an)) fun a w h => ?_
       refine wp_seq ?_
       obtain ⟨hc2615,hF⟩:=of_if hF
       obtain ⟨hc2616,hF⟩:=of_if hF
       obtain ⟨hc2617,hF⟩:=of_if hF
       obtain ⟨hc2618,hF⟩:=of_if hF
       obtain ⟨hc2619,hF⟩:=of_if hF
       obtain ⟨hc2620,hF⟩:=of_if hF
       obtain ⟨hc2621,hF⟩:=of_if hF
       obtain ⟨hc2622,hF⟩:=of_if hF
       refine wp_regy_seq tok (orc:=o0) (l:=[2,5,6,10,11,12,13,14,15,16,17,143]) ([],[],[],[]) 51 nw h (by kernel_rfl) (by kernel_rfl) (ac hc2615 (ac hc2616 (ac hc2617 (ac hc2618 (ac hc2619 (ac hc2620 (ac hc2621 (ac hc2622 an)))))))) fun a w h => ?_
       obtain ⟨v2610,hv2614,hF⟩:=of_bind hF
       replace h:=h.cast (S':=[(2,.val sh26 x2),(5,.val sh17 (some x0)),(6,.val sh46 (some x1)),(10,.val sh39 (some (false,(lO,(iO,iO))))),(11,.val iS v2195),(12,.val sh39 (some (true,((List.append v2196 [v2195]),((gD x1.1 (tZ r1) iO),(w64 (v2197 + (gD x0.2.1 (tZ v2195) zR).2.2.2.2.1))))))),(13,.val iS v2198),(14,.val (.sl false 2 iS) (gD x2 (tZ (gD x0.2.1 (tZ v2195) zR).2.1) lO)),(15,.val (.sl true 2 iS) v2591),(16,.val iS v2592),(17,.val iS r2609),(143,.val .bool v2610)]) (by cases hv2614; kernel_rfl)
       refine wp_midT (fun a w => ∃ v:Int,f51.j2612 k v2591 v2592 ((f51.l2520 k x2 x0 v2195 x1 v2198 v2196 v2197 ((f51.l1318 k x0 x2 x1 (f51.j1317 k x1 r1)) m1318)) m2520) v=some r∧Rel w0 (fun _ => False) Zi Try.f51.ntmps ((fun v2611 => ([(2,.val sh26 x2),(5,.val sh17 (some x0)),(6,.val sh46 (some x1)),(10,.val sh39 (some (false,(lO,(iO,iO))))),(11,.val iS v2195),(12,.val sh39 (some (true,((List.append v2196 [v2195]),((gD x1.1 (tZ r1) iO),(w64 (v2197 + (gD x0.2.1 (tZ v2195) zR).2.2.2.2.1))))))),(13,.val iS v2198),(14,.val (.sl false 2 iS) (gD x2 (tZ (gD x0.2.1 (tZ v2195) zR).2.1) lO)),(15,.val (.sl true 2 iS) v2591),(16,.val iS v2592),(17,.val iS v2611)]:SS)) v) a w) ?_ ?_
       ·
        refine zi h hF (fun hF => ?_) (fun hF => ?_)
        ·refine zt [2,5,6,10,11,12,13,14,15,16,17] h an fun a w h => ?_
         exact ⟨(-1:Int),hF,ar h [2,5,6,10,11,12,13,14,15,16,17]⟩
        ·refine wp_skip ?_
         exact ⟨r2609,hF,ar h [2,5,6,10,11,12,13,14,15,16,17]⟩
       ·rintro a w ⟨v2611,hF,h⟩
        rw [f51.j2612] at hF
        obtain ⟨hc2613,hF⟩:=of_if hF
        refine zt [2,5,6,10,11,12,13,14,15,16] h (ac hc2613 an) fun a w h => ?_
        refine zt [2,5,6,10,11,12,13,14,15,16] h an fun a w h => ?_
        exact ⟨((v2591 ++ [v2611]),(w64 (v2592 + (1:Int)))),hF,ar h [2,5,6,10,11,12,13,14,15,16]⟩
      ·refine wp_exit ?_
       obtain ⟨r2625,hr2626,hF⟩:=of_bind hF
       refine zd (orcL [(151,[⟨iS,r2625⟩])]) [2,5,6,10,11,12,13] h (ac (c74 k x1 (gD x2 (tZ (gD x0.2.1 (tZ v2195) zR).2.1) lO) v2591 r2625 hr2626) an) fun a w h => ?_
       refine zt [2,5,6,10,11,12,13] h an fun a w h => ?_
       exact ⟨(r2625,(List.append v2196 [v2195]),(w64 (v2197 + (gD x0.2.1 (tZ v2195) zR).2.2.2.2.1)),(w64 (v2198 - (1:Int)))),hF,ar h [2,5,6,10,11,12,13]⟩
    ·refine wp_exit ?_
     exact ⟨(v2196,v2197),hF,ar h [10,12]⟩
   ·rintro a w ⟨v,hF,h⟩
    obtain ⟨v1315,v1316⟩:=v
    rw [f51.j1317] at hF
    refine zs [10] h an fun a w h => ?_
    cases hF
    exact wp_ret (ret_okR tok h rfl (by kernel_rfl)).1
def f50.j6 (k:Nat) (x1:(Bool × ((List Int) × (Int × Int)))) (x2:(Bool × ((List Int) × (Int × Int)))):Int→Option (Bool × ((List Int) × (Int × Int)))
 | v5 => some (true,(((([]:List Int) ++ x1.2.1) ++ x2.2.1),(v5,(IntKind.i64.wrap (x1.2.2.2+x2.2.2.2)))))
def f50 (k:Nat) (x0:((List (Int × (Int × Int))) × ((List (Int × (Int × (Int × (Int × (Int × ByteArray)))))) × (List (Int × Int))))) (x1:(Bool × ((List Int) × (Int × Int)))) (x2:(Bool × ((List Int) × (Int × Int)))):Option (Bool × ((List Int) × (Int × Int))):=if (bif (!x1.1) then true else (!x2.1)) then (some (false,(([]:(List Int)),((0:Int),(0:Int))))) else (if ((List.length ([]:List Int)+List.length x1.2.1)*8≤140737488355328) then (if ((List.length (([]:List Int) ++ x1.2.1)+List.length x2.2.1)*8≤140737488355328) then (if (bif (decide (((List.length x1.2.1:Int):Int) > (0:Int))) then (decide (((List.length x2.2.1:Int):Int) > (0:Int))) else false) then (if (0 ≤ (IntKind.i64.wrap ((List.length x1.2.1:Int) - (1:Int))) ∧ (IntKind.i64.wrap ((List.length x1.2.1:Int) - (1:Int))) < (List.length x1.2.1:Int)) then (if (0 ≤ (0:Int) ∧ (0:Int) < (List.length x2.2.1:Int)) then ((f73 k x0 (List.getD x1.2.1 (Int.toNat (IntKind.i64.wrap ((List.length x1.2.1:Int) - (1:Int)))) (0:Int)) (List.getD x2.2.1 (Int.toNat (0:Int)) (0:Int))).bind fun r7 => (if (decide (r7 < (0:Int))) then (some (false,(([]:(List Int)),((0:Int),(0:Int))))) else (f50.j6 k x1 x2 (IntKind.i64.wrap ((IntKind.i64.wrap (x1.2.2.1+x2.2.2.1))+r7))))) else none) else none) else (f50.j6 k x1 x2 (IntKind.i64.wrap (x1.2.2.1+x2.2.2.1)))) else none) else none)
theorem c50 (k:Nat) (x0:tG) (x1:(Bool × ((List Int) × (Int × Int)))) (x2:(Bool × ((List Int) × (Int × Int)))) (r:(Bool × ((List Int) × (Int × Int)))) (hF:f50 k x0 x1 x2=some r):PCall Try.prog 50 [⟨sh18,x0⟩,⟨sh43,x1⟩,⟨sh43,x2⟩] [⟨sh41,r⟩]:=by
 refine pcall_intro Try.func50 rfl rfl (Nat.le_of_ble_eq_true rfl) ?_
 intro w0 Zi a w h
 rw [f50] at hF
 refine zs [3,4,5,6] h an fun a w h => ?_
 refine wp_seq ?_
 refine zs [3,4,5,6,16] h an fun a w h => ?_
 refine zi h hF (fun hF => ?_) (fun hF => ?_)
 ·refine zs [6] h an fun a w h => ?_
  cases hF
  exact wp_ret (ret_okR tok h rfl (by kernel_rfl)).1
 ·refine wp_skip ?_
  refine zs [3,4,5,6,7] h an fun a w h => ?_
  obtain ⟨hc11,hF⟩:=of_if hF
  obtain ⟨hc12,hF⟩:=of_if hF
  refine wp_regy_seq tok (orc:=o0) (l:=[3,4,5,6,7]) ([],[(3,[29])],[],[(4,[5]),(5,[5,33])]) 6 nw h (by kernel_rfl) (by kernel_rfl) (ac hc11 (ac hc12 an)) fun a w h => ?_
  refine wp_seq ?_
  refine zs [3,4,5,6,7,46] h an fun a w h => ?_
  refine wp_midT (fun a w => ∃ v:Int,f50.j6 k x1 x2 v=some r∧Rel w0 (fun _ => False) Zi Try.f50.ntmps ((fun v5 => ([(6,.val sh39 (some (false,(lO,(iO,iO))))),(7,.val sh39 (some (true,(((([]:List Int) ++ x1.2.1) ++ x2.2.1),(v5,(w64 (x1.2.2.2+x2.2.2.2)))))))]:SS)) v) a w) ?_ ?_
  ·
   refine zi h hF (fun hF => ?_) (fun hF => ?_)
   ·obtain ⟨hc8,hF⟩:=of_if hF
    obtain ⟨hc9,hF⟩:=of_if hF
    obtain ⟨r7,hr10,hF⟩:=of_bind hF
    refine wp_regy_seq tok (orc:=orcL [(60,[⟨iS,r7⟩])]) (l:=[6,7,8]) ([],[],[],[]) 15 nw h (by kernel_rfl) (by kernel_rfl) (ac hc8 (ac hc9 (ac (c73 k x0 (gD x1.2.1 (tZ (w64 ((List.length x1.2.1:Int) - (1:Int)))) iO) (gD x2.2.1 (tZ iO) iO) r7 hr10) an))) fun a w h => ?_
    refine wp_seq ?_
    refine zs [6,7,8,62] h an fun a w h => ?_
    refine zi h hF (fun hF => ?_) (fun hF => ?_)
    ·refine zs [6] h an fun a w h => ?_
     cases hF
     exact wp_ret (ret_okR tok h rfl (by kernel_rfl)).1
    ·refine wp_skip ?_
     refine zt [6,7] h an fun a w h => ?_
     exact ⟨(w64 ((w64 (x1.2.2.1+x2.2.2.1))+r7)),hF,ar h [6,7]⟩
   ·refine wp_skip ?_
    exact ⟨(w64 (x1.2.2.1+x2.2.2.1)),hF,ar h [6,7]⟩
  ·rintro a w ⟨v5,hF,h⟩
   rw [f50.j6] at hF
   refine zs [6] h an fun a w h => ?_
   cases hF
   exact wp_ret (ret_okR tok h rfl (by kernel_rfl)).1
def f22 (k:Nat) (x0:((List (Int × (Int × Int))) × ((List (Int × (Int × (Int × (Int × (Int × ByteArray)))))) × (List (Int × Int))))) (x1:Int) (x2:Int) (x3:Int):Option (Bool × ((List Int) × (Int × Int))):=(f47 k x0).bind fun r1 => ((if ((!r1)=false) then f48 k x0 x1 else some default).bind fun r2 => ((if ((bif (!r1) then true else (!r2))=false) then f48 k x0 x2 else some default).bind fun r3 => ((if ((bif (bif (!r1) then true else (!r2)) then true else (!r3))=false) then f48 k x0 x3 else some default).bind fun r4 => (if (bif (bif (bif (!r1) then true else (!r2)) then true else (!r3)) then true else (!r4)) then (some (false,(([]:(List Int)),((0:Int),(0:Int))))) else ((f49 k x0 false).bind fun r5 => ((f52 k x0 x2).bind fun r6 => ((f51 k x0 r6 r5 x1 x2).bind fun r7 => ((f52 k x0 x3).bind fun r8 => ((f51 k x0 r8 r5 x2 x3).bind fun r9 => ((f50 k x0 r7 r9).bind fun r10 => (some r10)))))))))))
theorem c22 (k:Nat) (x0:tG) (x1:Int) (x2:Int) (x3:Int) (r:(Bool × ((List Int) × (Int × Int)))) (hF:f22 k x0 x1 x2 x3=some r):PCall Try.prog 22 [⟨sh18,x0⟩,⟨iS,x1⟩,⟨iS,x2⟩,⟨iS,x3⟩] [⟨sh41,r⟩]:=by
 refine pcall_intro Try.func22 rfl rfl (Nat.le_of_ble_eq_true rfl) ?_
 intro w0 Zi a w h
 rw [f22] at hF
 refine zs [1,2,3,4,8] h an fun a w h => ?_
 refine wp_seq ?_
 obtain ⟨r1,hr17,hF⟩:=of_bind hF
 obtain ⟨r2,hr18,hF⟩:=of_bind hF
 obtain ⟨r3,hr19,hF⟩:=of_bind hF
 obtain ⟨r4,hr20,hF⟩:=of_bind hF
 refine zc (orcL [(11,[⟨.bool,r1⟩]),(16,[⟨.bool,r2⟩]),(22,[⟨.bool,r3⟩]),(28,[⟨.bool,r4⟩])]) [1,2,3,4,8,30] h (ac (c47 k x0 r1 hr17) (ac (fun (hg:((!r1)=false)) => c48 k x0 x1 r2 (of_g hg hr18)) (ac (fun (hg:((bif (!r1) then true else (!r2))=false)) => c48 k x0 x2 r3 (of_g hg hr19)) (ac (fun (hg:((bif (bif (!r1) then true else (!r2)) then true else (!r3))=false)) => c48 k x0 x3 r4 (of_g hg hr20)) an)))) fun a w h => ?_
 refine zi h hF (fun hF => ?_) (fun hF => ?_)
 ·refine zs [8] h an fun a w h => ?_
  cases hF
  exact wp_ret (ret_okR tok h rfl (by kernel_rfl)).1
 ·refine wp_skip ?_
  obtain ⟨r5,hr16,hF⟩:=of_bind hF
  refine zc (orcL [(33,[⟨sh21,r5⟩])]) [1,2,3,4,8,9] h (ac (c49 k x0 false r5 hr16) an) fun a w h => ?_
  obtain ⟨r6,hr11,hF⟩:=of_bind hF
  obtain ⟨r7,hr12,hF⟩:=of_bind hF
  obtain ⟨r8,hr13,hF⟩:=of_bind hF
  obtain ⟨r9,hr14,hF⟩:=of_bind hF
  obtain ⟨r10,hr15,hF⟩:=of_bind hF
  refine wp_regy_seq tok (orc:=orcL [(38,[⟨sh45,r6⟩]),(42,[⟨sh41,r7⟩]),(46,[⟨sh45,r8⟩]),(50,[⟨sh41,r9⟩]),(51,[⟨sh41,r10⟩])]) (l:=[8]) ([],[],[],[]) 18 nw h (by kernel_rfl) (by kernel_rfl) (ac (c52 k x0 x2 r6 hr11) (ac (c51 k x0 r6 r5 x1 x2 r7 hr12) (ac (c52 k x0 x3 r8 hr13) (ac (c51 k x0 r8 r5 x2 x3 r9 hr14) (ac (c50 k x0 r7 r9 r10 hr15) an))))) fun a w h => ?_
  cases hF
  exact wp_ret (ret_okR tok h rfl (by kernel_rfl)).1
def f10 (k:Nat) (x0:((List (Int × (Int × Int))) × ((List (Int × (Int × (Int × (Int × (Int × ByteArray)))))) × (List (Int × Int))))) (x1:Int) (x2:Int):Option (Bool × ((List Int) × (Int × Int))):=(f9 k x0).bind fun r1 => (if (!r1) then (some (false,(([]:(List Int)),((0:Int),(0:Int))))) else ((f36 k x0).bind fun r2 => ((f37 k r2 x1).bind fun r3 => ((if ((!r3)=false) then f37 k r2 x2 else some default).bind fun r4 => (if (bif (!r3) then true else (!r4)) then (some (false,(([]:(List Int)),((0:Int),(0:Int))))) else ((f38 k r2 x1 x2).bind fun r5 => (some r5)))))))
theorem c10 (k:Nat) (x0:tG) (x1:Int) (x2:Int) (r:(Bool × ((List Int) × (Int × Int)))) (hF:f10 k x0 x1 x2=some r):PCall Try.prog 10 [⟨sh18,x0⟩,⟨iS,x1⟩,⟨iS,x2⟩] [⟨sh41,r⟩]:=by
 refine pcall_intro Try.func10 rfl rfl (Nat.le_of_ble_eq_true rfl) ?_
 intro w0 Zi a w h
 rw [f10] at hF
 refine zs [1,2,3,6] h an fun a w h => ?_
 refine wp_seq ?_
 obtain ⟨r1,hr10,hF⟩:=of_bind hF
 refine zc (orcL [(9,[⟨.bool,r1⟩])]) [1,2,3,6,10] h (ac (c9 k x0 r1 hr10) an) fun a w h => ?_
 refine zi h hF (fun hF => ?_) (fun hF => ?_)
 ·refine zs [6] h an fun a w h => ?_
  cases hF
  exact wp_ret (ret_okR tok h rfl (by kernel_rfl)).1
 ·refine wp_skip ?_
  obtain ⟨r2,hr9,hF⟩:=of_bind hF
  refine zc (orcL [(13,[⟨sh31,some r2⟩])]) [1,2,6,7] h (ac (c36 k x0 r2 hr9) an) fun a w h => ?_
  refine wp_seq ?_
  obtain ⟨r3,hr7,hF⟩:=of_bind hF
  obtain ⟨r4,hr8,hF⟩:=of_bind hF
  refine zc (orcL [(16,[⟨.bool,r3⟩]),(21,[⟨.bool,r4⟩])]) [1,2,6,7,23] h (ac (c37 k r2 x1 r3 hr7) (ac (fun (hg:((!r3)=false)) => c37 k r2 x2 r4 (of_g hg hr8)) an)) fun a w h => ?_
  refine zi h hF (fun hF => ?_) (fun hF => ?_)
  ·refine zs [6] h an fun a w h => ?_
   cases hF
   exact wp_ret (ret_okR tok h rfl (by kernel_rfl)).1
  ·refine wp_skip ?_
   obtain ⟨r5,hr6,hF⟩:=of_bind hF
   refine zc (orcL [(28,[⟨sh41,r5⟩])]) [6] h (ac (c38 k r2 x1 x2 r5 hr6) an) fun a w h => ?_
   cases hF
   exact wp_ret (ret_okR tok h rfl (by kernel_rfl)).1
def f56 (k:Nat) (x0:(((List (Int × (Int × Int))) × ((List (Int × (Int × (Int × (Int × (Int × ByteArray)))))) × (List (Int × Int)))) × ((List (List Int)) × ((List (List Int)) × (Option (List ((Int × Int) × Bool))))))) (x1:Int):Option Bool:=some (bif (decide (x1 ≥ (0:Int))) then (decide (x1 < (List.length x0.1.2.1:Int))) else false)
theorem c56 (k:Nat) (x0:tN) (x1:Int) (r:Bool) (hF:f56 k x0 x1=some r):PCall Try.prog 56 [⟨sh32,some x0⟩,⟨iS,x1⟩] [⟨.bool,r⟩]:=by
 refine pcall_intro Try.func56 rfl rfl (Nat.le_of_ble_eq_true rfl) ?_
 intro w0 Zi a w h
 rw [f56] at hF
 refine zs [0,1] h an fun a w h => ?_
 refine zs [4] h an fun a w h => ?_
 cases hF
 exact wp_ret (ret_okR tok h rfl (by kernel_rfl)).1
def f39.j186 (k:Nat) (x1:(List Int)) (v166:Int) (x0:(((List (Int × (Int × Int))) × ((List (Int × (Int × (Int × (Int × (Int × ByteArray)))))) × (List (Int × Int)))) × ((List (List Int)) × ((List (List Int)) × (Option (List ((Int × Int) × Bool))))))) (q98:(Int × Int × Int)→Option Int):Int→Option Int
 | v185 => if (0 ≤ (List.getD x1 (Int.toNat v166) (0:Int)) ∧ (List.getD x1 (Int.toNat v166) (0:Int)) < (List.length x0.1.2.1:Int)) then (if (0 ≤ (List.getD x1 (Int.toNat v166) (0:Int)) ∧ (List.getD x1 (Int.toNat v166) (0:Int)) < (List.length x0.1.2.1:Int)) then (q98 ((List.getD x0.1.2.1 (Int.toNat (List.getD x1 (Int.toNat v166) (0:Int))) ((0:Int),((0:Int),((0:Int),((0:Int),((0:Int),(⟨#[]⟩:ByteArray))))))).2.1,(IntKind.i64.wrap (v185 + (List.getD x0.1.2.1 (Int.toNat (List.getD x1 (Int.toNat v166) (0:Int))) ((0:Int),((0:Int),((0:Int),((0:Int),((0:Int),(⟨#[]⟩:ByteArray))))))).2.2.2.1)),(IntKind.i64.wrap (v166 + (1:Int))))) else none) else none
def f39.l98 (k:Nat) (x1:(List Int)) (x0:(((List (Int × (Int × Int))) × ((List (Int × (Int × (Int × (Int × (Int × ByteArray)))))) × (List (Int × Int)))) × ((List (List Int)) × ((List (List Int)) × (Option (List ((Int × Int) × Bool))))))) (x3:Int):Nat → (Int × Int × Int)→Option Int
 | 0,_ => none
 | m98+1,(v164,v165,v166) => if (decide (v166 < (List.length x1:Int))) then (if (0≤v166∧v166 < (List.length x1:Int)) then ((f56 k x0 (List.getD x1 (Int.toNat v166) (0:Int))).bind fun r181 => (if (((!r181)=false) → (0 ≤ (List.getD x1 (Int.toNat v166) (0:Int)) ∧ (List.getD x1 (Int.toNat v166) (0:Int)) < (List.length x0.1.2.1:Int))) then (if (bif (!r181) then true else (((List.getD x0.1.2.1 (Int.toNat (List.getD x1 (Int.toNat v166) (0:Int))) ((0:Int),((0:Int),((0:Int),((0:Int),((0:Int),(⟨#[]⟩:ByteArray))))))).1:Int) != v164)) then (some (-1:Int)) else (if (decide (v166 > (0:Int))) then (if (0 ≤ (IntKind.i64.wrap (v166 - (1:Int))) ∧ (IntKind.i64.wrap (v166 - (1:Int))) < (List.length x1:Int)) then ((f66 k x0 (List.getD x1 (Int.toNat (IntKind.i64.wrap (v166 - (1:Int)))) (0:Int)) (List.getD x1 (Int.toNat v166) (0:Int))).bind fun r189 => (if (decide (r189 < (0:Int))) then (some (-1:Int)) else (f39.j186 k x1 v166 x0 ((f39.l98 k x1 x0 x3) m98) (IntKind.i64.wrap (v165+r189))))) else none) else (f39.j186 k x1 v166 x0 ((f39.l98 k x1 x0 x3) m98) v165))) else none)) else none) else (if (v164 != x3) then (some (-1:Int)) else (some v165))
def f39 (k:Nat) (x0:(((List (Int × (Int × Int))) × ((List (Int × (Int × (Int × (Int × (Int × ByteArray)))))) × (List (Int × Int)))) × ((List (List Int)) × ((List (List Int)) × (Option (List ((Int × Int) × Bool))))))) (x1:(List Int)) (x2:Int) (x3:Int):Option Int:=f39.l98 k x1 x0 x3 k (x2,(0:Int),(0:Int))
theorem c39 (k:Nat) (x0:tN) (x1:(List Int)) (x2:Int) (x3:Int) (r:Int) (hF:f39 k x0 x1 x2 x3=some r):PCall Try.prog 39 [⟨sh32,some x0⟩,⟨(.sl false 2 iS),x1⟩,⟨iS,x2⟩,⟨iS,x3⟩] [⟨iS,r⟩]:=by
 refine pcall_intro Try.func39 rfl rfl (Nat.le_of_ble_eq_true rfl) ?_
 intro w0 Zi a w h
 rw [f39] at hF
 refine zs [0,1,2,3] h an fun a w h => ?_
 refine zs [0,1,3,9,10] h an fun a w h => ?_
 refine wp_seq ?_
 refine zs [0,1,3,9,10,15,16,17] h an fun a w h => ?_
 refine wp_block ?_
 refine wp_loop_fuel (f39.l98 k x1 x0 x3) (fun ((v164,v165,v166):(Int × Int × Int)) => [(0,.val sh32 (some x0)),(1,.val (.sl false 2 iS) x1),(3,.val iS x3),(9,.val iS v164),(10,.val iS v165),(15,.val (.sl false 2 iS) x1),(16,.val iS (List.length x1:Int)),(17,.val iS v166)]) (fun v h => by obtain ⟨v164,v165,v166⟩:=v; rw [f39.l98] at h; cases h) ?_ hF (ar h [0,1,3,9,10,15,16,17])
 intro m98 v a w hF h
 obtain ⟨v164,v165,v166⟩:=v
 rw [f39.l98] at hF
 refine zs [0,1,3,9,10,15,16,17,18] h an fun a w h => ?_
 refine wp_seq <| zi h hF (fun hF => ?_) (fun hF => ?_)
 ·refine wp_skip ?_
  refine wp_seq <| wp_block ?_
  obtain ⟨hc194,hF⟩:=of_if hF
  refine zs [0,1,3,9,10,11,12,15,16,17] h (ac hc194 an) fun a w h => ?_
  refine wp_seq ?_
  obtain ⟨r181,hr192,hF⟩:=of_bind hF
  obtain ⟨hc193,hF⟩:=of_if hF
  refine zc (orcL [(24,[⟨.bool,r181⟩])]) [0,1,3,10,11,12,15,16,17,38] h (ac (c56 k x0 (gD x1 (tZ v166) iO) r181 hr192) (ac hc193 an)) fun a w h => ?_
  refine zi h hF (fun hF => ?_) (fun hF => ?_)
  ·refine zs [8] h an fun a w h => ?_
   cases hF
   exact wp_ret (ret_okR tok h rfl (by kernel_rfl)).1
  ·refine wp_skip ?_
   refine wp_seq ?_
   refine zs [0,1,3,10,11,12,15,16,17,40] h an fun a w h => ?_
   refine wp_midT (fun a w => ∃ v:Int,f39.j186 k x1 v166 x0 ((f39.l98 k x1 x0 x3) m98) v=some r∧Rel w0 (fun _ => False) Zi Try.f39.ntmps ((fun v185 => ([(0,.val sh32 (some x0)),(1,.val (.sl false 2 iS) x1),(3,.val iS x3),(10,.val iS v185),(12,.val iS (gD x1 (tZ v166) iO)),(15,.val (.sl false 2 iS) x1),(16,.val iS (List.length x1:Int)),(17,.val iS v166)]:SS)) v) a w) ?_ ?_
   ·
    refine zi h hF (fun hF => ?_) (fun hF => ?_)
    ·obtain ⟨hc190,hF⟩:=of_if hF
     obtain ⟨r189,hr191,hF⟩:=of_bind hF
     refine zc (orcL [(48,[⟨iS,r189⟩])]) [0,1,3,10,12,13,15,16,17] h (ac hc190 (ac (c66 k x0 (gD x1 (tZ (w64 (v166 - (1:Int)))) iO) (gD x1 (tZ v166) iO) r189 hr191) an)) fun a w h => ?_
     refine wp_seq ?_
     refine zs [0,1,3,10,12,13,15,16,17,50] h an fun a w h => ?_
     refine zi h hF (fun hF => ?_) (fun hF => ?_)
     ·refine zs [8] h an fun a w h => ?_
      cases hF
      exact wp_ret (ret_okR tok h rfl (by kernel_rfl)).1
     ·refine wp_skip ?_
      refine zt [0,1,3,10,12,15,16,17] h an fun a w h => ?_
      exact ⟨(w64 (v165+r189)),hF,ar h [0,1,3,10,12,15,16,17]⟩
    ·refine wp_skip ?_
     exact ⟨v165,hF,ar h [0,1,3,10,12,15,16,17]⟩
   ·rintro a w ⟨v185,hF,h⟩
    rw [f39.j186] at hF
    obtain ⟨hc188,hF⟩:=of_if hF
    refine zs [0,1,3,10,12,15,16,17] h (ac hc188 an) fun a w h => ?_
    obtain ⟨hc187,hF⟩:=of_if hF
    refine zt [0,1,3,9,10,15,16,17] h (ac hc187 an) fun a w h => ?_
    refine zt [0,1,3,9,10,15,16,17] h an fun a w h => ?_
    exact ⟨((gD x0.1.2.1 (tZ (gD x1 (tZ v166) iO)) zR).2.1,(w64 (v185 + (gD x0.1.2.1 (tZ (gD x1 (tZ v166) iO)) zR).2.2.2.1)),(w64 (v166 + (1:Int)))),hF,ar h [0,1,3,9,10,15,16,17]⟩
 ·refine wp_exit ?_
  refine wp_seq ?_
  refine zs [10,77] h an fun a w h => ?_
  refine zi h hF (fun hF => ?_) (fun hF => ?_)
  ·refine zs [8] h an fun a w h => ?_
   cases hF
   exact wp_ret (ret_okR tok h rfl (by kernel_rfl)).1
  ·refine wp_skip ?_
   refine zs [8] h an fun a w h => ?_
   cases hF
   exact wp_ret (ret_okR tok h rfl (by kernel_rfl)).1
def f11 (k:Nat) (x0:((List (Int × (Int × Int))) × ((List (Int × (Int × (Int × (Int × (Int × ByteArray)))))) × (List (Int × Int))))) (x1:(List Int)) (x2:Int) (x3:Int):Option Int:=(f9 k x0).bind fun r1 => (if (!r1) then (some (-1:Int)) else ((f36 k x0).bind fun r2 => ((f37 k r2 x2).bind fun r3 => ((if ((!r3)=false) then f37 k r2 x3 else some default).bind fun r4 => (if (bif (!r3) then true else (!r4)) then (some (-1:Int)) else ((f39 k r2 x1 x2 x3).bind fun r5 => (some r5)))))))
theorem c11 (k:Nat) (x0:tG) (x1:(List Int)) (x2:Int) (x3:Int) (r:Int) (hF:f11 k x0 x1 x2 x3=some r):PCall Try.prog 11 [⟨sh18,x0⟩,⟨(.sl false 2 iS),x1⟩,⟨iS,x2⟩,⟨iS,x3⟩] [⟨iS,r⟩]:=by
 refine pcall_intro Try.func11 rfl rfl (Nat.le_of_ble_eq_true rfl) ?_
 intro w0 Zi a w h
 rw [f11] at hF
 refine zs [1,2,3,4] h an fun a w h => ?_
 refine wp_seq ?_
 obtain ⟨r1,hr10,hF⟩:=of_bind hF
 refine zc (orcL [(11,[⟨.bool,r1⟩])]) [1,2,3,4,12] h (ac (c9 k x0 r1 hr10) an) fun a w h => ?_
 refine zi h hF (fun hF => ?_) (fun hF => ?_)
 ·refine zs [8] h an fun a w h => ?_
  cases hF
  exact wp_ret (ret_okR tok h rfl (by kernel_rfl)).1
 ·refine wp_skip ?_
  obtain ⟨r2,hr9,hF⟩:=of_bind hF
  refine zc (orcL [(14,[⟨sh31,some r2⟩])]) [1,2,3,9] h (ac (c36 k x0 r2 hr9) an) fun a w h => ?_
  refine wp_seq ?_
  obtain ⟨r3,hr7,hF⟩:=of_bind hF
  obtain ⟨r4,hr8,hF⟩:=of_bind hF
  refine zc (orcL [(17,[⟨.bool,r3⟩]),(22,[⟨.bool,r4⟩])]) [1,2,3,9,24] h (ac (c37 k r2 x2 r3 hr7) (ac (fun (hg:((!r3)=false)) => c37 k r2 x3 r4 (of_g hg hr8)) an)) fun a w h => ?_
  refine zi h hF (fun hF => ?_) (fun hF => ?_)
  ·refine zs [8] h an fun a w h => ?_
   cases hF
   exact wp_ret (ret_okR tok h rfl (by kernel_rfl)).1
  ·refine wp_skip ?_
   obtain ⟨r5,hr6,hF⟩:=of_bind hF
   refine zc (orcL [(29,[⟨iS,r5⟩])]) [8] h (ac (c39 k r2 x1 x2 x3 r5 hr6) an) fun a w h => ?_
   cases hF
   exact wp_ret (ret_okR tok h rfl (by kernel_rfl)).1
def f14.l18 (k:Nat) (x0:(List Int)) (x1:(List Int)):Nat→Int→Option Bool
 | 0,_ => none
 | m18+1,v30 => if (decide (v30 < (List.length x0:Int))) then (if (0≤v30∧v30 < (List.length x0:Int)) then (if (0≤v30∧v30 < (List.length x1:Int)) then (if (((List.getD x0 (Int.toNat v30) (0:Int)):Int) != (List.getD x1 (Int.toNat v30) (0:Int))) then (some false) else ((f14.l18 k x0 x1) m18 (IntKind.i64.wrap (v30 + (1:Int))))) else none) else none) else (some true)
def f14 (k:Nat) (x0:(List Int)) (x1:(List Int)):Option Bool:=if (((List.length x0:Int):Int) != (List.length x1:Int)) then (some false) else (f14.l18 k x0 x1 k (0:Int))
theorem c14 (k:Nat) (x0:(List Int)) (x1:(List Int)) (r:Bool) (hF:f14 k x0 x1=some r):PCall Try.prog 14 [⟨(.sl false 2 iS),x0⟩,⟨(.sl false 2 iS),x1⟩] [⟨.bool,r⟩]:=by
 refine pcall_intro Try.func14 rfl rfl (Nat.le_of_ble_eq_true rfl) ?_
 intro w0 Zi a w h
 rw [f14] at hF
 refine zs [0,1] h an fun a w h => ?_
 refine wp_seq ?_
 refine zs [0,1,10] h an fun a w h => ?_
 refine zi h hF (fun hF => ?_) (fun hF => ?_)
 ·refine zs [4] h an fun a w h => ?_
  cases hF
  exact wp_ret (ret_okR tok h rfl (by kernel_rfl)).1
 ·refine wp_skip ?_
  refine wp_seq ?_
  refine zs [0,1,5] h an fun a w h => ?_
  refine wp_block ?_
  refine wp_loop_fuel (f14.l18 k x0 x1) (fun v30 => [(0,.val (.sl false 2 iS) x0),(1,.val (.sl false 2 iS) x1),(5,.val iS v30)]) (fun v h => by rw [f14.l18] at h; cases h) ?_ hF (ar h [0,1,5])
  intro m18 v30 a w hF h
  rw [f14.l18] at hF
  refine wp_seq ?_
  refine zs [0,1,5,14] h an fun a w h => ?_
  refine zi h hF (fun hF => ?_) (fun hF => ?_)
  ·refine wp_skip ?_
   refine wp_seq <| wp_block ?_
   obtain ⟨hc33,hF⟩:=of_if hF
   obtain ⟨hc34,hF⟩:=of_if hF
   refine wp_regy_seq tok (orc:=o0) (l:=[0,1,5,25]) ([],[],[],[]) 9 nw h (by kernel_rfl) (by kernel_rfl) (ac hc33 (ac hc34 an)) fun a w h => ?_
   refine zi h hF (fun hF => ?_) (fun hF => ?_)
   ·refine zs [4] h an fun a w h => ?_
    cases hF
    exact wp_ret (ret_okR tok h rfl (by kernel_rfl)).1
   ·refine wp_skip ?_
    refine zt [0,1,5] h an fun a w h => ?_
    exact ⟨(w64 (v30 + (1:Int))),hF,ar h [0,1,5]⟩
  ·refine wp_exit ?_
   refine zs [4] h an fun a w h => ?_
   cases hF
   exact wp_ret (ret_okR tok h rfl (by kernel_rfl)).1
def f5 (k:Nat) (x0:(List Int)):Option Bool:=(f7 k x0).bind fun r1 => (if r1 then (some true) else ((f20 k x0).bind fun r2 => ((f21 k r2.1 r2.2.1 r2.2.2.1 r2.2.2.2).bind fun r3 => ((f9 k (([]:(List (Int × (Int × Int)))),(([]:(List (Int × (Int × (Int × (Int × (Int × ByteArray))))))),([]:(List (Int × Int)))))).bind fun r4 => (if (!r4) then (some false) else ((f22 k r2.1 r2.2.1 r2.2.2.1 r2.2.2.2).bind fun r5 => (if (!((r3.1:Bool) == r5.1)) then (some false) else ((f10 k r2.1 r2.2.1 r2.2.2.2).bind fun r6 => ((if (r3.1=true) then f11 k r2.1 r3.2.1 r2.2.1 r2.2.2.2 else some default).bind fun r7 => (if (bif r3.1 then (bif (bif (r7 != r3.2.2.1) then true else (!r6.1)) then true else (decide (r3.2.2.1 < r6.2.2.1))) else false) then (some false) else ((f21 k r2.1 r2.2.1 r2.2.1 r2.2.2.2).bind fun r8 => ((f21 k r2.1 r2.2.1 r2.2.2.2 r2.2.2.2).bind fun r9 => ((if ((bif ((r8.1:Bool) == r6.1) then (r8.2.2.1 == r6.2.2.1) else false)=true) then f14 k r8.2.1 r6.2.1 else some default).bind fun r10 => ((if ((bif (bif (bif ((r8.1:Bool) == r6.1) then (r8.2.2.1 == r6.2.2.1) else false) then r10 else false) then ((r9.1:Bool) == r6.1) else false)=true) then f14 k r9.2.1 r6.2.1 else some default).bind fun r11 => (some (bif (bif (bif (bif ((r8.1:Bool) == r6.1) then (r8.2.2.1 == r6.2.2.1) else false) then r10 else false) then ((r9.1:Bool) == r6.1) else false) then r11 else false))))))))))))))))
theorem c5 (k:Nat) (x0:(List Int)) (r:Bool) (hF:f5 k x0=some r):PCall Try.prog 5 [⟨(.sl false 5 (.int .u8)),x0⟩] [⟨.bool,r⟩]:=by
 refine pcall_intro Try.func5 rfl rfl (Nat.le_of_ble_eq_true rfl) ?_
 intro w0 Zi a w h
 rw [f5] at hF
 refine zs [0] h an fun a w h => ?_
 refine wp_seq ?_
 obtain ⟨r1,hr22,hF⟩:=of_bind hF
 refine zc (orcL [(12,[⟨.bool,r1⟩])]) [0,12] h (ac (c7 k x0 r1 hr22) an) fun a w h => ?_
 refine zi h hF (fun hF => ?_) (fun hF => ?_)
 ·refine zs [2] h an fun a w h => ?_
  cases hF
  exact wp_ret (ret_okR tok h rfl (by kernel_rfl)).1
 ·refine wp_skip ?_
  obtain ⟨r2,hr21,hF⟩:=of_bind hF
  refine zc (orcL [(15,[⟨sh18,r2.1⟩,⟨iS,r2.2.1⟩,⟨iS,r2.2.2.1⟩,⟨iS,r2.2.2.2⟩])]) [3,4,5,6] h (ac (c20 k x0 r2 hr21) an) fun a w h => ?_
  obtain ⟨r3,hr20,hF⟩:=of_bind hF
  refine zc (orcL [(24,[⟨sh41,r3⟩])]) [3,4,5,6,7] h (ac (c21 k r2.1 r2.2.1 r2.2.2.1 r2.2.2.2 r3 hr20) an) fun a w h => ?_
  refine wp_seq ?_
  obtain ⟨r4,hr19,hF⟩:=of_bind hF
  refine zc (orcL [(26,[⟨.bool,r4⟩])]) [3,4,5,6,7,27] h (ac (c9 k (([]:(List (Int × (Int × Int)))),(([]:(List (Int × (Int × (Int × (Int × (Int × ByteArray))))))),([]:(List (Int × Int))))) r4 hr19) an) fun a w h => ?_
  refine zi h hF (fun hF => ?_) (fun hF => ?_)
  ·refine zs [2] h an fun a w h => ?_
   cases hF
   exact wp_ret (ret_okR tok h rfl (by kernel_rfl)).1
  ·refine wp_skip ?_
   refine wp_seq ?_
   obtain ⟨r5,hr18,hF⟩:=of_bind hF
   refine wp_regy_seq tok (orc:=orcL [(34,[⟨sh41,r5⟩])]) (l:=[3,4,6,7,36]) ([],[(7,[34])],[],[(0,[7]),(1,[7,28])]) 8 nw h (by kernel_rfl) (by kernel_rfl) (ac (c22 k r2.1 r2.2.1 r2.2.2.1 r2.2.2.2 r5 hr18) an) fun a w h => ?_
   refine zi h hF (fun hF => ?_) (fun hF => ?_)
   ·refine zs [2] h an fun a w h => ?_
    cases hF
    exact wp_ret (ret_okR tok h rfl (by kernel_rfl)).1
   ·refine wp_skip ?_
    obtain ⟨r6,hr17,hF⟩:=of_bind hF
    refine zc (orcL [(40,[⟨sh41,r6⟩])]) [3,4,6,7,8] h (ac (c10 k r2.1 r2.2.1 r2.2.2.2 r6 hr17) an) fun a w h => ?_
    refine wp_seq ?_
    obtain ⟨r7,hr16,hF⟩:=of_bind hF
    refine wp_regy_seq tok (orc:=orcL [(49,[⟨iS,r7⟩])]) (l:=[3,4,6,8,65]) ([],[],[],[]) 25 nw h (by kernel_rfl) (by kernel_rfl) (ac (fun (hg:(r3.1=true)) => c11 k r2.1 r3.2.1 r2.2.1 r2.2.2.2 r7 (of_g hg hr16)) an) fun a w h => ?_
    refine zi h hF (fun hF => ?_) (fun hF => ?_)
    ·refine zs [2] h an fun a w h => ?_
     cases hF
     exact wp_ret (ret_okR tok h rfl (by kernel_rfl)).1
    ·refine wp_skip ?_
     obtain ⟨r8,hr15,hF⟩:=of_bind hF
     refine zc (orcL [(70,[⟨sh41,r8⟩])]) [3,4,6,8,9] h (ac (c21 k r2.1 r2.2.1 r2.2.1 r2.2.2.2 r8 hr15) an) fun a w h => ?_
     obtain ⟨r9,hr14,hF⟩:=of_bind hF
     refine zc (orcL [(75,[⟨sh41,r9⟩])]) [8,9,10] h (ac (c21 k r2.1 r2.2.1 r2.2.2.2 r2.2.2.2 r9 hr14) an) fun a w h => ?_
     obtain ⟨r10,hr12,hF⟩:=of_bind hF
     obtain ⟨r11,hr13,hF⟩:=of_bind hF
     refine zc (orcL [(93,[⟨.bool,r10⟩]),(107,[⟨.bool,r11⟩])]) [2] h (ac (fun (hg:((bif ((r8.1:Bool) == r6.1) then (r8.2.2.1 == r6.2.2.1) else false)=true)) => c14 k r8.2.1 r6.2.1 r10 (of_g hg hr12)) (ac (fun (hg:((bif (bif (bif ((r8.1:Bool) == r6.1) then (r8.2.2.1 == r6.2.2.1) else false) then r10 else false) then ((r9.1:Bool) == r6.1) else false)=true)) => c14 k r9.2.1 r6.2.1 r11 (of_g hg hr13)) an)) fun a w h => ?_
     cases hF
     exact wp_ret (ret_okR tok h rfl (by kernel_rfl)).1
end Go.Proofs.Ytdjadmdiehkfdaa.V
