/- Plain words for the loops of the printed functions. -/
import Derived.Test.YtajigednlopmjaaVmW
set_option linter.unusedVariables false
namespace Go.Vm
open Go
theorem wrap_in {n:Int} (h1:-9223372036854775808≤n) (h2:n≤9223372036854775807):IntKind.i64.wrap n=n:=by
 simp [IntKind.wrap,IntKind.signed,IntKind.bits]
 omega
theorem wrap_s {n:Nat} (h:n < 9223372036854775807):IntKind.i64.wrap ((n:Int)+1) = ((n+1:Nat):Int):=by
 rw [wrap_in (by omega) (by omega)]; rfl
theorem if_t {α:Type} {c:Prop} [Decidable c] {x y:α} (h:c):(if c then x else y)=x:=if_pos h
theorem if_f {α:Type} {c:Prop} [Decidable c] {x y:α} (h:¬ c):(if c then x else y)=y:=if_neg h
theorem take_set {α:Type} {xs ys:List α} {d:α} {i:Nat} (hl:xs.length=ys.length) (ht:xs.take i=ys.take i) (hi:i < ys.length):(xs.set i (ys.getD i d)).take (i+1)=ys.take (i+1):=by
 apply List.ext_getElem?
 intro j
 simp only [List.getElem?_take]
 have hh:=congrArg (fun l => l[j]?) ht
 simp only [List.getElem?_take] at hh
 by_cases h:j=i
 ·subst h
  have:j < xs.length:=by omega
  simp [this,List.getD_eq_getElem?_getD,hi]
 ·by_cases h2:j < i
  ·have h3:i≠j:=fun e => h e.symm
   simp only [List.getElem?_set_ne h3]
   simp only [h2,if_true] at hh
   simp [show j < i+1 by omega,hh]
  ·simp [show ¬ j < i+1 by omega]
theorem take_all {α:Type} {xs ys:List α} (hl:xs.length=ys.length) {i:Nat} (ht:xs.take i=ys.take i) (hi:ys.length≤i):xs=ys:=by
 rw [List.take_of_length_le (by omega),List.take_of_length_le hi] at ht; exact ht
end Go.Vm
