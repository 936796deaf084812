/- Plain words for the loops of the printed functions. -/
import Derived.Test.YtgonbndbnmimhaaDoorVmW
set_option linter.unusedVariables false
namespace Go.Vm
open Go
theorem wrap_in {n:Int} (h1:-9223372036854775808≤n) (h2:n≤9223372036854775807):IntKind.i64.wrap n=n:=by
 simp [IntKind.wrap,IntKind.signed,IntKind.bits]
 omega
theorem wrap_s {n:Nat} (h:n < 9223372036854775807):IntKind.i64.wrap ((n:Int)+1) = ((n+1:Nat):Int):=by
 rw [wrap_in (by omega) (by omega)]; rfl
theorem if_t {α:Type} {c:Prop} [Decidable c] {x y:α} (h:c):(if c then x else y)=x:=if_pos h
theorem if_f {α:Type} {c:Prop} [Decidable c] {x y:α} (h:¬ c):(if c then x else y)=y:=if_neg h
end Go.Vm
