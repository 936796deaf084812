/- Words that the printed proofs lean on. -/
import Derived.Test.YtgonbndbnmimhaaDoorVmX
set_option linter.unusedVariables false
namespace Go.Vm
open Go
theorem AllP.nil:AllP []:=trivial
theorem AllP.cons {p:Prop} {l:List Prop} (h:p) (t:AllP l):AllP (p :: l):=⟨h,t⟩
theorem of_if {α:Type} {c:Prop} [Decidable c] {x:Option α} {r:α} (h:(if c then x else none)=some r):c∧x=some r:=by
 by_cases hc:c
 ·rw [if_pos hc] at h; exact ⟨hc,h⟩
 ·rw [if_neg hc] at h; cases h
theorem of_bind {α β:Type} {x:Option α} {g:α→Option β} {r:β} (h:x.bind g=some r):∃ y,x=some y∧g y=some r:=by
 cases x with
 | none => cases h
 | some y => exact ⟨y,rfl,h⟩
theorem of_t {α:Type} {b:Bool} {x y:α} {r:α} (hb:b=true) (h:(if b then x else y)=r):x=r:=by
 subst hb; exact h
theorem of_f {α:Type} {b:Bool} {x y:α} {r:α} (hb:b=false) (h:(if b then x else y)=r):y=r:=by
 subst hb; exact h
theorem of_g {α:Type} {c:Prop} [Decidable c] {x y:α} {r:α} (hc:c) (h:(if c then x else y)=r):x=r:=by
 rw [if_pos hc] at h; exact h
def arr (fz l:List Nat) (S:SS):Option SS:=match S.freezeL fz with
 | some S0 => S0.forget l
 | none => none
theorem Rel.arrive {w0:World} {Wr Zi:Fp} {N:Fr} {S S':SS} {a:Act} {w:World} (h:Rel w0 Wr Zi N S a w) {fz l:List Nat} (hWr:fz=[]∨∀ i,¬ Wr i) (he:arr fz l S=some S'):Rel w0 Wr Zi N S' a w:=by
 unfold arr at he
 split at he
 ·exact (Rel.freezeO hWr h ‹_›).forget he
 ·cases he
def frzS (fz:List Nat) (S:SS):SS:=match S.freezeL fz with
 | some S0 => S0
 | none => []
theorem Rel.freezeS {w0:World} {Wr Zi:Fp} {N:Fr} {S:SS} {a:Act} {w:World} {fz:List Nat} (hWr:fz=[]∨∀ i,¬ Wr i) (h:Rel w0 Wr Zi N S a w) (he:(S.freezeL fz).isSome=true):Rel w0 Wr Zi N (frzS fz S) a w:=by
 unfold frzS
 split
 ·exact Rel.freezeO hWr h ‹_›
 ·rename_i hn; rw [hn] at he; cases he
theorem wp_midT {P:Program} {Q:Exit→Act→World→Prop} {a:Act} {w:World} {x:Code} {y:Act→World→Prop} (J:Act→World→Prop) (h1:x.wp P (Exit.then J Q) a w) (h2:∀ a' w',J a' w'→y a' w'):x.wp P (Exit.then y Q) a w :=
 Code.wp_mono (fun e a' w' q => by cases e <;> first | exact h2 _ _ q | exact q) h1
abbrev w64 (n:Int):Int:=IntKind.i64.wrap n
end Go.Vm
