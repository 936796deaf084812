/-
  MARKS. A mark function fills what a law's value owns with rising numbers; a held function looks whether they still stand there. No condition.
-/
import Derived.Test.YtajigednlopmjaaLawB
set_option linter.unusedVariables false
set_option linter.unusedSimpArgs false
namespace Go.Vm
open Go
def Mk {α:Type} (f:α→Int→Option (Int × α)) (R:Int→α→Int→Prop) (w:Int) (x:α):Prop :=
 ∀ v:Int,0≤v→v+w≤4611686018427387904→∃ c y,f x v=some (c,y)∧R v y c∧v≤c∧c≤v+w
theorem Mk.run {α:Type} {f:α→Int→Option (Int × α)} {R:Int→α→Int→Prop} {w:Int} {x:α} (h:Mk f R w x) {v:Int} (h0:0≤v) (h1:v+w≤4611686018427387904):∃ c y,f x v=some (c,y)∧R v y c∧v≤c∧c≤v+w:=h v h0 h1
def Keys {α β:Type} (m:List (α × β)):Prop:=(m.map (·.1)).Nodup
theorem mem_put {α β:Type} {eq:α→α→Bool} {x y:α} {v:β}:∀ {m:List (α × β)},y ∈ (mput eq x v m).map (·.1)→y=x∨y ∈ m.map (·.1)
 | [],h => by simpa [mput] using h
 | e :: m,h => by
   rw [mput] at h
   by_cases he:eq x e.1=true
   ·rw [if_pos he] at h; simp only [List.map_cons,List.mem_cons] at h ⊢
    rcases h with h | h
    ·exact .inl h
    ·exact .inr (.inr h)
   ·rw [if_neg he] at h; simp only [List.map_cons,List.mem_cons] at h ⊢
    rcases h with h | h
    ·exact .inr (.inl h)
    ·rcases mem_put h with h | h
     ·exact .inl h
     ·exact .inr (.inr h)
theorem Keys.put {α β:Type} {eq:α→α→Bool} (h:∀ a b,eq a b=true↔a=b) {x:α} {v:β}:∀ {m:List (α × β)},Keys m→Keys (mput eq x v m)
 | [],_ => by simp [Keys,mput]
 | e :: m,hk => by
   unfold Keys at hk ⊢
   rw [List.map_cons,List.nodup_cons] at hk
   rw [mput]
   by_cases he:eq x e.1=true
   ·obtain rfl:=(h _ _).1 he
    rw [if_pos he,List.map_cons,List.nodup_cons]; exact hk
   ·rw [if_neg he,List.map_cons,List.nodup_cons]
    refine ⟨fun hm => ?_,Keys.put h hk.2⟩
    rcases mem_put hm with h1 | h1
    ·exact he ((h _ _).2 h1.symm)
    ·exact hk.1 h1
end Go.Vm
