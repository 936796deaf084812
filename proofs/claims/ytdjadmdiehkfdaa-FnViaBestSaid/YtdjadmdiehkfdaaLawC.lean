/-
  MARKS. A mark function fills what a law's value owns with rising numbers; a held function looks whether they still stand there. No condition.
-/
import Derived.Test.YtdjadmdiehkfdaaLawB
set_option linter.unusedVariables false
set_option linter.unusedSimpArgs false
namespace Go.Vm
open Go
def Mk {α:Type} (f:α→Int→Option (Int × α)) (R:Int→α→Int→Prop) (w:Int) (x:α):Prop :=
 ∀ v:Int,0≤v→v+w≤4611686018427387904→∃ c y,f x v=some (c,y)∧R v y c∧v≤c∧c≤v+w
theorem Mk.run {α:Type} {f:α→Int→Option (Int × α)} {R:Int→α→Int→Prop} {w:Int} {x:α} (h:Mk f R w x) {v:Int} (h0:0≤v) (h1:v+w≤4611686018427387904):∃ c y,f x v=some (c,y)∧R v y c∧v≤c∧c≤v+w:=h v h0 h1
def Keys {α β:Type} (m:List (α × β)):Prop:=(m.map (·.1)).Nodup
theorem mem_put {α β:Type} {eq:α→α→Bool} {x y:α} {v:β}:∀ {m:List (α × β)},y ∈ (mput eq x v m).map (·.1)→y=x∨y ∈ m.map (·.1)
 | [],h => by simpa [mput] using h
 | e :: m,h => by
   rw [mput] at h
   by_cases he:eq x e.1=true
   ·rw [if_pos he] at h; simp only [List.map_cons,List.mem_cons] at h ⊢
    rcases h with h | h
    ·exact .inl h
    ·exact .inr (.inr h)
   ·rw [if_neg he] at h; simp only [List.map_cons,List.mem_cons] at h ⊢
    rcases h with h | h
    ·exact .inr (.inl h)
    ·rcases mem_put h with h | h
     ·exact .inl h
     ·exact .inr (.inr h)
theorem Keys.put {α β:Type} {eq:α→α→Bool} (h:∀ a b,eq a b=true↔a=b) {x:α} {v:β}:∀ {m:List (α × β)},Keys m→Keys (mput eq x v m)
 | [],_ => by simp [Keys,mput]
 | e :: m,hk => by
   unfold Keys at hk ⊢
   rw [List.map_cons,List.nodup_cons] at hk
   rw [mput]
   by_cases he:eq x e.1=true
   ·obtain rfl:=(h _ _).1 he
    rw [if_pos he,List.map_cons,List.nodup_cons]; exact hk
   ·rw [if_neg he,List.map_cons,List.nodup_cons]
    refine ⟨fun hm => ?_,Keys.put h hk.2⟩
    rcases mem_put hm with h1 | h1
    ·exact he ((h _ _).2 h1.symm)
    ·exact hk.1 h1
theorem allLoopG {σ τ:Type} {L:Nat→σ × Int→Option τ} {n:Nat} {p:Nat→Bool} {bad:Option τ} {fin:σ→Option τ} {Inv:Nat→σ→Prop}
 (hL:∀ m i s,i < n→Inv i s → (p i=true→∃ s',Inv (i+1) s'∧L (m+1) (s,(i:Int))=L m (s',((i+1:Nat):Int))) ∧ (p i=false→L (m+1) (s,(i:Int))=bad))
 (hE:∀ m s,Inv n s→L (m+1) (s,(n:Int))=fin s) :
 ∀ (m i:Nat) (s:σ),Inv i s→i≤n→n - i < m → (allFrom p i (n - i)=true∧∃ s',Inv n s'∧L m (s,(i:Int))=fin s') ∨ (allFrom p i (n - i)=false∧L m (s,(i:Int))=bad)
 | 0,i,s,_,_,h => by omega
 | m+1,i,s,hs,hi,h => by
   by_cases hlt:i < n
   ·obtain ⟨h1,h2⟩:=hL m i s hlt hs
    obtain ⟨d,hd⟩:∃ d,n - i=d+1:=⟨n - i - 1,by omega⟩
    rw [hd,allFrom]
    cases hp:p i with
    | false => exact .inr ⟨by simp,h2 hp⟩
    | true =>
      obtain ⟨s',hs',he⟩:=h1 hp
      rw [he]
      have:=allLoopG hL hE m (i+1) s' hs' (by omega) (by omega)
      rw [show n - (i+1)=d by omega] at this
      simpa using this
   ·obtain rfl:i=n:=by omega
    rw [Nat.sub_self]
    exact .inl ⟨rfl,s,hs,hE m s hs⟩
theorem allLoopI {τ:Type} {L:Nat→Int→Option τ} {n:Nat} {p:Nat→Bool} {bad fin:Option τ}
 (hL:∀ m i,i < n→L (m+1) (i:Int)=bif p i then L m ((i+1:Nat):Int) else bad)
 (hE:∀ m,L (m+1) (n:Int)=fin) {k:Nat} (hk:n < k):L k (0:Int)=bif allTo p n then fin else bad:=by
 have:=allLoopG (σ:=Unit) (L:=fun m s => L m s.2) (n:=n) (p:=p) (bad:=bad) (fin:=fun _ => fin) (Inv:=fun _ _ => True)
  (fun m i s hi _ => ⟨fun hp => ⟨(),trivial,by show L (m+1) (i:Int)=_; rw [hL m i hi,hp]; rfl⟩,fun hp => by show L (m+1) (i:Int)=_; rw [hL m i hi,hp]; rfl⟩) (fun m s _ => hE m) k 0 () trivial (by omega) (by omega)
 rcases this with ⟨h1,_,_,h2⟩ | ⟨h1,h2⟩
 ·rw [Nat.sub_zero] at h1; unfold allTo; rw [h1]; exact h2
 ·rw [Nat.sub_zero] at h1; unfold allTo; rw [h1]; exact h2
end Go.Vm
