/- The plumbing of the laws' functions (copies, equality, sizes), by loops of any types. -/
import Derived.Test.YtnpaokckkbhdjaaLawA
set_option linter.unusedVariables false
namespace Go.Vm
open Go
def Sz (f:Int→Option Int) (B:Prop):Prop:=∀ v:Int,0≤v→v≤1048576→∃ r,f v=some r∧r≤v ∧ (0≤r→B)
theorem Sz.imp {f:Int→Option Int} {A B:Prop} (h:Sz f A) (hi:A→B):Sz f B:=fun v h0 h1 => by
 obtain ⟨r,q1,q2,q3⟩:=h v h0 h1
 exact ⟨r,q1,q2,fun h => hi (q3 h)⟩
theorem Sz.done:Sz (fun v => some v) True:=fun v _ _ => ⟨v,rfl,Int.le_refl _,fun _ => trivial⟩
theorem Sz.seq {f g:Int→Option Int} {A B:Prop} (hf:Sz f A) (hg:Sz g B):Sz (fun v => (f v).bind fun r => if decide ((r:Int) < (0:Int)) then some (-1:Int) else g r) (A∧B):=fun v h0 h1 => by
 obtain ⟨r,q1,q2,q3⟩:=hf v h0 h1
 simp only [q1,Option.bind_some]
 by_cases hr:r < 0
 ·rw [if_t (by simpa using hr)]
  exact ⟨-1,rfl,by omega,fun h => absurd h (by omega)⟩
 ·rw [if_f (by simpa using hr)]
  obtain ⟨s,p1,p2,p3⟩:=hg r (by omega) (by omega)
  exact ⟨s,p1,by omega,fun h => ⟨q3 (by omega),p3 h⟩⟩
theorem Sz.len {g:Int→Option Int} {B:Prop} {n:Nat} (hn:n≤9223372036854775807) (hg:n≤1048576→Sz g B):Sz (fun v => if decide ((IntKind.i64.wrap (v - (n:Int)):Int) < (0:Int)) then some (-1:Int) else g (IntKind.i64.wrap (v - (n:Int)))) (n≤1048576∧B):=fun v h0 h1 => by
 simp only [wrap_in (n:=v - (n:Int)) (by omega) (by omega)]
 by_cases hr:v - (n:Int) < 0
 ·rw [if_t (by simpa using hr)]
  exact ⟨-1,rfl,by omega,fun h => absurd h (by omega)⟩
 ·rw [if_f (by simpa using hr)]
  obtain ⟨s,p1,p2,p3⟩:=hg (by omega) (v - (n:Int)) (by omega) (by omega)
  exact ⟨s,p1,by omega,fun h => ⟨by omega,p3 h⟩⟩
theorem getD_mem {α:Type} {x:List α} {i:Nat} {d:α} (h:i < x.length):List.getD x (Int.toNat (i:Int)) d ∈ x:=by
 rw [Int.toNat_natCast,List.getD_eq_getElem?_getD,List.getElem?_eq_getElem h]
 exact List.getElem_mem h
theorem szLoop {α:Type} {x:List α} {d:α} {s:α→Int→Option Int} {B:α→Prop} {L:Nat→Int × Int→Option Int}
 (hL:∀ m v i,L (m+1) (v,i)=if (decide ((i:Int) < (List.length x:Int))) then (if (0≤i∧i < (List.length x:Int)) then ((s (List.getD x (Int.toNat i) d) v).bind fun r => (if (decide ((r:Int) < (0:Int))) then (some (-1:Int)) else (L m (r,(IntKind.i64.wrap (i + (1:Int))))))) else none) else (some v))
 (hx:x.length≤1048576) (hs:∀ y ∈ x,Sz (s y) (B y)):∀ (m i:Nat) (v:Int),0≤v→v≤1048576→i≤x.length→x.length - i < m→∃ r,L m (v,(i:Int))=some r∧r≤v ∧ (0≤r→∀ j,i≤j→∀ h:j < x.length,B x[j])
 | 0,i,v,_,_,_,h => by omega
 | m+1,i,v,h0,h1,hi,h => by
   rw [hL]
   by_cases hlt:i < x.length
   ·rw [if_t (by simpa using hlt),if_t ⟨by omega,by omega⟩]
    obtain ⟨r,q1,q2,q3⟩:=hs _ (getD_mem (d:=d) hlt) v h0 h1
    rw [q1]
    simp only [Option.bind_some]
    by_cases hr:r < 0
    ·rw [if_t (by simpa using hr)]
     exact ⟨-1,rfl,by omega,fun h => absurd h (by omega)⟩
    ·rw [if_f (by simpa using hr),wrap_s (by omega)]
     obtain ⟨r2,p1,p2,p3⟩:=szLoop hL hx hs m (i+1) r (by omega) (by omega) (by omega) (by omega)
     refine ⟨r2,p1,by omega,fun h2 j hj hjl => ?_⟩
     by_cases e:j=i
     ·subst e
      have:=q3 (by omega)
      rw [Int.toNat_natCast,List.getD_eq_getElem?_getD,List.getElem?_eq_getElem hlt] at this
      exact this
     ·exact p3 h2 j (by omega) hjl
   ·rw [if_f (by simpa using hlt)]
    exact ⟨v,rfl,Int.le_refl _,fun _ j hj hjl => absurd hjl (by omega)⟩
theorem Sz.loop {α:Type} {x:List α} {d:α} {s:α→Int→Option Int} {B:α→Prop} {k:Nat} (hk:1048576 < k) (L:Nat→Int × Int→Option Int)
 (hL:∀ m v i,L (m+1) (v,i)=if (decide ((i:Int) < (List.length x:Int))) then (if (0≤i∧i < (List.length x:Int)) then ((s (List.getD x (Int.toNat i) d) v).bind fun r => (if (decide ((r:Int) < (0:Int))) then (some (-1:Int)) else (L m (r,(IntKind.i64.wrap (i + (1:Int))))))) else none) else (some v))
 (hx:x.length≤1048576) (hs:∀ y ∈ x,Sz (s y) (B y)):Sz (fun v => L k (v,(0:Int))) (∀ y ∈ x,B y):=fun v h0 h1 => by
 obtain ⟨r,q1,q2,q3⟩:=szLoop hL hx hs k 0 v h0 h1 (by omega) (by omega)
 refine ⟨r,q1,q2,fun h y hy => ?_⟩
 obtain ⟨j,hj,rfl⟩:=List.mem_iff_getElem.1 hy
 exact q3 h j (by omega) hj
def allFrom (p:Nat→Bool):Nat→Nat→Bool
 | _,0 => true
 | i,d+1 => p i && allFrom p (i+1) d
theorem allFrom_iff {p:Nat→Bool}:∀ {d i:Nat},allFrom p i d=true↔∀ j,i≤j→j < i+d→p j=true
 | 0,i => by simp only [allFrom,true_iff]; intro j h1 h2; omega
 | d+1,i => by
   simp only [allFrom,Bool.and_eq_true,allFrom_iff]
   constructor
   ·rintro ⟨h1,h2⟩ j h3 h4
    by_cases e:j=i
    ·subst e; exact h1
    ·exact h2 j (by omega) (by omega)
   ·intro h
    exact ⟨h i (by omega) (by omega),fun j h1 h2 => h j (by omega) (by omega)⟩
def allTo (p:Nat→Bool) (n:Nat):Bool:=allFrom p 0 n
theorem allTo_iff {p:Nat→Bool} {n:Nat}:allTo p n=true↔∀ j,j < n→p j=true:=by
 unfold allTo
 rw [allFrom_iff]
 exact ⟨fun h j hj => h j (by omega) (by omega),fun h j _ hj => h j (by omega)⟩
theorem allLoopS {σ:Type} {L:Nat→σ × Int→Option Bool} {n:Nat} {p:Nat→Bool} {fin:Option Bool} {Inv:Nat→σ→Prop}
 (hL:∀ m i s,i < n→Inv i s→∃ s',(p i=true→Inv (i+1) s')∧L (m+1) (s,(i:Int))=bif p i then L m (s',((i+1:Nat):Int)) else some false) (hE:∀ m s,Inv n s→L (m+1) (s,(n:Int))=fin) :
 ∀ (m i:Nat) (s:σ),Inv i s→i≤n→n - i < m→L m (s,(i:Int))=bif allFrom p i (n - i) then fin else some false
 | 0,i,s,_,_,h => by omega
 | m+1,i,s,hs,hi,h => by
   by_cases hlt:i < n
   ·obtain ⟨s',hs',he⟩:=hL m i s hlt hs
    rw [he]
    obtain ⟨d,hd⟩:∃ d,n - i=d+1:=⟨n - i - 1,by omega⟩
    rw [hd,allFrom]
    cases hp:p i with
    | false => simp
    | true =>
      have:=allLoopS hL hE m (i+1) s' (hs' hp) (by omega) (by omega)
      rw [show n - (i+1)=d by omega] at this
      simpa using this
   ·obtain rfl:i=n:=by omega
    rw [hE _ _ hs,Nat.sub_self]
    simp [allFrom]
theorem mFind_put {α β:Type} {eq:α→α→Bool} (h:∀ a b,eq a b=true↔a=b) {x y:α} {v:β}:∀ {m:List (α × β)},mFind eq y (mput eq x v m)=bif eq y x then some v else mFind eq y m
 | [] => by
   cases hy:eq y x <;> simp [mFind,mput,hy]
 | e :: m => by
   have ih:=mFind_put h (x:=x) (y:=y) (v:=v) (m:=m)
   unfold mFind at ih ⊢
   cases he:eq x e.1 with
   | true =>
     simp only [mput,he,if_true,List.find?_cons]
     obtain rfl:=(h _ _).1 he
     cases hy:eq y e.1 <;> simp
   | false =>
     simp only [mput,he,Bool.false_eq_true,if_false,List.find?_cons]
     cases hy:eq y e.1 with
     | true =>
       obtain rfl:=(h _ _).1 hy
       have:eq e.1 x=false:=by
        cases hq:eq e.1 x with
        | false => rfl
        | true =>
          obtain rfl:=(h _ _).1 hq
          rw [(h _ _).2 rfl] at he; cases he
       simp
       rw [this]; rfl
     | false => simpa using ih
theorem mget_put {α β:Type} {eq:α→α→Bool} (h:∀ a b,eq a b=true↔a=b) {x y:α} {v d:β} {m:List (α × β)}:mget eq (some (mput eq x v m)) y d=bif eq y x then v else mget eq (some m) y d:=by
 simp only [mget,mFind_put h]
 cases eq y x <;> rfl
theorem mget_nil {α β:Type} {eq:α→α→Bool} {y:α} {d:β}:mget eq (some ([]:List (α × β))) y d=d:=rfl
theorem beq_int (k:IntKind) (a b:Int):Sh.beq (.int k) a b=true↔a=b:=by simp [Sh.beq]
end Go.Vm
