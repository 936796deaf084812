/- The plumbing of the laws' functions (copies, equality, sizes), by loops of any types. -/
import Derived.Test.YtajigednlopmjaaLawA
set_option linter.unusedVariables false
namespace Go.Vm
open Go
def Sh.bd:(s:Sh)→s.den→Prop
 | .int _,_ => True
 | .bool,_ => True
 | .str,x => ByteArray.size x≤1048576
 | .unit,_ => True
 | .any,_ => True
 | .raw,_ => True
 | .gh _,_ => True
 | .pair a b,x => a.bd x.1∧b.bd x.2
 | .st f,x => f.bd x
 | .sl _ _ e,xs => List.length xs≤1048576∧∀ x ∈ (xs:List e.den),e.bd x
 | .pt _ _ e,x => ∀ y,(x:Option e.den)=some y→e.bd y
 | .mp _ _ _,_ => True
 | .fn _ c,x => c.bd x
def Sz (f:Int→Option Int) (B:Prop):Prop:=∀ v:Int,0≤v→v≤1048576→∃ r,f v=some r∧r≤v ∧ (0≤r→B)
theorem Sz.imp {f:Int→Option Int} {A B:Prop} (h:Sz f A) (hi:A→B):Sz f B:=fun v h0 h1 => by
 obtain ⟨r,q1,q2,q3⟩:=h v h0 h1
 exact ⟨r,q1,q2,fun h => hi (q3 h)⟩
theorem Sz.done:Sz (fun v => some v) True:=fun v _ _ => ⟨v,rfl,Int.le_refl _,fun _ => trivial⟩
theorem Sz.seq {f g:Int→Option Int} {A B:Prop} (hf:Sz f A) (hg:Sz g B):Sz (fun v => (f v).bind fun r => if decide ((r:Int) < (0:Int)) then some (-1:Int) else g r) (A∧B):=fun v h0 h1 => by
 obtain ⟨r,q1,q2,q3⟩:=hf v h0 h1
 simp only [q1,Option.bind_some]
 by_cases hr:r < 0
 ·rw [if_t (by simpa using hr)]
  exact ⟨-1,rfl,by omega,fun h => absurd h (by omega)⟩
 ·rw [if_f (by simpa using hr)]
  obtain ⟨s,p1,p2,p3⟩:=hg r (by omega) (by omega)
  exact ⟨s,p1,by omega,fun h => ⟨q3 (by omega),p3 h⟩⟩
theorem Sz.len {g:Int→Option Int} {B:Prop} {n:Nat} (hn:n≤9223372036854775807) (hg:n≤1048576→Sz g B):Sz (fun v => if decide ((IntKind.i64.wrap (v - (n:Int)):Int) < (0:Int)) then some (-1:Int) else g (IntKind.i64.wrap (v - (n:Int)))) (n≤1048576∧B):=fun v h0 h1 => by
 simp only [wrap_in (n:=v - (n:Int)) (by omega) (by omega)]
 by_cases hr:v - (n:Int) < 0
 ·rw [if_t (by simpa using hr)]
  exact ⟨-1,rfl,by omega,fun h => absurd h (by omega)⟩
 ·rw [if_f (by simpa using hr)]
  obtain ⟨s,p1,p2,p3⟩:=hg (by omega) (v - (n:Int)) (by omega) (by omega)
  exact ⟨s,p1,by omega,fun h => ⟨by omega,p3 h⟩⟩
theorem getD_mem {α:Type} {x:List α} {i:Nat} {d:α} (h:i < x.length):List.getD x (Int.toNat (i:Int)) d ∈ x:=by
 rw [Int.toNat_natCast,List.getD_eq_getElem?_getD,List.getElem?_eq_getElem h]
 exact List.getElem_mem h
theorem szLoop {α:Type} {x:List α} {d:α} {s:α→Int→Option Int} {B:α→Prop} {L:Nat→Int × Int→Option Int}
 (hL:∀ m v i,L (m+1) (v,i)=if (decide ((i:Int) < (List.length x:Int))) then (if (0≤i∧i < (List.length x:Int)) then ((s (List.getD x (Int.toNat i) d) v).bind fun r => (if (decide ((r:Int) < (0:Int))) then (some (-1:Int)) else (L m (r,(IntKind.i64.wrap (i + (1:Int))))))) else none) else (some v))
 (hx:x.length≤1048576) (hs:∀ y ∈ x,Sz (s y) (B y)):∀ (m i:Nat) (v:Int),0≤v→v≤1048576→i≤x.length→x.length - i < m→∃ r,L m (v,(i:Int))=some r∧r≤v ∧ (0≤r→∀ j,i≤j→∀ h:j < x.length,B x[j])
 | 0,i,v,_,_,_,h => by omega
 | m+1,i,v,h0,h1,hi,h => by
   rw [hL]
   by_cases hlt:i < x.length
   ·rw [if_t (by simpa using hlt),if_t ⟨by omega,by omega⟩]
    obtain ⟨r,q1,q2,q3⟩:=hs _ (getD_mem (d:=d) hlt) v h0 h1
    rw [q1]
    simp only [Option.bind_some]
    by_cases hr:r < 0
    ·rw [if_t (by simpa using hr)]
     exact ⟨-1,rfl,by omega,fun h => absurd h (by omega)⟩
    ·rw [if_f (by simpa using hr),wrap_s (by omega)]
     obtain ⟨r2,p1,p2,p3⟩:=szLoop hL hx hs m (i+1) r (by omega) (by omega) (by omega) (by omega)
     refine ⟨r2,p1,by omega,fun h2 j hj hjl => ?_⟩
     by_cases e:j=i
     ·subst e
      have:=q3 (by omega)
      rw [Int.toNat_natCast,List.getD_eq_getElem?_getD,List.getElem?_eq_getElem hlt] at this
      exact this
     ·exact p3 h2 j (by omega) hjl
   ·rw [if_f (by simpa using hlt)]
    exact ⟨v,rfl,Int.le_refl _,fun _ j hj hjl => absurd hjl (by omega)⟩
theorem Sz.loop {α:Type} {x:List α} {d:α} {s:α→Int→Option Int} {B:α→Prop} {k:Nat} (hk:1048576 < k) (L:Nat→Int × Int→Option Int)
 (hL:∀ m v i,L (m+1) (v,i)=if (decide ((i:Int) < (List.length x:Int))) then (if (0≤i∧i < (List.length x:Int)) then ((s (List.getD x (Int.toNat i) d) v).bind fun r => (if (decide ((r:Int) < (0:Int))) then (some (-1:Int)) else (L m (r,(IntKind.i64.wrap (i + (1:Int))))))) else none) else (some v))
 (hx:x.length≤1048576) (hs:∀ y ∈ x,Sz (s y) (B y)):Sz (fun v => L k (v,(0:Int))) (∀ y ∈ x,B y):=fun v h0 h1 => by
 obtain ⟨r,q1,q2,q3⟩:=szLoop hL hx hs k 0 v h0 h1 (by omega) (by omega)
 refine ⟨r,q1,q2,fun h y hy => ?_⟩
 obtain ⟨j,hj,rfl⟩:=List.mem_iff_getElem.1 hy
 exact q3 h j (by omega) hj
theorem copyLoop {α:Type} {x:List α} {d:α} {g:α→Option α} {L:Nat→List α × Int→Option (List α)}
 (hL:∀ m acc i,L (m+1) (acc,i)=if (decide ((i:Int) < (List.length x:Int))) then (if (0≤i∧i < (List.length x:Int)) then ((g (List.getD x (Int.toNat i) d)).bind fun r => (if (0≤i∧i < (List.length acc:Int)) then (L m ((List.set acc (Int.toNat i) r),(IntKind.i64.wrap (i + (1:Int))))) else none)) else none) else (some acc))
 (hx:x.length≤1048576) (hg:∀ y ∈ x,g y=some y):∀ (m i:Nat) (acc:List α),acc.length=x.length→acc.take i=x.take i→i≤x.length→x.length - i < m→L m (acc,(i:Int))=some x
 | 0,i,acc,_,_,_,h => by omega
 | m+1,i,acc,hl,ht,hi,h => by
   rw [hL]
   by_cases hlt:i < x.length
   ·rw [if_t (by simpa using hlt),if_t ⟨by omega,by omega⟩,hg _ (getD_mem (d:=d) hlt)]
    simp only [Option.bind_some]
    rw [if_t ⟨by omega,by omega⟩,wrap_s (by omega)]
    refine copyLoop hL hx hg m (i+1) _ (by simp [hl]) ?_ (by omega) (by omega)
    rw [Int.toNat_natCast]
    exact take_set hl ht hlt
   ·rw [if_f (by simpa using hlt),take_all hl ht (by omega)]
theorem copyRow {α:Type} {x:List α} {d d':α} {g:α→Option α} {k z:Nat} (hk:1048576 < k) (L:Nat→List α × Int→Option (List α))
 (hL:∀ m acc i,L (m+1) (acc,i)=if (decide ((i:Int) < (List.length x:Int))) then (if (0≤i∧i < (List.length x:Int)) then ((g (List.getD x (Int.toNat i) d)).bind fun r => (if (0≤i∧i < (List.length acc:Int)) then (L m ((List.set acc (Int.toNat i) r),(IntKind.i64.wrap (i + (1:Int))))) else none)) else none) else (some acc))
 (hz:z≤65536) (hx:x.length≤1048576) (hg:∀ y ∈ x,g y=some y) :
 (if (0 ≤ (List.length x:Int)∧Int.toNat (List.length x:Int)*z≤140737488355328) then (L k ((List.replicate (Int.toNat (List.length x:Int)) d'),(0:Int))) else none)=some x:=by
 have hb:Int.toNat (List.length x:Int)*z≤140737488355328:=by
  rw [Int.toNat_natCast]
  exact Nat.le_trans (Nat.mul_le_mul hx hz) (by decide)
 rw [if_t ⟨by omega,hb⟩]
 exact copyLoop hL hx hg k 0 _ (by simp) (by simp) (by omega) (by omega)
theorem eqLoop {α:Type} {x:List α} {d:α} {e:α→α→Option Bool} {L:Nat→Int→Option Bool}
 (hL:∀ m i,L (m+1) i=if (decide ((i:Int) < (List.length x:Int))) then (if (0≤i∧i < (List.length x:Int)) then (if (0≤i∧i < (List.length x:Int)) then ((e (List.getD x (Int.toNat i) d) (List.getD x (Int.toNat i) d)).bind fun r => (if (!r) then (some false) else (L m (IntKind.i64.wrap (i + (1:Int)))))) else none) else none) else (some true))
 (hx:x.length≤1048576) (he:∀ y ∈ x,e y y=some true):∀ (m i:Nat),i≤x.length→x.length - i < m→L m (i:Int)=some true
 | 0,i,_,h => by omega
 | m+1,i,hi,h => by
   rw [hL]
   by_cases hlt:i < x.length
   ·rw [if_t (by simpa using hlt),if_t ⟨by omega,by omega⟩,if_t ⟨by omega,by omega⟩,he _ (getD_mem (d:=d) hlt)]
    simp only [Option.bind_some]
    rw [if_f (by simp),wrap_s (by omega)]
    exact eqLoop hL hx he m (i+1) (by omega) (by omega)
   ·rw [if_f (by simpa using hlt)]
theorem eqRow {α:Type} {x:List α} {d:α} {e:α→α→Option Bool} {k:Nat} (hk:1048576 < k) (L:Nat→Int→Option Bool)
 (hL:∀ m i,L (m+1) i=if (decide ((i:Int) < (List.length x:Int))) then (if (0≤i∧i < (List.length x:Int)) then (if (0≤i∧i < (List.length x:Int)) then ((e (List.getD x (Int.toNat i) d) (List.getD x (Int.toNat i) d)).bind fun r => (if (!r) then (some false) else (L m (IntKind.i64.wrap (i + (1:Int)))))) else none) else none) else (some true))
 (hx:x.length≤1048576) (he:∀ y ∈ x,e y y=some true):(if (((List.length x:Int):Int) != (List.length x:Int)) then (some false) else (L k (0:Int)))=some true:=by
 rw [if_f (by simp)]
 exact eqLoop hL hx he k 0 (by omega) (by omega)
theorem eqLoop0 {α:Type} {x:List α} {d:α} {ne:α→α→Bool} {L:Nat→Int→Option Bool}
 (hL:∀ m i,L (m+1) i=if (decide ((i:Int) < (List.length x:Int))) then (if (0≤i∧i < (List.length x:Int)) then (if (0≤i∧i < (List.length x:Int)) then (if ne (List.getD x (Int.toNat i) d) (List.getD x (Int.toNat i) d) then (some false) else (L m (IntKind.i64.wrap (i + (1:Int))))) else none) else none) else (some true))
 (hx:x.length≤1048576) (he:∀ y,ne y y=false):∀ (m i:Nat),i≤x.length→x.length - i < m→L m (i:Int)=some true
 | 0,i,_,h => by omega
 | m+1,i,hi,h => by
   rw [hL]
   by_cases hlt:i < x.length
   ·rw [if_t (by simpa using hlt),if_t ⟨by omega,by omega⟩,if_t ⟨by omega,by omega⟩,he,if_f (by simp),wrap_s (by omega)]
    exact eqLoop0 hL hx he m (i+1) (by omega) (by omega)
   ·rw [if_f (by simpa using hlt)]
theorem eqRow0 {α:Type} {x:List α} {d:α} {ne:α→α→Bool} {k:Nat} (hk:1048576 < k) (L:Nat→Int→Option Bool)
 (hL:∀ m i,L (m+1) i=if (decide ((i:Int) < (List.length x:Int))) then (if (0≤i∧i < (List.length x:Int)) then (if (0≤i∧i < (List.length x:Int)) then (if ne (List.getD x (Int.toNat i) d) (List.getD x (Int.toNat i) d) then (some false) else (L m (IntKind.i64.wrap (i + (1:Int))))) else none) else none) else (some true))
 (hx:x.length≤1048576) (he:∀ y,ne y y=false):(if (((List.length x:Int):Int) != (List.length x:Int)) then (some false) else (L k (0:Int)))=some true:=by
 rw [if_f (by simp)]
 exact eqLoop0 hL hx he k 0 (by omega) (by omega)
def allFrom (p:Nat→Bool):Nat→Nat→Bool
 | _,0 => true
 | i,d+1 => p i && allFrom p (i+1) d
theorem allFrom_iff {p:Nat→Bool}:∀ {d i:Nat},allFrom p i d=true↔∀ j,i≤j→j < i+d→p j=true
 | 0,i => by simp only [allFrom,true_iff]; intro j h1 h2; omega
 | d+1,i => by
   simp only [allFrom,Bool.and_eq_true,allFrom_iff]
   constructor
   ·rintro ⟨h1,h2⟩ j h3 h4
    by_cases e:j=i
    ·subst e; exact h1
    ·exact h2 j (by omega) (by omega)
   ·intro h
    exact ⟨h i (by omega) (by omega),fun j h1 h2 => h j (by omega) (by omega)⟩
def allTo (p:Nat→Bool) (n:Nat):Bool:=allFrom p 0 n
theorem allTo_iff {p:Nat→Bool} {n:Nat}:allTo p n=true↔∀ j,j < n→p j=true:=by
 unfold allTo
 rw [allFrom_iff]
 exact ⟨fun h j hj => h j (by omega) (by omega),fun h j _ hj => h j (by omega)⟩
theorem allLoop' {L:Nat→Int→Option Bool} {n:Nat} {p:Nat→Bool} {fin:Option Bool} (hL:∀ m i,i < n→L (m+1) (i:Int)=bif p i then L m ((i+1:Nat):Int) else some false) (hE:∀ m,L (m+1) (n:Int)=fin) :
 ∀ (m i:Nat),i≤n→n - i < m→L m (i:Int)=bif allFrom p i (n - i) then fin else some false
 | 0,i,_,h => by omega
 | m+1,i,hi,h => by
   by_cases hlt:i < n
   ·rw [hL m i hlt]
    obtain ⟨d,hd⟩:∃ d,n - i=d+1:=⟨n - i - 1,by omega⟩
    rw [hd,allFrom]
    cases hp:p i with
    | false => simp
    | true =>
      have:=allLoop' hL hE m (i+1) (by omega) (by omega)
      rw [show n - (i+1)=d by omega] at this
      simpa using this
   ·obtain rfl:i=n:=by omega
    rw [hE,Nat.sub_self]
    simp [allFrom]
theorem allLoop {L:Nat→Int→Option Bool} {n:Nat} {p:Nat→Bool} {fin:Option Bool} (hL:∀ m i,i < n→L (m+1) (i:Int)=bif p i then L m ((i+1:Nat):Int) else some false) (hE:∀ m,L (m+1) (n:Int)=fin) {k:Nat} (hk:n < k) :
 L k (0:Int)=bif allTo p n then fin else some false:=allLoop' hL hE k 0 (by omega) (by omega)
theorem foldLoop {σ τ:Type} {L:Nat→σ × Int→Option τ} {n:Nat} {g:Nat→σ→σ} {fin:σ→Option τ} {Inv:Nat→σ→Prop}
 (hL:∀ m i s,i < n→Inv i s→Inv (i+1) (g i s)∧L (m+1) (s,(i:Int))=L m (g i s,((i+1:Nat):Int))) (hE:∀ m s,Inv n s→L (m+1) (s,(n:Int))=fin s) :
 ∀ (m i:Nat) (s:σ),Inv i s→i≤n→n - i < m→∃ s',Inv n s'∧L m (s,(i:Int))=fin s'
 | 0,i,s,_,_,h => by omega
 | m+1,i,s,hs,hi,h => by
   by_cases hlt:i < n
   ·obtain ⟨hs',he⟩:=hL m i s hlt hs
    rw [he]
    exact foldLoop hL hE m (i+1) _ hs' (by omega) (by omega)
   ·obtain rfl:i=n:=by omega
    exact ⟨s,hs,hE m s hs⟩
theorem mFind_put {α β:Type} {eq:α→α→Bool} (h:∀ a b,eq a b=true↔a=b) {x y:α} {v:β}:∀ {m:List (α × β)},mFind eq y (mput eq x v m)=bif eq y x then some v else mFind eq y m
 | [] => by
   cases hy:eq y x <;> simp [mFind,mput,hy]
 | e :: m => by
   have ih:=mFind_put h (x:=x) (y:=y) (v:=v) (m:=m)
   unfold mFind at ih ⊢
   cases he:eq x e.1 with
   | true =>
     simp only [mput,he,if_true,List.find?_cons]
     obtain rfl:=(h _ _).1 he
     cases hy:eq y e.1 <;> simp
   | false =>
     simp only [mput,he,Bool.false_eq_true,if_false,List.find?_cons]
     cases hy:eq y e.1 with
     | true =>
       obtain rfl:=(h _ _).1 hy
       have:eq e.1 x=false:=by
        cases hq:eq e.1 x with
        | false => rfl
        | true =>
          obtain rfl:=(h _ _).1 hq
          rw [(h _ _).2 rfl] at he; cases he
       simp
       rw [this]; rfl
     | false => simpa using ih
theorem mget_put {α β:Type} {eq:α→α→Bool} (h:∀ a b,eq a b=true↔a=b) {x y:α} {v d:β} {m:List (α × β)}:mget eq (some (mput eq x v m)) y d=bif eq y x then v else mget eq (some m) y d:=by
 simp only [mget,mFind_put h]
 cases eq y x <;> rfl
theorem mget_nil {α β:Type} {eq:α→α→Bool} {y:α} {d:β}:mget eq (some ([]:List (α × β))) y d=d:=rfl
theorem beq_int (k:IntKind) (a b:Int):Sh.beq (.int k) a b=true↔a=b:=by simp [Sh.beq]
theorem wrap_p (n:Nat) (h:n < 9223372036854775807):IntKind.i64.wrap (((n+1:Nat):Int) - 1) = (n:Int):=by
 rw [wrap_in (by omega) (by omega)]; omega
end Go.Vm
