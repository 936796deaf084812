/- The plumbing of the laws' functions (copies, equality, sizes), by loops of any types. -/
import Derived.Test.YtgonbndbnmimhaaDoorLawA
set_option linter.unusedVariables false
namespace Go.Vm
open Go
def Sh.bd:(s:Sh)→s.den→Prop
 | .int _,_ => True
 | .bool,_ => True
 | .str,x => ByteArray.size x≤1048576
 | .unit,_ => True
 | .any,_ => True
 | .raw,_ => True
 | .gh _,_ => True
 | .pair a b,x => a.bd x.1∧b.bd x.2
 | .st f,x => f.bd x
 | .sl _ _ e,xs => List.length xs≤1048576∧∀ x ∈ (xs:List e.den),e.bd x
 | .pt _ _ e,x => ∀ y,(x:Option e.den)=some y→e.bd y
 | .mp _ _ _,_ => True
 | .fn _ c,x => c.bd x
def Sz (f:Int→Option Int) (B:Prop):Prop:=∀ v:Int,0≤v→v≤1048576→∃ r,f v=some r∧r≤v ∧ (0≤r→B)
theorem Sz.imp {f:Int→Option Int} {A B:Prop} (h:Sz f A) (hi:A→B):Sz f B:=fun v h0 h1 => by
 obtain ⟨r,q1,q2,q3⟩:=h v h0 h1
 exact ⟨r,q1,q2,fun h => hi (q3 h)⟩
theorem Sz.done:Sz (fun v => some v) True:=fun v _ _ => ⟨v,rfl,Int.le_refl _,fun _ => trivial⟩
theorem Sz.seq {f g:Int→Option Int} {A B:Prop} (hf:Sz f A) (hg:Sz g B):Sz (fun v => (f v).bind fun r => if decide ((r:Int) < (0:Int)) then some (-1:Int) else g r) (A∧B):=fun v h0 h1 => by
 obtain ⟨r,q1,q2,q3⟩:=hf v h0 h1
 simp only [q1,Option.bind_some]
 by_cases hr:r < 0
 ·rw [if_t (by simpa using hr)]
  exact ⟨-1,rfl,by omega,fun h => absurd h (by omega)⟩
 ·rw [if_f (by simpa using hr)]
  obtain ⟨s,p1,p2,p3⟩:=hg r (by omega) (by omega)
  exact ⟨s,p1,by omega,fun h => ⟨q3 (by omega),p3 h⟩⟩
theorem Sz.len {g:Int→Option Int} {B:Prop} {n:Nat} (hn:n≤9223372036854775807) (hg:n≤1048576→Sz g B):Sz (fun v => if decide ((IntKind.i64.wrap (v - (n:Int)):Int) < (0:Int)) then some (-1:Int) else g (IntKind.i64.wrap (v - (n:Int)))) (n≤1048576∧B):=fun v h0 h1 => by
 simp only [wrap_in (n:=v - (n:Int)) (by omega) (by omega)]
 by_cases hr:v - (n:Int) < 0
 ·rw [if_t (by simpa using hr)]
  exact ⟨-1,rfl,by omega,fun h => absurd h (by omega)⟩
 ·rw [if_f (by simpa using hr)]
  obtain ⟨s,p1,p2,p3⟩:=hg (by omega) (v - (n:Int)) (by omega) (by omega)
  exact ⟨s,p1,by omega,fun h => ⟨by omega,p3 h⟩⟩
theorem getD_mem {α:Type} {x:List α} {i:Nat} {d:α} (h:i < x.length):List.getD x (Int.toNat (i:Int)) d ∈ x:=by
 rw [Int.toNat_natCast,List.getD_eq_getElem?_getD,List.getElem?_eq_getElem h]
 exact List.getElem_mem h
theorem szLoop {α:Type} {x:List α} {d:α} {s:α→Int→Option Int} {B:α→Prop} {L:Nat→Int × Int→Option Int}
 (hL:∀ m v i,L (m+1) (v,i)=if (decide ((i:Int) < (List.length x:Int))) then (if (0≤i∧i < (List.length x:Int)) then ((s (List.getD x (Int.toNat i) d) v).bind fun r => (if (decide ((r:Int) < (0:Int))) then (some (-1:Int)) else (L m (r,(IntKind.i64.wrap (i + (1:Int))))))) else none) else (some v))
 (hx:x.length≤1048576) (hs:∀ y ∈ x,Sz (s y) (B y)):∀ (m i:Nat) (v:Int),0≤v→v≤1048576→i≤x.length→x.length - i < m→∃ r,L m (v,(i:Int))=some r∧r≤v ∧ (0≤r→∀ j,i≤j→∀ h:j < x.length,B x[j])
 | 0,i,v,_,_,_,h => by omega
 | m+1,i,v,h0,h1,hi,h => by
   rw [hL]
   by_cases hlt:i < x.length
   ·rw [if_t (by simpa using hlt),if_t ⟨by omega,by omega⟩]
    obtain ⟨r,q1,q2,q3⟩:=hs _ (getD_mem (d:=d) hlt) v h0 h1
    rw [q1]
    simp only [Option.bind_some]
    by_cases hr:r < 0
    ·rw [if_t (by simpa using hr)]
     exact ⟨-1,rfl,by omega,fun h => absurd h (by omega)⟩
    ·rw [if_f (by simpa using hr),wrap_s (by omega)]
     obtain ⟨r2,p1,p2,p3⟩:=szLoop hL hx hs m (i+1) r (by omega) (by omega) (by omega) (by omega)
     refine ⟨r2,p1,by omega,fun h2 j hj hjl => ?_⟩
     by_cases e:j=i
     ·subst e
      have:=q3 (by omega)
      rw [Int.toNat_natCast,List.getD_eq_getElem?_getD,List.getElem?_eq_getElem hlt] at this
      exact this
     ·exact p3 h2 j (by omega) hjl
   ·rw [if_f (by simpa using hlt)]
    exact ⟨v,rfl,Int.le_refl _,fun _ j hj hjl => absurd hjl (by omega)⟩
theorem Sz.loop {α:Type} {x:List α} {d:α} {s:α→Int→Option Int} {B:α→Prop} {k:Nat} (hk:1048576 < k) (L:Nat→Int × Int→Option Int)
 (hL:∀ m v i,L (m+1) (v,i)=if (decide ((i:Int) < (List.length x:Int))) then (if (0≤i∧i < (List.length x:Int)) then ((s (List.getD x (Int.toNat i) d) v).bind fun r => (if (decide ((r:Int) < (0:Int))) then (some (-1:Int)) else (L m (r,(IntKind.i64.wrap (i + (1:Int))))))) else none) else (some v))
 (hx:x.length≤1048576) (hs:∀ y ∈ x,Sz (s y) (B y)):Sz (fun v => L k (v,(0:Int))) (∀ y ∈ x,B y):=fun v h0 h1 => by
 obtain ⟨r,q1,q2,q3⟩:=szLoop hL hx hs k 0 v h0 h1 (by omega) (by omega)
 refine ⟨r,q1,q2,fun h y hy => ?_⟩
 obtain ⟨j,hj,rfl⟩:=List.mem_iff_getElem.1 hy
 exact q3 h j (by omega) hj
theorem eqLoop {α:Type} {x:List α} {d:α} {e:α→α→Option Bool} {L:Nat→Int→Option Bool}
 (hL:∀ m i,L (m+1) i=if (decide ((i:Int) < (List.length x:Int))) then (if (0≤i∧i < (List.length x:Int)) then (if (0≤i∧i < (List.length x:Int)) then ((e (List.getD x (Int.toNat i) d) (List.getD x (Int.toNat i) d)).bind fun r => (if (!r) then (some false) else (L m (IntKind.i64.wrap (i + (1:Int)))))) else none) else none) else (some true))
 (hx:x.length≤1048576) (he:∀ y ∈ x,e y y=some true):∀ (m i:Nat),i≤x.length→x.length - i < m→L m (i:Int)=some true
 | 0,i,_,h => by omega
 | m+1,i,hi,h => by
   rw [hL]
   by_cases hlt:i < x.length
   ·rw [if_t (by simpa using hlt),if_t ⟨by omega,by omega⟩,if_t ⟨by omega,by omega⟩,he _ (getD_mem (d:=d) hlt)]
    simp only [Option.bind_some]
    rw [if_f (by simp),wrap_s (by omega)]
    exact eqLoop hL hx he m (i+1) (by omega) (by omega)
   ·rw [if_f (by simpa using hlt)]
theorem eqRow {α:Type} {x:List α} {d:α} {e:α→α→Option Bool} {k:Nat} (hk:1048576 < k) (L:Nat→Int→Option Bool)
 (hL:∀ m i,L (m+1) i=if (decide ((i:Int) < (List.length x:Int))) then (if (0≤i∧i < (List.length x:Int)) then (if (0≤i∧i < (List.length x:Int)) then ((e (List.getD x (Int.toNat i) d) (List.getD x (Int.toNat i) d)).bind fun r => (if (!r) then (some false) else (L m (IntKind.i64.wrap (i + (1:Int)))))) else none) else none) else (some true))
 (hx:x.length≤1048576) (he:∀ y ∈ x,e y y=some true):(if (((List.length x:Int):Int) != (List.length x:Int)) then (some false) else (L k (0:Int)))=some true:=by
 rw [if_f (by simp)]
 exact eqLoop hL hx he k 0 (by omega) (by omega)
theorem wrap_p (n:Nat) (h:n < 9223372036854775807):IntKind.i64.wrap (((n+1:Nat):Int) - 1) = (n:Int):=by
 rw [wrap_in (by omega) (by omega)]; omega
end Go.Vm
