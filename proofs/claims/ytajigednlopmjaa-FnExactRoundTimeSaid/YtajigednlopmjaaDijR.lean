/-
  The two ways to reckon least labels, as loops of any form. No condition.
-/
import Derived.Test.YtajigednlopmjaaDijQ
set_option linter.unusedVariables false
set_option linter.unusedSimpArgs false
namespace Go.Vm
instance (a b c d:Int):Decidable (Le a b c d):=by unfold Le; infer_instance
section
variable {R:Type} {G:DG} {P:List Int→Prop}
theorem take_snoc {l:List Nat} {i:Nat} (h:i < l.length):l.take (i+1)=l.take i ++ [l.getD i 0]:=by
 rw [List.take_succ_eq_append_getElem h]; simp [List.getD_eq_getElem?_getD,h]
theorem getD_in' {l:List Nat} {i:Nat} (h:i < l.length):l.getD i 0 ∈ l:=by
 rw [List.getD_eq_getElem?_getD,List.getElem?_eq_getElem h]; exact List.getElem_mem h
structure Cur (G:DG) (tm ct:List Int) (dn:List Bool) (x:Nat):Prop where
 top:Top G tm ct dn x
 don:D dn x=true
 bd:T tm x ≤ (cnt dn:Int)*G.C∧T ct x ≤ (cnt dn:Int)
theorem relaxRow {x:Nat} (hx:x < G.n) {dn:List Bool} {L:Nat→List Int→List Int→List Int→Nat→Option R} {Q:List Int→List Int→List Int→Option R}
 (hL:∀ m tm ct op i,i < (G.adj x).length→Inv G (partX G x ((G.adj x).take i)) tm ct dn→Row G tm dn op→P ct→Cur G tm ct dn x →
  ((D dn ((G.adj x).getD i 0)=true∨G.cost x ((G.adj x).getD i 0) < 0)→L (m+1) tm ct op i=L m tm ct op (i+1)) ∧
  (D dn ((G.adj x).getD i 0)=false→0≤G.cost x ((G.adj x).getD i 0)→T tm ((G.adj x).getD i 0) < 0 →
   L (m+1) tm ct op i=L m (tm.set ((G.adj x).getD i 0) (T tm x+G.cost x ((G.adj x).getD i 0))) (ct.set ((G.adj x).getD i 0) (T ct x+G.dl)) (op ++ [(((G.adj x).getD i 0:Nat):Int)]) (i+1)) ∧
  (D dn ((G.adj x).getD i 0)=false→0≤G.cost x ((G.adj x).getD i 0)→0≤T tm ((G.adj x).getD i 0) →
   Le (T tm ((G.adj x).getD i 0)) (T ct ((G.adj x).getD i 0)) (T tm x+G.cost x ((G.adj x).getD i 0)) (T ct x+G.dl)→L (m+1) tm ct op i=L m tm ct op (i+1)) ∧
  (D dn ((G.adj x).getD i 0)=false→0≤G.cost x ((G.adj x).getD i 0)→0≤T tm ((G.adj x).getD i 0) →
   ¬ Le (T tm ((G.adj x).getD i 0)) (T ct ((G.adj x).getD i 0)) (T tm x+G.cost x ((G.adj x).getD i 0)) (T ct x+G.dl) →
   L (m+1) tm ct op i=L m (tm.set ((G.adj x).getD i 0) (T tm x+G.cost x ((G.adj x).getD i 0))) (ct.set ((G.adj x).getD i 0) (T ct x+G.dl)) op (i+1)))
 (hP:∀ (ct:List Int) (e:Nat),P ct→P (ct.set e (T ct x+G.dl)))
 (hE:∀ m tm ct op,tm.length=G.n→ct.length=G.n→L (m+1) tm ct op (G.adj x).length=Q tm ct op) :
 ∀ (d i m:Nat) (tm ct op:List Int),i+d = (G.adj x).length→d < m→Inv G (partX G x ((G.adj x).take i)) tm ct dn→Row G tm dn op→P ct→Cur G tm ct dn x →
   ∃ tm' ct' op',L m tm ct op i=Q tm' ct' op'∧Inv G G.adj tm' ct' dn∧Row G tm' dn op'∧P ct'∧∀ y,D dn y=true→T tm' y=T tm y
 | 0,i,m,tm,ct,op,h1,h2,hI,hR,hp,hc => by
   obtain ⟨m,rfl⟩:∃ q,m=q+1:=⟨m - 1,by omega⟩
   obtain rfl:i = (G.adj x).length:=by omega
   rw [List.take_length,partX_all] at hI
   exact ⟨tm,ct,op,hE m tm ct op hI.l1 hI.l2,hI,hR,hp,fun _ _ => rfl⟩
 | d+1,i,m,tm,ct,op,h1,h2,hI,hR,hp,hc => by
   obtain ⟨m,rfl⟩:∃ q,m=q+1:=⟨m - 1,by omega⟩
   have hi:i < (G.adj x).length:=by omega
   have he:=getD_in' hi
   have hts:=take_snoc hi
   obtain ⟨a1,a2,a3,a4⟩:=hL m tm ct op i hi hI hR hp hc
   generalize (G.adj x).getD i 0=e at *
   have hen:=G.hadj x hx e he
   have skip:(D dn e=true∨G.cost x e < 0 ∨ (0≤T tm e∧Le (T tm e) (T ct e) (T tm x+G.cost x e) (T ct x+G.dl)))→L (m+1) tm ct op i=L m tm ct op (i+1) →
    ∃ tm' ct' op',L (m+1) tm ct op i=Q tm' ct' op'∧Inv G G.adj tm' ct' dn∧Row G tm' dn op'∧P ct'∧∀ y,D dn y=true→T tm' y=T tm y:=fun hno hl => by
    rw [hl]
    exact relaxRow hx hL hP hE d (i+1) m tm ct op (by omega) (by omega) (by rw [hts]; exact hI.keep hx hc.top he hno) hR hp hc
   have go:∀ op',D dn e=false→0≤G.cost x e → (T tm e < 0∨¬ Le (T tm e) (T ct e) (T tm x+G.cost x e) (T ct x+G.dl))→Row G (tm.set e (T tm x+G.cost x e)) dn op' →
    L (m+1) tm ct op i=L m (tm.set e (T tm x+G.cost x e)) (ct.set e (T ct x+G.dl)) op' (i+1) →
    ∃ tm' ct' op',L (m+1) tm ct op i=Q tm' ct' op'∧Inv G G.adj tm' ct' dn∧Row G tm' dn op'∧P ct'∧∀ y,D dn y=true→T tm' y=T tm y:=fun op' hd hcs hb hR' hl => by
    rw [hl]
    obtain ⟨b1,b2,b3,b4⟩:=hI.better hx hc.don hc.top hc.bd he hd hcs hb
    obtain ⟨tm',ct',op'',q1,q2,q3,q4,q5⟩:=relaxRow hx hL hP hE d (i+1) m _ _ op' (by omega) (by omega) (by rw [hts]; exact b1) hR' (hP ct e hp) ⟨b2,hc.don,by rw [b3,b4]; exact hc.bd⟩
    exact ⟨tm',ct',op'',q1,q2,q3,q4,fun y hy => by rw [q5 y hy]; exact getD_set_other (fun e' => by subst e'; rw [hd] at hy; cases hy) _ _⟩
   have hpx:=hI.pos x hx (hI.dfin x hx hc.don)
   cases hd:D dn e with
   | true => exact skip (.inl hd) (a1 (.inl hd))
   | false =>
     by_cases hcs:G.cost x e < 0
     ·exact skip (.inr (.inl hcs)) (a1 (.inr hcs))
     ·by_cases hf:T tm e < 0
      ·exact go _ hd (by omega) (.inl hf) (hR.new hI.l1 hen hf hd (by omega)) (a2 hd (by omega) hf)
      ·by_cases hle:Le (T tm e) (T ct e) (T tm x+G.cost x e) (T ct x+G.dl)
       ·exact skip (.inr (.inr ⟨by omega,hle⟩)) (a3 hd (by omega) (by omega) hle)
       ·exact go _ hd (by omega) (.inr hle) (hR.less hI.l1 hen (by omega) (by omega)) (a4 hd (by omega) (by omega) hle)
theorem minRow {n:Nat} {a b:Nat→Int} {L:Nat→Nat→Nat→Option R} {Q:Nat→Option R}
 (hL:∀ m kk i,kk < i→i < n → (a i < a kk ∨ (a i=a kk∧b i < b kk)→L (m+1) kk i=L m i (i+1)) ∧ (¬ (a i < a kk ∨ (a i=a kk∧b i < b kk))→L (m+1) kk i=L m kk (i+1)))
 (hE:∀ m kk,kk < n→L (m+1) kk n=Q kk) :
 ∀ (d kk i m:Nat),i+d=n→d < m→kk < i → (∀ j,j < i→¬ (a j < a kk ∨ (a j=a kk∧b j < b kk)))→∃ q,q < n∧L m kk i=Q q∧∀ j,j < n→¬ (a j < a q ∨ (a j=a q∧b j < b q))
 | 0,kk,i,m,h1,h2,h3,h4 => by
   obtain ⟨m,rfl⟩:∃ q,m=q+1:=⟨m - 1,by omega⟩
   obtain rfl:i=n:=by omega
   exact ⟨kk,h3,hE m kk h3,h4⟩
 | d+1,kk,i,m,h1,h2,h3,h4 => by
   obtain ⟨m,rfl⟩:∃ q,m=q+1:=⟨m - 1,by omega⟩
   obtain ⟨c1,c2⟩:=hL m kk i h3 (by omega)
   by_cases hc:a i < a kk ∨ (a i=a kk∧b i < b kk)
   ·rw [c1 hc]
    refine minRow hL hE d i (i+1) m (by omega) (by omega) (by omega) fun j hj => ?_
    by_cases hji:j=i
    ·subst hji; omega
    ·have:=h4 j (by omega); omega
   ·rw [c2 hc]
    refine minRow hL hE d kk (i+1) m (by omega) (by omega) (by omega) fun j hj => ?_
    by_cases hji:j=i
    ·subst hji; exact hc
    ·exact h4 j (by omega)
theorem Inv.bd_of {tm ct:List Int} {dn:List Bool} (h:Inv G G.adj tm ct dn) {x:Nat} (hx:x < G.n) (hd:D dn x=false):T tm x ≤ (cnt (dn.set x true):Int)*G.C∧T ct x ≤ (cnt (dn.set x true):Int):=by
 rw [cnt_set (by rw [h.l3]; exact hx) hd]
 obtain ⟨b1,b2⟩:=h.bnd x hx
 exact ⟨by rw [show ((cnt dn+1:Nat):Int) = (cnt dn:Int)+1 by omega]; exact b1,by omega⟩
theorem rowMark {tm ct:List Int} {dn:List Bool} {op:List Int} (h:Inv G G.adj tm ct dn) (hR:Row G tm dn op) {kk x:Nat} (hk:kk < op.length) (hx:op.getD kk 0 = (x:Int))
 (hm:∀ j,j < op.length→¬ (T tm (op.getD j 0).toNat < T tm (op.getD kk 0).toNat ∨ (T tm (op.getD j 0).toNat=T tm (op.getD kk 0).toNat∧T ct (op.getD j 0).toNat < T ct (op.getD kk 0).toNat))) :
 x < G.n∧D dn x=false∧Inv G (partX G x []) tm ct (dn.set x true)∧Row G tm (dn.set x true) (remK op kk)∧Cur G tm ct (dn.set x true) x:=by
 obtain ⟨x',e1,e2,e3,e4⟩:=hR.in_ hk
 obtain rfl:x=x':=by omega
 obtain ⟨c1,c2,c3,c4⟩:=h.mark e2 e4 e3 (fun y hy hyd hyf => by
  obtain ⟨j,hj,hjy⟩:=mem_iff_getD.1 ((hR.mem (y:Int)).2 ⟨y,rfl,hy,hyf,hyd⟩)
  have:=hm j hj
  rw [hjy,hx,Int.toNat_natCast,Int.toNat_natCast] at this
  unfold Le; omega)
 exact ⟨e2,e4,c1,hR.take h.l3 hk hx,⟨c2,c3,h.bd_of e2 e4⟩⟩
theorem rowRun {σ:Type} {K:σ→List Int→List Bool→Prop} {L:Nat→σ→List Int→List Int→List Bool→List Int→Option R} {F:σ→List Int→List Int→Option R}
 (hL:∀ m s tm ct dn op,Inv G G.adj tm ct dn→Row G tm dn op→P ct→K s tm dn→0 < op.length→∃ x s' tm' ct' op',x < G.n∧D dn x=false ∧
  L (m+1) s tm ct dn op=L m s' tm' ct' (dn.set x true) op'∧Inv G G.adj tm' ct' (dn.set x true)∧Row G tm' (dn.set x true) op'∧P ct'∧K s' tm' (dn.set x true))
 (hE:∀ m s tm ct dn op,op.length=0→L (m+1) s tm ct dn op=F s tm ct) :
 ∀ (d m:Nat) s tm ct dn op,G.n - cnt dn≤d→d < m→Inv G G.adj tm ct dn→Row G tm dn op→P ct→K s tm dn →
   ∃ s' tm' ct' dn',L m s tm ct dn op=F s' tm' ct'∧Final G tm' ct'∧P ct'∧K s' tm' dn'∧dn'.length=G.n∧∀ e,e < G.n → (0≤T tm' e↔D dn' e=true)
 | d,m,s,tm,ct,dn,op,h1,h2,hI,hR,hp,hK => by
   obtain ⟨m,rfl⟩:∃ q,m=q+1:=⟨m - 1,by omega⟩
   by_cases h0:op.length=0
   ·have hq:∀ e,e < G.n→0≤T tm e→D dn e=true:=fun e he hf => by
     cases hd:D dn e with
     | true => rfl
     | false =>
       obtain ⟨j,hj,_⟩:=mem_iff_getD.1 ((hR.mem (e:Int)).2 ⟨e,rfl,he,hf,hd⟩)
       omega
    exact ⟨s,tm,ct,dn,hE m s tm ct dn op h0,hI.final hq,hp,hK,hI.l3,fun e he => ⟨hq e he,hI.dfin e he⟩⟩
   ·obtain ⟨x,s',tm',ct',op',q1,q2,q3,q4,q5,q6,q7⟩:=hL m s tm ct dn op hI hR hp hK (by omega)
    have hcl:=cnt_lt (l:=dn) (i:=x) (by rw [hI.l3]; exact q1) q2
    have hcs:=cnt_set (l:=dn) (i:=x) (by rw [hI.l3]; exact q1) q2
    rw [hI.l3] at hcl
    rw [q3]
    match d,h1,h2 with
    | d+1,h1,h2 => exact rowRun hL hE d m s' tm' ct' _ op' (by omega) (by omega) q4 q5 q6 q7
    | 0,h1,h2 => omega
theorem Heap.new {tm ct:List Int} {dn:List Bool} {xs ys:List It} (h:Heap G tm ct dn xs) (l1:tm.length=G.n) (l2:ct.length=G.n) {e:Nat} {a b:Int} (he:e < G.n) (ha:0≤a) (hb:T tm e < 0∨¬ Le (T tm e) (T ct e) a b)
 (hy:HP ys) (hu:∀ u,Has ys u↔Has xs u∨u = (a,b,(e:Int))):Heap G (tm.set e a) (ct.set e b) dn ys:=by
 have s1:T (tm.set e a) e=a:=getD_set_same (by rw [l1]; exact he) _ _
 have s2:T (ct.set e b) e=b:=getD_set_same (by rw [l2]; exact he) _ _
 have o1:∀ y,e≠y→T (tm.set e a) y=T tm y:=fun y hy => getD_set_other hy _ _
 have o2:∀ y,e≠y→T (ct.set e b) y=T ct y:=fun y hy => getD_set_other hy _ _
 refine ⟨hy,fun j hj => ?_,fun f hf hff hd => ?_⟩
 ·rcases (hu _).1 ⟨j,hj,rfl⟩ with ⟨i,hi,hij⟩ | h'
  ·obtain ⟨f,f1,f2,f3,f4⟩:=h.ok i hi
   rw [hij] at f1 f4
   refine ⟨f,f1,f2,?_⟩
   by_cases hef:e=f
   ·subst hef; rw [s1,s2]; unfold Le at *; exact ⟨ha,by omega⟩
   ·rw [o1 f hef,o2 f hef]; exact ⟨f3,f4⟩
  ·rw [h']; exact ⟨e,rfl,he,by rw [s1]; exact ha,by rw [s1,s2]; exact .inr ⟨rfl,Int.le_refl _⟩⟩
 ·by_cases hef:e=f
  ·subst hef; rw [s1,s2]; exact (hu _).2 (.inr rfl)
  ·rw [o1 f hef] at hff ⊢
   rw [o2 f hef]
   exact (hu _).2 (.inl (h.all f hf hff hd))
theorem relaxHeap {x:Nat} {A A':Int} (hx:x < G.n) {dn:List Bool} {PU:List It→It→List It→Prop} {B:Nat} (hpush:∀ xs v,HP xs→xs.length≤B→∃ ys,PU xs v ys∧HP ys∧ys.length=xs.length+1∧∀ u,Has ys u↔Has xs u∨u=v)
 {L:Nat→List Int→List Int→List It→Nat→Option R} {Q:List Int→List Int→List It→Option R}
 (hL:∀ m tm ct xs i,i < (G.adj x).length→Inv G (partX G x ((G.adj x).take i)) tm ct dn→P ct→Cur G tm ct dn x→T tm x=A→T ct x=A' →
  ((D dn ((G.adj x).getD i 0)=true∨G.cost x ((G.adj x).getD i 0) < 0 ∨ (0≤T tm ((G.adj x).getD i 0)∧Le (T tm ((G.adj x).getD i 0)) (T ct ((G.adj x).getD i 0)) (T tm x+G.cost x ((G.adj x).getD i 0)) (T ct x+G.dl)))→L (m+1) tm ct xs i=L m tm ct xs (i+1)) ∧
  (D dn ((G.adj x).getD i 0)=false→0≤G.cost x ((G.adj x).getD i 0) → (T tm ((G.adj x).getD i 0) < 0∨¬ Le (T tm ((G.adj x).getD i 0)) (T ct ((G.adj x).getD i 0)) (T tm x+G.cost x ((G.adj x).getD i 0)) (T ct x+G.dl)) →
   ∀ ys,PU xs (T tm x+G.cost x ((G.adj x).getD i 0),T ct x+G.dl,(((G.adj x).getD i 0:Nat):Int)) ys →
   L (m+1) tm ct xs i=L m (tm.set ((G.adj x).getD i 0) (T tm x+G.cost x ((G.adj x).getD i 0))) (ct.set ((G.adj x).getD i 0) (T ct x+G.dl)) ys (i+1)))
 (hP:∀ (ct:List Int) (e:Nat),P ct→P (ct.set e (T ct x+G.dl)))
 (hE:∀ m tm ct xs,L (m+1) tm ct xs (G.adj x).length=Q tm ct xs) :
 ∀ (d i m:Nat) (tm ct:List Int) (xs:List It),i+d = (G.adj x).length→d < m→xs.length+d≤B→Inv G (partX G x ((G.adj x).take i)) tm ct dn→Heap G tm ct dn xs→P ct→Cur G tm ct dn x→T tm x=A→T ct x=A' →
   ∃ tm' ct' ys,L m tm ct xs i=Q tm' ct' ys∧Inv G G.adj tm' ct' dn∧Heap G tm' ct' dn ys∧P ct'∧ys.length≤xs.length+d
 | 0,i,m,tm,ct,xs,h1,h2,hB,hI,hR,hp,hc,hA,hA' => by
   obtain ⟨m,rfl⟩:∃ q,m=q+1:=⟨m - 1,by omega⟩
   obtain rfl:i = (G.adj x).length:=by omega
   rw [List.take_length,partX_all] at hI
   exact ⟨tm,ct,xs,hE m tm ct xs,hI,hR,hp,Nat.le_refl _⟩
 | d+1,i,m,tm,ct,xs,h1,h2,hB,hI,hR,hp,hc,hA,hA' => by
   obtain ⟨m,rfl⟩:∃ q,m=q+1:=⟨m - 1,by omega⟩
   have hi:i < (G.adj x).length:=by omega
   have he:=getD_in' hi
   have hts:=take_snoc hi
   obtain ⟨a1,a2⟩:=hL m tm ct xs i hi hI hp hc hA hA'
   generalize (G.adj x).getD i 0=e at *
   have hen:=G.hadj x hx e he
   have hpx:=hI.pos x hx (hI.dfin x hx hc.don)
   by_cases hno:D dn e=true∨G.cost x e < 0 ∨ (0≤T tm e∧Le (T tm e) (T ct e) (T tm x+G.cost x e) (T ct x+G.dl))
   ·rw [a1 hno]
    obtain ⟨tm',ct',ys,q1,q2,q3,q4,q5⟩:=relaxHeap hx hpush hL hP hE d (i+1) m tm ct xs (by omega) (by omega) (by omega) (by rw [hts]; exact hI.keep hx hc.top he hno) hR hp hc hA hA'
    exact ⟨tm',ct',ys,q1,q2,q3,q4,by omega⟩
   ·have hd:D dn e=false:=by
     cases hd:D dn e with
     | true => exact absurd (.inl hd) hno
     | false => rfl
    have hcs:0≤G.cost x e:=by
     by_cases hcs:G.cost x e < 0
     ·exact absurd (.inr (.inl hcs)) hno
     ·omega
    have hb:T tm e < 0∨¬ Le (T tm e) (T ct e) (T tm x+G.cost x e) (T ct x+G.dl):=by
     by_cases hf:T tm e < 0
     ·exact .inl hf
     ·exact .inr fun h => hno (.inr (.inr ⟨by omega,h⟩))
    obtain ⟨b1,b2,b3,b4⟩:=hI.better hx hc.don hc.top hc.bd he hd hcs hb
    obtain ⟨ys,p1,p2,p3,p4⟩:=hpush xs (T tm x+G.cost x e,T ct x+G.dl,(e:Int)) hR.hp (by omega)
    rw [a2 hd hcs hb ys p1]
    obtain ⟨tm',ct',zs,q1,q2,q3,q4,q5⟩:=relaxHeap hx hpush hL hP hE d (i+1) m _ _ ys (by omega) (by omega) (by omega) (by rw [hts]; exact b1) (hR.new hI.l1 hI.l2 hen (by omega) hb p2 p4) (hP ct e hp) ⟨b2,hc.don,by rw [b3,b4]; exact hc.bd⟩ (by rw [b3,hA]) (by rw [b4,hA'])
    exact ⟨tm',ct',zs,q1,q2,q3,q4,by omega⟩
theorem heapPop {tm ct:List Int} {dn:List Bool} {xs ys:List It} (hI:Inv G G.adj tm ct dn) (h:Heap G tm ct dn xs) (h0:0 < xs.length) (hy:HP ys) (y1:∀ u,Has ys u→Has xs u) (y2:∀ u,Has xs u→u=X xs 0∨Has ys u) (y3:∀ u,Has xs u→¬ ls u (X xs 0)) :
 ∃ x:Nat,(X xs 0).2.2 = (x:Int)∧x < G.n ∧ (D dn x=true→Heap G tm ct dn ys) ∧
   (D dn x=false→X xs 0 = (T tm x,T ct x,(x:Int))∧Inv G (partX G x []) tm ct (dn.set x true)∧Heap G tm ct (dn.set x true) ys∧Cur G tm ct (dn.set x true) x):=by
 obtain ⟨x,x1,x2,x3,x4⟩:=h.ok 0 h0
 have ok':∀ j,j < ys.length→∃ e:Nat,(X ys j).2.2 = (e:Int)∧e < G.n∧0≤T tm e∧Le (T tm e) (T ct e) (X ys j).1 (X ys j).2.1:=fun j hj => by
  obtain ⟨i,hi,hij⟩:=y1 _ ⟨j,hj,rfl⟩
  rw [← hij]; exact h.ok i hi
 refine ⟨x,x1,x2,fun hd => ⟨hy,ok',fun e he hf hed => ?_⟩,fun hd => ?_⟩
 ·rcases y2 _ (h.all e he hf hed) with h' | h'
  ·rw [← h'] at x1
   have:(e:Int)=x:=by simpa using x1
   have:e=x:=by omega
   subst this; rw [hd] at hed; cases hed
  ·exact h'
 ·have hx0:X xs 0 = (T tm x,T ct x,(x:Int)):=by
   have:=y3 _ (h.all x x2 x3 hd)
   generalize X xs 0=z at *
   obtain ⟨z1,z2,z3⟩:=z
   unfold ls at this; unfold Le at x4
   simp only at this x1 x4
   have:z1=T tm x:=by omega
   have:z2=T ct x:=by omega
   subst z1; subst z2; rw [x1]
  obtain ⟨c1,c2,c3,c4⟩:=hI.mark x2 hd x3 (fun y hyn hyd hyf => by
   have:=y3 _ (h.all y hyn hyf hyd)
   rw [hx0] at this
   unfold ls at this; unfold Le
   simp only at this; omega)
  refine ⟨hx0,c1,⟨hy,ok',fun e he hf hed => ?_⟩,⟨c2,c3,hI.bd_of x2 hd⟩⟩
  have hed':(dn.set x true).getD e false=false:=hed
  rw [getD_set] at hed'
  split at hed'
  ·cases hed'
  ·rename_i hn
   have hne:¬ x=e:=fun e' => hn ⟨e',by rw [hI.l3]; exact x2⟩
   rcases y2 _ (h.all e he hf hed') with h' | h'
   ·rw [hx0] at h'
    have:e=x:=by
     have:=congrArg (fun z:It => z.2.2) h'
     have:(e:Int)=x:=by simpa using this
     omega
    exact absurd this.symm hne
   ·exact h'
theorem heapRun {B:Nat} {L:Nat→List Int→List Int→List Bool→List It→Option R} {F:List Int→List Int→Option R}
 (hL:∀ m tm ct dn xs,Inv G G.adj tm ct dn→Heap G tm ct dn xs→P ct→0 < xs.length→xs.length≤B →
  (∃ ys,L (m+1) tm ct dn xs=L m tm ct dn ys∧Heap G tm ct dn ys∧ys.length < xs.length) ∨
  (∃ x tm' ct' ys,x < G.n∧D dn x=false∧L (m+1) tm ct dn xs=L m tm' ct' (dn.set x true) ys∧Inv G G.adj tm' ct' (dn.set x true)∧Heap G tm' ct' (dn.set x true) ys∧P ct'∧ys.length < xs.length+G.n))
 (hE:∀ m tm ct dn xs,xs.length=0→L (m+1) tm ct dn xs=F tm ct) :
 ∀ (d m:Nat) tm ct dn xs,xs.length + (G.n - cnt dn) * (G.n+1)≤d→d < m→d≤B→Inv G G.adj tm ct dn→Heap G tm ct dn xs→P ct →
   ∃ tm' ct',L m tm ct dn xs=F tm' ct'∧Final G tm' ct'∧P ct'
 | d,m,tm,ct,dn,xs,h1,h2,hB,hI,hR,hp => by
   obtain ⟨m,rfl⟩:∃ q,m=q+1:=⟨m - 1,by omega⟩
   by_cases h0:xs.length=0
   ·have hq:∀ e,e < G.n→0≤T tm e→D dn e=true:=fun e he hf => by
     cases hd:D dn e with
     | true => rfl
     | false =>
       obtain ⟨j,hj,_⟩:=hR.all e he hf hd
       omega
    exact ⟨tm,ct,hE m tm ct dn xs h0,hI.final hq,hp⟩
   ·have hb:xs.length≤B:=by omega
    rcases hL m tm ct dn xs hI hR hp (by omega) hb with ⟨ys,q1,q2,q3⟩ | ⟨x,tm',ct',ys,q1,q2,q3,q4,q5,q6,q7⟩
    ·rw [q1]
     match d,h1,h2,hB with
     | 0,h1,h2,_ => omega
     | d+1,h1,h2,hB => exact heapRun hL hE d m tm ct dn ys (by omega) (by omega) (by omega) hI q2 hp
    ·have hcl:=cnt_lt (l:=dn) (i:=x) (by rw [hI.l3]; exact q1) q2
     have hcs:=cnt_set (l:=dn) (i:=x) (by rw [hI.l3]; exact q1) q2
     rw [hI.l3] at hcl
     rw [q3]
     have e:(G.n - cnt dn) * (G.n+1) = (G.n - (cnt dn+1)) * (G.n+1) + (G.n+1):=by
      rw [show G.n - cnt dn = (G.n - (cnt dn+1))+1 by omega,Nat.add_mul,Nat.one_mul]
     match d,h1,h2,hB with
     | 0,h1,h2,_ => omega
     | d+1,h1,h2,hB => exact heapRun hL hE d m tm' ct' _ ys (by rw [hcs]; omega) (by omega) (by omega) q4 q5 q6
theorem D_rep {n e:Nat}:D (List.replicate n false) e=false:=by
 show (List.replicate n false).getD e false=false
 rw [List.getD_eq_getElem?_getD,List.getElem?_replicate]; split <;> rfl
theorem Inv.init {tm ct:List Int} (l1:tm.length=G.n) (l2:ct.length=G.n) (hs:∀ e s,e < G.n→G.start e=some s→T tm e=s∧T ct e=G.dl) (hn:∀ e,e < G.n→G.start e=none→T tm e = -1∧T ct e=0) :
 Inv G G.adj tm ct (List.replicate G.n false):=by
 have hdl:=G.hdl
 have hC:=G.hC
 have two:∀ e,e < G.n → (∃ s,G.start e=some s∧T tm e=s∧T ct e=G.dl∧1≤s∧s≤G.C) ∨ (G.start e=none∧T tm e = -1∧T ct e=0):=fun e he => by
  cases h:G.start e with
  | none => exact .inr ⟨rfl,hn e he h⟩
  | some s =>
    obtain ⟨a,b⟩:=hs e s he h
    exact .inl ⟨s,rfl,a,b,G.hstart e s h⟩
 refine ⟨l1,l2,by simp,fun e he hf => ?_,fun e he hf => ?_,fun e he hf => ?_,fun x hx hd => ?_,fun e s he h => ?_,fun x y hx hy hd => ?_,fun x hx hd => ?_,fun e he => ?_⟩
 ·rcases two e he with ⟨s,h1,h2,h3,h4,h5⟩ | ⟨h1,h2,h3⟩
  ·omega
  ·exact ⟨h2,h3⟩
 ·rcases two e he with ⟨s,h1,h2,h3,h4,h5⟩ | ⟨h1,h2,h3⟩ <;> omega
 ·rcases two e he with ⟨s,h1,h2,h3,h4,h5⟩ | ⟨h1,h2,h3⟩
  ·exact .inl ⟨by rw [h1,h2],h3⟩
  ·omega
 ·rw [D_rep] at hd; cases hd
 ·obtain ⟨a,b⟩:=hs e s he h
  have:=G.hstart e s h
  rw [a,b]; exact ⟨by omega,.inr ⟨rfl,Int.le_refl _⟩⟩
 ·rw [D_rep] at hd; cases hd
 ·rw [D_rep] at hd; cases hd
 ·rw [cnt_rep]
  rw [show (((0:Nat):Int)+1)*G.C=G.C by simp]
  rcases two e he with ⟨s,h1,h2,h3,h4,h5⟩ | ⟨h1,h2,h3⟩ <;> omega
theorem Row.init {tm op:List Int} (nd:Nd op) (h:∀ v,v ∈ op↔∃ e:Nat,v = (e:Int)∧e < G.n∧0≤T tm e):Row G tm (List.replicate G.n false) op :=
 ⟨nd,fun v => by
  rw [h]
  constructor
  ·rintro ⟨e,h1,h2,h3⟩; exact ⟨e,h1,h2,h3,D_rep⟩
  ·rintro ⟨e,h1,h2,h3,_⟩; exact ⟨e,h1,h2,h3⟩⟩
def MinAt (S:Nat→Prop) (v:Nat→Int) (z:Int):Prop:=(z = -1∧∀ r,¬ S r) ∨ ((∃ r,S r∧z=v r)∧∀ r,S r→z≤v r)
theorem MinAt.uniq {S:Nat→Prop} {v:Nat→Int} {z z':Int} (h:MinAt S v z) (h':MinAt S v z'):z=z':=by
 rcases h with ⟨h1,h2⟩ | ⟨⟨r,h1,h2⟩,h3⟩
 ·rcases h' with ⟨h1',h2'⟩ | ⟨⟨r',h1',h2'⟩,h3'⟩
  ·omega
  ·exact absurd h1' (h2 r')
 ·rcases h' with ⟨h1',h2'⟩ | ⟨⟨r',h1',h2'⟩,h3'⟩
  ·exact absurd h1 (h2' r)
  ·have:=h3 r' h1'; have:=h3' r h1; omega
theorem MinAt.add {S S':Nat→Prop} {v:Nat→Int} {z:Int} (h:MinAt S v z) {x:Nat} (hS:∀ r,S' r↔S r∨r=x) (hv:∀ r,S r→0≤v r):MinAt S' v (if z < 0∨v x < z then v x else z):=by
 rcases h with ⟨h1,h2⟩ | ⟨⟨r,h1,h2⟩,h3⟩
 ·rw [if_pos (by omega)]
  refine .inr ⟨⟨x,(hS x).2 (.inr rfl),rfl⟩,fun r hr => ?_⟩
  rcases (hS r).1 hr with h | h
  ·exact absurd h (h2 r)
  ·subst h; exact Int.le_refl _
 ·have:=hv r h1
  by_cases hc:v x < z
  ·rw [if_pos (.inr hc)]
   refine .inr ⟨⟨x,(hS x).2 (.inr rfl),rfl⟩,fun y hy => ?_⟩
   rcases (hS y).1 hy with h | h
   ·have:=h3 y h; omega
   ·subst h; exact Int.le_refl _
  ·rw [if_neg (by omega)]
   refine .inr ⟨⟨r,(hS r).2 (.inl h1),h2⟩,fun y hy => ?_⟩
   rcases (hS y).1 hy with h | h
   ·exact h3 y h
   ·subst h; omega
theorem MinAt.congr {S S':Nat→Prop} {v v':Nat→Int} {z:Int} (h:MinAt S v z) (hS:∀ r,S' r↔S r) (hv:∀ r,S r→v' r=v r):MinAt S' v' z:=by
 rcases h with ⟨h1,h2⟩ | ⟨⟨r,h1,h2⟩,h3⟩
 ·exact .inl ⟨h1,fun r hr => h2 r ((hS r).1 hr)⟩
 ·exact .inr ⟨⟨r,(hS r).2 h1,by rw [hv r h1]; exact h2⟩,fun y hy => by rw [hv y ((hS y).1 hy)]; exact h3 y ((hS y).1 hy)⟩
end
end Go.Vm
