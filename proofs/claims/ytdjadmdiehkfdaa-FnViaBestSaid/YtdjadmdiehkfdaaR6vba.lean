/-
  Laws of the graph statements, turned to this seat's numbers by a program of this project (port4.py). No condition.
-/
import Derived.Test.YtdjadmdiehkfdaaR6vlb
set_option linter.unusedVariables false
set_option linter.unusedSimpArgs false
namespace Go.Proofs.Ytdjadmdiehkfdaa
open Go Go.Vm Go.Proofs V
theorem relax45 {g:Graph} (hg:GOk g) (k:Nat) (hk:1099511627776 < k) (t:Int) {net:Net} (hn:NetOf g net) {x:Nat} (hx:x < g.2.1.length) (A A':Int) (rest:List It × Unit) (dn0:List Bool) (hdl:dn0.length=g.2.1.length)
 (q:(List Int × List Int × List Bool × (List It × Unit))→Option (List Int × List Int)) (tm ct:List Int) (xs:List It) (hI:Inv (dgB g hg t) (partX (dgB g hg t) x []) tm ct (dn0.set x true)) (hR:Heap (dgB g hg t) tm ct (dn0.set x true) xs) (hc:Cur (dgB g hg t) tm ct (dn0.set x true) x)
 (hA:T tm x=A) (hA':T ct x=A') (hxl:xs.length≤536870912) :
 ∃ tm' ct' ys,f45.l869 k net ((A,(A',(x:Int))),rest) dn0 q k (tm,ct,(xs,()),(0:Int))=q (tm',ct',dn0.set x true,(ys,()))∧Inv (dgB g hg t) (dgB g hg t).adj tm' ct' (dn0.set x true)∧Heap (dgB g hg t) tm' ct' (dn0.set x true) ys∧ys.length≤xs.length+g.2.1.length:=by
 have n1:=hg.n1
 have n2:=hg.n2
 have hxr:=road_nat hx
 have hend:=road_ends hg hxr
 have h1:(roadAt g (x:Int)).1 = (g.2.1.getD x dR).1:=by unfold roadAt; rw [Int.toNat_natCast]
 obtain ⟨g',o,ii,mm⟩:=net
 obtain rfl:g'=g:=hn.fst
 have hinn:=hn.inn
 have hadj:ii.getD (g'.2.1.getD x dR).1.toNat [] = ((dgB g' hg t).adj x).map fun (r:Nat) => (r:Int):=by
  rw [h1] at hend
  rw [show ii.getD (g'.2.1.getD x dR).1.toNat []=inns g' g'.2.1.length (g'.2.1.getD x dR).1.toNat from hinn.2 _ (by omega)]
  exact inns_eq g' _
 have hlen:((dgB g' hg t).adj x).length≤g'.2.1.length:=Nat.le_trans (List.length_filter_le _ _) (by simp)
 obtain ⟨tm',ct',ys,q1,q2,q3,_,q5⟩:=relaxHeap (G:=dgB g' hg t) (P:=fun _ => True) (A:=A) (A':=A') hx (dn:=dn0.set x true) (PU:=fun xs v ys => f68 k (xs,()) v=some (ys,())) (B:=1073741824)
  (fun xs v h hl => push_ok k hk h hl)
  (L:=fun m tm ct xs i => f45.l869 k (g',(o,(ii,mm))) ((A,(A',(x:Int))),rest) dn0 q m (tm,ct,(xs,()),(i:Int))) (Q:=fun tm ct xs => q (tm,ct,dn0.set x true,(xs,())))
  (fun m tm ct xs i hi hI _ hc hA hA' => by
   have he:=getD_in' hi
   have hl1:=hI.l1; have hl2:=hI.l2
   have hai:((dgB g' hg t).adj x).getD i 0 < g'.2.1.length:=(dgB g' hg t).hadj x hx _ he
   have hci:decide ((i:Int) < ((((dgB g' hg t).adj x).map fun (r:Nat) => (r:Int)).length:Int))=true:=by simpa using hi
   have hbi:(0:Int) ≤ (i:Int) ∧ (i:Int) < ((((dgB g' hg t).adj x).map fun (r:Nat) => (r:Int)).length:Int):=⟨by omega,by simpa using hi⟩
   have hb1:=bnd_num (G:=dgB g' hg t) rfl n2 hI hx
   have hb0:=hI.pos x hx (hI.dfin x hx hc.don)
   have hcv:(dgB g' hg t).cost x (((dgB g' hg t).adj x).getD i 0)=if ((dgB g' hg t).adj x).getD i 0 < g'.2.1.length then costN g' (((dgB g' hg t).adj x).getD i 0) x (((dgB g' hg t).adj x).getD i 0) else -1:=rfl
   have hcd:=castD ((dgB g' hg t).adj x) i
   have hends:(g'.2.1.getD (((dgB g' hg t).adj x).getD i 0) dR).2.1 = ((g'.2.1.getD x dR).1.toNat:Int):=by simpa using (List.mem_filter.1 he).2
   generalize ((dgB g' hg t).adj x).getD i 0=e at *
   rw [if_pos hai] at hcv
   have htm:=time_bd hg hai
   have htr:=turn_range g' (e:Int) (x:Int)
   have e66':f66 k (g',(o,(ii,mm))) (e:Int) (x:Int)=some (turnOf g' (e:Int) (x:Int)):=by
    rw [e66 hg k hn (road_nat hai) hxr,if_pos]
    rw [h1] at hend ⊢
    unfold roadAt; rw [Int.toNat_natCast]
    have:=hends
    have h3:=hend.1
    rw [show (g'.2.1.getD e ((0:Int),((0:Int),((0:Int),((0:Int),((0:Int),(⟨#[]⟩:ByteArray))))))).2.1 = (g'.2.1.getD e dR).2.1 from rfl]
    omega
   have hdl':(dgB g' hg t).dl=1:=rfl
   have tl1:tm.length=g'.2.1.length:=hl1
   have tl2:ct.length=g'.2.1.length:=hl2
   have be:(0:Int) ≤ (e:Int) ∧ (e:Int) < (g'.2.1.length:Int):=⟨by omega,by omega⟩
   have bx:(0:Int) ≤ (x:Int) ∧ (x:Int) < (g'.2.1.length:Int):=⟨by omega,by omega⟩
   have w0:IntKind.i64.wrap ((i:Int)+1) = ((i+1:Nat):Int):=wrap_s (by have:i < ((dgB g' hg t).adj x).length:=hi; omega)
   have w1:IntKind.i64.wrap (A+turnOf g' (e:Int) (x:Int))=A+turnOf g' (e:Int) (x:Int):=wrap_in (by omega) (by omega)
   have w2:IntKind.i64.wrap (A+turnOf g' (e:Int) (x:Int)+timeOf g' e)=A+turnOf g' (e:Int) (x:Int)+timeOf g' e:=wrap_in (by omega) (by omega)
   have w3:IntKind.i64.wrap (A'+1)=A'+1:=wrap_in (by omega) (by omega)
   have hgt:(g'.2.1.getD e dR).2.2.2.1=timeOf g' e:=rfl
   have key:f45.l869 k (g',(o,(ii,mm))) ((A,(A',(x:Int))),rest) dn0 q (m+1) (tm,ct,(xs,()),(i:Int)) =
    if D (dn0.set x true) e=true∨turnOf g' (e:Int) (x:Int) < 0 ∨ (0≤T tm e∧Le (T tm e) (T ct e) (A+turnOf g' (e:Int) (x:Int)+timeOf g' e) (A'+1)) then f45.l869 k (g',(o,(ii,mm))) ((A,(A',(x:Int))),rest) dn0 q m (tm,ct,(xs,()),((i+1:Nat):Int)) else
    (f68 k (xs,()) (A+turnOf g' (e:Int) (x:Int)+timeOf g' e,(A'+1,(e:Int)))).bind fun r => f45.l869 k (g',(o,(ii,mm))) ((A,(A',(x:Int))),rest) dn0 q m (tm.set e (A+turnOf g' (e:Int) (x:Int)+timeOf g' e),ct.set e (A'+1),r,((i+1:Nat):Int)):=by
    rw [f45.l869]
    simp only [Int.toNat_natCast,hadj,hcd,e66',Option.bind_some,f45.j982,w0,List.length_set,hdl,tl1,tl2,hgt,w1,w2,w3,if_t hci,if_t hbi,if_t be,if_t bx]
    by_cases h1:D (dn0.set x true) e=true
    ·rw [if_t (show (dn0.set x true).getD e false=true from h1),if_pos (.inl h1)]
    ·rw [if_f (show ¬ (dn0.set x true).getD e false=true from h1)]
     by_cases h2:turnOf g' (e:Int) (x:Int) < 0
     ·rw [if_t (by simpa using h2),if_pos (.inr (.inl h2))]
     ·rw [if_f (by simpa using h2),if_t (fun _ => be),if_t (fun _ => be),if_t (fun _ => be)]
      by_cases h3:T tm e < 0
      ·rw [show decide (tm.getD e 0 < 0)=true from decide_eq_true h3,if_t (by rfl),if_neg (fun h => by rcases h with h | h | h; exact h1 h; exact h2 h; omega)]
      ·rw [show decide (tm.getD e 0 < 0)=false from decide_eq_false h3]
       by_cases h4:Le (T tm e) (T ct e) (A+turnOf g' (e:Int) (x:Int)+timeOf g' e) (A'+1)
       ·rw [if_f,if_pos (.inr (.inr ⟨by omega,h4⟩))]
        have h4':=h4
        unfold Le at h4'
        rw [show decide (A+turnOf g' (e:Int) (x:Int)+timeOf g' e < tm.getD e 0)=false from decide_eq_false (show ¬ (A+turnOf g' (e:Int) (x:Int)+timeOf g' e < T tm e) by omega)]
        by_cases h5:A+turnOf g' (e:Int) (x:Int)+timeOf g' e=T tm e
        ·rw [show decide (A'+1 < ct.getD e 0)=false from decide_eq_false (show ¬ (A'+1 < T ct e) by omega)]
         cases (A+turnOf g' (e:Int) (x:Int)+timeOf g' e == tm.getD e 0) <;> decide
        ·rw [show (A+turnOf g' (e:Int) (x:Int)+timeOf g' e == tm.getD e 0)=false from beq_false_of_ne h5]
         simp
       ·rw [if_t,if_neg (fun h => by rcases h with h | h | h; exact h1 h; exact h2 h; exact h4 h.2)]
        have h4':=h4
        unfold Le at h4'
        by_cases h5:A+turnOf g' (e:Int) (x:Int)+timeOf g' e < T tm e
        ·rw [show decide (A+turnOf g' (e:Int) (x:Int)+timeOf g' e < tm.getD e 0)=true from decide_eq_true h5]; rfl
        ·rw [show (A+turnOf g' (e:Int) (x:Int)+timeOf g' e == tm.getD e 0)=true from beq_iff_eq.2 (show _=T tm e by omega),show decide (A'+1 < ct.getD e 0)=true from decide_eq_true (show A'+1 < T ct e by omega)]
         cases decide (A+turnOf g' (e:Int) (x:Int)+timeOf g' e < tm.getD e 0) <;> rfl
   have hcn:costN g' e x e < 0↔turnOf g' (e:Int) (x:Int) < 0:=by unfold costN; split <;> omega
   have hcp:¬ turnOf g' (e:Int) (x:Int) < 0→costN g' e x e=turnOf g' (e:Int) (x:Int)+timeOf g' e:=fun h => by unfold costN; rw [if_neg h]
   rw [hcv,hA,hA',hdl']
   have hcase:∀ (P1:Prop),(turnOf g' (e:Int) (x:Int) < 0 ∨ (0≤T tm e∧Le (T tm e) (T ct e) (A+turnOf g' (e:Int) (x:Int)+timeOf g' e) (A'+1))) ↔ (costN g' e x e < 0 ∨ (0≤T tm e∧Le (T tm e) (T ct e) (A+costN g' e x e) (A'+1))):=fun _ => by
    rw [hcn]
    by_cases h2:turnOf g' (e:Int) (x:Int) < 0
    ·exact ⟨fun _ => .inl h2,fun _ => .inl h2⟩
    ·rw [hcp h2,show A + (turnOf g' (e:Int) (x:Int)+timeOf g' e)=A+turnOf g' (e:Int) (x:Int)+timeOf g' e by omega]
   refine ⟨fun h => ?_,fun hd h0 hb ys hy => ?_⟩
   ·show f45.l869 k (g',(o,(ii,mm))) ((A,(A',(x:Int))),rest) dn0 q (m+1) (tm,ct,(xs,()),(i:Int))=_
    rw [← hcase True] at h
    rw [key,if_pos h]
   ·have ht:¬ turnOf g' (e:Int) (x:Int) < 0:=by rw [← hcn]; omega
    show f45.l869 k (g',(o,(ii,mm))) ((A,(A',(x:Int))),rest) dn0 q (m+1) (tm,ct,(xs,()),(i:Int))=_
    rw [hcp ht,show A + (turnOf g' (e:Int) (x:Int)+timeOf g' e)=A+turnOf g' (e:Int) (x:Int)+timeOf g' e by omega] at hy hb ⊢
    rw [key,if_neg (fun h => by
     rcases h with h | h | h
     ·rw [hd] at h; cases h
     ·exact ht h
     ·rcases hb with hb | hb
      ·omega
      ·exact hb h.2),hy,Option.bind_some])
  (fun _ _ _ => trivial)
  (fun m tm ct xs => by
   show f45.l869 k (g',(o,(ii,mm))) ((A,(A',(x:Int))),rest) dn0 q (m+1) (tm,ct,(xs,()),(((dgB g' hg t).adj x).length:Int))=_
   rw [f45.l869]
   simp only [Int.toNat_natCast,hadj,List.length_map]
   rw [if_f (by simp)])
  _ 0 k tm ct xs (Nat.zero_add _) (by omega) (by omega) (by rw [List.take_zero]; exact hI) hR trivial hc hA hA'
 exact ⟨tm',ct',ys,q1,q2,q3,by omega⟩
theorem run45 {g:Graph} (hg:GOk g) (k:Nat) (hk:1099511627776 < k) (t:Int) {net:Net} (hn:NetOf g net) (tm ct:List Int) (xs:List It) (hxl:xs.length≤g.2.1.length)
 (hI:Inv (dgB g hg t) (dgB g hg t).adj tm ct (List.replicate g.2.1.length false)) (hR:Heap (dgB g hg t) tm ct (List.replicate g.2.1.length false) xs) :
 ∃ tm' ct',f45.l577 k net k (tm,ct,List.replicate g.2.1.length false,(xs,()))=some (tm',ct')∧Final (dgB g hg t) tm' ct':=by
 have n2:=hg.n2
 have hinn:=hn.inn
 have hfst:=hn.fst
 have hnn:(g.2.1.length - cnt (List.replicate g.2.1.length false)) * (g.2.1.length+1)≤64008000:=by
  rw [cnt_rep]
  exact Nat.le_trans (Nat.mul_le_mul (show g.2.1.length - 0≤8000 by omega) (show g.2.1.length+1≤8001 by omega)) (by decide)
 obtain ⟨tm',ct',q1,q2,_⟩:=heapRun (G:=dgB g hg t) (P:=fun _ => True) (B:=134217728) (L:=fun m tm ct dn xs => f45.l577 k net m (tm,ct,dn,(xs,()))) (F:=fun tm ct => some (tm,ct))
  (fun m tm ct dn xs hI hR _ h0 hb => by
   obtain ⟨ys,p1,p2,p3,p4,p5,p6⟩:=pop_ok k hk hR.hp h0 (by omega)
   obtain ⟨x,x1,x2,x3,x4⟩:=heapPop hI hR h0 p2 p4 p5 p6
   have l3:dn.length=g.2.1.length:=hI.l3
   have bx:(0:Int) ≤ (x:Int) ∧ (x:Int) < (g.2.1.length:Int):=⟨by omega,by have:x < g.2.1.length:=x2; omega⟩
   have hc:decide (((xs.length:Int)) > 0)=true:=by simpa using h0
   have hend:=road_ends hg (road_nat (show x < g.2.1.length from x2))
   rw [show (roadAt g (x:Int)).1 = (g.2.1.getD x dR).1 by unfold roadAt; rw [Int.toNat_natCast]] at hend
   have bend:(0:Int) ≤ (g.2.1.getD x dR).1 ∧ (g.2.1.getD x dR).1 < (net.2.2.1.length:Int):=by rw [hinn.1]; exact hend.1
   cases hd:D dn x with
   | true =>
     refine .inl ⟨ys,?_,x3 hd,by omega⟩
     show f45.l577 k net (m+1) (tm,ct,dn,(xs,()))=_
     rw [f45.l577]
     simp only [if_t hc,p1,Option.bind_some,x1,Int.toNat_natCast,l3,if_t bx]
     rw [if_t (show dn.getD x false=true from hd)]
   | false =>
     obtain ⟨y1,y2,y3,y4⟩:=x4 hd
     obtain ⟨tm',ct',zs,r1,r2,r3,r4⟩:=relax45 hg k hk t hn x2 (T tm x) (T ct x) (ys,()) dn l3 (f45.l577 k net m) tm ct ys y2 y3 y4 rfl rfl (by omega)
     refine .inr ⟨x,tm',ct',zs,x2,hd,?_,r2,r3,trivial,by show zs.length < xs.length+g.2.1.length; omega⟩
     show f45.l577 k net (m+1) (tm,ct,dn,(xs,()))=_
     rw [f45.l577]
     simp only [if_t hc,p1,Option.bind_some,x1,Int.toNat_natCast,l3,hfst,if_t bx]
     rw [if_f (show ¬ dn.getD x false=true by rw [show dn.getD x false=false from hd]; decide),if_t bend,y1]
     exact r1)
  (fun m tm ct dn xs h0 => by
   show f45.l577 k net (m+1) (tm,ct,dn,(xs,()))=_
   rw [f45.l577,if_f (by simp [h0])])
  134217728 k tm ct _ xs (by show xs.length + (g.2.1.length - _) * (g.2.1.length+1)≤_; omega) (by omega) (by omega) hI hR trivial
 exact ⟨tm',ct',q1,q2⟩
theorem e45 {g:Graph} (hg:GOk g) (k:Nat) (hk:1099511627776 < k) (t:Int) {net:Net} (hn:NetOf g net):∃ tm ct,f45 k net t=some (tm,ct)∧Final (dgB g hg t) tm ct:=by
 have n2:=hg.n2
 have c8:(0:Int) ≤ (g.2.1.length:Int)∧Int.toNat (g.2.1.length:Int)*8≤140737488355328:=⟨by omega,by rw [Int.toNat_natCast]; omega⟩
 have c1:(0:Int) ≤ (g.2.1.length:Int)∧Int.toNat (g.2.1.length:Int)*1≤140737488355328:=⟨by omega,by rw [Int.toNat_natCast]; omega⟩
 have hfst:=hn.fst
 have hst:∀ e,(dgB g hg t).start e=if e < g.2.1.length ∧ (g.2.1.getD e dR).2.1=t then some (timeOf g e) else none:=fun _ => rfl
 have go:∀ (d i m:Nat) (tm ct:List Int) (xs:List It),i+d=g.2.1.length→d < m→tm.length=g.2.1.length→ct.length=g.2.1.length→xs.length≤i→HP xs →
  (∀ u,Has xs u↔∃ e s,e < i ∧ (dgB g hg t).start e=some s∧u = (s,1,(e:Int))) → (∀ e s,e < i → (dgB g hg t).start e=some s→T tm e=s∧T ct e=1) → (∀ e,e < g.2.1.length → (i≤e ∨ (dgB g hg t).start e=none)→T tm e = -1∧T ct e=0) →
  ∃ tm' ct',f45.l90 k net t m (tm,ct,(xs,()),(i:Int))=some (tm',ct')∧Final (dgB g hg t) tm' ct':=by
  intro d
  induction d with
  | zero =>
    intro i m tm ct xs a1 a2 a3 a4 a5 a6 a7 a8 a9
    obtain ⟨m,rfl⟩:∃ q,m=q+1:=⟨m - 1,by omega⟩
    obtain rfl:i=g.2.1.length:=by omega
    rw [f45.l90,hfst,if_f (by simp),Int.toNat_natCast]
    refine run45 hg k hk t hn tm ct xs a5 (Inv.init a3 a4 (fun e s he h => a8 e s he h) (fun e he h => a9 e he (.inr h))) ⟨a6,fun j hj => ?_,fun e he hf _ => ?_⟩
    ·obtain ⟨e,s,h1,h2,h3⟩:=(a7 _).1 ⟨j,hj,rfl⟩
     obtain ⟨b1,b2⟩:=a8 e s h1 h2
     have:=(dgB g hg t).hstart e s h2
     rw [h3]
     exact ⟨e,rfl,h1,by omega,.inr ⟨b1,by rw [b2]; exact Int.le_refl _⟩⟩
    ·cases hs:(dgB g hg t).start e with
     | none => have:=(a9 e he (.inr hs)).1; omega
     | some s =>
       obtain ⟨b1,b2⟩:=a8 e s he hs
       exact (a7 _).2 ⟨e,s,he,hs,by rw [b1,b2]⟩
  | succ d ih =>
    intro i m tm ct xs a1 a2 a3 a4 a5 a6 a7 a8 a9
    obtain ⟨m,rfl⟩:∃ q,m=q+1:=⟨m - 1,by omega⟩
    have hi:i < g.2.1.length:=by omega
    have hci:decide ((i:Int) < (g.2.1.length:Int))=true:=by simpa using hi
    have bi:(0:Int) ≤ (i:Int) ∧ (i:Int) < (g.2.1.length:Int):=⟨by omega,by omega⟩
    have w0:IntKind.i64.wrap ((i:Int)+1) = ((i+1:Nat):Int):=wrap_s (by omega)
    have ht:=time_bd hg hi
    rw [f45.l90]
    simp only [hfst,Int.toNat_natCast,a3,a4,if_t hci,if_t bi,w0,f45.j143]
    by_cases hto:(g.2.1.getD i dR).2.1=t
    ·rw [if_t (by simpa using hto)]
     have hsi:(dgB g hg t).start i=some (timeOf g i):=by rw [hst,if_pos ⟨hi,hto⟩]
     obtain ⟨ys,p1,p2,p3,p4⟩:=push_ok k hk (v:=((g.2.1.getD i dR).2.2.2.1,1,(i:Int))) a6 (by omega)
     rw [p1,Option.bind_some]
     have o1:∀ e,i≠e→T (tm.set i (g.2.1.getD i dR).2.2.2.1) e=T tm e:=fun e h => getD_set_other h _ _
     have o2:T (tm.set i (g.2.1.getD i dR).2.2.2.1) i=timeOf g i:=getD_set_same (by omega) _ _
     have o3:∀ e,i≠e→T (ct.set i 1) e=T ct e:=fun e h => getD_set_other h _ _
     have o4:T (ct.set i 1) i=1:=getD_set_same (by omega) _ _
     refine ih (i+1) m _ _ ys (by omega) (by omega) (by simp [a3]) (by simp [a4]) (by omega) p2 (fun u => ?_) (fun e s he h => ?_) (fun e he h => ?_)
     ·rw [p4,a7]
      constructor
      ·rintro (⟨e,s,h1,h2,h3⟩ | h1)
       ·exact ⟨e,s,by omega,h2,h3⟩
       ·exact ⟨i,_,by omega,hsi,h1⟩
      ·rintro ⟨e,s,h1,h2,h3⟩
       by_cases hei:i=e
       ·subst hei; rw [hsi] at h2; injection h2 with h2; exact .inr (by rw [h3,← h2]; rfl)
       ·exact .inl ⟨e,s,by omega,h2,h3⟩
     ·by_cases hei:i=e
      ·subst hei; rw [hsi] at h; rw [o2,o4]; exact ⟨by simpa using h,rfl⟩
      ·rw [o1 e hei,o3 e hei]; exact a8 e s (by omega) h
     ·by_cases hei:i=e
      ·subst hei; rw [hsi] at h
       rcases h with h | h
       ·omega
       ·cases h
      ·rw [o1 e hei,o3 e hei]; exact a9 e he (h.imp_left (fun h => by omega))
    ·rw [if_f (by simpa using hto)]
     have hsi:(dgB g hg t).start i=none:=by rw [hst,if_neg (fun h => hto h.2)]
     refine ih (i+1) m tm ct xs (by omega) (by omega) a3 a4 (by omega) a6 (fun u => ?_) (fun e s he h => ?_) (fun e he h => a9 e he (h.imp_left (fun h => by omega)))
     ·rw [a7]
      constructor
      ·rintro ⟨e,s,h1,h2,h3⟩; exact ⟨e,s,by omega,h2,h3⟩
      ·rintro ⟨e,s,h1,h2,h3⟩
       by_cases hei:i=e
       ·subst hei; rw [hsi] at h2; cases h2
       ·exact ⟨e,s,by omega,h2,h3⟩
     ·by_cases hei:i=e
      ·subst hei; rw [hsi] at h; cases h
      ·exact a8 e s (by omega) h
 unfold f45
 rw [hfst,if_t c8,if_t c8,if_t c1,Int.toNat_natCast]
 obtain ⟨s,⟨s1,s2⟩,s3⟩:=foldLoop (L:=f45.l16 k net t) (n:=g.2.1.length) (g:=fun i s => s.set i (-1)) (fin:=fun s => f45.l90 k net t k (s,List.replicate g.2.1.length (0:Int),(([]:List It),()),(0:Int)))
  (Inv:=fun i s => s.length=g.2.1.length∧∀ j,j < i→T s j = -1)
  (fun m i s hi ⟨q1,q2⟩ => by
   have bi:(0:Int) ≤ (i:Int) ∧ (i:Int) < (g.2.1.length:Int):=⟨by omega,by omega⟩
   refine ⟨⟨by rw [List.length_set]; exact q1,fun j hj => ?_⟩,?_⟩
   ·by_cases hji:i=j
    ·subst hji; exact getD_set_same (by omega) _ _
    ·rw [show T (s.set i (-1)) j=T s j from getD_set_other hji _ _]; exact q2 j (by omega)
   ·rw [f45.l16,hfst,List.length_replicate,Int.toNat_natCast,if_t (by simpa using hi)]
    rw [q1,if_t bi,wrap_s (by omega)]; rfl)
  (fun m s hs => by rw [f45.l16,hfst,List.length_replicate,Int.toNat_natCast,if_f (by simp)]) k 0 (List.replicate g.2.1.length (0:Int)) ⟨by simp,fun j hj => by omega⟩ (by omega) (by omega)
 rw [show ((0:Nat):Int)=0 from rfl] at s3
 rw [s3]
 exact go g.2.1.length 0 k s _ [] (by omega) (by omega) s1 (by simp) (by simp) (fun j _ h => by simp at h) (fun u => by
  constructor
  ·rintro ⟨j,hj,_⟩; simp at hj
  ·rintro ⟨e,s,h,_⟩; omega) (fun e s h => by omega) (fun e he _ => ⟨s2 e he,by
  show (List.replicate _ (0:Int)).getD e 0=0
  rw [List.getD_eq_getElem?_getD,List.getElem?_replicate]; split <;> rfl⟩)
theorem same_back {g:Graph} (hg:GOk g) (k:Nat) (hk:1099511627776 < k) (t:Int) {net:Net} (hn:NetOf g net):∃ tm ct,f52 k g t=some (tm,ct)∧f45 k net t=some (tm,ct)∧Final (dgB g hg t) tm ct:=by
 obtain ⟨a,b,q1,q2⟩:=e52 hg k (by omega) t
 obtain ⟨c,d,q3,q4⟩:=e45 hg k hk t hn
 obtain ⟨rfl,rfl⟩:=q2.uniq q4
 exact ⟨a,b,q1,q3,q2⟩
abbrev St3:=Int × Int × Int
def pkS (key:Nat→Option (Int × Int)) (st:St3) (e:Nat):St3:=match key e with
 | none => st
 | some (a,b) => if st.1 < 0∨a < st.2.1 ∨ (a=st.2.1∧b < st.2.2) then ((e:Int),a,b) else st
def pk (key:Nat→Option (Int × Int)) (l:List Nat):St3:=l.foldl (pkS key) (-1,0,0)
theorem pk_snoc (key:Nat→Option (Int × Int)) {l:List Nat} {i:Nat} (h:i < l.length):pk key (l.take (i+1))=pkS key (pk key (l.take i)) (l.getD i 0):=by
 unfold pk; rw [take_snoc h,List.foldl_append]; rfl
theorem pk_mem (key:Nat→Option (Int × Int)) (l:List Nat):pk key l = (-1,0,0)∨∃ e a b,e ∈ l∧key e=some (a,b)∧pk key l = ((e:Int),a,b):=by
 have go:∀ (l':List Nat) (st:St3),(∀ e ∈ l',e ∈ l) → (st = (-1,0,0)∨∃ e a b,e ∈ l∧key e=some (a,b)∧st = ((e:Int),a,b)) →
  (l'.foldl (pkS key) st = (-1,0,0)∨∃ e a b,e ∈ l∧key e=some (a,b)∧l'.foldl (pkS key) st = ((e:Int),a,b)):=by
  intro l'
  induction l' with
  | nil => intro st _ h; exact h
  | cons x l' ih =>
    intro st hm h
    rw [List.foldl_cons]
    refine ih _ (fun e he => hm e (List.mem_cons_of_mem _ he)) ?_
    unfold pkS
    cases hk:key x with
    | none => exact h
    | some ab =>
      obtain ⟨a,b⟩:=ab
      dsimp only
      split
      ·exact .inr ⟨x,a,b,hm x List.mem_cons_self,hk,rfl⟩
      ·exact h
 exact go l _ (fun _ h => h) (.inl rfl)
theorem first_split {P:Nat→Prop}:∀ {l:List Nat},(∃ e,e ∈ l∧P e)→∃ l1 e l2,l=l1 ++ e :: l2∧P e∧∀ x ∈ l1,¬ P x
 | [],h => by obtain ⟨e,h,_⟩:=h; cases h
 | x :: l,h => by
   by_cases hx:P x
   ·exact ⟨[],x,l,rfl,hx,fun y hy => by cases hy⟩
   ·obtain ⟨l1,e,l2,q1,q2,q3⟩:=first_split (l:=l) (by
     obtain ⟨e,he,hp⟩:=h
     rcases List.mem_cons.1 he with rfl | he
     ·exact absurd hp hx
     ·exact ⟨e,he,hp⟩)
    exact ⟨x :: l1,e,l2,by rw [q1]; rfl,q2,fun y hy => by
     rcases List.mem_cons.1 hy with rfl | hy
     ·exact hx
     ·exact q3 y hy⟩
theorem pk_first {key:Nat→Option (Int × Int)} {A B:Int} {l1 l2:List Nat} {e:Nat} (he:key e=some (A,B)) (h1:∀ x ∈ l1,key x≠some (A,B)) (hmin:∀ x ∈ l1 ++ e :: l2,∀ a b,key x=some (a,b)→Le A B a b):pk key (l1 ++ e :: l2) = ((e:Int),A,B):=by
 have pre:∀ (l:List Nat) (st:St3),(∀ x ∈ l,key x≠some (A,B)∧∀ a b,key x=some (a,b)→Le A B a b) → (st.1 < 0∨A < st.2.1 ∨ (A=st.2.1∧B < st.2.2)) → ((l.foldl (pkS key) st).1 < 0∨A < (l.foldl (pkS key) st).2.1 ∨ (A = (l.foldl (pkS key) st).2.1∧B < (l.foldl (pkS key) st).2.2)):=by
  intro l
  induction l with
  | nil => intro st _ h; exact h
  | cons x l ih =>
    intro st hl h
    rw [List.foldl_cons]
    refine ih _ (fun y hy => hl y (List.mem_cons_of_mem _ hy)) ?_
    unfold pkS
    cases hk:key x with
    | none => exact h
    | some ab =>
      obtain ⟨a,b⟩:=ab
      dsimp only
      obtain ⟨q1,q2⟩:=hl x List.mem_cons_self
      have q3:=q2 a b hk
      split
      ·dsimp only
       have hne:¬ (a=A∧b=B):=fun h => q1 (by rw [hk,h.1,h.2])
       unfold Le at q3; omega
      ·exact h
 have post:∀ (l:List Nat),(∀ x ∈ l,∀ a b,key x=some (a,b)→Le A B a b)→l.foldl (pkS key) ((e:Int),A,B) = ((e:Int),A,B):=by
  intro l
  induction l with
  | nil => intro _; rfl
  | cons x l ih =>
    intro hl
    rw [List.foldl_cons]
    have:pkS key ((e:Int),A,B) x = ((e:Int),A,B):=by
     unfold pkS
     cases hk:key x with
     | none => rfl
     | some ab =>
       obtain ⟨a,b⟩:=ab
       dsimp only
       have q3:=hl x List.mem_cons_self a b hk
       rw [if_neg (by unfold Le at q3; omega)]
    rw [this]
    exact ih (fun y hy => hl y (List.mem_cons_of_mem _ hy))
 unfold pk
 rw [List.foldl_append,List.foldl_cons]
 have h:=pre l1 (-1,0,0) (fun x hx => ⟨h1 x hx,hmin x (List.mem_append_left _ hx)⟩) (.inl (by decide))
 have:pkS key (l1.foldl (pkS key) (-1,0,0)) e = ((e:Int),A,B):=by
  generalize l1.foldl (pkS key) (-1,0,0)=st at h ⊢
  unfold pkS; rw [he]; dsimp only; rw [if_pos h]
 rw [this]
 exact post l2 (fun x hx => hmin x (List.mem_append_right _ (List.mem_cons_of_mem _ hx)))
def keyOf (tm ct:List Int) (ex:Nat→Int) (e:Nat):Option (Int × Int):=if T tm e < 0∨ex e < 0 then none else some (T tm e+ex e,T ct e)
theorem keyOf_some {tm ct:List Int} {ex:Nat→Int} {e:Nat} {a b:Int} (h:keyOf tm ct ex e=some (a,b)):0≤T tm e∧0≤ex e∧a=T tm e+ex e∧b=T ct e:=by
 unfold keyOf at h
 by_cases hc:T tm e < 0∨ex e < 0
 ·rw [if_pos hc] at h; cases h
 ·rw [if_neg hc] at h
  injection h with h; injection h with h1 h2
  omega
theorem e74 {n:Nat} (k:Nat) (hk:1048576 < k) (tm ct:List Int) (l1:tm.length=n) (l2:ct.length=n) (hn:n≤8000) (hb:∀ e,e < n→T tm e≤10000000000) (l:List Nat) (hl:∀ e ∈ l,e < n) (hll:l.length≤8000) (ex:Nat→Int) (hex:∀ e ∈ l,ex e≤20) :
 f74 k (tm,ct) (l.map fun (r:Nat) => (r:Int)) (l.map ex)=some (pk (keyOf tm ct ex) l).1:=by
 unfold f74
 have go:∀ (d i m:Nat) (best cost:Int),i+d=l.length→d < m → ((pk (keyOf tm ct ex) (l.take i)).1=best ∧ (0≤best → (pk (keyOf tm ct ex) (l.take i)).2.1=cost)) →
  f74.l77 k (l.map fun (r:Nat) => (r:Int)) (tm,ct) (l.map ex) m (best,cost,(i:Int))=some (pk (keyOf tm ct ex) l).1:=by
  intro d
  induction d with
  | zero =>
    intro i m best cost h1 h2 h3
    obtain ⟨m,rfl⟩:∃ q,m=q+1:=⟨m - 1,by omega⟩
    obtain rfl:i=l.length:=by omega
    rw [List.take_length] at h3
    rw [f74.l77,if_f (by simp),h3.1]
  | succ d ih =>
    intro i m best cost h1 h2 h3
    obtain ⟨m,rfl⟩:∃ q,m=q+1:=⟨m - 1,by omega⟩
    have hi:i < l.length:=by omega
    have hci:decide ((i:Int) < ((l.map fun (r:Nat) => (r:Int)).length:Int))=true:=by simpa using hi
    have hbi:(0:Int) ≤ (i:Int) ∧ (i:Int) < ((l.map fun (r:Nat) => (r:Int)).length:Int):=⟨by omega,by simpa using hi⟩
    have hbi2:(0:Int) ≤ (i:Int) ∧ (i:Int) < ((l.map ex).length:Int):=⟨by omega,by simpa using hi⟩
    have hcd:=castD l i
    have hxd:(l.map ex).getD i 0=ex (l.getD i 0):=by simp [List.getD_eq_getElem?_getD,hi]
    have he:=getD_in' hi
    have hps:=pk_snoc (keyOf tm ct ex) hi
    have hen:=hl _ he
    have hxe:=hex _ he
    have hmem:=pk_mem (keyOf tm ct ex) (l.take i)
    generalize l.getD i 0=e at *
    have hbe:=hb e hen
    have be:(0:Int) ≤ (e:Int) ∧ (e:Int) < (tm.length:Int):=⟨by omega,by omega⟩
    have be2:(0:Int) ≤ (e:Int) ∧ (e:Int) < (ct.length:Int):=⟨by omega,by omega⟩
    have w0:IntKind.i64.wrap ((i:Int)+1) = ((i+1:Nat):Int):=wrap_s (by omega)
    have hbest:∀ h:0≤best,∃ b:Nat,best = (b:Int)∧b < n ∧ (pk (keyOf tm ct ex) (l.take i)).2.2=T ct b:=fun h => by
     rcases hmem with hm | ⟨b,x,y,m1,m2,m3⟩
     ·rw [hm] at h3; have:=h3.1; simp only at this; omega
     ·rw [m3] at h3 ⊢
      exact ⟨b,h3.1.symm,hl b (List.mem_of_mem_take m1),(keyOf_some m2).2.2.2⟩
    rw [f74.l77]
    simp only [if_t hci,if_t hbi,Int.toNat_natCast,hcd,hxd,if_t be,f74.j143,w0]
    rw [if_t (fun _ => hbi2)]
    by_cases hv:T tm e < 0∨ex e < 0
    ·have hkey:keyOf tm ct ex e=none:=by unfold keyOf; rw [if_pos hv]
     rw [if_t (by
      rcases hv with hv | hv
      ·rw [show decide (tm.getD e 0 < 0)=true from decide_eq_true hv]; rfl
      ·rw [decide_eq_true hv]; cases decide (tm.getD e 0 < 0) <;> rfl)]
     refine ih (i+1) m best cost (by omega) (by omega) ?_
     rw [hps]; unfold pkS; rw [hkey]; exact h3
    ·have hkey:keyOf tm ct ex e=some (T tm e+ex e,T ct e):=by unfold keyOf; rw [if_neg hv]
     have w1:IntKind.i64.wrap (tm.getD e 0+ex e)=T tm e+ex e:=wrap_in (show -9223372036854775808≤T tm e+ex e by omega) (show T tm e+ex e≤9223372036854775807 by omega)
     rw [if_f (by rw [show decide (tm.getD e 0 < 0)=false from decide_eq_false (show ¬ T tm e < 0 by omega),decide_eq_false (show ¬ ex e < 0 by omega)]; decide)]
     simp only [w1,if_t hbi2]
     by_cases hb0:best < 0
     ·rw [show decide (best < 0)=true from decide_eq_true hb0]
      simp only [cond_true,Bool.true_eq_false,false_and,false_implies,if_true,Option.bind_some]
      refine ih (i+1) m _ _ (by omega) (by omega) ?_
      rw [hps]; unfold pkS; rw [hkey]; dsimp only
      rw [if_pos (.inl (by rw [h3.1]; exact hb0))]
      exact ⟨rfl,fun _ => rfl⟩
     ·obtain ⟨b,b1,b2,b3⟩:=hbest (by omega)
      have hcost:=h3.2 (by omega)
      have bb:(0:Int)≤best∧best < (ct.length:Int):=⟨by omega,by omega⟩
      rw [if_t (fun _ => be2),if_t (fun _ => bb),show decide (best < 0)=false from decide_eq_false hb0,cond_false,Option.bind_some]
      subst b1
      simp only [Int.toNat_natCast]
      have hstep:pkS (keyOf tm ct ex) (pk (keyOf tm ct ex) (l.take i)) e=if T tm e+ex e < cost ∨ (T tm e+ex e=cost∧T ct e < T ct b) then ((e:Int),T tm e+ex e,T ct e) else pk (keyOf tm ct ex) (l.take i):=by
       unfold pkS; rw [hkey]; dsimp only; rw [h3.1,hcost,b3]
       by_cases hc:T tm e+ex e < cost ∨ (T tm e+ex e=cost∧T ct e < T ct b)
       ·rw [if_pos (.inr hc),if_pos hc]
       ·rw [if_neg (by omega),if_neg hc]
      by_cases hc:T tm e+ex e < cost ∨ (T tm e+ex e=cost∧T ct e < T ct b)
      ·rw [if_t (by
        rcases hc with hc | ⟨hc,hc2⟩
        ·rw [decide_eq_true hc]; rfl
        ·rw [beq_iff_eq.2 hc,show decide (ct.getD e 0 < ct.getD b 0)=true from decide_eq_true hc2]; cases decide (T tm e+ex e < cost) <;> rfl)]
       refine ih (i+1) m _ _ (by omega) (by omega) ?_
       rw [hps,hstep,if_pos hc]
       exact ⟨rfl,fun _ => rfl⟩
      ·rw [if_f (by
        rw [decide_eq_false (show ¬ T tm e+ex e < cost by omega)]
        by_cases h4:T tm e+ex e=cost
        ·rw [beq_iff_eq.2 h4,show decide (ct.getD e 0 < ct.getD b 0)=false from decide_eq_false (show ¬ T ct e < T ct b by omega)]; decide
        ·rw [beq_false_of_ne h4]; simp)]
       refine ih (i+1) m _ _ (by omega) (by omega) ?_
       rw [hps,hstep,if_neg hc]
       exact h3
 have:=go l.length 0 k (-1) 0 (by omega) (by omega) ⟨rfl,fun h => by omega⟩
 rw [show ((0:Nat):Int)=0 from rfl] at this
 exact this
theorem e63 {n:Nat} (k:Nat) (hk:1048576 < k) (tm ct:List Int) (l1:tm.length=n) (l2:ct.length=n) (hn:n≤8000) (hb:∀ e,e < n→T tm e≤10000000000) (l:List Nat) (hl:∀ e ∈ l,e < n) (hll:l.length≤8000) :
 f63 k (l.map fun (r:Nat) => (r:Int)) tm ct=some (pk (keyOf tm ct fun _ => 0) l).1:=by
 unfold f63
 have go:∀ (d i m:Nat) (best cost c:Int),i+d=l.length→d < m→pk (keyOf tm ct fun _ => 0) (l.take i) = (best,cost,c) →
  f63.l68 k (l.map fun (r:Nat) => (r:Int)) tm ct m (best,cost,c,(i:Int))=some (pk (keyOf tm ct fun _ => 0) l).1:=by
  intro d
  induction d with
  | zero =>
    intro i m best cost c h1 h2 h3
    obtain ⟨m,rfl⟩:∃ q,m=q+1:=⟨m - 1,by omega⟩
    obtain rfl:i=l.length:=by omega
    rw [List.take_length] at h3
    rw [f63.l68,if_f (by simp),h3]
  | succ d ih =>
    intro i m best cost c h1 h2 h3
    obtain ⟨m,rfl⟩:∃ q,m=q+1:=⟨m - 1,by omega⟩
    have hi:i < l.length:=by omega
    have hci:decide ((i:Int) < ((l.map fun (r:Nat) => (r:Int)).length:Int))=true:=by simpa using hi
    have hbi:(0:Int) ≤ (i:Int) ∧ (i:Int) < ((l.map fun (r:Nat) => (r:Int)).length:Int):=⟨by omega,by simpa using hi⟩
    have hcd:=castD l i
    have he:=getD_in' hi
    have hps:=pk_snoc (keyOf tm ct fun _ => 0) hi
    have hen:=hl _ he
    generalize l.getD i 0=e at *
    have hbe:=hb e hen
    have be:(0:Int) ≤ (e:Int) ∧ (e:Int) < (tm.length:Int):=⟨by omega,by omega⟩
    have be2:(0:Int) ≤ (e:Int) ∧ (e:Int) < (ct.length:Int):=⟨by omega,by omega⟩
    have w0:IntKind.i64.wrap ((i:Int)+1) = ((i+1:Nat):Int):=wrap_s (by omega)
    have d0:decide ((0:Int) < 0)=false:=by decide
    rw [f63.l68]
    simp only [if_t hci,if_t hbi,Int.toNat_natCast,hcd,if_t be,if_t be2,f63.j130,f64,Option.bind_some,w0,d0,cond_false]
    rw [if_t (fun _ => be)]
    by_cases hv:T tm e < 0
    ·have hkey:keyOf tm ct (fun _ => 0) e=none:=by unfold keyOf; rw [if_pos (.inl hv)]
     rw [if_t (show decide (tm.getD e 0 < 0)=true from decide_eq_true hv)]
     refine ih (i+1) m best cost c (by omega) (by omega) ?_
     rw [hps]; unfold pkS; rw [hkey]; exact h3
    ·have hkey:keyOf tm ct (fun _ => 0) e=some (T tm e+0,T ct e):=by unfold keyOf; rw [if_neg (fun h => h.elim (fun h => hv h) (fun h => absurd (show (0:Int) < 0 from h) (by decide)))]
     have w1:IntKind.i64.wrap (tm.getD e 0+0)=T tm e+0:=wrap_in (show -9223372036854775808≤T tm e+0 by omega) (show T tm e+0≤9223372036854775807 by omega)
     rw [if_f (by rw [show decide (tm.getD e 0 < 0)=false from decide_eq_false hv]; decide)]
     simp only [w1]
     have hstep:pkS (keyOf tm ct fun _ => 0) (best,cost,c) e=if best < 0∨T tm e+0 < cost ∨ (T tm e+0=cost∧T ct e < c) then ((e:Int),T tm e+0,T ct e) else (best,cost,c):=by
      unfold pkS; rw [hkey]
     rw [h3,hstep] at hps
     by_cases hc:best < 0∨T tm e+0 < cost ∨ (T tm e+0=cost∧T ct e < c)
     ·rw [if_pos hc] at hps
      rw [if_t (by
       rcases hc with hc | hc | ⟨hc,hc2⟩
       ·rw [decide_eq_true hc]; rfl
       ·rw [decide_eq_true hc]; cases decide (best < 0) <;> rfl
       ·rw [beq_iff_eq.2 hc,show decide (ct.getD e 0 < c)=true from decide_eq_true hc2]; cases decide (best < 0) <;> cases decide (T tm e+0 < cost) <;> rfl)]
      exact ih (i+1) m _ _ _ (by omega) (by omega) hps
     ·rw [if_neg hc] at hps
      rw [if_f (by
       rw [decide_eq_false (show ¬ best < 0 by omega),decide_eq_false (show ¬ T tm e+0 < cost by omega)]
       by_cases h4:T tm e+0=cost
       ·rw [beq_iff_eq.2 h4,show decide (ct.getD e 0 < c)=false from decide_eq_false (show ¬ T ct e < c by omega)]; decide
       ·rw [beq_false_of_ne h4]; simp)]
      exact ih (i+1) m _ _ _ (by omega) (by omega) hps
 have:=go l.length 0 k (-1) 0 0 (by omega) (by omega) rfl
 rw [show ((0:Nat):Int)=0 from rfl] at this
 exact this
theorem e63b {n:Nat} (k:Nat) (hk:1048576 < k) (net:Net) (x:Int) (tm ct:List Int) (l1:tm.length=n) (l2:ct.length=n) (hn:n≤8000) (hb:∀ e,e < n→T tm e≤10000000000) (l:List Nat) (hl:∀ e ∈ l,e < n) (hll:l.length≤8000) (ex:Nat→Int)
 (hex:∀ e ∈ l,f66 k net x (e:Int)=some (ex e)∧ex e≤20) :
 f63b k (l.map fun (r:Nat) => (r:Int)) net x tm ct=some (pk (keyOf tm ct ex) l).1:=by
 unfold f63b
 have go:∀ (d i m:Nat) (best cost c:Int),i+d=l.length→d < m→pk (keyOf tm ct ex) (l.take i) = (best,cost,c) →
  f63b.l68 k (l.map fun (r:Nat) => (r:Int)) net x tm ct m (best,cost,c,(i:Int))=some (pk (keyOf tm ct ex) l).1:=by
  intro d
  induction d with
  | zero =>
    intro i m best cost c h1 h2 h3
    obtain ⟨m,rfl⟩:∃ q,m=q+1:=⟨m - 1,by omega⟩
    obtain rfl:i=l.length:=by omega
    rw [List.take_length] at h3
    rw [f63b.l68,if_f (by simp),h3]
  | succ d ih =>
    intro i m best cost c h1 h2 h3
    obtain ⟨m,rfl⟩:∃ q,m=q+1:=⟨m - 1,by omega⟩
    have hi:i < l.length:=by omega
    have hci:decide ((i:Int) < ((l.map fun (r:Nat) => (r:Int)).length:Int))=true:=by simpa using hi
    have hbi:(0:Int) ≤ (i:Int) ∧ (i:Int) < ((l.map fun (r:Nat) => (r:Int)).length:Int):=⟨by omega,by simpa using hi⟩
    have hcd:=castD l i
    have he:=getD_in' hi
    have hps:=pk_snoc (keyOf tm ct ex) hi
    have hen:=hl _ he
    obtain ⟨hf,hxe⟩:=hex _ he
    generalize l.getD i 0=e at *
    have hbe:=hb e hen
    have be:(0:Int) ≤ (e:Int) ∧ (e:Int) < (tm.length:Int):=⟨by omega,by omega⟩
    have be2:(0:Int) ≤ (e:Int) ∧ (e:Int) < (ct.length:Int):=⟨by omega,by omega⟩
    have w0:IntKind.i64.wrap ((i:Int)+1) = ((i+1:Nat):Int):=wrap_s (by omega)
    rw [f63b.l68]
    simp only [if_t hci,if_t hbi,Int.toNat_natCast,hcd,if_t be,if_t be2,f63b.j130,f65,hf,Option.bind_some,w0]
    rw [if_t (fun _ => be)]
    by_cases hv:T tm e < 0∨ex e < 0
    ·have hkey:keyOf tm ct ex e=none:=by unfold keyOf; rw [if_pos hv]
     rw [if_t (by
      rcases hv with hv | hv
      ·rw [show decide (tm.getD e 0 < 0)=true from decide_eq_true hv]; cases decide (ex e < 0) <;> rfl
      ·rw [decide_eq_true hv]; rfl)]
     refine ih (i+1) m best cost c (by omega) (by omega) ?_
     rw [hps]; unfold pkS; rw [hkey]; exact h3
    ·have hkey:keyOf tm ct ex e=some (T tm e+ex e,T ct e):=by unfold keyOf; rw [if_neg hv]
     have w1:IntKind.i64.wrap (tm.getD e 0+ex e)=T tm e+ex e:=wrap_in (show -9223372036854775808≤T tm e+ex e by omega) (show T tm e+ex e≤9223372036854775807 by omega)
     rw [if_f (by rw [show decide (tm.getD e 0 < 0)=false from decide_eq_false (show ¬ T tm e < 0 by omega),decide_eq_false (show ¬ ex e < 0 by omega)]; decide)]
     simp only [w1]
     have hstep:pkS (keyOf tm ct ex) (best,cost,c) e=if best < 0∨T tm e+ex e < cost ∨ (T tm e+ex e=cost∧T ct e < c) then ((e:Int),T tm e+ex e,T ct e) else (best,cost,c):=by
      unfold pkS; rw [hkey]
     rw [h3,hstep] at hps
     by_cases hc:best < 0∨T tm e+ex e < cost ∨ (T tm e+ex e=cost∧T ct e < c)
     ·rw [if_pos hc] at hps
      rw [if_t (by
       rcases hc with hc | hc | ⟨hc,hc2⟩
       ·rw [decide_eq_true hc]; rfl
       ·rw [decide_eq_true hc]; cases decide (best < 0) <;> rfl
       ·rw [beq_iff_eq.2 hc,show decide (ct.getD e 0 < c)=true from decide_eq_true hc2]; cases decide (best < 0) <;> cases decide (T tm e+ex e < cost) <;> rfl)]
      exact ih (i+1) m _ _ _ (by omega) (by omega) hps
     ·rw [if_neg hc] at hps
      rw [if_f (by
       rw [decide_eq_false (show ¬ best < 0 by omega),decide_eq_false (show ¬ T tm e+ex e < cost by omega)]
       by_cases h4:T tm e+ex e=cost
       ·rw [beq_iff_eq.2 h4,show decide (ct.getD e 0 < c)=false from decide_eq_false (show ¬ T ct e < c by omega)]; decide
       ·rw [beq_false_of_ne h4]; simp)]
      exact ih (i+1) m _ _ _ (by omega) (by omega) hps
 have:=go l.length 0 k (-1) 0 0 (by omega) (by omega) rfl
 rw [show ((0:Nat):Int)=0 from rfl] at this
 exact this
theorem mem_out {g:Graph} {s e:Nat}:e ∈ outN g s↔e < g.2.1.length ∧ (g.2.1.getD e dR).1 = (s:Int):=by
 unfold outN; rw [List.mem_filter]; simp
theorem mem_in {g:Graph} {s e:Nat}:e ∈ inN g s↔e < g.2.1.length ∧ (g.2.1.getD e dR).2.1 = (s:Int):=by
 unfold inN; rw [List.mem_filter]; simp
theorem key_yes {tm ct:List Int} {ex:Nat→Int} {e:Nat} {v:Int} (hv:ex e=v) (h:¬ (T tm e < 0∨v < 0)):keyOf tm ct ex e=some (T tm e+v,T ct e):=by
 unfold keyOf; rw [hv,if_neg h]
section
variable {g:Graph} {hg:GOk g} {t:Int} {tm ct:List Int}
theorem ct_pos (h:Final (dgB g hg t) tm ct) {e:Nat} (he:e < g.2.1.length) (hf:0≤T tm e):1≤T ct e:=by
 rcases h.att e he hf with ⟨_,h2⟩ | ⟨x,hx,hfx,h1,h2,h3,h4⟩
 ·rw [h2]; show (1:Int)≤1; decide
 ·rw [h4]
  have:=(h.pos x hx hfx).2
  have:(dgB g hg t).dl=1:=rfl
  omega
theorem end_iff (h:Final (dgB g hg t) tm ct) {e:Nat} (he:e < g.2.1.length) (hf:0≤T tm e):T ct e=1 ↔ (g.2.1.getD e dR).2.1=t:=by
 have hst:(dgB g hg t).start e=if e < g.2.1.length ∧ (g.2.1.getD e dR).2.1=t then some (timeOf g e) else none:=rfl
 have hdl:(dgB g hg t).dl=1:=rfl
 constructor
 ·intro hc
  rcases h.att e he hf with ⟨h1,_⟩ | ⟨x,hx,hfx,h1,h2,h3,h4⟩
  ·rw [hst] at h1
   by_cases hcc:e < g.2.1.length ∧ (g.2.1.getD e dR).2.1=t
   ·exact hcc.2
   ·rw [if_neg hcc] at h1; cases h1
  ·have:=ct_pos h hx hfx
   omega
 ·intro ht
  rw [if_pos ⟨he,ht⟩] at hst
  obtain ⟨_,hle⟩:=h.sta e _ he hst
  rcases h.att e he hf with ⟨_,h2⟩ | ⟨x,hx,hfx,h1,h2,h3,h4⟩
  ·exact h2
  ·have hcv:(dgB g hg t).cost x e=if e < g.2.1.length then costN g e x e else -1:=rfl
   rw [if_pos he] at hcv
   have:=(h.pos x hx hfx).1
   have:0≤costN g e x e→timeOf g e≤costN g e x e:=fun h => by unfold costN at h ⊢; split at h <;> (try split) <;> omega
   unfold Le at hle
   omega
def exN (g:Graph) (tm ct:List Int) (e x:Nat):Int:=if T ct x=T ct e - 1∧0≤turnOf g (e:Int) (x:Int)∧0≤T tm x∧timeOf g e+turnOf g (e:Int) (x:Int)+T tm x=T tm e then turnOf g (e:Int) (x:Int) else -1
theorem next_same (h:Final (dgB g hg t) tm ct) {e:Nat} (he:e < g.2.1.length) (hf:0≤T tm e) (hc:T ct e≠1) :
 ∃ x,x < g.2.1.length∧0≤T tm x∧T ct x=T ct e - 1 ∧ (pk (keyOf tm ct (exN g tm ct e)) (outN g (g.2.1.getD e dR).2.1.toNat)).1 = (x:Int) ∧ (pk (keyOf tm ct fun x => turnOf g (e:Int) (x:Int)) (outN g (g.2.1.getD e dR).2.1.toNat)).1 = (x:Int):=by
 have hend:=(road_ends hg (road_nat he)).2
 rw [show (roadAt g (e:Int)).2.1 = (g.2.1.getD e dR).2.1 by unfold roadAt; rw [Int.toNat_natCast]] at hend
 have hcv:∀ x,(dgB g hg t).cost x e=costN g e x e:=fun x => if_pos he
 have hdl:(dgB g hg t).dl=1:=rfl
 have hadj:∀ x,x < g.2.1.length→x ∈ outN g (g.2.1.getD e dR).2.1.toNat→e ∈ (dgB g hg t).adj x:=fun x hx hm => by
  have h1:=(mem_out.1 hm).2
  show e ∈ inN g (g.2.1.getD x dR).1.toNat
  rw [mem_in]
  exact ⟨he,by omega⟩
 have k1:∀ x a b,keyOf tm ct (fun x => turnOf g (e:Int) (x:Int)) x=some (a,b)→0≤T tm x∧0≤turnOf g (e:Int) (x:Int)∧a=T tm x+turnOf g (e:Int) (x:Int)∧b=T ct x:=fun x a b hk => keyOf_some hk
 have hmin:∀ x ∈ outN g (g.2.1.getD e dR).2.1.toNat,∀ a b,keyOf tm ct (fun x => turnOf g (e:Int) (x:Int)) x=some (a,b)→Le (T tm e - timeOf g e) (T ct e - 1) a b:=fun x hx a b hk => by
  obtain ⟨q1,q2,q3,q4⟩:=k1 x a b hk
  have hxn:=(mem_out.1 hx).1
  have hco:costN g e x e=turnOf g (e:Int) (x:Int)+timeOf g e:=by unfold costN; rw [if_neg (by omega)]
  have htm:=time_bd hg he
  obtain ⟨_,r2⟩:=h.rel x hxn q1 e he (hadj x hxn hx) (by rw [hcv,hco]; omega)
  rw [hcv,hco,hdl] at r2
  unfold Le at r2 ⊢; omega
 have kk:∀ x,keyOf tm ct (exN g tm ct e) x=some (T tm e - timeOf g e,T ct e - 1)↔keyOf tm ct (fun x => turnOf g (e:Int) (x:Int)) x=some (T tm e - timeOf g e,T ct e - 1):=fun x => by
  constructor
  ·intro hk
   obtain ⟨q1,q2,q3,q4⟩:=keyOf_some hk
   unfold exN at q2 q3
   by_cases hcc:T ct x=T ct e - 1∧0≤turnOf g (e:Int) (x:Int)∧0≤T tm x∧timeOf g e+turnOf g (e:Int) (x:Int)+T tm x=T tm e
   ·exact (key_yes (v:=turnOf g (e:Int) (x:Int)) rfl (by omega)).trans (by congr 2 <;> omega)
   ·rw [if_neg hcc] at q2; omega
  ·intro hk
   obtain ⟨q1,q2,q3,q4⟩:=k1 x _ _ hk
   have hcc:T ct x=T ct e - 1∧0≤turnOf g (e:Int) (x:Int)∧0≤T tm x∧timeOf g e+turnOf g (e:Int) (x:Int)+T tm x=T tm e:=⟨by omega,q2,q1,by omega⟩
   have hex:exN g tm ct e x=turnOf g (e:Int) (x:Int):=if_pos hcc
   exact (key_yes hex (by omega)).trans (by congr 2 <;> omega)
 have hmin2:∀ x ∈ outN g (g.2.1.getD e dR).2.1.toNat,∀ a b,keyOf tm ct (exN g tm ct e) x=some (a,b)→Le (T tm e - timeOf g e) (T ct e - 1) a b:=fun x hx a b hk => by
  obtain ⟨q1,q2,q3,q4⟩:=keyOf_some hk
  unfold exN at q2 q3
  by_cases hcc:T ct x=T ct e - 1∧0≤turnOf g (e:Int) (x:Int)∧0≤T tm x∧timeOf g e+turnOf g (e:Int) (x:Int)+T tm x=T tm e
  ·rw [if_pos hcc] at q3; unfold Le; omega
  ·rw [if_neg hcc] at q2; omega
 have hexist:∃ x,x ∈ outN g (g.2.1.getD e dR).2.1.toNat∧keyOf tm ct (fun x => turnOf g (e:Int) (x:Int)) x=some (T tm e - timeOf g e,T ct e - 1):=by
  rcases h.att e he hf with ⟨_,h2⟩ | ⟨x,hx,hfx,h1,h2,h3,h4⟩
  ·rw [hdl] at h2; exact absurd h2 hc
  ·have h1':e ∈ inN g (g.2.1.getD x dR).1.toNat:=h1
   have h1'':=(mem_in.1 h1').2
   have hxe:=(road_ends hg (road_nat (show x < g.2.1.length from hx))).1
   rw [show (roadAt g (x:Int)).1 = (g.2.1.getD x dR).1 by unfold roadAt; rw [Int.toNat_natCast]] at hxe
   rw [hcv] at h2 h3
   rw [hdl] at h4
   have hco:0≤turnOf g (e:Int) (x:Int)∧costN g e x e=turnOf g (e:Int) (x:Int)+timeOf g e:=by
    unfold costN at h2 ⊢
    by_cases hl:turnOf g (e:Int) (x:Int) < 0
    ·rw [if_pos hl] at h2; omega
    ·rw [if_neg hl]; exact ⟨by omega,rfl⟩
   refine ⟨x,mem_out.2 ⟨hx,by omega⟩,?_⟩
   exact (key_yes (v:=turnOf g (e:Int) (x:Int)) rfl (by omega)).trans (by congr 2 <;> omega)
 obtain ⟨a1,x,a2,b1,b2,b3⟩:=first_split hexist
 have hxm:x ∈ outN g (g.2.1.getD e dR).2.1.toNat:=by rw [b1]; simp
 obtain ⟨q1,q2,q3,q4⟩:=k1 x _ _ b2
 refine ⟨x,(mem_out.1 hxm).1,q1,by omega,?_,?_⟩
 ·rw [b1,pk_first (key:=keyOf tm ct (exN g tm ct e)) ((kk x).2 b2) (fun y hy hk => b3 y hy ((kk y).1 hk)) (fun y hy => hmin2 y (by rw [b1]; exact hy))]
 ·rw [b1,pk_first (key:=keyOf tm ct fun x => turnOf g (e:Int) (x:Int)) b2 b3 (fun y hy => hmin y (by rw [b1]; exact hy))]
end
theorem tm_bd {g:Graph} {hg:GOk g} {t:Int} {tm ct:List Int} (h:Final (dgB g hg t) tm ct) {e:Nat} (he:e < g.2.1.length):T tm e≤10000000000∧T ct e≤8001:=by
 obtain ⟨b1,b2⟩:=h.bnd e he
 have hC:(dgB g hg t).C=1000020:=rfl
 have hN:(dgB g hg t).n=g.2.1.length:=rfl
 have:=hg.n2
 rw [hC,hN] at b1
 rw [hN] at b2
 omega
theorem step51 {g:Graph} (hg:GOk g) (k:Nat) (hk:1048576 < k) {t:Int} {tm ct:List Int} (h:Final (dgB g hg t) tm ct) {es:List (List Int)} (hes:Ends g false es) {e:Nat} (he:e < g.2.1.length) (hf:0≤T tm e) (p:List Int) (ln:Int)
 (q:(Int × List Int × Int × Int)→Option (Bool × (List Int × (Int × Int)))) :
 f51.l2520 k es g (e:Int) (tm,ct) (T ct e) p ln q k (([]:List Int),(0:Int))=q ((pk (keyOf tm ct (exN g tm ct e)) (outN g (g.2.1.getD e dR).2.1.toNat)).1,List.append p [(e:Int)],IntKind.i64.wrap (ln + (g.2.1.getD e dR).2.2.2.2.1),IntKind.i64.wrap (T ct e - 1)):=by
 have n2:=hg.n2
 have hend:=(road_ends hg (road_nat he)).2
 rw [show (roadAt g (e:Int)).2.1 = (g.2.1.getD e dR).2.1 by unfold roadAt; rw [Int.toNat_natCast]] at hend
 have hadj:es.getD (g.2.1.getD e dR).2.1.toNat [] = (outN g (g.2.1.getD e dR).2.1.toNat).map fun (r:Nat) => (r:Int):=by
  rw [hes.2 _ (by omega)]; exact outs_eq g _
 have hln:(outN g (g.2.1.getD e dR).2.1.toNat).length≤g.2.1.length:=Nat.le_trans (List.length_filter_le _ _) (by simp)
 have hmem:∀ x ∈ outN g (g.2.1.getD e dR).2.1.toNat,x < g.2.1.length:=fun x hx => (mem_out.1 hx).1
 have tl1:tm.length=g.2.1.length:=h.l1
 have tl2:ct.length=g.2.1.length:=h.l2
 have e74':=e74 (n:=g.2.1.length) k hk tm ct tl1 tl2 n2 (fun x hx => (tm_bd h hx).1) (outN g (g.2.1.getD e dR).2.1.toNat) hmem (by omega) (exN g tm ct e) (fun x _ => by have:=turn_range g (e:Int) (x:Int); unfold exN; split <;> omega)
 generalize outN g (g.2.1.getD e dR).2.1.toNat=l at *
 have be:(0:Int) ≤ (e:Int) ∧ (e:Int) < (g.2.1.length:Int):=⟨by omega,by omega⟩
 have bte:=(tm_bd h he).1
 have bce:=(tm_bd h he).2
 have bc1:=ct_pos h he hf
 have hte:=time_bd hg he
 obtain ⟨u,u1,u2⟩:=foldLoop (L:=f51.l2520 k es g (e:Int) (tm,ct) (T ct e) p ln q) (n:=l.length) (g:=fun j u => u ++ [exN g tm ct e (l.getD j 0)])
  (fin:=fun u => (f74 k (tm,ct) (l.map fun (r:Nat) => (r:Int)) u).bind fun r => q (r,List.append p [(e:Int)],IntKind.i64.wrap (ln + (g.2.1.getD e dR).2.2.2.2.1),IntKind.i64.wrap (T ct e - 1)))
  (Inv:=fun j u => u = (l.take j).map (exN g tm ct e))
  (fun m j u hj hu => by
   refine ⟨by rw [hu,take_snoc hj,List.map_append]; rfl,?_⟩
   have hcj:decide ((j:Int) < ((l.map fun (r:Nat) => (r:Int)).length:Int))=true:=by simpa using hj
   have hbj:(0:Int) ≤ (j:Int) ∧ (j:Int) < ((l.map fun (r:Nat) => (r:Int)).length:Int):=⟨by omega,by simpa using hj⟩
   have hcd:=castD l j
   have hxm:=getD_in' hj
   have hul:u.length≤8000:=by rw [hu,List.length_map,List.length_take]; omega
   generalize l.getD j 0=x at *
   have hxn:=hmem x hxm
   have bx:(0:Int) ≤ (x:Int) ∧ (x:Int) < (g.2.1.length:Int):=⟨by omega,by omega⟩
   have e73':=e73 hg k hk (road_nat he) (road_nat hxn)
   have htr:=turn_range g (e:Int) (x:Int)
   have btx:=(tm_bd h hxn).1
   have btx0:-1≤T tm x:=by
    by_cases hx0:0≤T tm x
    ·omega
    ·have:=(h.unr x hxn (by omega)).1; omega
   have w0:IntKind.i64.wrap ((j:Int)+1) = ((j+1:Nat):Int):=wrap_s (by omega)
   have w1:IntKind.i64.wrap (T ct e - 1)=T ct e - 1:=wrap_in (by omega) (by omega)
   have w2:IntKind.i64.wrap (timeOf g e+turnOf g (e:Int) (x:Int))=timeOf g e+turnOf g (e:Int) (x:Int):=wrap_in (by omega) (by omega)
   have w3:IntKind.i64.wrap (timeOf g e+turnOf g (e:Int) (x:Int)+tm.getD x 0)=timeOf g e+turnOf g (e:Int) (x:Int)+T tm x:=wrap_in (show -9223372036854775808≤timeOf g e+turnOf g (e:Int) (x:Int)+T tm x by omega) (show timeOf g e+turnOf g (e:Int) (x:Int)+T tm x≤9223372036854775807 by omega)
   have hgt:(g.2.1.getD e dR).2.2.2.1=timeOf g e:=rfl
   rw [f51.l2520]
   simp only [Int.toNat_natCast,hadj,hcd,e73',Option.bind_some,f51.j2612,w0,w1,w2,w3,tl1,tl2,hgt,if_t hcj,if_t hbj,if_t be,if_t bx]
   rw [if_t (fun _ => hbj),if_t (fun _ => bx),if_t (fun _ => be),if_t (fun _ => hbj),if_t (fun _ => bx),if_t (fun _ => be)]
   rw [if_t (show (u.length + ([(-1:Int)]).length)*8≤140737488355328 by simp only [List.length_singleton]; omega),if_t (show (u.length + ([turnOf g (e:Int) (x:Int)]).length)*8≤140737488355328 by simp only [List.length_singleton]; omega)]
   by_cases hcc:T ct x=T ct e - 1∧0≤turnOf g (e:Int) (x:Int)∧0≤T tm x∧timeOf g e+turnOf g (e:Int) (x:Int)+T tm x=T tm e
   ·have hex:exN g tm ct e x=turnOf g (e:Int) (x:Int):=if_pos hcc
    obtain ⟨c1,c2,c3,c4⟩:=hcc
    rw [hex,if_f (by
     rw [show (ct.getD x 0 != T ct e - 1)=false from bne_eq_false_iff_eq.2 c1,decide_eq_false (show ¬ turnOf g (e:Int) (x:Int) < 0 by omega),show decide (tm.getD x 0 < 0)=false from decide_eq_false (show ¬ T tm x < 0 by omega),show (timeOf g e+turnOf g (e:Int) (x:Int)+T tm x != tm.getD e 0)=false from bne_eq_false_iff_eq.2 c4]
     decide)]
   ·have hex:exN g tm ct e x = -1:=if_neg hcc
    rw [hex,if_t (by
     by_cases c1:T ct x=T ct e - 1
     ·by_cases c2:turnOf g (e:Int) (x:Int) < 0
      ·rw [decide_eq_true c2]; cases (ct.getD x 0 != T ct e - 1) <;> rfl
      ·by_cases c3:T tm x < 0
       ·rw [show decide (tm.getD x 0 < 0)=true from decide_eq_true c3]; cases (ct.getD x 0 != T ct e - 1) <;> cases decide (turnOf g (e:Int) (x:Int) < 0) <;> rfl
       ·rw [show (timeOf g e+turnOf g (e:Int) (x:Int)+T tm x != tm.getD e 0)=true from bne_iff_ne.2 (fun h => hcc ⟨c1,by omega,by omega,h⟩)]
        cases (ct.getD x 0 != T ct e - 1) <;> cases decide (turnOf g (e:Int) (x:Int) < 0) <;> cases decide (tm.getD x 0 < 0) <;> rfl
     ·rw [show (ct.getD x 0 != T ct e - 1)=true from bne_iff_ne.2 c1]; rfl)])
  (fun m u hu => by
   rw [f51.l2520]
   simp only [Int.toNat_natCast,hadj,List.length_map]
   rw [if_f (by simp)]) k 0 [] rfl (by omega) (by omega)
 rw [show ((0:Nat):Int)=0 from rfl] at u2
 rw [u2,u1,List.take_length,e74',Option.bind_some]
theorem walk_same {g:Graph} (hg:GOk g) (k:Nat) (hk:1048576 < k) {t:Int} {tm ct:List Int} (h:Final (dgB g hg t) tm ct) {es:List (List Int)} (hes:Ends g false es) {net:Net} (hn:NetOf g net) (r:Int) :
 ∀ (c m1 m2 e:Nat) (p:List Int) (ln:Int),e < g.2.1.length→0≤T tm e→T ct e = (c:Int)→c < m1→c < m2→p.length+c≤9000 →
   ∃ y,f51.l1318 k g es (tm,ct) (f51.j1317 k (tm,ct) r) m1 ((e:Int),p,ln,(c:Int))=some y∧f38.l3 k net t (tm,ct) r m2 ((e:Int),p,ln)=some y∧y.2.1.length≤9000 ∧ (∃ z:Nat,∃ q,z < g.2.1.length ∧ (g.2.1.getD z dR).2.1=t∧y.2.1=q ++ [(z:Int)])∧∃ q,y.2.1=p ++ (e:Int) :: q
 | 0,m1,m2,e,p,ln,he,hf,hc,h1,h2,h3 => by have:=ct_pos h he hf; omega
 | c+1,m1,m2,e,p,ln,he,hf,hc,h1,h2,h3 => by
   obtain ⟨m1,rfl⟩:∃ q,m1=q+1:=⟨m1 - 1,by omega⟩
   obtain ⟨m2,rfl⟩:∃ q,m2=q+1:=⟨m2 - 1,by omega⟩
   have n2:=hg.n2
   have be:(0:Int) ≤ (e:Int) ∧ (e:Int) < (g.2.1.length:Int):=⟨by omega,by omega⟩
   have hend:=(road_ends hg (road_nat he)).2
   rw [show (roadAt g (e:Int)).2.1 = (g.2.1.getD e dR).2.1 by unfold roadAt; rw [Int.toNat_natCast]] at hend
   have bes:(0:Int) ≤ (g.2.1.getD e dR).2.1 ∧ (g.2.1.getD e dR).2.1 < (es.length:Int):=by rw [hes.1]; exact hend
   have bno:(0:Int) ≤ (g.2.1.getD e dR).2.1 ∧ (g.2.1.getD e dR).2.1 < (net.2.1.length:Int):=by rw [hn.out.1]; exact hend
   have hpl:(p.length + ([(e:Int)]).length)*8≤140737488355328:=by simp only [List.length_singleton]; omega
   have hc0:decide ((((c+1:Nat):Int)) > 0)=true:=by rw [decide_eq_true_eq]; omega
   have hapl:(List.append p [(e:Int)]).length=p.length+1:=by rw [show List.append p [(e:Int)]=p ++ [(e:Int)] from rfl,List.length_append]; rfl
   rw [f51.l1318,f38.l3]
   simp only [hn.fst,if_t hc0,if_t hpl,if_t be,Int.toNat_natCast]
   by_cases hto:(g.2.1.getD e dR).2.1=t
   ·have hc1:=(end_iff h he hf).2 hto
    rw [if_t (by rw [beq_iff_eq]; omega),if_t (by simpa using hto)]
    exact ⟨_,rfl,rfl,by show (List.append p [(e:Int)]).length≤9000; omega,⟨e,p,he,hto,rfl⟩,[],rfl⟩
   ·have hc1:T ct e≠1:=fun hh => hto ((end_iff h he hf).1 hh)
    obtain ⟨x,x1,x2,x3,x4,x5⟩:=next_same h he hf hc1
    rw [if_f (by rw [beq_iff_eq]; omega),if_t bes,if_f (by simpa using hto),if_t bno]
    have hadj:net.2.1.getD (g.2.1.getD e dR).2.1.toNat [] = (outN g (g.2.1.getD e dR).2.1.toNat).map fun (r:Nat) => (r:Int):=by
     rw [hn.out.2 _ (by omega)]; exact outs_eq g _
    have hln:(outN g (g.2.1.getD e dR).2.1.toNat).length≤g.2.1.length:=Nat.le_trans (List.length_filter_le _ _) (by simp)
    have hb:=e63b (n:=g.2.1.length) k hk net (e:Int) tm ct h.l1 h.l2 n2 (fun x hx => (tm_bd h hx).1) (outN g (g.2.1.getD e dR).2.1.toNat) (fun x hx => (mem_out.1 hx).1) (by omega) (fun x => turnOf g (e:Int) (x:Int)) (fun x hx => by
     have hxo:=mem_out.1 hx
     refine ⟨?_,(turn_range g (e:Int) (x:Int)).2⟩
     rw [e66 hg k hn (road_nat he) (road_nat hxo.1),if_pos]
     unfold roadAt; rw [Int.toNat_natCast,Int.toNat_natCast]
     have:=hxo.2
     show (g.2.1.getD e dR).2.1 = (g.2.1.getD x dR).1
     omega)
    have hs:=step51 hg k hk h hes he hf p ln (f51.l1318 k g es (tm,ct) (f51.j1317 k (tm,ct) r) m1)
    rw [hc] at hs
    rw [hs,hadj,hb,Option.bind_some,x4,x5]
    have w1:IntKind.i64.wrap (((c+1:Nat):Int) - 1) = (c:Int):=wrap_p c (by omega)
    rw [w1]
    obtain ⟨y,y1,y2,y3,y4,qq,y5⟩:=walk_same hg k hk h hes hn r c m1 m2 x _ _ x1 x2 (by omega) (by omega) (by omega) (by rw [hapl]; omega)
    exact ⟨y,y1,y2,y3,y4,(x:Int) :: qq,by rw [y5]; show (p ++ [(e:Int)]) ++ (x:Int) :: qq=_; simp⟩
theorem spot_eq (g:Graph) (p:Int):(bif (decide ((p:Int) ≥ (0:Int))) then (decide ((p:Int) < (List.length g.1:Int))) else false)=spotIs g p:=by
 unfold spotIs
 cases decide (p ≥ 0) <;> simp
theorem e48 (k:Nat) (g:Graph) (p:Int):f48 k g p=some (spotIs g p):=by unfold f48; rw [spot_eq]
theorem e37 (k:Nat) {g:Graph} {t:Net} (ht:NetOf g t) (p:Int):f37 k t p=some (spotIs g p):=by unfold f37; rw [ht.fst,spot_eq]
theorem best_same {g:Graph} (hg:GOk g) (k:Nat) (hk:1099511627776 < k) {net:Net} (hn:NetOf g net) {es:List (List Int)} (hes:Ends g false es) {s t:Int} (hs:spotIs g s=true) {tm ct:List Int} (h:Final (dgB g hg t) tm ct) (h97:f45 k net t=some (tm,ct)) :
 ∃ y,f51 k g (tm,ct) es s t=some y∧f38 k net s t=some y∧y.2.1.length≤9000 ∧ (y.2.1=[] ∨ ((∃ z:Nat,∃ q,z < g.2.1.length ∧ (g.2.1.getD z dR).2.1=t∧y.2.1=q ++ [(z:Int)])∧∃ e:Nat,∃ q,e < g.2.1.length ∧ (g.2.1.getD e dR).1=s∧y.2.1 = (e:Int) :: q)):=by
 have n2:=hg.n2
 obtain ⟨h0,h1⟩:=spotIs_iff.1 hs
 obtain ⟨s,rfl⟩:∃ p:Nat,s = (p:Int):=⟨s.toNat,by omega⟩
 unfold f51 f38
 by_cases hst:(s:Int)=t
 ·rw [if_t (by simpa using hst),if_t (by simpa using hst)]
  exact ⟨_,rfl,rfl,by simp,.inl rfl⟩
 ·have hst':¬ (((s:Int) == t)=true):=by simpa using hst
  simp only [if_f hst',h97,Option.bind_some]
  have bes:(0:Int) ≤ (s:Int) ∧ (s:Int) < (es.length:Int):=by rw [hes.1]; exact ⟨by omega,h1⟩
  have bno:(0:Int) ≤ (s:Int) ∧ (s:Int) < (net.2.1.length:Int):=by rw [hn.out.1]; exact ⟨by omega,h1⟩
  have hln:(outN g s).length≤g.2.1.length:=Nat.le_trans (List.length_filter_le _ _) (by simp)
  have ha1:es.getD s [] = (outN g s).map fun (r:Nat) => (r:Int):=by rw [hes.2 s (by omega)]; exact outs_eq g s
  have ha2:net.2.1.getD s [] = (outN g s).map fun (r:Nat) => (r:Int):=by rw [hn.out.2 s (by omega)]; exact outs_eq g s
  have hmem:∀ x ∈ outN g s,x < g.2.1.length:=fun x hx => (mem_out.1 hx).1
  have q1:=e74 (n:=g.2.1.length) k (by omega) tm ct h.l1 h.l2 n2 (fun x hx => (tm_bd h hx).1) (outN g s) hmem (by omega) (fun _ => 0) (fun _ _ => by decide)
  have q2:=e63 (n:=g.2.1.length) k (by omega) tm ct h.l1 h.l2 n2 (fun x hx => (tm_bd h hx).1) (outN g s) hmem (by omega)
  have hrep:List.replicate (outN g s).length (0:Int) = (outN g s).map fun _ => (0:Int):=by rw [List.map_const']
  have tl1:tm.length=g.2.1.length:=h.l1
  have tl2:ct.length=g.2.1.length:=h.l2
  simp only [if_t bes,if_t bno,Int.toNat_natCast,ha1,ha2,List.length_map]
  rw [if_t (show (0:Int) ≤ ((outN g s).length:Int) ∧ (outN g s).length*8≤140737488355328 from ⟨by omega,by omega⟩),hrep,q1,q2,Option.bind_some,Option.bind_some]
  rcases pk_mem (keyOf tm ct fun _ => 0) (outN g s) with hp | ⟨e,a,b,m1,m2,hp⟩
  ·rw [hp,if_t (by decide),if_t (by decide)]
   exact ⟨_,rfl,rfl,by simp,.inl rfl⟩
  ·rw [hp]
   have hen:=hmem e m1
   have hf:=(keyOf_some m2).1
   have be:(0:Int) ≤ (e:Int) ∧ (e:Int) < (tm.length:Int):=⟨by omega,by omega⟩
   have be2:(0:Int) ≤ (e:Int) ∧ (e:Int) < (ct.length:Int):=⟨by omega,by omega⟩
   have hcp:=ct_pos h hen hf
   have hcb:=(tm_bd h hen).2
   have hz:¬ (decide ((e:Int) < 0)=true):=by rw [decide_eq_true_eq]; omega
   simp only [if_f hz,if_t be,if_t be2,Int.toNat_natCast]
   have hcc:ct.getD e 0 = (((T ct e).toNat:Nat):Int):=by show T ct e=_; omega
   rw [hcc]
   obtain ⟨y,y1,y2,y3,y4,qq,y5⟩:=walk_same hg k (by omega) h hes hn (e:Int) (T ct e).toNat k k e [] 0 hen hf (by omega) (by omega) (by omega) (by rw [List.length_nil]; omega)
   exact ⟨y,y1,y2,y3,.inr ⟨y4,e,qq,hen,(mem_out.1 m1).2,y5⟩⟩
abbrev Pth:=Bool × (List Int × (Int × Int))
theorem join_same {g:Graph} (hg:GOk g) (k:Nat) (hk:1048576 < k) {net:Net} (hn:NetOf g net) {v:Int} (a b:Pth) (la:a.2.1.length≤9000) (lb:b.2.1.length≤9000)
 (ha:a.2.1=[]∨∃ z:Nat,∃ q,z < g.2.1.length ∧ (g.2.1.getD z dR).2.1=v∧a.2.1=q ++ [(z:Int)]) (hb:b.2.1=[]∨∃ e:Nat,∃ q,e < g.2.1.length ∧ (g.2.1.getD e dR).1=v∧b.2.1 = (e:Int) :: q) :
 ∃ y,f50 k g a b=some y∧f46 k net a b=some y∧y.2.1.length≤1048576:=by
 unfold f50 f46
 by_cases h:(bif (!a.1) then true else (!b.1))=true
 ·rw [if_t h,if_t h]; exact ⟨_,rfl,rfl,by simp⟩
 rw [if_f h,if_f h]
 have c1:(List.length ([]:List Int)+a.2.1.length)*8≤140737488355328:=by rw [List.length_nil]; omega
 have c2:((([]:List Int) ++ a.2.1).length+b.2.1.length)*8≤140737488355328:=by rw [List.nil_append]; omega
 have cl:((([]:List Int) ++ a.2.1) ++ b.2.1).length≤1048576:=by rw [List.nil_append,List.length_append]; omega
 rw [if_t c1,if_t c2]
 by_cases hc:(bif (decide (((List.length a.2.1:Int):Int) > (0:Int))) then (decide (((List.length b.2.1:Int):Int) > (0:Int))) else false)=true
 ·rw [if_t hc,if_t hc]
  have hc':0 < a.2.1.length∧0 < b.2.1.length:=by
   cases h1:decide (((List.length a.2.1:Int):Int) > (0:Int)) with
   | false => rw [h1] at hc; cases hc
   | true => rw [h1,cond_true,decide_eq_true_eq] at hc; rw [decide_eq_true_eq] at h1; omega
  obtain ⟨z,q,hz,hzt,hae⟩:∃ z:Nat,∃ q,z < g.2.1.length ∧ (g.2.1.getD z dR).2.1=v∧a.2.1=q ++ [(z:Int)]:=by
   rcases ha with h | h
   ·rw [h] at hc'; simp at hc'
   ·exact h
  obtain ⟨e,r,he,hef,hbe⟩:∃ e:Nat,∃ q,e < g.2.1.length ∧ (g.2.1.getD e dR).1=v∧b.2.1 = (e:Int) :: q:=by
   rcases hb with h | h
   ·rw [h] at hc'; simp at hc'
   ·exact h
  have w:IntKind.i64.wrap ((a.2.1.length:Int) - 1) = ((a.2.1.length - 1:Nat):Int):=by rw [wrap_in (by omega) (by omega)]; omega
  have ga:a.2.1.getD (a.2.1.length - 1) 0 = (z:Int):=by rw [hae]; simp [List.getD_eq_getElem?_getD]
  have gb:b.2.1.getD (Int.toNat 0) 0 = (e:Int):=by rw [hbe]; rfl
  have t1:=e73 hg k hk (road_nat hz) (road_nat he)
  have t2:f66 k net (z:Int) (e:Int)=some (turnOf g (z:Int) (e:Int)):=by
   rw [e66 hg k hn (road_nat hz) (road_nat he),if_pos]
   unfold roadAt; rw [Int.toNat_natCast,Int.toNat_natCast]
   exact hzt.trans hef.symm
  simp only [w,Int.toNat_natCast,ga,gb]
  rw [if_t ⟨by omega,by omega⟩,if_t ⟨by omega,by omega⟩,if_t ⟨by omega,by omega⟩,if_t ⟨by omega,by omega⟩,t1,t2,Option.bind_some,Option.bind_some]
  by_cases hneg:turnOf g (z:Int) (e:Int) < 0
  ·rw [if_t (by simpa using hneg),if_t (by simpa using hneg)]; exact ⟨_,rfl,rfl,by simp⟩
  ·rw [if_f (by simpa using hneg),if_f (by simpa using hneg)]
   unfold f50.j6 f46.j6
   simp only [if_t c1,if_t c2]
   exact ⟨_,rfl,rfl,cl⟩
 ·rw [if_f hc,if_f hc]
  unfold f50.j6 f46.j6
  simp only [if_t c1,if_t c2]
  exact ⟨_,rfl,rfl,cl⟩
theorem same_via (k:Nat) (hk:1099511627776 < k) (g:Graph) (h1:g.1.length≤1048576) (h2:g.2.1.length≤1048576) (h3:g.2.2.length≤1048576) (s v t:Int) :
 ∃ y,f22 k g s v t=some y∧f21 k g s v t=some y∧y.2.1.length≤1048576:=by
 unfold f22 f21
 rw [spec47 k (by omega) g h1 h2 h3,impl9 k (by omega) g h1 h2 h3]
 simp only [Option.bind_some,e48]
 cases hg:graphOk g with
 | false => exact ⟨(false,(([]:List Int),((0:Int),(0:Int)))),by simp,by simp,by simp⟩
 | true =>
   obtain ⟨net,hn,hno⟩:=e36 (gok hg) k (by omega)
   have hne:¬ ((!true)=true):=by simp
   simp only [if_f hne,hn,Option.bind_some,e37 k hno]
   cases hs:spotIs g s with
   | false => exact ⟨(false,(([]:List Int),((0:Int),(0:Int)))),by simp,by simp,by simp⟩
   | true =>
     cases hv:spotIs g v with
     | false => exact ⟨(false,(([]:List Int),((0:Int),(0:Int)))),by simp,by simp,by simp⟩
     | true =>
       cases ht:spotIs g t with
       | false => exact ⟨(false,(([]:List Int),((0:Int),(0:Int)))),by simp,by simp,by simp⟩
       | true =>
         obtain ⟨es,es1,es2,es3⟩:=e49 (gok hg) k (by omega) false
         obtain ⟨tm,ct,q1,q2,q3⟩:=same_back (gok hg) k hk v hno
         obtain ⟨tm',ct',q1',q2',q3'⟩:=same_back (gok hg) k hk t hno
         obtain ⟨a,a1,a2,a3,a4⟩:=best_same (gok hg) k hk hno ⟨es2,es3⟩ hs q3 q2
         obtain ⟨b,b1,b2,b3,b4⟩:=best_same (gok hg) k hk hno ⟨es2,es3⟩ hv q3' q2'
         obtain ⟨y,y1,y2,y3⟩:=join_same (v:=v) (gok hg) k (by omega) hno a b a3 b3 (a4.imp_right (fun h => h.1)) (b4.imp_right (fun h => h.2))
         refine ⟨y,?_,?_,y3⟩
         ·simp [q1,q1',es1,a1,b1,y1]
         ·simp [a2,b2,y2]
end Go.Proofs.Ytdjadmdiehkfdaa
